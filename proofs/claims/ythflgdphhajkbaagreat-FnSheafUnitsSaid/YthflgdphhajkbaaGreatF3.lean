/- Contracts, part 3. -/
import Derived.Test.YthflgdphhajkbaaGreatF2
set_option linter.unusedVariables false
set_option linter.unusedSimpArgs false
set_option linter.unusedSectionVars false
open Nat (reduceEqDiff reduceAdd reduceMul reduceLeDiff reduceLT)
namespace Go.Proofs.Shf
open Go.AW Go.Proofs Go.Shf
@[go_sem] noncomputable def stepCells (f : SF) (V : List (List Int)) : List AV:=[iI f.shape.objs,iL f.shape.frm,iL f.shape.to,iL f.shape.idn,iLL f.shape.comp,iL (stepSizes f V),iLL (stepActs f V),iLLL (famsOf f V)]
open Classical in
noncomputable def stepA (f : SF) (V : List (List Int)) : List AV:=if StepFew f V then stepCells f V else tabZ
theorem stepA_t {f : SF} {V : List (List Int)} (h : StepFew f V) : stepA f V=stepCells f V:=by rw [stepA,if_pos h]
theorem stepA_f {f : SF} {V : List (List Int)} (h : ¬ StepFew f V) : stepA f V=tabZ:=by rw [stepA,if_neg h]
abbrev zs8 : List AV:=[.int .i64 0,.nilsl,.nilsl,.nilsl,.nilsl,.nilsl,.nilsl,.nilsl]
theorem l28Make_ok (B : Nat) (f : SF) (h : f.Shape) (V : List (List Int)) (v : CovOk f.shape V) : Pur Tryz.prog B 191 [.agg f.cells,iLL V] (.tup [.agg (stepA f V),.bool (dec (StepFew f V))]):=by
 refine ⟨fun H0=>c191p.go fun _=>?_⟩
 have hm:=h.is.1.m
 have hob:=h.is.1.o
 have htl:=h.is.1.tol
 have hvl:=v.len;refine tt ?_;refine nb (.nil _) fun id4 H o=>tt ?_;refine nb o fun id6 H o=>tt ?_;refine sw o fun H o=>tt ?_;refine rd_celln o (by simp) ?_;refine tt ?_;refine (l02Own_ok B f.shape).go fun _=>tt ?_;refine newBuf_own o fun idS H o=>tt ?_;refine newBuf_own o fun idA H o=>tt ?_;refine nb o fun id7 H o=>tt ?_;refine sw o fun H o=>?_
 replace o:=Owns.push [_] (Owns.pull [_,_] o);simp only [List.cons_append,List.nil_append] at o;refine tt ?_
 have ho6 : True:=trivial
 let base : List (Nat × MObj):=[(id6,.cells 5 [iI f.shape.objs,iL f.shape.frm,iL f.shape.to,iL f.shape.idn,iLL f.shape.comp] 0),(id4,.cells 8 zs8 0)]
 let st : AV→AV→AV→Nat × MObj:=fun a b c=>(id7,.cells 8 [iI f.shape.objs,iL f.shape.frm,iL f.shape.to,iL f.shape.idn,iLL f.shape.comp,a,b,c] 0)
 refine awp_for [1,2,4,6,7] (G:=AV × Nat × List Int) (fun k _=>[(8,some (.int .i64 (k : Int)))])
  (fun k g H=>(g.2.2=(List.range k).map (sizeAt f V)∧∀ x,x<k→(famAt f V x).length≤16)∧LsO iLL H0 H (st (.buf g.2.1 k) (.buf idA 0) g.1::(g.2.1,.cells 1 (g.2.2.map iI) 0)::(idA,.cells 1 [] 0)::base) g.1 ((List.range k).map (famAt f V))) V.length (.nilsl,idS,[])
  ⟨⟨rfl,by simp⟩,.inl ⟨rfl,rfl,o⟩⟩ rfl ?_
 rintro k ⟨X,idS,sz⟩ H hk ⟨⟨hsz,hall⟩,hX⟩;dsimp only at hsz hX
 have hszl : sz.length=k:=by rw [hsz]; simp
 refine tt ?_;apply bk <;> intro h1
 ·refine tt ?_
  have h1p:=of_decide h1
  have w1:=wsucc (k:=k) (by omega);refine ⟨h1p, ?_⟩;refine ⟨_,(l28Families_ok B f k (V.getD k default) h (v.sv k h1p) 17 (by omega) (by omega)).run, ?_⟩
  have hfl : famS f (V.getD k default)=famAt f V k:=rfl;rw [hfl]
  generalize hF : famAt f V k=F at *
  have htl2 : (F.take 17).length=min 17 F.length:=List.length_take;refine tt ?_;apply bk <;> intro h2
  ·refine tt ?_
   have h2p:=of_decide h2
   have hno : ¬ StepFew f V:=fun h=>by have:=h k h1p; rw [hF] at this; omega
   obtain ⟨q,o,hq⟩:=hX.split
   have hg4 : H.get id4=some (.cells 8 zs8 0):=o.get (id4,.cells 8 zs8 0) (by simp [base])
   have hout4:=o.out (id4,.cells 8 zs8 0) (by simp [base]);rw [hg4,st1_c];refine ⟨⟨by omega,by simp,(by (try simp only [go_sem]); (try simp)),(by first | (simp only [go_sem]; done) | ((try simp only [go_sem]); simp [AV.one,one_mL]))⟩,tt ?_⟩;refine pure_ret ?_ (Go.AW.sub_set o.sub hout4);rw [stepA_f hno,dec_f hno]
   simp [rc1,wr,tabZ]
  ·have h2p:=of_ndecide h2;refine tt ?_
   have hF17 : F.take 17=F:=List.take_of_length_le (by omega);rw [hF17];refine rd_get hX.obj (by simp) ?_;refine tt ?_;refine hX.app (f:=iLL) F rfl (by simp only [maxL]; simp; omega) fun idF H o=>tt ?_;refine sw o.swap fun H o=>tt ?_;refine rd_cells o (by simp) ?_;refine tt ?_;refine app_own (f:=iI) (F.length : Int) (Owns.pull [_,_] o) rfl hszl.symm (by simp only [maxL]; omega) fun idS H o=>tt ?_
   replace o:=Owns.push [_,_] o;simp only [List.cons_append,List.nil_append] at o;refine sw o fun H o=>?_;refine tw w1 ?_
   have e1 : (List.range (k+1)).map (famAt f V)=(List.range k).map (famAt f V)++[F]:=by rw [map_range_succ,hF]
   have e2 : (sz++[(F.length : Int)]).length=k+1:=by simp [hszl]
   have o2:=o.swap;rw [e2] at o2;exact for_next (AV.buf idF ((List.range k).map (famAt f V)++[F]).length,idS,sz++[(F.length : Int)]) (by omega) ⟨⟨by rw [map_range_succ,← hsz,sizeAt,hF],lt_succ_all hall (by rw [hF]; omega)⟩,.inr ⟨idF,by rw [e1],by rw [e1]; exact o2⟩⟩ rfl
 ·have h1p:=of_ndecide h1;refine tt ?_
  have hfew : StepFew f V:=fun x hx=>hall x (by omega)
  have hkl : k=V.length:=by omega
  refine wk_ls 7 hX rfl fun H o=>wkW_done ?_;simp only [List.set_cons_zero,List.set_cons_succ] at o;refine tt ?_;clear hX
  have hfam : (List.range k).map (famAt f V)=famsOf f V:=by rw [hkl]; rfl
  rw [hfam] at o
  refine awp_for [1,4,6,7] (G:=Nat × List (List Int)) (fun a _=>[(10,some (.int .i64 (a : Int)))])
   (fun a g H=>g.2=(List.range a).map (actAt f V)∧Owns H0 H (st (.buf idS k) (.buf g.1 a) (iLLL (famsOf f V))::(idS,.cells 1 (sz.map iI) 0)::(g.1,.cells 1 (g.2.map iL) 0)::base)) f.shape.frm.length (idA,[]) ⟨rfl,o⟩ rfl ?_
  rintro a ⟨idA,acts⟩ H ha ⟨hac,o⟩;dsimp only at hac o
  have hacl : acts.length=a:=by rw [hac]; simp
  have hg6 : H.get id6=some (.cells 5 [iI f.shape.objs,iL f.shape.frm,iL f.shape.to,iL f.shape.idn,iLL f.shape.comp] 0):=o.get (id6,_) (by simp [base]);refine tt ?_;refine rd_get hg6 (by simp) ?_;refine tt ?_;apply bk <;> intro h2
  ·have h2p:=of_decide h2
   have w2:=wsucc (k:=a) (by omega);refine tt ?_
   have haa : 0≤(a : Int)∧(a : Int).toNat<f.shape.frm.length:=⟨by omega,by simpa using h2p⟩
   have hfo:=h.is.1.frmObj haa.2
   have hto:=h.is.1.toObj haa.2;simp only [ix_nat] at hfo hto;refine rd_get hg6 (by simp) ?_;refine tt ?_;refine ⟨h2p,rd_get hg6 (by simp) ?_⟩;refine tt ?_;refine ⟨by omega, ?_⟩;refine new_list iI o fun idr H o=>tt ?_
   have hF0 : (famsOf f V).getD (f.shape.frm.getD a default).toNat default=famAt f V (f.shape.frm.getD a default).toNat:=by rw [famsOf,getD_map_range _ _ (by omega)]
   have hF1 : (famsOf f V).getD (f.shape.to.getD a default).toNat default=famAt f V (f.shape.to.getD a default).toNat:=by rw [famsOf,getD_map_range _ _ (by omega)]
   have hF0' : ix (famsOf f V) (f.shape.frm.getD a default)=famAt f V (f.shape.frm.getD a default).toNat:=hF0
   have hF1' : ix (famsOf f V) (f.shape.to.getD a default)=famAt f V (f.shape.to.getD a default).toNat:=hF1
   have hfl : (famsOf f V).length=V.length:=by simp [famsOf]
   have hfs0 : (famAt f V (f.shape.frm.getD a default).toNat).length≤16:=hfew _ (by omega)
   have hv0:=v.frm h.is haa
   have hv1:=v.to h.is haa;simp only [ix_nat] at hv0 hv1
   have hl1:=hv1.len
   let rest : List (Nat × MObj):=st (.buf idS k) (.buf idA a) (iLLL (famsOf f V))::(idS,.cells 1 (sz.map iI) 0)::(idA,.cells 1 (acts.map iL) 0)::base
   refine awp_for [1,4,6,7,10,11,12] (G:=Nat × List Int) (fun i g=>[(13,some (.buf g.1 g.2.length)),(14,some (.int .i64 (i : Int)))])
    (fun i g H=>g.2=((famAt f V (f.shape.frm.getD a default).toNat).take i).map (fun t=>indexOf (famAt f V (f.shape.to.getD a default).toNat) (movedF f.shape V a t))∧Owns H0 H ((g.1,.cells 1 (g.2.map iI) 0)::rest)) (famAt f V (f.shape.frm.getD a default).toNat).length (idr,[]) ⟨by simp,o⟩ rfl ?_
   rintro i ⟨idr,row⟩ H hi ⟨hrow,o⟩;dsimp only at hrow o
   have hrl : row.length=i:=by rw [hrow,List.length_map,List.length_take]; omega
   have hg7 : H.get id7=some (.cells 8 [iI f.shape.objs,iL f.shape.frm,iL f.shape.to,iL f.shape.idn,iLL f.shape.comp,.buf idS k,.buf idA a,iLLL (famsOf f V)] 0):=o.tl.h0
   have hg6 : H.get id6=some (.cells 5 [iI f.shape.objs,iL f.shape.frm,iL f.shape.to,iL f.shape.idn,iLL f.shape.comp] 0):=o.get (id6,_) (by simp [rest,base]);refine tt ?_;refine rd_get hg7 (by simp) ?_;refine tt ?_;refine ⟨⟨hfo.1,by omega⟩, ?_⟩;rw [hF0'];apply bk <;> intro h3
   ·have h3p:=of_decide h3
    have w3:=wsucc (k:=i) (by omega);refine tt ?_;refine new_list iI o fun idm H o=>tt ?_
    generalize hT : (famAt f V (f.shape.frm.getD a default).toNat).getD i default=T at *
    have hTf : Fam f (V.getD (f.shape.frm.getD a default).toNat default) T:=by
     rw [← hT];exact ((famS_is h hv0).mem _).mp (mem_getD.mpr ⟨i,h3p,rfl⟩)
    have hVf : ix V (f.shape.frm.getD a default)=V.getD (f.shape.frm.getD a default).toNat default:=rfl
    have hVt : ix V (f.shape.to.getD a default)=V.getD (f.shape.to.getD a default).toNat default:=rfl
    generalize hW : ix V (f.shape.to.getD a default)=W at *
    generalize hU : ix V (f.shape.frm.getD a default)=U at *
    refine awp_for [1,4,6,7,10,11,12,13,14] (G:=Nat × List Int) (fun q g=>[(15,some (.buf g.1 g.2.length)),(16,some (.int .i64 (q : Int)))])
     (fun q g H=>g.2=(W.take q).map (fun b=>ix T (indexOf U (ix (ix f.shape.comp a) b)))∧Owns H0 H ((g.1,.cells 1 (g.2.map iI) 0)::(idr,.cells 1 (row.map iI) 0)::rest)) W.length (idm,[]) ⟨by simp,o⟩ rfl ?_
    rintro q ⟨idm,mv⟩ H hq ⟨hmv,o⟩;dsimp only at hmv o
    have hml : mv.length=q:=by rw [hmv,List.length_map,List.length_take]; omega
    have hg7 : H.get id7=some (.cells 8 [iI f.shape.objs,iL f.shape.frm,iL f.shape.to,iL f.shape.idn,iLL f.shape.comp,.buf idS k,.buf idA a,iLLL (famsOf f V)] 0):=o.tl.tl.h0
    have hg6 : H.get id6=some (.cells 5 [iI f.shape.objs,iL f.shape.frm,iL f.shape.to,iL f.shape.idn,iLL f.shape.comp] 0):=o.get (id6,_) (by simp [rest,base]);refine tt ?_;rw [hW];refine ⟨⟨hto.1,by omega⟩, ?_⟩;apply bk <;> intro h4
    ·have h4p:=of_decide h4
     have w4:=wsucc (k:=q) (by omega);refine tt ?_
     have hb : W.getD q default∈W:=mem_getD.mpr ⟨q,h4p,rfl⟩
     have hWs : f.shape.Sieve (f.shape.to.getD a default) W:=hv1
     have hUs : f.shape.Sieve (f.shape.frm.getD a default) U:=hv0
     have hbv:=hWs.arr hb
     have hst:=v.st a haa (W.getD q default) (by simp only [ix_nat]; rw [hW]; exact hb);simp only [ix_nat] at hst;rw [hU] at hst
     have hin:=indexOf_in hst
     have hTl : T.length=U.length:=by rw [hVf]; exact hTf.len
     have hrow:=h.is.1.row' (a:=(a : Int)) haa.2;simp only [ix_nat] at hrow;refine rd_get hg7 (by simp) ?_;refine tt ?_;refine ⟨⟨hfo.1,by omega⟩, ?_⟩;rw [hF0'];refine ⟨h3p,⟨hfo.1,by omega⟩, ?_⟩;rw [hT,hU];refine rd_getn hg6 (by simp) ?_;refine tt ?_;refine ⟨⟨hto.1,by omega⟩, ?_⟩;rw [hW];refine ⟨h4p,_,(l02Then_ok B f.shape a (W.getD q default) ⟨by omega,by rw [h.is.1.cl]; exact haa.2⟩ ⟨hbv.1.1,by rw [ix_nat]; omega⟩).run,tt ?_⟩;refine ⟨_,(l01Index_ok ..).run,tt ?_⟩;refine ⟨⟨hin.1,by omega⟩, ?_⟩;refine app_own (ix T (indexOf U (ix (ix f.shape.comp a) (W.getD q default)))) o (by simp only [ix_nat]) rfl (by simp only [maxL]; omega) fun idm H o=>?_;refine tw w4 ?_;exact for_next (_,_) (by omega) ⟨by rw [take_map_succ W _ h4p,hmv]; simp only [ix_nat],o⟩ rfl
    ·have h4p:=of_ndecide h4;refine tt ?_;refine fz_own o rfl fun H o=>tt ?_
     have hg7 : H.get id7=some (.cells 8 [iI f.shape.objs,iL f.shape.frm,iL f.shape.to,iL f.shape.idn,iLL f.shape.comp,.buf idS k,.buf idA a,iLLL (famsOf f V)] 0):=o.tl.h0;refine rd_get hg7 (by simp) ?_;refine tt ?_;refine ⟨⟨hto.1,by omega⟩, ?_⟩;rw [hF1'];refine (l09Find_ok ..).go fun _=>tt ?_
     have hmv2 : mv=movedF f.shape V a T:=by
      rw [hmv,show q=W.length by omega,List.take_length,movedF];simp only [ix_nat];rw [hW,hU]
     refine app_own (indexOf (famAt f V (f.shape.to.getD a default).toNat) mv) o rfl rfl (by simp only [maxL]; omega) fun idr H o=>?_;refine tw w3 ?_;exact for_next (_,_) (by omega) ⟨by rw [take_map_succ _ _ h3p,hT,hrow,hmv2],o⟩ rfl
   ·have h3p:=of_ndecide h3;refine tt ?_;refine fz_own o rfl fun H o=>tt ?_;refine rd_cells o (by simp) ?_;refine tt ?_
    have hrow2 : row=actAt f V a:=by rw [hrow,List.take_of_length_le (by omega)]; rfl
    refine app_own (f:=iL) row (Owns.pull [_,_] o) rfl hacl.symm (by simp only [maxL]; omega) fun idA H o=>?_
    replace o:=Owns.push [_,_] o;simp only [List.cons_append,List.nil_append] at o;refine tt ?_;refine sw o fun H o=>?_
    have e2 : (acts++[row]).length=a+1:=by simp [hacl]
    rw [e2] at o;refine tw w2 ?_;exact for_next (idA,acts++[row]) (by omega) ⟨by rw [map_range_succ,← hac,hrow2],o⟩ rfl
  ·have h2p:=of_ndecide h2;refine tt ?_
   have hal : a=f.shape.frm.length:=by omega
   refine wk_cell (f:=iI) (A:=sz) 5 o rfl hszl.symm fun H o=>?_;simp only [List.set_cons_zero,List.set_cons_succ] at o;refine wk_cell (f:=iL) (A:=acts) 6 o rfl hacl.symm fun H o=>wkW_done ?_;simp only [List.set_cons_zero,List.set_cons_succ] at o;refine tt ?_;refine rd_celln o (by simp) ?_;refine tt ?_;refine sw (Owns.pull [_,_] o) fun H o=>tt ?_;rw [o.rc 8 0 (by simp)];refine tt ?_
   have e1 : sz=stepSizes f V:=by rw [hsz,hkl]; rfl
   have e2 : acts=stepActs f V:=by rw [hac,hal]; rfl
   exact pure_ret (by rw [stepA_t hfew,dec_t hfew,e1,e2]; rfl) o.sub
def RulesAt (ls : List Lk) (ks vs : List AV) : Prop:=(∀ i : Int,okKey 0 (iI i) ks) ∧
 ∀ i : Int,(mget (iI i) ks vs).getD .nilsl=mL rlE (ls.filter fun l=>decide (l.i=i))∨((mget (iI i) ks vs).getD .nilsl=.nilsl∧(ls.filter fun l=>decide (l.i=i))=[])
theorem set_solver (B : Nat) (sizes : List Int) (ls : List Lk) (hls : LksId sizes ls) (hsl : sizes.length≤1000) (hll : ls.length≤1000000) (ks vs : List AV) (hM : RulesAt ls ks vs) (idL idN idM idS : Nat) (fv : AV) :
  ∀ (n : Nat) (p : List Int),unset p=n→PartN sizes p→∀ (H0 H : Heap) (l : List (Nat × MObj)) (X : AV) (note : List Int) (i : Nat) (e : Int),
   LsO iI H0 H ((idN,.cells 1 [X] 0)::(idL,.cells 1 (p.map iI) 0)::l) X note→(idM,.map ks vs)∈l→i<p.length→0≤e∧e<sizes.getD i default→note.length+unset p≤1000 →
   CallH Tryz.prog B 287 [.dual [iL sizes,.mref idM,.buf idL sizes.length,fv] idS,.int .i64 i,.int .i64 e,.ref idN 0] H
    (fun r H'=>∃ ok p' N X',r=.bool ok∧LsO iI H0 H' ((idN,.cells 1 [X'] 0)::(idL,.cells 1 (p'.map iI) 0)::l) X' (note++N)∧SetQ sizes ls p i e p' N ok∧N.length+unset p'≤unset p):=by
 intro n
 induction n using Nat.strongRecOn with
 | _ n ih =>
 intro p hn hp H0 H l X note i e hX hm hi he hnb;refine c287p.go fun _=>?_
 have hpl:=hp.1;refine tt ?_
 have hgL:=hX.get (x:=(idL,.cells 1 (p.map iI) 0)) (by simp);refine ⟨by omega,rd_inner hgL hi ?_⟩;refine tt ?_;apply bk <;> intro h1
 ·refine tt ?_
  have h1p:=of_decide h1;refine ⟨by omega,rd_inner hgL hi ?_⟩;refine tt ?_;exact ⟨H,.refl _,_,p,[],X,rfl,by rw [List.append_nil]; exact hX,.old hp hi (by omega),by simp⟩
 refine tt ?_
 have h1p:=of_ndecide h1
 have h0 : p.getD i default=-1:=(hp.2 i hi).resolve_right fun h=>by omega
 obtain ⟨q,o,hq⟩:=hX.split;refine ⟨by omega,set_own e (Owns.pull2 q o) rfl hi fun H o=>?_⟩;refine tt ?_
 have hX:=LsO.mk (Owns.push2 q o) hq;clear o hq;refine rd_get hX.obj (by simp) ?_;refine tt ?_;refine hX.app (i : Int) rfl (by simp only [maxL]; omega) fun idn H o=>tt ?_;refine sw o.swap fun H o=>?_
 have hX : LsO iI H0 H ((idN,.cells 1 [.buf idn (note++[(i : Int)]).length] 0)::(idL,.cells 1 ((p.set i e).map iI) 0)::l) (.buf idn (note++[(i : Int)]).length) (note++[(i : Int)]):=.inr ⟨idn,rfl,o.swap⟩;clear o
 have hgM:=hX.get (x:=(idM,.map ks vs)) (by simp [hm]);refine tt ?_;rw [hgM];refine tt ?_;refine ⟨hM.1 i, ?_⟩
 have hV:=hM.2 i
 generalize hVv : (mget (iI i) ks vs).getD .nilsl=V at *
 generalize hrs : (ls.filter fun l=>decide (l.i=(i : Int)))=rs at *
 have hlen : lenE (some V)=some (True,.int .i64 rs.length):=by
  rcases hV with rfl | ⟨rfl,rfl⟩
  ·exact lenE_mL rs
  ·rfl
 refine tw hlen ?_
 have hrl : rs.length≤1000000:=by rw [← hrs]; exact Nat.le_trans (List.length_filter_le _ _) hll
 have hrm : ∀ j,j<rs.length→rs.getD j default∈ls∧(rs.getD j default).i=i:=by
  intro j hj
  have : rs.getD j default∈(ls.filter fun l=>decide (l.i=(i : Int))):=by rw [hrs]; exact mem_getD.mpr ⟨j,hj,rfl⟩
  rw [List.mem_filter,decide_eq_true_eq] at this;exact this
 have hun : unset (p.set i e)<unset p:=unset_set hi h0 he.1
 refine awp_for [0,2,3,48,49] (G:=List Int × List Int × AV) (fun k _=>[(50,some (.int .i64 (k : Int)))])
  (fun k g H=>LsO iI H0 H ((idN,.cells 1 [g.2.2] 0)::(idL,.cells 1 (g.1.map iI) 0)::l) g.2.2 (note++g.2.1)∧SetL sizes ls p i e rs k g.1 g.2.1∧g.2.1.length+unset g.1≤unset p∧0<g.2.1.length) rs.length (p.set i e,[(i : Int)],.buf idn (note++[(i : Int)]).length)
  ⟨hX,.zero hp hi h0 he,by simp only [List.length_singleton]; omega,by simp⟩ rfl ?_
 rintro k ⟨p',N,X'⟩ H hk ⟨hX,hL,hNu,hN0⟩;dsimp only at hX hL hNu hN0;refine tt ?_;apply bk <;> intro h2
 ·have h2p:=of_decide h2
  have w2:=wsucc (k:=k) (by omega)
  have hVr : V=mL rlE rs:=hV.resolve_right fun h=>by rw [h.2] at h2p; simp at h2p
  rw [hVr]
  have hmem:=hrm k h2p
  generalize hr : rs.getD k default=r at *
  have bj:=hls.ok.j r hmem.1
  have bl:=hls.ok.left r hmem.1;rw [hmem.2,ix_nat] at bl
  have hlf:=hls.lf r hmem.1 _ (ix_mem (i:=e) (l:=r.left) (by omega))
  obtain ⟨q,o,hq⟩:=hX.split;refine tt ?_;refine ⟨h2p,by simp [maxL],newRef_own o fun id10 H o=>?_⟩;rw [hr];refine tt ?_;refine sw o fun H o=>tt ?_;refine rd_cells o (by simp) ?_;refine tt ?_;refine rd_cells o (by simp) ?_;refine tt ?_;refine ⟨⟨he.1,by omega⟩, ?_⟩
  have hX:=LsO.mk o.tl hq;clear o hq
  have hp' : PartN sizes p':=hL.partN hp
  have hsl' : p'.length=p.length:=hL.len
  have hj' : r.j=((r.j.toNat : Nat) : Int):=(Int.toNat_of_nonneg bj.1).symm;rw [hj'];refine (ih (unset p') (by omega) p' rfl hp' H0 H l X' (note++N) r.j.toNat (ix r.left e) hX hm (by omega) ⟨hlf.1,hlf.2⟩ (by rw [List.length_append]; omega)).mono ?_
  rintro v H' ⟨ok,p2,N2,X2,rfl,hX2,hQ,hNu2⟩;rw [List.append_assoc] at hX2;refine tt ?_
  cases ok with
  | true =>
   refine tt ?_;refine tw w2 ?_
   have hstep:=hL.step hp hi h2p (by rw [hr]; omega) (by omega) (by rw [hr]; exact bj.1) (by rw [hr]; exact hQ) (fun j hj=>?_) hrm hls
   ·exact for_next (p2,N++N2,X2) (by omega) ⟨hX2,hstep,by simp only [List.length_append]; omega,by simp only [List.length_append]; omega⟩ rfl
   ·have hmj:=hrm j hj
    have bj:=hls.ok.j _ hmj.1
    have bl:=hls.ok.left _ hmj.1;rw [hmj.2,ix_nat] at bl
    have hlf:=hls.lf _ hmj.1 _ (ix_mem (i:=e) (l:=(rs.getD j default).left) (by omega));exact ⟨bj.1,by omega,hlf.1⟩
  | false =>
   refine tt ?_;refine ⟨H',.refl _,false,p2,N++N2,X2,rfl,hX2,hL.fail hp hi h0 h2p (by rw [hr]; exact hQ) (by omega) hrm hls,by simp only [List.length_append]; omega⟩
 ·have h2p:=of_ndecide h2;refine tt ?_;refine ⟨H,.refl _,true,p',N,X',rfl,hX,hL.done (by omega) fun l hl e2=>?_,hNu⟩;rw [← hrs,List.mem_filter];exact ⟨hl,decide_eq_true e2⟩
end Go.Proofs.Shf
namespace Go.AW
open Go.Proofs Go.Proofs.Shf
theorem Owns.ext {H0 H H' : Heap} {l : List (Nat × MObj)} (h : Owns H0 H l) (k : H.sub H') : Owns H0 H' l :=
 ⟨h.sub.trans k,fun x hx=>k _ _ (h.get x hx),h.nd,h.out⟩
theorem LsO.ext {α : Type} {f : α→AV} {H0 H H' : Heap} {l : List (Nat × MObj)} {X : AV} {A : List α} (h : LsO f H0 H l X A) (k : H.sub H') : LsO f H0 H' l X A:=by
 rcases h with ⟨h1,h2,h⟩ | ⟨id,h1,h⟩
 ·exact .inl ⟨h1,h2,h.ext k⟩
 ·exact .inr ⟨id,h1,h.ext k⟩
theorem lent_get {α : Type} [Inhabited α] {f : α→AV} [One f] {B : Nat} {H : Heap} {id n fr : Nat} {A : List α} (h0 : H.get id=some (.cells 1 (A.map f) fr)) (hn : n=A.length) :
  ∀ g w v,WRel g B H w→VRel g (.buf id n) v→VRel (g.lend H w) (mL f A) v:=by
 subst hn
 have:=Tr.buf (H:=H) id fr (A.map f) (A.map f) h0 rfl (fun i hi=>by rw [List.length_map] at hi; rw [getD_map A hi]; exact one_cells _) (fun i _=>.val _);rw [List.length_map] at this;exact this.arg
theorem Owns.subl {H0 H : Heap} {l l' : List (Nat × MObj)} (h : Owns H0 H l) (k : l'.Sublist l) : Owns H0 H l' :=
 ⟨h.sub,fun x hx=>h.get x (k.subset hx),h.nd.sublist (k.map _),fun x hx=>h.out x (k.subset hx)⟩
theorem LsO.subl {α : Type} {f : α→AV} {H0 H : Heap} {l l' : List (Nat × MObj)} {X : AV} {A : List α} (h : LsO f H0 H l X A) (k : l'.Sublist l) : LsO f H0 H l' X A:=by
 rcases h with ⟨h1,h2,h⟩ | ⟨id,h1,h⟩
 ·exact .inl ⟨h1,h2,h.subl k⟩
 ·exact .inr ⟨id,h1,h.subl (k.cons_cons _)⟩
theorem LsP.lenE {α : Type} {f : α→AV} {p : List (Nat × MObj)} {X : AV} {A : List α} (h : LsP f p X A) : lenE (some X)=some (True,.int .i64 A.length):=by
 rcases h with ⟨_,rfl,rfl⟩ | ⟨id,_,rfl⟩ <;> rfl
theorem LsP.sub {α : Type} {f : α→AV} {p : List (Nat × MObj)} {X : AV} {A : List α} (h : LsP f p X A) {i : Nat} (hi : i<A.length) : ∃ id,p=[(id,.cells 1 (A.map f) 0)]∧X=.buf id A.length:=by
 rcases h with ⟨_,_,rfl⟩ | h
 ·simp at hi
 ·exact h
theorem perm_cba {α : Type} (A B C l : List α) : (A++(B++(C++l))).Perm (C++(B++(A++l))):=by
 have : (A++(B++C)).Perm (C++(B++A)):=by
  refine (List.perm_append_comm).trans ?_;rw [← List.append_assoc];exact List.Perm.append_right A List.perm_append_comm
 simpa using List.Perm.append_right l this
theorem CallH.gave {α : Type} [Inhabited α] {f : α→AV} [One f] {P : Program} {B : Nat} {fn : FuncId} {args : List AV} {H : Heap} {Q : List α→Prop} {K : Kont} (h : CallH P B fn args H (OwnK f H [] Q))
  (hk : ∀ A H',H.sub H'→Q A→K (mL f A) H') : CallH P B fn args H K:=by
 refine ⟨h.1,fun g w vs hW hv=>(h.2 g w vs hW hv).mono fun e w' ⟨v,he,g',r,H',a,⟨id,A,e1,o,q⟩,c,d,k⟩=>?_⟩;subst e1
 obtain ⟨g2,q1,q2,q3⟩:=d.gaveV o.h0;exact ⟨v,he,g2,mL f A,_,a.trans q1,hk A _ (Go.AW.sub_set o.sub (o.out _ (by simp))) q,q3 g2 v (.refl _) (c.mono q1),q2,k⟩
end Go.AW
namespace Go.Proofs.Shf
open Go.AW Go.Proofs Go.Shf
theorem found_ok (B : Nat) (most : Nat) (hmost : most≤1048576) (p : List Int) (H0 H : Heap) (l : List (Nat × MObj)) (idL idO n : Nat) (X : AV) (out : List (List Int)) (hn : n=p.length)
  (hX : LsO iL H0 H ((idO,.cells 1 [X] 0)::l) X out) (hm : (idL,.cells 1 (p.map iI) 0)∈l) (ho : out.length≤most) :
  CallH Tryz.prog B 249 [.buf idL n,.ref idO 0,.ptr [.int .i64 most]] H (fun r H'=>∃ X',r=.bool (decide (out.length+1≤most))∧LsO iL H0 H' ((idO,.cells 1 [X'] 0)::l) X' (out++[p])):=by
 refine c249p.go fun _=>?_;refine tt ?_;refine rd_get hX.obj (by simp) ?_;refine tt ?_
 have hc : CallH Tryz.prog B 221 [.buf idL n] H (OwnK iI H [] (·=p)) :=
  CallH.lentOwn (f:=iI) (Q:=(·=p)) (es:=[iL p]) (Owns.nil H) (fun _=>.int _ _) rfl (fun i hi=>by
   obtain rfl : i=0:=by simp only [List.length_cons,List.length_nil] at hi; omega
   exact lent_get (hX.get (x:=(idL,.cells 1 (p.map iI) 0)) (by simp [hm])) hn) (clone_own B p H.frz H.frz [] (.nil _)) fun id A H' o q=>⟨id,A,rfl,o,q⟩
 refine hc.gave fun A H1 hs hA=>⟨hs, ?_⟩;subst hA
 have hX:=hX.ext hs;refine tt ?_;refine hX.app A rfl (by simp only [maxL]; omega) fun idn H o=>tt ?_;refine sw o.swap fun H o=>tt ?_
 have hX : LsO iL H0 H ((idO,.cells 1 [.buf idn (out++[A]).length] 0)::l) (.buf idn (out++[A]).length) (out++[A]):=.inr ⟨idn,rfl,o.swap⟩;refine rd_get hX.obj (by simp) ?_;refine tt ?_;exact ⟨H,.refl _,_,by simp,hX⟩
end Go.Proofs.Shf
namespace Go.AW
open Go.Proofs Go.Shf Go.Proofs.Shf
theorem indexOf_first {l : List Int} {a : Int} (h : 0≤indexOf l a) : (indexOf l a).toNat<l.length∧l.getD (indexOf l a).toNat default=a∧∀ m,m<(indexOf l a).toNat→l.getD m default≠a:=by
 have hm:=(indexOf_mem l a).mp h
 have hi:=indexOf_in hm;refine ⟨hi.2.1,hi.2.2,fun m hml e=>?_⟩;unfold indexOf at hml
 split at hml
 ·rename_i i hs
  rw [List.idxOf?_eq_some_iff] at hs
  obtain ⟨h1,h2,h3⟩:=hs
  have hm2 : m<i:=by simpa using hml
  have h4 : m<l.length:=by omega
  have:=h3 m hm2;exact this (by simpa [List.getD_eq_getElem?_getD,h4] using e)
 ·simp at hml
end Go.AW
namespace Go.Proofs.Shf
open Go.AW Go.Proofs Go.Shf
theorem solver_run (B : Nat) (sizes : List Int) (ls : List Lk) (hls : LksId sizes ls) (hsl : sizes.length≤1000) (hbd : ∀ i,i<sizes.length→sizes.getD i default≤1000000) (hll : ls.length≤1000000) (ks vs : List AV) (hM : RulesAt ls ks vs) (most : Nat) (hmost : most≤1048576) (idL idM idS idO : Nat) :
  ∀ (n : Nat) (p : List Int),unset p=n→PartN sizes p→Closed ls p→∀ (H0 H : Heap) (l : List (Nat × MObj)) (X : AV) (out : List (List Int)),
   LsO iL H0 H ((idO,.cells 1 [X] 0)::(idL,.cells 1 (p.map iI) 0)::l) X out→(idM,.map ks vs)∈l→out.length≤most →
   CallH Tryz.prog B 250 [.dual [iL sizes,.mref idM,.buf idL sizes.length,.fn (.func 249) [.ref idO 0,.ptr [.int .i64 most]]] idS] H
    (fun r H'=>∃ X',r=.bool (decide (out.length+(exS sizes ls p).length≤most))∧LsO iL H0 H' ((idO,.cells 1 [X'] 0)::(idL,.cells 1 (p.map iI) 0)::l) X' (out++(exS sizes ls p).take (most+1 - out.length))):=by
 intro n
 induction n using Nat.strongRecOn with
 | _ n ih =>
 intro p hn hp hc H0 H l X out hX hm ho;refine c250p.go fun _=>?_
 have hpl:=hp.1;refine tt ?_;refine CallH.lentPure (es:=[iL p,.int .i64 (-1)]) (.int _ _) rfl (fun i hi=>?_) (index_ok B p (-1)).run ?_
 ·obtain rfl | rfl : i=0∨i=1:=by simp only [List.length_cons,List.length_nil] at hi; omega
  ·exact lent_get (hX.get (x:=(idL,.cells 1 (p.map iI) 0)) (by simp)) hpl.symm
  ·exact val_arg _
 have hib:=indexOf_bd p (-1);refine tt ?_;apply bk <;> intro h1
 ·refine tt ?_
  have h1p:=of_decide h1
  have hall : ∀ m,m<p.length→p.getD m default≠-1:=fun m hm e=>by
   have:=(indexOf_mem p (-1)).mpr (mem_getD.mpr ⟨m,hm,e⟩);omega
  have hex : exS sizes ls p=[p]:=exS_eq (lex_full (hc.cons hls hp) hall);rw [hex];refine (found_ok B most hmost p H0 H ((idL,.cells 1 (p.map iI) 0)::l) idL idO sizes.length X out hpl.symm hX (by simp) ho).mono ?_
  rintro r H' ⟨X',rfl,hX⟩;refine tt ?_;refine ⟨H',.refl _,X',rfl, ?_⟩;rw [List.take_of_length_le (by simp; omega)];exact hX
 have h1p:=of_ndecide h1
 obtain ⟨f1,f2,f3⟩:=indexOf_first (l:=p) (a:=-1) (by omega)
 generalize hix : indexOf p (-1)=ii at *
 obtain ⟨i,rfl⟩ : ∃ i : Nat,ii=(i : Int):=⟨ii.toNat,by omega⟩;rw [Int.toNat_natCast] at f1 f2 f3
 have hexS:=exS_all hls hp hc f1 f2 f3
 replace hexS : exS sizes ls p=flatTo sizes ls p i (sizes.getD i default).toNat:=hexS
 have hbi:=hbd i (by omega);refine tt ?_;refine ⟨by omega, ?_⟩
 generalize hsz : sizes.getD i default=sz at *
 refine awp_for [0,3,32] (G:=AV) (fun k _=>[(33,some (.int .i64 (k : Int)))])
  (fun k X H=>LsO iL H0 H ((idO,.cells 1 [X] 0)::(idL,.cells 1 (p.map iI) 0)::l) X (out++flatTo sizes ls p i k)∧out.length+(flatTo sizes ls p i k).length≤most) sz.toNat X
  ⟨by rw [flatTo_zero,List.append_nil]; exact hX,by rw [flatTo_zero]; exact ho⟩ rfl ?_
 rintro k X H hk ⟨hX,hfm⟩
 replace hX : LsO iL H0 H ((idO,.cells 1 [X] 0)::(idL,.cells 1 (p.map iI) 0)::l) X (out++flatTo sizes ls p i k):=hX
 replace hfm : out.length+(flatTo sizes ls p i k).length≤most:=hfm;refine tt ?_;apply bk <;> intro h2
 rotate_left
 ·have h2p:=of_ndecide h2;refine tt ?_
  have hke : k=sz.toNat:=by omega
  refine ⟨H,.refl _,X, ?_, ?_⟩
  ·rw [hexS,← hke,decide_eq_true hfm]
  ·rw [hexS,← hke,List.take_of_length_le (by omega)]; exact hX
 have h2p:=of_decide h2
 have w2:=wsucc (k:=k) (by omega)
 obtain ⟨pp,o,hpp⟩:=hX.split;clear hX;refine tt ?_;refine newBuf_own o fun idE H o=>tt ?_;refine newRef_own o fun id5 H o=>tt ?_;refine sw o fun H o=>tt ?_
 have hX : LsO iI H0 H ((id5,.cells 1 [.buf idE 0] 0)::(idL,.cells 1 (p.map iI) 0)::(pp++(idO,.cells 1 [X] 0)::l)) (.buf idE 0) [] :=
  .inr ⟨idE,rfl,o.swap.perm (.cons _ (.cons _ (by
   refine (List.Perm.append_left pp (List.Perm.swap _ _ _)).trans List.perm_middle)))⟩
 clear o
 refine (set_solver B sizes ls hls hsl hll ks vs hM idL id5 idM idS (.fn (.func 249) [.ref idO 0,.ptr [.int .i64 most]]) _ p rfl hp H0 H (pp++(idO,.cells 1 [X] 0)::l) (.buf idE 0) [] i k hX (by simp [hm]) f1 ⟨by omega,by omega⟩ (by
  have : unset p≤p.length:=List.countP_le_length;simp only [List.length_nil]; omega)).mono ?_
 rintro v H ⟨ok,p',N,X',rfl,hX,hQ,hNu⟩;rw [List.nil_append] at hX
 obtain ⟨q,o,hq⟩:=hX.split
 have hY : LsO iL H0 H ((idO,.cells 1 [X] 0)::(idL,.cells 1 (p'.map iI) 0)::(q++(id5,.cells 1 [X'] 0)::l)) X (out++flatTo sizes ls p i k):=by
  refine LsO.mk (p:=pp) (o.perm ?_) hpp
  have:=perm_cba (q++[(id5,MObj.cells 1 [X'] 0)]) [(idL,.cells 1 (p'.map iI) 0)] (pp++[(idO,.cells 1 [X] 0)]) l
  simpa using this
 clear o hX
 have hUn:=hQ.undo
 have hfs:=flatTo_succ sizes ls p i k
 have hpre:=flatTo_pre sizes ls p i (k:=k+1) (m:=sz.toNat) (by omega)
 have hp' : p'.length=p.length:=hQ.len
 have hNb : ∀ j,j<N.length→0≤N.getD j default∧(N.getD j default).toNat<p'.length:=fun j hj=>by
  have:=(hQ.new (N.getD j default)).mp (mem_getD.mpr ⟨j,hj,rfl⟩);exact ⟨this.1,by omega⟩
 have hNl : N.length≤1000:=by
  have : unset p≤p.length:=List.countP_le_length;omega
 cases ok
 case' true =>
  have hee:=exS_congr (ls:=ls) (sizes:=sizes) (hQ.ext_iff f1 f2 ⟨by omega,by omega⟩);refine tt ?_;refine (ih (unset p') (by rw [← hn]; exact unset_lt hQ f1 f2 (by omega) hNu) p' rfl ⟨by omega,fun r hr=>hQ.part r (by omega)⟩ (hc.set hls hp hQ) H0 H (q++(id5,.cells 1 [X'] 0)::l) X (out++flatTo sizes ls p i k) hY (by simp [hm]) (by simp; exact hfm)).mono ?_;clear hY
  rintro v H ⟨X2,rfl,hY⟩;rw [← hee] at hY ⊢
  generalize hb : decide ((out++flatTo sizes ls p i k).length+(exS sizes ls (p.set i k)).length≤most)=b
  replace hb : b=decide (out.length+(flatTo sizes ls p i (k+1)).length≤most):=by
   rw [← hb,hfs]; simp only [List.length_append]; congr 1; rw [Nat.add_assoc]
  refine tt ?_
 case' false =>
  have hee:=hQ.none f1 f2 ⟨by omega,by omega⟩;refine tt ?_
  generalize hX2 : X=X2 at hY
  generalize hb : true=b
  replace hb : b=decide (out.length+(flatTo sizes ls p i (k+1)).length≤most):=by
   rw [← hb,hfs,hee,List.append_nil,decide_eq_true hfm]
  replace hY : LsO iL H0 H ((idO,.cells 1 [X2] 0)::(idL,.cells 1 (p'.map iI) 0)::(q++(id5,.cells 1 [X'] 0)::l)) X2 ((out++flatTo sizes ls p i k)++(exS sizes ls (p.set i k)).take (most+1 - (out++flatTo sizes ls p i k).length)):=by
   rw [hee]; simpa using hY
 all_goals
  generalize hA : (out++flatTo sizes ls p i k)++(exS sizes ls (p.set i k)).take (most+1 - (out++flatTo sizes ls p i k).length)=A at hY
  have hlN:=hq.lenE;refine rd_get (hY.get (x:=(id5,.cells 1 [X'] 0)) (by simp)) (by simp) ?_;refine tw hlN ?_
  refine awp_for [0,3,7,32,33,47,48] (G:=Unit) (fun j _=>[(49,some (.int .i64 (j : Int)))])
   (fun j _ H=>LsO iL H0 H ((idO,.cells 1 [X2] 0)::(idL,.cells 1 ((undoL p' N j).map iI) 0)::(q++(id5,.cells 1 [X'] 0)::l)) X2 A) N.length ()
   (by rw [undo_zero]; exact hY) rfl ?_
  clear hY
  rintro j _ H hj hY
  replace hY : LsO iL H0 H ((idO,.cells 1 [X2] 0)::(idL,.cells 1 ((undoL p' N j).map iI) 0)::(q++(id5,.cells 1 [X'] 0)::l)) X2 A:=hY;refine tt ?_;apply bk <;> intro h3
  ·have h3p:=of_decide h3
   have wj:=wsucc (k:=j) (by omega)
   obtain ⟨idn,rfl,rfl⟩:=hq.sub h3p
   have hb:=hNb j h3p;refine tt ?_;refine ⟨h3p,rd_inner (f:=iI) (hY.get (x:=(idn,.cells 1 (N.map iI) 0)) (by simp)) h3p ?_⟩;refine tt ?_
   obtain ⟨qq,o,hqq⟩:=hY.split;refine ⟨⟨hb.1,by omega⟩,set_own (-1) (Owns.pull2 qq o) rfl (by rw [undo_len]; exact hb.2) fun H o=>?_⟩
   have hY:=LsO.mk (Owns.push2 qq o) hqq;rw [← undo_succ p' N h3p hb.1] at hY;refine tw wj ?_;exact for_next () h3p hY rfl
  ·have h3p:=of_ndecide h3
   have hje : j=N.length:=by omega
   rw [hje,hUn] at hY
   have hY:=hY.subl (l':=(idO,.cells 1 [X2] 0)::(idL,.cells 1 (p.map iI) 0)::l) (.cons_cons _ (.cons_cons _ ((List.sublist_cons_self _ _).trans (List.sublist_append_right _ _))))
   obtain ⟨r,hr⟩:=hpre
   cases b
   ·refine tt ?_
    have hbb:=of_decide_eq_false hb.symm;refine ⟨H,.refl _,X2, ?_, ?_⟩
    ·rw [hexS,hr,decide_eq_false];simp only [List.length_append]; omega
    ·rw [hexS,hr,hfs];rw [hfs,List.length_append] at hbb
     have e : (flatTo sizes ls p i k++exS sizes ls (p.set i k)++r).take (most+1 - out.length)=flatTo sizes ls p i k++(exS sizes ls (p.set i k)).take (most+1 - (out++flatTo sizes ls p i k).length):=by
      rw [List.append_assoc,List.take_append,List.take_of_length_le (by omega),List.take_append,List.length_append];rw [show most+1 - out.length - (flatTo sizes ls p i k).length=most+1 - (out.length+(flatTo sizes ls p i k).length) by omega];rw [show most+1 - (out.length+(flatTo sizes ls p i k).length) - (exS sizes ls (p.set i k)).length=0 by omega]
      simp
     rw [e,← List.append_assoc,hA]; exact hY
   ·refine tw w2 ?_
    have hbb:=of_decide_eq_true hb.symm;refine for_next X2 (by omega) ⟨?_,hbb⟩ rfl;rw [hfs,List.length_append] at hbb;rw [List.take_of_length_le (by rw [List.length_append]; omega)] at hA;rw [hfs,← List.append_assoc,hA]; exact hY
end Go.Proofs.Shf
namespace Go.AW
theorem wk_dual2 {F : Env→Heap→Prop} {σ : Env} {H0 H : Heap} {l : List (Nat × MObj)} {id sz : Nat} {cs : List AV} {fr : Nat} {cs0 : List AV} (t k : Nat) (hf : fr≤k) (hk : k≤cs.length) (o : Owns H0 H ((id,.cells sz cs fr)::l)) (ht : σ.get t=some (.dual cs0 id))
  (hF : ∀ H',Owns H0 H' ((id,.cells sz cs k)::l)→wkW F ((t,some (.dual (cs.take k) id))::σ) H') : wkW F σ H:=by
 have h1:=o.h0;simp only at h1;refine wkW_step (σ1:=(t,some (.dual (cs.take k) id))::σ) ?_ (hF _ (o.put (.cells sz cs k)))
 intro g B w tm hW hE
 obtain ⟨q1,q2⟩:=hE t _ ht
 generalize hu : tm.getD t undef=u at q2
 cases q2 with
 | dual _ _ b cap _ hio _ _ =>
  have hW1:=hW.setF h1 hio hf hk
  obtain ⟨p,hp,hr⟩:=hW.ob _ _ h1;rw [hio] at hp; cases hp;simp only [ObjRel] at hr
  obtain ⟨r1,r2,r3,r4,c,el,r5,r6,r7,r8⟩:=hr
  obtain ⟨g1,g2⟩:=hW1.addF b k c el (0,0) r5 fun i p o e hp hpb=>by
   by_cases hid : i=id
   ·subst hid;rw [hio] at hp; cases hp
    simp at e;exact ⟨_,_,_,e.symm,Nat.le_refl _⟩
   ·exfalso
    cases p with
    | nil=>cases hpb
    | blk b' cap' =>
     cases hpb;exact hW1.inj i id b cap' cap hid (by simp [e]) (by simp) hp hio
    | mp b' =>
     cases hpb
     obtain ⟨q,hq,hr⟩:=hW1.ob _ _ e;rw [hp] at hq; cases hq
     cases o with
     | cells sz' cs' f'=>simp [ObjRel] at hr
     | map ks vs =>
      simp only [ObjRel] at hr
      obtain ⟨_,_,es,clk,h5,_⟩:=hr;rw [r5] at h5; cases h5
  refine ⟨_,g1,g2,fun s x e=>?_⟩;simp only [Env.get] at e
  split at e
  ·rename_i hs; cases e; subst hs
   refine ⟨q1, ?_⟩;rw [hu]
   have hlt : (cs.take k).length=k:=by rw [List.length_take]; omega
   refine .dual _ id b cap (fun i=>c.getD i undef) (g1.io _ _ hio) (fun i hi=>?_) (fun i hi=>?_)
   ·rw [hlt] at hi;simp only [Gh.addF]
    have : i<c.size:=by omega
    simp [hi,Array.getD,this]
   ·rw [hlt] at hi
    have e2 : (cs.take k).getD i nv=cs.getD i nv:=by simp [List.getD_eq_getElem?_getD,hi]
    rw [e2]; exact (r8 i (by omega)).mono g1
  ·obtain ⟨z1,z2⟩:=hE s x e; exact ⟨z1,z2.mono g1⟩
theorem st_cells2 {H0 H : Heap} {l : List (Nat × MObj)} {K : Kont} {id sz off n fr : Nat} {cs vs : List AV} (o : Owns H0 H ((id,.cells sz cs fr)::l)) (h0 : fr≤off) (h1 : off+n≤cs.length) (h2 : vs.length=n) (h3 : ∀ c,c∈vs→c.one=true)
  (hk : ∀ H',Owns H0 H' ((id,.cells sz (wr cs off vs) fr)::l)→K nv H') : st1 (H.get id) id off n vs K H:=by
 have e:=o.h0;simp only at e;rw [e,st1_c];exact ⟨⟨h0,h1,h2,h3⟩,hk _ (o.put _)⟩
end Go.AW
namespace Go.Proofs.Shf
open Go.AW Go.Proofs Go.Shf
theorem repeated_own (B : Nat) (x : Int) (n : Nat) (hn : n≤1048576) (H0 H : Heap) (l : List (Nat × MObj)) (o : Owns H0 H l) : CallH Tryz.prog B 248 [.int .i64 x,.int .i64 n] H (OwnK iI H0 l (·=List.replicate n x)):=by
 refine c248p.go fun _=>?_;refine tt ?_;refine ⟨by simp [maxL]; omega,mks_list iI 0 rfl o fun id H o=>?_⟩;refine tt ?_;refine awp_for [0,5,10] (G:=Unit) (fun k _=>[(11,some (.int .i64 (k : Int)))]) (fun k _ H=>Owns H0 H ((id,.cells 1 ((List.replicate k x++List.replicate (n - k) 0).map iI) 0)::l)) n () (by simpa using o) rfl ?_;clear o
 rintro k _ H hk o
 replace o : Owns H0 H ((id,.cells 1 ((List.replicate k x++List.replicate (n - k) 0).map iI) 0)::l):=o;refine tt ?_;apply bk <;> intro h1
 ·have h1p:=of_decide h1
  have w:=wsucc (k:=k) (by omega);refine tt ?_;refine ⟨by omega,set_own x o rfl (by simp; omega) fun H o=>?_⟩
  have e : (List.replicate k x++List.replicate (n - k) 0).set k x=List.replicate (k+1) x++List.replicate (n - (k+1)) 0:=by
   rw [List.set_append_right _ _ (by simp),List.length_replicate,Nat.sub_self,show n - k=(n - (k+1))+1 by omega,List.replicate_succ (n:=n - (k+1)),List.set_cons_zero,List.replicate_succ' (n:=k),List.append_assoc]
   rfl
  rw [e] at o;refine tw w ?_;exact for_next () (by omega) o rfl
 ·have h1p:=of_ndecide h1;refine tt ?_
  obtain rfl : k=n:=by omega
  exact own_ret o (by simp) (by simp)
theorem take_succ_getD {α : Type} [Inhabited α] (l : List α) {k : Nat} (hk : k<l.length) : l.take (k+1)=l.take k++[l.getD k default]:=by
 have hN : l[k]=l.getD k default:=by simp [List.getD_eq_getElem?_getD,hk]
 rw [← hN]; exact (List.take_append_getElem hk).symm
def rulesOf (ls : List Lk) (k : Nat) (ks : List Int) : List (List Lk):=ks.map fun i=>(ls.take k).filter fun l=>decide (l.i=i)
theorem take_filter_succ (ls : List Lk) {k : Nat} (hk : k<ls.length) (i : Int) : ((ls.take (k+1)).filter fun l=>decide (l.i=i))=((ls.take k).filter fun l=>decide (l.i=i))++if (ls.getD k default).i=i then [ls.getD k default] else []:=by
 have hN : ls[k]=ls.getD k default:=by simp [List.getD_eq_getElem?_getD,hk]
 have ht : ls.take (k+1)=ls.take k++[ls.getD k default]:=by rw [← hN]; exact (List.take_append_getElem hk).symm
 rw [ht,List.filter_append]
 congr 1
 simp only [List.filter_cons,List.filter_nil,decide_eq_true_eq]
theorem rulesOf_in {ls : List Lk} {ks : List Int} {k : Nat} (hk : k<ls.length) (hin : (ls.getD k default).i∈ks) (hnd : ks.Nodup) :
  rulesOf ls (k+1) ks=(rulesOf ls k ks).set (ks.idxOf (ls.getD k default).i) ((rulesOf ls k ks).getD (ks.idxOf (ls.getD k default).i) []++[ls.getD k default]):=by
 generalize hr : ls.getD k default=r at *
 have hlt : ks.idxOf r.i<ks.length:=List.idxOf_lt_length_iff.mpr hin;apply List.ext_getElem (by simp [rulesOf])
 intro m h1 h2
 have hm : m<ks.length:=by simpa [rulesOf] using h1
 have hge : ks[ks.idxOf r.i]=r.i:=List.getElem_idxOf hlt;simp only [rulesOf,List.getElem_map,List.getElem_set,take_filter_succ ls hk,hr]
 by_cases e : ks.idxOf r.i=m
 ·subst e;rw [if_pos rfl,hge,if_pos rfl]
  simp [List.getD_eq_getElem?_getD,hlt,hge]
 ·rw [if_neg e,if_neg,List.append_nil]
  intro e2;exact e ((List.getElem_inj hnd (h₀:=hlt) (h₁:=hm)).mp (by rw [hge,e2]))
theorem rulesOf_out {ls : List Lk} {ks : List Int} {k : Nat} (hk : k<ls.length) (hin : ¬ (ls.getD k default).i∈ks) (hall : ∀ l,l∈ls.take k→l.i∈ks) :
  rulesOf ls (k+1) (ks++[(ls.getD k default).i])=rulesOf ls k ks++[[ls.getD k default]]:=by
 generalize hr : ls.getD k default=r at *;simp only [rulesOf,List.map_append,List.map_cons,List.map_nil,take_filter_succ ls hk,hr]
 congr 1
 ·apply List.map_congr_left
  intro i hi;rw [if_neg (show ¬ r.i=i from fun e=>hin (by rw [e]; exact hi)),List.append_nil]
 ·have : ((ls.take k).filter fun l=>decide (l.i=r.i))=[]:=by
   rw [List.filter_eq_nil_iff]
   intro l hl e
   have:=hall l hl; rw [of_decide_eq_true e] at this; exact hin this
  rw [this]; simp
theorem rulesOf_at {ls : List Lk} {ks : List Int} (hall : ∀ l,l∈ls→l.i∈ks) : RulesAt ls (ks.map iI) ((rulesOf ls ls.length ks).map (mL rlE)):=by
 refine ⟨fun i=>okKey_iI i ks,fun i=>?_⟩;rw [mget_iI (by simp [rulesOf])]
 by_cases hi : i∈ks
 ·left
  have hlt : ks.idxOf i<ks.length:=List.idxOf_lt_length_iff.mpr hi
  have hge : ks[ks.idxOf i]=i:=List.getElem_idxOf hlt
  simp [rulesOf,hlt,hge]
 ·right
  have hlt : ks.idxOf i=ks.length:=List.idxOf_eq_length hi;refine ⟨by simp [rulesOf,hlt], ?_⟩;rw [List.filter_eq_nil_iff]
  intro l hl e
  have:=hall l hl; rw [of_decide_eq_true e] at this; exact hi this
theorem solve_ok (B : Nat) (sizes : List Int) (ls : List Lk) (hls : LksId sizes ls) (hsl : sizes.length≤1000) (hbd : ∀ i,i<sizes.length→sizes.getD i default≤1000000) (hll : ls.length≤1000000) (most : Nat) (hmost : most≤1048576) :
  Pur Tryz.prog B 171 [iL sizes,mL rlE ls,.int .i64 most] (.tup [iLL ((solS sizes ls).take (most+1)),.bool (decide ((solS sizes ls).length≤most))]):=by
 refine ⟨fun H0=>c171p.go fun _=>?_⟩;refine tt ?_;refine newBuf_own (.nil _) fun idE H o=>tt ?_;refine newRef_own o fun idO H o=>tt ?_;refine sw o fun H o=>tt ?_;refine newMap_own o fun idM H o=>tt ?_;refine (repeated_own B (-1) sizes.length (by omega) H0 H _ o).own fun idL A H o hA=>?_;rw [hA] at o
 have hAl : A.length=sizes.length:=by rw [hA]; simp
 rw [hAl];clear hA hAl
 have hmc : (AV.mref idM).cells=[.mref idM]:=rfl;try simp only [go_sem,↓reduceIte,reduceEqDiff,reduceAdd,reduceMul,reduceLeDiff,reduceLT,hmc,wr_cons,wr_nil,List.set_cons_zero,List.set_cons_succ]
 refine nb o fun idS H o=>tt ?_;refine wk_dual 9 3 (by simp) o rfl fun H o=>wkW_done ?_;simp only [List.take_succ_cons,List.take_zero];refine tt ?_
 refine awp_for [5,8,9,21,22] (G:=List Int × List AV × List (Nat × MObj)) (fun k _=>[(23,some (.int .i64 (k : Int)))])
  (fun k g H=>LsRn 3 rlE g.2.1 (rulesOf ls k g.1) g.2.2∧g.1.Nodup∧(∀ l,l∈ls.take k→l.i∈g.1) ∧
   Owns H0 H ((idM,.map (g.1.map iI) g.2.1)::(g.2.2++[(idS,.cells 4 [iL sizes,AV.mref idM,AV.buf idL sizes.length,AV.nilf] 3),(idL,.cells 1 ((List.replicate sizes.length (-1)).map iI) 0),(idO,.cells 1 [AV.buf idE 0] 0),(idE,.cells 1 [] 0)])))
  ls.length ([],[],[]) ⟨.nil,.nil,by simp,o.perm (by
   refine List.Perm.trans ?_ (List.Perm.swap _ _ _);exact .cons _ (.swap _ _ _))⟩ rfl ?_
 clear o
 rintro k ⟨ks,Xs,ob⟩ H hk ⟨hR,hnd,hin,o⟩;dsimp only at hR hnd hin o;refine tt ?_
 have hXl : Xs.length=ks.length:=by have:=hR.len; simpa [rulesOf] using this
 apply bk <;> intro h1
 ·have h1p:=of_decide h1
  have w:=wsucc (k:=k) (by omega);refine tt ?_;refine ⟨h1p, ?_⟩;refine nb o fun id11 H o=>?_
  generalize hr : ls.getD k default=r at *;refine tt ?_;refine sw o fun H o=>tt ?_;refine wk_ref 11 o rfl fun H o=>wkW_done ?_
  have hg : H.get idM=some (.map (ks.map iI) Xs):=o.h0;refine tt ?_;rw [hg];refine tt ?_;refine ⟨okKey_iI _ _, ?_⟩;rw [mget_iI hXl]
  by_cases hi : r.i∈ks
  ·have hlt : ks.idxOf r.i<ks.length:=List.idxOf_lt_length_iff.mpr hi
   obtain ⟨p,rest,h2,h3,h4⟩:=hR.split (ks.idxOf r.i) (by omega)
   have e1 : (Xs[ks.idxOf r.i]?).getD .nilsl=Xs.getD (ks.idxOf r.i) nv:=by simp [List.getD_eq_getElem?_getD,hXl,hlt]
   rw [e1]
   have o:=o.perm (List.Perm.cons _ (List.Perm.append_right _ h2)) |>.perm (l:=_) (r:=p++((idM,.map (ks.map iI) Xs)::(rest++_))) (by
    rw [List.append_assoc]; exact List.perm_middle.symm)
   have hAl : ((rulesOf ls k ks).getD (ks.idxOf r.i) []).length≤ls.length:=by
    simp [rulesOf,List.getD_eq_getElem?_getD,hlt];exact Nat.le_trans (List.length_filter_le _ _) (by rw [List.length_take]; omega)
   refine h3.app (f:=rlE) o r rfl (by simp only [maxL]; omega) fun idn H o=>?_
   generalize hA : (rulesOf ls k ks).getD (ks.idxOf r.i) []=A at *
   have hg : H.get idM=some (.map (ks.map iI) Xs):=o.tl.h0;refine tt ?_;rw [hg];refine tt ?_;rw [mput_iI _ _ hXl,if_pos hi];refine tw w ?_
   obtain ⟨ob',q1,q2⟩:=h4 (.buf idn (A++[r]).length) (A++[r]) [(idn,.cells 3 (flat ((A++[r]).map rlE)) 0)] (.inr ⟨idn,rfl,rfl⟩);refine ⟨okKey_iI _ _,for_next (ks,Xs.set (ks.idxOf r.i) (.buf idn (A++[r]).length),ob') h1p ⟨?_,hnd, ?_, ?_⟩ rfl⟩
   ·have:=rulesOf_in h1p (by rw [hr]; exact hi) hnd;rw [hr,hA] at this
    show LsRn 3 rlE _ (rulesOf ls (k+1) ks) ob'
    rw [this]; exact q1
   ·intro l hl;rw [take_succ_getD ls h1p,List.mem_append,List.mem_singleton,hr] at hl
    rcases hl with hl | rfl
    ·exact hin l hl
    ·exact hi
   ·exact (o.swap.put _).perm (.cons _ (by
     rw [← List.cons_append];exact List.Perm.append_right _ q2.symm))
  ·have hlt : ks.idxOf r.i=ks.length:=List.idxOf_eq_length hi
   have e1 : (Xs[ks.idxOf r.i]?).getD .nilsl=.nilsl:=by simp [hXl,hlt]
   rw [e1]
   have hN : LsPn 3 rlE [] .nilsl ([] : List Lk):=.inl ⟨rfl,rfl,rfl⟩;refine hN.app (f:=rlE) (by exact o) r rfl (by simp [maxL]) fun idn H o=>?_
   have hg : H.get idM=some (.map (ks.map iI) Xs):=o.tl.h0;refine tt ?_;rw [hg];refine tt ?_;rw [mput_iI _ _ hXl,if_neg hi];refine tw w ?_;refine ⟨okKey_iI _ _,for_next (ks++[r.i],Xs++[.buf idn ([]++[r]).length],ob++[(idn,.cells 3 (flat (([]++[r]).map rlE)) 0)]) h1p ⟨?_, ?_, ?_, ?_⟩ rfl⟩
   ·have:=rulesOf_out h1p (by rw [hr]; exact hi) hin;rw [hr] at this
    show LsRn 3 rlE _ (rulesOf ls (k+1) (ks++[r.i])) _
    rw [this]; exact hR.snoc (.inr ⟨idn,rfl,rfl⟩)
   ·rw [List.nodup_append];refine ⟨hnd,by simp,fun a ha b hb=>?_⟩;rw [List.mem_singleton] at hb;subst hb
    rintro rfl;exact hi ha
   ·intro l hl;rw [take_succ_getD ls h1p,List.mem_append,List.mem_singleton,hr] at hl
    show l.i∈ks++[r.i]
    rw [List.mem_append,List.mem_singleton]
    rcases hl with hl | rfl
    ·exact .inl (hin l hl)
    ·exact .inr rfl
   ·refine (o.swap.put _).perm (.cons _ ?_);rw [List.append_assoc];exact List.perm_middle.symm
 ·have h1p:=of_ndecide h1;refine tt ?_
  obtain rfl : k=ls.length:=by omega
  refine wk_map hR [] H (by exact o) fun H o=>wkW_done ?_;clear hR
  have hfc : (AV.fn (.func 249) [.ref idO 0,.ptr [.int .i64 most]]).cells=[.fn (.func 249) [.ref idO 0,.ptr [.int .i64 most]]]:=rfl
  have o:=Owns.pull [_] o;refine tw hfc ?_;refine st_cells2 o (by simp) (by simp) rfl (by simp only [memcons,memnil]; exact ⟨rfl,trivial⟩) fun H o=>?_;simp only [wr_cons,wr_nil,List.set_cons_zero,List.set_cons_succ] at o;rw [List.nil_append] at o;refine wk_dual2 9 4 (by simp) (by simp) o rfl fun H o=>wkW_done ?_;simp only [List.take_succ_cons,List.take_zero]
  have hM:=rulesOf_at (ls:=ls) (ks:=ks) (by simpa using hin)
  have hX : LsO iL H0 H ((idO,.cells 1 [.buf idE 0] 0)::(idL,.cells 1 ((List.replicate sizes.length (-1)).map iI) 0)::[(idM,.map (ks.map iI) ((rulesOf ls ls.length ks).map (mL rlE))),(idS,.cells 4 [iL sizes,AV.mref idM,AV.buf idL sizes.length,.fn (.func 249) [.ref idO 0,.ptr [.int .i64 most]]] 4)]) (.buf idE 0) [] :=
   .inr ⟨idE,rfl,o.perm (List.reverse_perm _).symm⟩
  clear o
  have hneg : ∀ i : Int,0≤i→i.toNat<sizes.length→ix (List.replicate sizes.length (-1)) i=-1:=fun i h0 h1=>by
   simp [ix,List.getD_eq_getElem?_getD,h1]
  refine tt ?_
  refine (solver_run B sizes ls hls hsl hbd hll _ _ hM most hmost idL idM idS idO _ (List.replicate sizes.length (-1)) rfl ⟨by simp,fun q hq=>.inl (by
   rw [List.length_replicate] at hq
   simp [List.getD_eq_getElem?_getD,hq])⟩ (fun l hl h0=>by
    have a:=hls.ok.i l hl;rw [hneg _ a.1 a.2] at h0; omega) H0 H _ (.buf idE 0) [] hX (by simp) (by simp)).mono ?_
  clear hX
  rintro r H ⟨X,rfl,hX⟩;rw [List.nil_append,List.length_nil,Nat.sub_zero] at hX;rw [List.length_nil,Nat.zero_add]
  have hso : exS sizes ls (List.replicate sizes.length (-1))=solS sizes ls:=rfl;rw [hso] at hX ⊢;refine tt ?_;refine rd_get hX.obj (by simp) ?_;refine tt ?_
  rcases hX with ⟨rfl,e,o⟩ | ⟨id,rfl,o⟩
  ·refine tt ?_;exact pure_ret (by rw [e]; rfl) o.sub
  ·refine tt ?_;refine fz_own o rfl fun H o=>tt ?_;exact pure_ret rfl o.sub
end Go.Proofs.Shf
namespace Go.Shf
open Go.AW
def lkAt (f : SF) (s : List Int) (i : Nat) (b : Int) : Lk:=⟨(i : Int),indexOf s (ix (ix f.shape.comp (s.getD i default)) b),ix f.acts b,natsL (ix (famSizes f s) (indexOf s (ix (ix f.shape.comp (s.getD i default)) b)))⟩
theorem lks_at (f : SF) (s : List Int) (i : Nat) : ((rowsAt f.shape s i f.shape.frm.length).map (lkOf f s))=(outs f.shape (ix f.shape.to (s.getD i default))).map (lkAt f s i):=by
 rw [rowsAt,outs,List.map_map,List.map_map]
 rfl
theorem lksTo_succ (f : SF) (s : List Int) (k : Nat) : (rowsTo f.shape s (k+1)).map (lkOf f s)=(rowsTo f.shape s k).map (lkOf f s)++(outs f.shape (ix f.shape.to (s.getD k default))).map (lkAt f s k):=by
 rw [rowsTo_succ,List.map_append,lks_at]
theorem lksId {f : SF} {x : Int} {s : List Int} (h : f.Shape) (hs : f.shape.Sieve x s) : LksId (famSizes f s) (famLinks f s):=by
 refine ⟨lksOk h hs,fun l hl=>?_,fun l hl y hy=>?_⟩
 ·obtain ⟨r,hr,rfl⟩:=List.mem_map.mp hl
  rfl
 ·obtain ⟨r,hr,rfl⟩:=List.mem_map.mp hl
  obtain ⟨i,hi,b,hb,e,rfl⟩:=mem_rowsOf.mp hr
  have hx:=sieve_idx h hs hi hb e
  have ha:=h.act b (by rw [h.al]; exact hb);simp only [lkOf,lkRow,List.getD_cons_zero,List.getD_cons_succ,ix_nat] at hy ⊢
  have h1:=ha.2 y hy
  have h3:=(fam_size h hs hx.1.2).1
  have e2 : ix (famSizes f s) (indexOf s (ix (ix f.shape.comp (s.getD i default)) b))=ix f.sizes (f.shape.to.getD b default):=by
   have h4:=hx.2.1;simp only [ix] at h3 h4 ⊢;rw [h3,h4]
   have h5:=hx.2.2;simp only [ix,Int.toNat_natCast] at h5;simp only [Int.toNat_natCast];rw [h5]
  simp only [ix,Int.toNat_natCast] at e2 h1 ⊢;rw [e2]; exact h1
end Go.Shf
namespace Go.Proofs.Shf
open Go.AW Go.Proofs Go.Shf
theorem rules_ok (B : Nat) (f : SF) (h : f.Shape) (x : Int) (s : List Int) (hs : f.shape.Sieve x s) : Pur Tryz.prog B 166 [.ptr f.cells,iL s] (.tup [iL (famSizes f s),mL rlE (famLinks f s)]):=by
 refine ⟨fun H0=>c166.go fun hfi=>?_⟩
 have hm:=h.is.1.m
 have hob:=h.is.1.o
 have htl:=h.is.1.tol
 have hsl:=h.sl
 have hal:=h.al
 have hsn:=hs.len;refine tt ?_;refine newBuf_own (.nil _) fun id7 H o=>tt ?_;refine newBuf_own o fun id8 H o=>tt ?_
 refine awp_for [0,1,6,18,19] (G:=Nat × Nat) (fun k g=>[(7,some (.buf g.1 k)),(8,some (.buf g.2 ((rowsTo f.shape s k).map (lkOf f s)).length)),(20,some (.int .i64 (k : Int)))])
  (fun k g H=>Owns H0 H [(g.2,.cells 3 (flat (((rowsTo f.shape s k).map (lkOf f s)).map rlE)) 0),(g.1,.cells 1 (((famSizes f s).take k).map iI) 0)]) s.length (id7,id8) o rfl ?_
 clear o
 rintro k ⟨id7,id8⟩ H hk o;dsimp only at o;refine tt ?_;apply bk <;> intro h1
 ·have h1p:=of_decide h1
  have w:=wsucc (k:=k) (by omega)
  have hsm:=hs.arr (mem_getD.mpr ⟨k,h1p,rfl⟩)
  have hto:=h.is.1.toObj hsm.1.2
  have hsk : ix f.sizes (ix f.shape.to (s.getD k default))=(famSizes f s).getD k default:=(fam_size h hs h1p).1.symm
  have hfl : (famSizes f s).length=s.length:=by simp [famSizes]
  refine tt ?_;refine ⟨h1p,⟨hsm.1.1,by omega⟩,⟨hto.1,by omega⟩, ?_⟩;rw [hsk];refine app_own (f:=iI) ((famSizes f s).getD k default) o.swap rfl (by rw [List.length_take]; omega) (by rw [List.length_take]; simp only [maxL]; omega) fun id7 H o=>?_;rw [← take_succ_getD _ (by omega)] at o ⊢;refine tt ?_;refine ⟨⟨hsm.1.1,by omega⟩, ?_⟩;refine (outOf_ok B f.shape _).go fun _=>?_
  generalize hL : outs f.shape (ix f.shape.to (s.getD k default))=L at *;refine tt ?_
  have hLl : L.length≤40:=by
   rw [← hL,outs,List.length_map];refine Nat.le_trans (List.length_filter_le _ _) ?_;rw [List.length_range]; omega
  have hMl:=rowsTo_len f.shape s k
  have hMl2 : ((rowsTo f.shape s k).map (lkOf f s)).length≤1600:=by
   rw [List.length_map];refine Nat.le_trans hMl (Nat.le_trans (Nat.mul_le_mul (show k≤40 by omega) hm) (by omega))
  generalize hM : (rowsTo f.shape s k).map (lkOf f s)=M at *
  have w2 : ((famSizes f s).take (k+1)).length=k+1:=by rw [List.length_take]; omega
  rw [w2]
  refine awp_for [0,1,6,7,9,10,18,19,20,49,50] (G:=Nat) (fun j g=>[(8,some (.buf g (M++(L.take j).map (lkAt f s k)).length)),(51,some (.int .i64 (j : Int)))])
   (fun j g H=>Owns H0 H [(g,.cells 3 (flat ((M++(L.take j).map (lkAt f s k)).map rlE)) 0),(id7,.cells 1 (((famSizes f s).take (k+1)).map iI) 0)]) L.length id8 (by simpa using o.swap) (by simp only [List.take_zero,List.map_nil,List.append_nil]; rfl) ?_
  clear o
  rintro j id8 H hj o
  replace o : Owns H0 H [(id8,.cells 3 (flat ((M++(L.take j).map (lkAt f s k)).map rlE)) 0),(id7,.cells 1 (((famSizes f s).take (k+1)).map iI) 0)]:=o;refine tt ?_;apply bk <;> intro h2
  ·have h2p:=of_decide h2
   have w3:=wsucc (k:=j) (by omega)
   have hLj : L.getD j default∈L:=mem_getD.mpr ⟨j,h2p,rfl⟩;rw [← hL] at hLj
   have hb:=mem_outs.mp hLj;rw [hL] at hb
   generalize hbv : L.getD j default=b at *;refine tt ?_;refine ⟨h2p, ?_⟩;rw [hbv]
   have hcl:=h.is.1.cl
   have hrw:=h.is.1.row (s.getD k default).toNat hsm.1.2;refine ⟨_,(catThen_ok B f.shape (s.getD k default) b ⟨hsm.1.1,by omega⟩ ⟨hb.1,by simp only [ix]; omega⟩).run,tt ?_⟩;refine ⟨_,(index_ok B s _).run,⟨hb.1,by omega⟩, ?_⟩
   have hcc : ∀ z : Int,(AV.int .i64 z).cells=[.int .i64 z]:=fun _=>rfl;simp only [hcc,wr_cons,wr_nil,List.set_cons_zero,List.set_cons_succ];refine ⟨by simp,⟨rfl,by simp only [memcons,memnil]; exact ⟨rfl,rfl,rfl,trivial⟩⟩, ?_⟩;refine app_ownN (f:=rlE) (lkAt f s k b) o rfl rfl (by simp only [List.length_append,List.length_map,List.length_take,maxL]; omega) fun id9 H o=>?_
   have e : (M++(L.take j).map (lkAt f s k))++[lkAt f s k b]=M++(L.take (j+1)).map (lkAt f s k):=by
    rw [take_succ_getD L h2p,hbv,List.map_append,← List.append_assoc]; rfl
   rw [e] at o ⊢;refine tw w3 ?_;exact for_next id9 h2p o rfl
  ·have h2p:=of_ndecide h2
   obtain rfl : j=L.length:=by omega
   have e:=lksTo_succ f s k;rw [hM,hL] at e;rw [List.take_length,← e] at o ⊢;refine tw w ?_;exact for_next (id7,id8) h1p o rfl
 ·have h1p:=of_ndecide h1
  obtain rfl : k=s.length:=by omega
  refine tt ?_;refine fz_own o.swap ?_ fun H o=>?_
  ·simp [famSizes]
  refine fz_ownN o rfl fun H o=>tt ?_;exact pure_ret (by rw [List.take_of_length_le (by simp [famSizes])]; rfl) o.sub
theorem families_ok (B : Nat) (f : SF) (h : f.Shape) (x : Int) (s : List Int) (hs : f.shape.Sieve x s) (most : Nat) (hmost : most≤1048576) :
  Pur Tryz.prog B 93 [.ptr f.cells,iL s,.int .i64 most] (.tup [iLL ((famS f s).take (most+1)),.bool (decide ((famS f s).length≤most))]):=by
 refine ⟨fun H0=>c93.go fun hfi=>?_⟩
 have hm:=h.is.1.m
 have hsn:=hs.len
 have hfl : (famSizes f s).length=s.length:=by simp [famSizes]
 refine tt ?_;refine (rules_ok B f h x s hs).go fun _=>tt ?_;refine (solve_ok B (famSizes f s) (famLinks f s) (lksId h hs) (by omega) (fun i hi=>?_) ?_ most hmost).go fun _=>?_
 ·have:=(fam_size h hs (i:=i) (by omega)).2.2;omega
 ·rw [famLinks,List.length_map];refine Nat.le_trans (rowsTo_len f.shape s s.length) (Nat.le_trans (Nat.mul_le_mul (show s.length≤40 by omega) hm) (by omega))
 refine tt ?_;exact pure_ret rfl (.refl _)
end Go.Proofs.Shf
namespace Go.Shf
open Go.AW Go.Proofs.Shf
abbrev kB : Int→AV:=AV.int .u8
instance : One kB:=⟨fun _=>rfl,fun _=>rfl⟩
def keyB (L : List (List Int)) : List Int:=L.flatMap fun l=>l.map IntKind.u8.wrap++[255]
def keyS (L : List (List Int)) : List UInt8:=(keyB L).map fun n=>UInt8.ofNat n.toNat
theorem keyB_snoc (L : List (List Int)) (l : List Int) : keyB (L++[l])=keyB L++l.map IntKind.u8.wrap++[255]:=by
 simp [keyB]
theorem keyB_app (A C : List (List Int)) : keyB (A++C)=keyB A++keyB C:=by simp [keyB]
theorem keyB_take_le (L : List (List Int)) (k : Nat) : (keyB (L.take k)).length≤(keyB L).length:=by
 have : keyB L=keyB (L.take k)++keyB (L.drop k):=by rw [← keyB_app,List.take_append_drop]
 rw [this,List.length_append]; omega
theorem keyB_len (L : List (List Int)) : L.length≤(keyB L).length:=by
 induction L with
 | nil=>simp
 | cons a L ih =>
  have : keyB (a::L)=keyB [a]++keyB L:=keyB_app [a] L;rw [this,List.length_append]
  have : 1≤(keyB [a]).length:=by simp [keyB]
  simp only [List.length_cons]; omega
theorem keyB_mem (L : List (List Int)) {k : Nat} (hk : k<L.length) : (keyB (L.take k)).length+(L.getD k default).length+1≤(keyB L).length:=by
 have h1:=keyB_take_le L (k+1);rw [take_succ_getD L hk,keyB_snoc] at h1;simp only [List.length_append,List.length_map,List.length_cons,List.length_nil] at h1;omega
def plS (L : List (List Int)) : Nat→List AV × List AV
 | 0=>([],[])
 | k+1=>mput (.str (keyS [L.getD k default])) (iI k) (plS L k).1 (plS L k).2
theorem mput_str (k x : AV) (hk : ∃ s,k=.str s) : ∀ (ks vs : List AV),(∀ a,a∈ks→∃ s,a=.str s)→∀ a,a∈(mput k x ks vs).1→∃ s,a=.str s
 | [],_,h,a,ha=>by simp [mput] at ha; subst ha; exact hk
 | b::ks,[],h,a,ha=>by simp [mput] at ha; subst ha; exact hk
 | b::ks,v::vs,h,a,ha=>by
  simp only [mput] at ha
  split at ha
  ·simp only [List.mem_cons] at ha
   rcases ha with rfl | ha
   ·exact hk
   ·exact h a (by simp [ha])
  ·simp only [List.mem_cons] at ha
   rcases ha with rfl | ha
   ·exact h a (by simp)
   ·exact mput_str k x hk ks vs (fun c hc=>h c (by simp [hc])) a ha
theorem plS_str (L : List (List Int)) : ∀ k a,a∈(plS L k).1→∃ s,a=.str s
 | 0,a,h=>by simp [plS] at h
 | k+1,a,h=>mput_str _ _ ⟨_,rfl⟩ _ _ (plS_str L k) a h
theorem okKey_plS (L : List (List Int)) (k : Nat) (s : List UInt8) : okKey 1 (.str s) (plS L k).1:=⟨rfl,fun a ha=>by obtain ⟨t,rfl⟩:=plS_str L k a ha; rfl⟩
end Go.Shf
namespace Go.Proofs.Shf
open Go.AW Go.Proofs Go.Shf
theorem key_ok (B : Nat) (L : List (List Int)) (hb : (keyB L).length≤1000000) : Pur Tryz.prog B 192 [iLL L] (.str (keyS L)):=by
 refine ⟨fun H0=>c192p.go fun hfi=>?_⟩
 have hL : L.length≤(keyB L).length:=keyB_len L;refine tt ?_;refine newBuf_own (.nil _) fun id3 H o=>tt ?_
 refine awp_for [9,10] (G:=Nat) (fun k g=>[(3,some (.buf g (keyB (L.take k)).length)),(11,some (.int .i64 (k : Int)))])
  (fun k g H=>Owns H0 H [(g,.cells 1 ((keyB (L.take k)).map kB) 0)]) L.length id3 o rfl ?_
 clear o
 rintro k id3 H hk o
 replace o : Owns H0 H [(id3,.cells 1 ((keyB (L.take k)).map kB) 0)]:=o;refine tt ?_;apply bk <;> intro h1
 ·have h1p:=of_decide h1
  have w:=wsucc (k:=k) (by omega);refine tt ?_;refine ⟨h1p, ?_⟩
  have hkm:=keyB_mem L h1p
  generalize hl : L.getD k default=l at *
  generalize hP : keyB (L.take k)=P at *
  have hP2 : keyB (L.take (k+1))=P++l.map IntKind.u8.wrap++[255]:=by rw [take_succ_getD L h1p,keyB_snoc,hP,hl]
  refine awp_for [9,10,11,15,16] (G:=Nat) (fun j g=>[(3,some (.buf g (P++(l.take j).map IntKind.u8.wrap).length)),(17,some (.int .i64 (j : Int)))])
   (fun j g H=>Owns H0 H [(g,.cells 1 ((P++(l.take j).map IntKind.u8.wrap).map kB) 0)]) l.length id3 (by simpa using o) (by simp only [List.take_zero,List.map_nil,List.append_nil]; rfl) ?_
  clear o
  rintro j id3 H hj o
  replace o : Owns H0 H [(id3,.cells 1 ((P++(l.take j).map IntKind.u8.wrap).map kB) 0)]:=o;refine tt ?_;apply bk <;> intro h2
  ·have h2p:=of_decide h2
   have w2:=wsucc (k:=j) (by omega);refine tt ?_;refine ⟨h2p, ?_⟩;refine app_own (f:=kB) (IntKind.u8.wrap (l.getD j default)) o rfl rfl (by simp only [List.length_append,List.length_map,List.length_take,maxL]; omega) fun id9 H o=>?_
   have e : (P++(l.take j).map IntKind.u8.wrap)++[IntKind.u8.wrap (l.getD j default)]=P++(l.take (j+1)).map IntKind.u8.wrap:=by
    rw [take_succ_getD l h2p,List.map_append,← List.append_assoc]; rfl
   rw [e] at o ⊢;refine tw w2 ?_;exact for_next id9 h2p o rfl
  ·have h2p:=of_ndecide h2
   obtain rfl : j=l.length:=by omega
   rw [List.take_length] at o ⊢;refine tt ?_;refine app_own (f:=kB) 255 o rfl rfl (by simp only [List.length_append,List.length_map,maxL]; omega) fun id9 H o=>?_;rw [← hP2] at o ⊢;refine tw w ?_;exact for_next id9 h1p o rfl
 ·have h1p:=of_ndecide h1
  obtain rfl : k=L.length:=by omega
  rw [List.take_length] at o ⊢;refine tt ?_;refine fz_own o rfl fun H o=>tt ?_
  have hb2 : b2sE (some (mL kB (keyB L)))=some (∀ e,e∈(keyB L).map kB→e.isByte=true,.str (keyS L)):=by
   rw [mL,b2sE_sl,List.map_map]; rfl
  rw [hb2];refine tt ?_;refine ⟨fun e he=>?_,pure_ret rfl o.sub⟩
  obtain ⟨n,_,rfl⟩:=List.mem_map.mp he
  rfl
theorem places_ok (B : Nat) (L : List (List Int)) (hl : L.length≤1000000) (hb : ∀ l,l∈L→l.length≤1000) : Pur Tryz.prog B 255 [iLL L] (.imap (plS L L.length).1 (plS L L.length).2):=by
 refine ⟨fun H0=>c255p.go fun hfi=>?_⟩;refine tt ?_;refine newMap_own (.nil _) fun id3 H o=>tt ?_
 refine awp_for [3,7,8] (G:=Unit) (fun k g=>[(9,some (.int .i64 (k : Int)))])
  (fun k g H=>Owns H0 H [(id3,.map (plS L k).1 (plS L k).2)]) L.length () o rfl ?_
 clear o
 rintro k _ H hk o
 replace o : Owns H0 H [(id3,.map (plS L k).1 (plS L k).2)]:=o;refine tt ?_;apply bk <;> intro h1
 ·have h1p:=of_decide h1
  have w:=wsucc (k:=k) (by omega);refine tt ?_;refine ⟨h1p, ?_⟩
  have hm : L.getD k default∈L:=mem_getD.mpr ⟨k,h1p,rfl⟩;refine (key_ok B [L.getD k default] (by have:=hb _ hm; simp [keyB]; simp only [List.getD_eq_getElem?_getD] at this; omega)).go fun _=>?_
  have hg : H.get id3=some (.map (plS L k).1 (plS L k).2):=o.h0;refine tt ?_;rw [hg];refine tt ?_;refine ⟨okKey_plS L k _, ?_⟩;refine tw w ?_;exact for_next () h1p (o.put _) rfl
 ·have h1p:=of_ndecide h1
  obtain rfl : k=L.length:=by omega
  refine tt ?_;refine wk_imap 3 o rfl fun H o=>wkW_done ?_;refine tt ?_;exact pure_ret rfl o.sub
end Go.Proofs.Shf
namespace Go.Shf
open Go.AW
structure Cov where
 shape : Cat
 sizes : List Int
 pulls : List (List Int)
 sieves : List (List (List Int))
 marks : List (List Bool)
@[go_sem] def Cov.cls (v : Cov) : List AV:=[iI v.shape.objs,iL v.shape.frm,iL v.shape.to,iL v.shape.idn,iLL v.shape.comp,iL v.sizes,iLL v.pulls,iLLL v.sieves]
@[go_sem] def Cov.cells (v : Cov) (cnt : AV) : List AV:=[.ptr v.cls,.ptr v.shape.cells,mL (mL AV.bool) v.marks,cnt]
def chkP (S : List (List Int)) (m : List Bool) (f : Int) (k : Nat) : Bool:=(List.range k).all fun n=>!(m.getD n default) || decide (f∈S.getD n default)
theorem chkP_succ (S : List (List Int)) (m : List Bool) (f : Int) (k : Nat) : chkP S m f (k+1)=(chkP S m f k && (!(m.getD k default) || decide (f∈S.getD k default))):=by
 simp [chkP,List.range_succ,List.all_append]
def leastM (v : Cov) (x : Nat) : List Int:=(outs v.shape x).filter fun f=>chkP (v.sieves.getD x default) (v.marks.getD x default) f (v.marks.getD x default).length
theorem filter_take_succ {α : Type} [Inhabited α] (p : α→Bool) (l : List α) {k : Nat} (hk : k<l.length) : (l.take (k+1)).filter p=(l.take k).filter p++if p (l.getD k default) then [l.getD k default] else []:=by
 have hN : l[k]=l.getD k default:=by simp [List.getD_eq_getElem?_getD,hk]
 have ht : l.take (k+1)=l.take k++[l.getD k default]:=by rw [← hN]; exact (List.take_append_getElem hk).symm
 rw [ht,List.filter_append]
 congr 1
 simp only [List.filter_cons,List.filter_nil]
end Go.Shf
namespace Go.Proofs.Shf
open Go.AW Go.Proofs Go.Shf
theorem leastM_ok (B : Nat) (v : Cov) (cnt : AV) (x : Nat) (hx : x<v.marks.length) (hs : x<v.sieves.length) (hl : (v.marks.getD x default).length≤(v.sieves.getD x default).length) (hm : v.shape.frm.length≤40) (hml : (v.marks.getD x default).length≤1000000) :
  Pur Tryz.prog B 254 [.ptr (v.cells cnt),.int .i64 x] (iL (leastM v x)):=by
 refine ⟨fun H0=>c254.go fun hfi=>?_⟩;refine tt ?_;refine newBuf_own (.nil _) fun id5 H o=>tt ?_
 have hLl : (outs v.shape x).length≤40:=by
  rw [outs,List.length_map];refine Nat.le_trans (List.length_filter_le _ _) ?_;rw [List.length_range]; omega
 refine (outOf_ok B v.shape x).go fun _=>?_
 generalize hL : outs v.shape x=L at *
 generalize hP : (fun f=>chkP (v.sieves.getD x default) (v.marks.getD x default) f (v.marks.getD x default).length)=P
 have hR : leastM v x=L.filter P:=by rw [leastM,hL,hP]
 rw [hR]
 generalize hM : v.marks.getD x default=M at *
 generalize hS : v.sieves.getD x default=S at *;refine tt ?_
 refine awp_for [0,1,17,18] (G:=Nat) (fun k g=>[(5,some (.buf g ((L.take k).filter P).length)),(19,some (.int .i64 (k : Int)))])
  (fun k g H=>Owns H0 H [(g,.cells 1 (((L.take k).filter P).map iI) 0)]) L.length id5 o rfl ?_
 clear o
 rintro k id5 H hk o
 replace o : Owns H0 H [(id5,.cells 1 (((L.take k).filter P).map iI) 0)]:=o;refine tt ?_;apply bk <;> intro h1
 ·have h1p:=of_decide h1
  have w:=wsucc (k:=k) (by omega);refine tt ?_;refine ⟨h1p, ?_⟩
  generalize hf : L.getD k default=f at *
  have hPf : P f=chkP S M f M.length:=by rw [← hP]
  refine ⟨hx, ?_⟩;rw [hM]
  refine awp_for [0,1,5,7,17,18,19,29,30] (G:=Unit) (fun j _=>[(8,some (.bool (chkP S M f j))),(31,some (.int .i64 (j : Int)))])
   (fun j _ H'=>H'=H) M.length () rfl rfl ?_
  rintro j _ H' hj rfl;refine tt ?_;apply bk <;> intro h2
  ·have h2p:=of_decide h2
   have w2:=wsucc (k:=j) (by omega)
   have hsc:=chkP_succ S M f j
   cases hc : chkP S M f j with
   | false =>
    rw [hc,Bool.false_and] at hsc;refine tt ?_;refine ⟨h2p, ?_⟩;refine tw w2 ?_;exact for_next () h2p rfl (by rw [hsc])
   | true =>
    rw [hc,Bool.true_and] at hsc
    cases hmk : M.getD j default with
    | false =>
     rw [hmk] at hsc;refine tw hmk ?_;refine ⟨h2p, ?_⟩;refine tw w2 ?_;exact for_next () h2p rfl (by rw [hsc]; rfl)
    | true =>
     rw [hmk] at hsc;refine tw hmk ?_;refine ⟨h2p,hs, ?_⟩;rw [hS];refine ⟨by omega, ?_⟩;refine (has_ok B (S.getD j default) f).go fun _=>?_
     have hdd : dec (f∈S.getD j default)=decide (f∈S.getD j default):=by
      by_cases e : f∈S.getD j default
      ·rw [dec_iff.mpr e,decide_eq_true e]
      ·rw [dec_niff.mpr e,decide_eq_false e]
     rw [hdd];refine tw w2 ?_;exact for_next () h2p rfl (by rw [hsc]; rfl)
  ·have h2p:=of_ndecide h2
   obtain rfl : j=M.length:=by omega
   rw [← hPf]
   have hfs:=filter_take_succ P L h1p;rw [hf] at hfs
   cases hPv : P f with
   | false =>
    refine tw w ?_;rw [hPv] at hfs;simp only [Bool.false_eq_true,if_false,List.append_nil] at hfs;rw [← hfs] at o ⊢;exact for_next id5 h1p o rfl
   | true =>
    refine tt ?_;rw [hPv] at hfs;simp only [if_true] at hfs;refine app_own (f:=iI) f o rfl rfl (by have:=List.length_filter_le P (L.take k); rw [List.length_take] at this; simp only [maxL]; omega) fun id9 H o=>?_;rw [← hfs] at o ⊢;refine tw w ?_;exact for_next id9 h1p o rfl
 ·have h1p:=of_ndecide h1
  obtain rfl : k=L.length:=by omega
  rw [List.take_length] at o ⊢;refine tt ?_;refine fz_own o rfl fun H o=>tt ?_;exact pure_ret rfl o.sub
end Go.Proofs.Shf
namespace Go.Shf
open Go.AW
theorem mput_new {k x : AV} : ∀ {ks vs : List AV},(∀ a,a∈ks→k.keq a=false)→vs.length=ks.length→mput k x ks vs=(ks++[k],vs++[x])
 | [],vs,_,h=>by
  have : vs=[]:=List.eq_nil_of_length_eq_zero h;subst this; rfl
 | b::ks,[],_,h=>by simp at h
 | b::ks,v::vs,h1,h=>by
  simp only [mput,h1 b (by simp),Bool.false_eq_true,if_false];rw [mput_new (fun a ha=>h1 a (by simp [ha])) (by simpa using h)]
  rfl
theorem mget_str : ∀ {ks : List (List UInt8)} {vs : List AV},vs.length=ks.length→∀ s,mget (.str s) (ks.map AV.str) vs=vs[ks.idxOf s]?
 | [],vs,h,i=>by
  have : vs=[]:=List.eq_nil_of_length_eq_zero h;subst this; rfl
 | k::ks,[],h,i=>by simp at h
 | k::ks,v::vs,h,i=>by
  simp only [List.map_cons,mget,AV.keq,decide_eq_true_eq,List.idxOf_cons]
  by_cases e : i=k
  ·subst e; simp
  ·have h2 : (k == i)=false:=by simpa using fun h=>e h.symm
   rw [if_neg e,mget_str (by simpa using h),h2]; simp
theorem keyS_inj {a b : List Int} (ha : ∀ y,y∈a→0≤y∧y<255) (hb : ∀ y,y∈b→0≤y∧y<255) (h : keyS [a]=keyS [b]) : a=b:=by
 have h1 : a.map (fun y=>UInt8.ofNat (IntKind.u8.wrap y).toNat)=b.map (fun y=>UInt8.ofNat (IntKind.u8.wrap y).toNat):=by
  simp only [keyS,keyB,List.flatMap_cons,List.flatMap_nil,List.append_nil,List.map_append,List.map_map] at h;exact List.append_cancel_right h
 have hw : ∀ y : Int,0≤y∧y<255→IntKind.u8.wrap y=y:=fun y hy=>by
  have e : y % 256=y:=by omega
  simp only [IntKind.wrap,IntKind.bits,IntKind.signed]
  simpa using e
 clear h
 induction a generalizing b with
 | nil=>cases b with
  | nil=>rfl
  | cons y b=>simp at h1
 | cons x a ih=>cases b with
  | nil=>simp at h1
  | cons y b =>
   simp only [List.map_cons,List.cons.injEq] at h1
   have hx:=ha x (by simp)
   have hy:=hb y (by simp);rw [hw x hx,hw y hy] at h1
   have e : x=y:=by
    have h2:=congrArg UInt8.toNat h1.1;simp only [UInt8.toNat_ofNat'] at h2;omega
   rw [e,ih (fun z hz=>ha z (by simp [hz])) (fun z hz=>hb z (by simp [hz])) h1.2]
theorem plS_eq {L : List (List Int)} (nd : L.Nodup) (hb : ∀ l,l∈L→∀ y,y∈l→0≤y∧y<255) : ∀ k,k≤L.length→plS L k=(((L.take k).map fun l=>keyS [l]).map AV.str,(List.range k).map fun i : Nat=>iI (i : Int)):=by
 intro k
 induction k with
 | zero=>intro _; rfl
 | succ k ih =>
  intro hk
  have hk : k<L.length:=by omega
  rw [plS,ih (by omega),mput_new]
  ·rw [Go.Proofs.Shf.take_succ_getD L hk,List.range_succ]; simp
  ·intro a ha;simp only [List.map_map,List.mem_map,Function.comp_apply] at ha
   obtain ⟨l,hl,rfl⟩:=ha;simp only [AV.keq,decide_eq_false_iff_not]
   intro e
   have hm : L.getD k default∈L:=mem_getD.mpr ⟨k,hk,rfl⟩
   have:=keyS_inj (hb _ hm) (hb _ (List.mem_of_mem_take hl)) e;rw [← this] at hl
   obtain ⟨j,hj,e2⟩:=mem_getD.mp hl;rw [List.length_take] at hj
   have e3 : L.getD j default=L.getD k default:=by
    rw [← e2]; simp [List.getD_eq_getElem?_getD,List.getElem?_take,show j<k by omega]
   have h1:=indexOf_nodup nd (k:=j) (by omega)
   have h2:=indexOf_nodup nd hk;rw [e3,h2] at h1;omega
  ·simp
   omega
theorem plS_get {L : List (List Int)} (nd : L.Nodup) (hb : ∀ l,l∈L→∀ y,y∈l→0≤y∧y<255) {m : List Int} (hm : m∈L) : mget (.str (keyS [m])) (plS L L.length).1 (plS L L.length).2=some (iI (indexOf L m)):=by
 obtain ⟨k,hk,rfl⟩:=mem_getD.mp hm;rw [plS_eq nd hb _ (Nat.le_refl _),List.take_length,mget_str (by simp),indexOf_nodup nd hk]
 have : (L.map fun l=>keyS [l]).idxOf (keyS [L.getD k default])=k:=by
  have hnd : (L.map fun l=>keyS [l]).Nodup:=by
   rw [List.Nodup,List.pairwise_map];refine List.Pairwise.imp_of_mem ?_ nd
   intro a b ha hb2 hne e;exact hne (keyS_inj (hb a ha) (hb b hb2) e)
  have hk2 : k<(L.map fun l=>keyS [l]).length:=by simpa using hk
  have:=hnd.idxOf_getElem k hk2
  simpa [List.getD_eq_getElem?_getD,hk] using this
 rw [this]
 simp [hk]
end Go.Shf
namespace Go.AW
theorem LsO.focus {α β : Type} {f : α→AV} {g : β→AV} {H0 H : Heap} {x : Nat × MObj} {p r : List (Nat × MObj)} {X Y : AV} {A : List α} {C : List β} (h : LsO f H0 H (x::(p++r)) X A) (hp : LsP g p Y C) :
  ∃ q,LsP f q X A∧LsO g H0 H (x::(r++q)) Y C:=by
 obtain ⟨q,o,hq⟩:=h.split;refine ⟨q,hq,LsO.mk (p:=p) (o.perm ?_) hp⟩
 have:=perm_cba q [x] p r;refine (by simpa using this : (q++x::(p++r)).Perm (p++x::(q++r))).trans ?_;exact List.Perm.append_left p (.cons _ List.perm_append_comm)
end Go.AW
namespace Go.Shf
open Go.AW
def plE (L : List (List Int)) : AV:=.imap (plS L L.length).1 (plS L L.length).2
instance : One plE:=⟨fun _=>rfl,fun _=>rfl⟩
def leastV (v : Cov) : List (List Int):=(List.range v.marks.length).map (leastM v)
end Go.Shf
namespace Go.Proofs.Shf
open Go.AW Go.Proofs Go.Shf
@[go_sem] noncomputable def stepVal (f : SF) (V : List (List Int)) : AV:=.ptr [.ptr f.cells,iI f.shape.objs,iL f.shape.frm,iL f.shape.to,iL f.shape.idn,iLL f.shape.comp,iL (stepSizes f V),iLL (stepActs f V),iLL V,iLLL (famsOf f V),mL plE (famsOf f V)]
open Classical in
noncomputable def stepOr (f : SF) (V : List (List Int)) : AV:=if StepFew f V then stepVal f V else .nilp
theorem step_ok (B : Nat) (v : Cov) (cnt : AV) (f : SF) (h : f.Shape) (hsh : v.shape=f.shape) (hml : (v.marks.length : Int)=f.shape.objs) (hsl : v.sieves.length=v.marks.length)
  (hms : ∀ x,x<v.marks.length→(v.marks.getD x default).length≤(v.sieves.getD x default).length∧(v.marks.getD x default).length≤1000000)
  (c : CovOk f.shape (leastV v)) : Pur Tryz.prog B 177 [.ptr (v.cells cnt),.ptr f.cells] (.tup [stepOr f (leastV v),.bool (dec (StepFew f (leastV v)))]):=by
 obtain ⟨c0,sz,pl,sv,mk⟩:=v
 obtain rfl : c0=f.shape:=hsh;refine ⟨fun H0=>c177p.go fun hfi=>?_⟩
 have hm:=h.is.1.m
 have hob:=h.is.1.o
 have htl:=h.is.1.tol
 have hfl:=h.sl
 have hal:=h.al;simp only at hml hsl hms
 generalize hv : (⟨f.shape,sz,pl,sv,mk⟩ : Cov)=v at c ⊢
 have hvm : v.marks=mk:=by rw [← hv]
 have hvs : v.shape=f.shape:=by rw [← hv]
 have hvv : v.sieves=sv:=by rw [← hv]
 have hVl : (leastV v).length=mk.length:=by simp [leastV,hvm]
 have hLx : ∀ x,x<mk.length→(leastV v).getD x default=leastM v x:=fun x hx=>by rw [leastV,getD_map_range _ _ (by rw [hvm]; exact hx)]
 generalize hV : leastV v=V at *
 have hvc : v.cells cnt=[.ptr v.cls,.ptr f.shape.cells,mL (mL AV.bool) mk,cnt]:=by rw [Cov.cells,hvs,hvm]
 generalize hcls : v.cls=cls at hvc;rw [hvc];refine tt ?_;refine (catCopy_ok B f.shape).go fun _=>tt ?_
 let st : AV→AV→AV→AV→AV→MObj:=fun x6 x7 x8 x9 x10=>.cells 11 [.ptr f.cells,iI f.shape.objs,iL f.shape.frm,iL f.shape.to,iL f.shape.idn,iLL f.shape.comp,x6,x7,x8,x9,x10] 0
 refine nb (.nil _) fun id7 H o=>tt ?_
 refine awp_for [0,1,6,7] (G:=(AV × AV × AV × AV) × List (Nat × MObj) × List (Nat × MObj) × List (Nat × MObj)) (fun k g=>[(8,some (.int .i64 (k : Int)))])
  (fun k g H=>LsO iL H0 H ((id7,st g.1.1 .nilsl g.1.2.1 g.1.2.2.1 g.1.2.2.2)::(g.2.1++(g.2.2.1++g.2.2.2))) g.1.2.1 (V.take k)∧LsP iLL g.2.1 g.1.2.2.1 ((List.range k).map (famAt f V)) ∧
   LsP plE g.2.2.1 g.1.2.2.2 ((List.range k).map (famAt f V))∧LsP iI g.2.2.2 g.1.1 ((List.range k).map (sizeAt f V))∧∀ x,x<k→(famAt f V x).length≤16)
  f.shape.objs.toNat ((.nilsl,.nilsl,.nilsl,.nilsl),[],[],[]) ⟨.inl ⟨rfl,rfl,o⟩,.inl ⟨rfl,rfl,rfl⟩,.inl ⟨rfl,rfl,rfl⟩,.inl ⟨rfl,rfl,rfl⟩,by simp⟩ rfl ?_
 clear o
 rintro k ⟨⟨X6,X8,X9,X10⟩,p9,p10,p6⟩ H hk ⟨hX,h9,h10,h6,hall⟩;dsimp only at hX h9 h10 h6;refine tt ?_;apply bk <;> intro h1
 ·have h1p:=of_decide h1
  have hkm : k<mk.length:=by omega
  have w:=wsucc (k:=k) (by omega);refine tt ?_
  have hk2:=hms k hkm;rw [← hvm,← hvv] at hk2
  have hcv : AV.ptr [.ptr cls,.ptr f.shape.cells,mL (mL AV.bool) mk,cnt]=.ptr (v.cells cnt):=by rw [hvc]
  refine (show Pur Tryz.prog B 254 [.ptr [.ptr cls,.ptr f.shape.cells,mL (mL AV.bool) mk,cnt],.int .i64 k] (iL (leastM v k)) from by
   rw [hcv]; exact leastM_ok B v cnt k (by rw [hvm]; exact hkm) (by rw [hvv]; omega) hk2.1 (by rw [hvs]; exact hm) hk2.2).go fun _=>?_
  rw [← hLx k hkm];refine tt ?_;refine (families_ok B f h k (V.getD k default) (c.sv k (by omega)) 16 (by omega)).go fun _=>?_
  have hfa : famS f (V.getD k default)=famAt f V k:=rfl;rw [hfa]
  generalize hF : famAt f V k=F at *;refine tt ?_;apply bk <;> intro h2
  ·refine tt ?_
   have h2p : 16<F.length:=by simpa using h2
   have hno : ¬ StepFew f V:=fun e=>by have:=e k (by omega); rw [hF] at this; omega
   have hsub : H0.sub H:=by obtain ⟨_,oo,_⟩:=hX.split; exact oo.sub
   refine pure_ret ?_ hsub;rw [stepOr,if_neg hno,dec_f hno]
  ·have h2p : F.length≤16:=by simpa using h2
   have htk : F.take 17=F:=List.take_of_length_le (by omega);rw [htk];refine tt ?_;refine rd_get hX.obj (by simp [st]) ?_;refine tt ?_;refine hX.app (V.getD k default) rfl (by rw [List.length_take]; simp only [maxL]; omega) fun idn H o=>?_;rw [← take_succ_getD V (by omega)] at o ⊢;refine tt ?_;refine sw o.swap fun H o=>?_
   have hX : LsO iL H0 H ((id7,st X6 .nilsl (.buf idn (V.take (k+1)).length) X9 X10)::(p9++(p10++p6))) (.buf idn (V.take (k+1)).length) (V.take (k+1)):=.inr ⟨idn,rfl,o.swap⟩
   generalize (AV.buf idn (V.take (k+1)).length)=X8 at hX;clear o
   obtain ⟨p8,h8,hX⟩:=hX.focus h9;refine tt ?_;refine rd_get hX.obj (by simp [st]) ?_;refine tt ?_
   obtain ⟨Fk,hFk⟩ : ∃ Fk,Fk=(List.range (k+1)).map (famAt f V):=⟨_,rfl⟩
   obtain ⟨Sk,hSk⟩ : ∃ Sk,Sk=(List.range (k+1)).map (sizeAt f V):=⟨_,rfl⟩
   have e9 : (List.range k).map (famAt f V)++[F]=Fk:=by rw [hFk,List.range_succ,List.map_append,← hF]; rfl
   have e6 : (List.range k).map (sizeAt f V)++[(F.length : Int)]=Sk:=by
    rw [hSk,List.range_succ,List.map_append,← hF]; rfl
   have hsk:=c.sv k (by omega)
   have hsn:=hsk.len;rw [List.append_assoc] at hX;refine hX.app F rfl (by simp only [List.length_map,List.length_range,maxL]; omega) fun idn H o=>?_;rw [e9] at o ⊢;refine tt ?_;refine sw o.swap fun H o=>?_
   have hX : LsO iLL H0 H ((id7,st X6 .nilsl X8 (.buf idn Fk.length) X10)::(p10++(p6++p8))) (.buf idn Fk.length) Fk:=.inr ⟨idn,rfl,o.swap⟩
   generalize (AV.buf idn Fk.length)=X9 at hX;clear o
   obtain ⟨p9,h9,hX⟩:=hX.focus h10;rw [List.append_assoc] at hX;refine tt ?_;refine rd_get hX.obj (by simp [st]) ?_;refine tt ?_;refine ⟨_,(places_ok B F (by omega) fun l hl=>?_).run, ?_⟩
   ·rw [← hF] at hl
    have:=(((famS_is h hsk).mem l).mp hl).len;omega
   refine tt ?_;refine ⟨⟨rfl,fun c hc=>by cases List.mem_singleton.mp hc; rfl⟩, ?_⟩;refine hX.app (f:=plE) F rfl (by simp only [List.length_map,List.length_range,maxL]; omega) fun idn H o=>?_;rw [e9] at o ⊢;refine tt ?_;refine sw o.swap fun H o=>?_
   have hX : LsO plE H0 H ((id7,st X6 .nilsl X8 X9 (.buf idn Fk.length))::(p6++(p8++p9))) (.buf idn Fk.length) Fk:=.inr ⟨idn,rfl,o.swap⟩
   generalize (AV.buf idn Fk.length)=X10 at hX;clear o
   obtain ⟨p10,h10,hX⟩:=hX.focus h6;rw [List.append_assoc] at hX;refine tt ?_;refine rd_get hX.obj (by simp [st]) ?_;refine tt ?_;refine hX.app (F.length : Int) rfl (by simp only [List.length_map,List.length_range,maxL]; omega) fun idn H o=>?_;rw [e6] at o ⊢;refine tt ?_;refine sw o.swap fun H o=>?_
   have hX : LsO iI H0 H ((id7,st (.buf idn Sk.length) .nilsl X8 X9 X10)::(p8++(p9++p10))) (.buf idn Sk.length) Sk:=.inr ⟨idn,rfl,o.swap⟩
   generalize (AV.buf idn Sk.length)=X6 at hX;clear o
   obtain ⟨p6,h6,hX⟩:=hX.focus h8;rw [List.append_assoc] at hX;rw [hFk] at h9 h10;rw [hSk] at h6;refine tw w ?_;refine for_next ((X6,X8,X9,X10),p9,p10,p6) (by omega) ⟨hX,h9,h10,h6,fun x hx=>?_⟩ rfl
   by_cases e : x=k
   ·subst e; rw [hF]; exact h2p
   ·exact hall x (by omega)
 ·have h1p:=of_ndecide h1;refine tt ?_
  have hkn : k=V.length:=by omega
  have hfew : StepFew f V:=fun x hx=>hall x (by omega);rw [stepOr,if_pos hfew,dec_t hfew]
  have hVk : V.take k=V:=List.take_of_length_le (by omega);rw [hVk] at hX
  have hFk : (List.range k).map (famAt f V)=famsOf f V:=by rw [hkn]; rfl
  have hSk : (List.range k).map (sizeAt f V)=stepSizes f V:=by rw [hkn]; rfl
  rw [hFk] at h9 h10;rw [hSk] at h6;refine wk_ls 8 hX rfl fun H o=>?_;clear hX;simp only [List.set_cons_zero,List.set_cons_succ] at o
  have hX:=LsO.mk (o.perm List.perm_middle.symm) h9;clear o;refine wk_ls 9 hX rfl fun H o=>?_;clear hX;simp only [List.set_cons_zero,List.set_cons_succ] at o
  have hX:=LsO.mk (o.perm List.perm_middle.symm) h10;clear o;refine wk_ls 10 hX rfl fun H o=>?_;clear hX;simp only [List.set_cons_zero,List.set_cons_succ] at o
  have hX:=LsO.mk (p:=p6) (l:=[_]) (o.perm (List.perm_append_singleton _ _).symm) h6;clear o;refine wk_ls 6 hX rfl fun H o=>wkW_done ?_;clear hX;simp only [List.set_cons_zero,List.set_cons_succ] at o
  generalize hst : st=st2;clear hall h9 h10 h6 hst st2 st
  let st : AV→MObj:=fun x7=>.cells 11 [.ptr f.cells,iI f.shape.objs,iL f.shape.frm,iL f.shape.to,iL f.shape.idn,iLL f.shape.comp,iL (stepSizes f V),x7,iLL V,iLLL (famsOf f V),mL plE (famsOf f V)] 0
  refine tt ?_
  refine awp_for [6,7,98] (G:=AV) (fun a g=>[(99,some (.int .i64 (a : Int)))])
   (fun a X H=>LsO iL H0 H [(id7,st X)] X ((List.range a).map (actAt f V))) f.shape.frm.length .nilsl (.inl ⟨rfl,rfl,o⟩) rfl ?_
  clear o
  rintro a X H ha hX
  replace hX : LsO iL H0 H [(id7,st X)] X ((List.range a).map (actAt f V)):=hX;refine tt ?_;apply bk <;> intro h2
  ·have h2p:=of_decide h2
   have w2:=wsucc (k:=a) (by omega)
   have haa : 0≤(a : Int)∧(a : Int).toNat<f.shape.frm.length:=⟨by omega,by simpa using h2p⟩
   have hfo:=h.is.1.frmObj haa.2
   have hto:=h.is.1.toObj haa.2;simp only [ix_nat] at hfo hto
   obtain ⟨q,o,hq⟩:=hX.split;clear hX;refine tt ?_;refine ⟨h2p,by omega, ?_⟩;refine new_list iI o fun idr H o=>tt ?_
   have hF0 : ix (famsOf f V) (f.shape.frm.getD a default)=famAt f V (f.shape.frm.getD a default).toNat:=by rw [ix,famsOf,getD_map_range _ _ (by omega)]
   have hF1 : ix (famsOf f V) (f.shape.to.getD a default)=famAt f V (f.shape.to.getD a default).toNat:=by rw [ix,famsOf,getD_map_range _ _ (by omega)]
   have hfl2 : (famsOf f V).length=V.length:=by simp [famsOf]
   have hfs0 : (famAt f V (f.shape.frm.getD a default).toNat).length≤16:=hfew _ (by omega)
   have hv0:=c.frm h.is haa
   have hv1:=c.to h.is haa;simp only [ix_nat] at hv0 hv1
   have hl1:=hv1.len
   have hact : actAt f V a=(famAt f V (f.shape.frm.getD a default).toNat).map fun t=>indexOf (famAt f V (f.shape.to.getD a default).toNat) (movedF f.shape V a t):=rfl
   have hm0 : ∀ t,t∈famAt f V (f.shape.frm.getD a default).toNat→Fam f (ix V (f.shape.frm.getD a default)) t:=fun t ht=>((famS_is h hv0).mem t).mp ht
   have hm1 : ∀ t,t∈famAt f V (f.shape.to.getD a default).toNat↔Fam f (ix V (f.shape.to.getD a default)) t:=fun t=>(famS_is h hv1).mem t
   have hnd1 : (famAt f V (f.shape.to.getD a default).toNat).Nodup:=(famS_is h hv1).nodup
   have hmv : ∀ t,t∈famAt f V (f.shape.frm.getD a default).toNat→movedF f.shape V a t∈famAt f V (f.shape.to.getD a default).toNat:=fun t ht=>by
    rw [hm1]
    have:=moved_fam h c haa (t:=t) (by simp only [ix_nat]; exact hm0 t ht)
    simpa only [ix_nat] using this
   have hent : ∀ t,t∈famAt f V (f.shape.to.getD a default).toNat→∀ y,y∈t→0≤y∧y<255:=fun t ht y hy=>by
    have hft:=(hm1 t).mp ht
    obtain ⟨j,hj,rfl⟩:=mem_getD.mp hy
    have hj2 : j<(ix V (f.shape.to.getD a default)).length:=by rw [← hft.len]; exact hj
    have h1:=hft.ran j hj2
    have h2:=(fam_size h hv1 (i:=j) hj2);rw [h2.1] at h2;omega
   have hg7 : H.get id7=some (st X):=o.get (id7,st X) (by simp);refine rd_get hg7 (by simp [st]) ?_;refine tt ?_;refine ⟨⟨hfo.1,by omega⟩, ?_⟩;rw [hF0]
   generalize hF0v : famAt f V (f.shape.frm.getD a default).toNat=F0 at *
   generalize hF1v : famAt f V (f.shape.to.getD a default).toNat=F1 at *
   refine awp_for [6,7,12,13,14,98,99,123,124] (G:=Nat × List Int) (fun i g=>[(15,some (.buf g.1 g.2.length)),(125,some (.int .i64 (i : Int)))])
    (fun i g H=>g.2=(F0.take i).map (fun t=>indexOf F1 (movedF f.shape V a t))∧Owns H0 H ((g.1,.cells 1 (g.2.map iI) 0)::(q++[(id7,st X)]))) F0.length (idr,[]) ⟨by simp,o⟩ rfl ?_
   clear o hg7
   rintro i ⟨idr,row⟩ H hi ⟨hrow,o⟩;dsimp only at hrow o
   have hrl : row.length=i:=by rw [hrow,List.length_map,List.length_take]; omega
   refine tt ?_;apply bk <;> intro h3
   ·have h3p:=of_decide h3
    have w3:=wsucc (k:=i) (by omega);refine tt ?_;refine ⟨h3p, ?_⟩;refine new_list iI o fun idm H o=>?_
    have hg7 : H.get id7=some (st X):=o.get (id7,st X) (by simp);refine tt ?_;refine rd_get hg7 (by simp [st]) ?_;refine tt ?_;refine ⟨⟨hto.1,by omega⟩, ?_⟩
    have hTm : F0.getD i default∈F0:=mem_getD.mpr ⟨i,h3p,rfl⟩
    generalize hT : F0.getD i default=T at *
    have hTf:=hm0 T hTm
    generalize hW : ix V (f.shape.to.getD a default)=W at *
    generalize hU : ix V (f.shape.frm.getD a default)=U at *
    have hWs : f.shape.Sieve (f.shape.to.getD a default) W:=hv1
    have hUs : f.shape.Sieve (f.shape.frm.getD a default) U:=hv0
    have hWl:=hWs.len
    have hTl:=hTf.len
    refine awp_for [6,7,12,13,14,15,17,98,99,123,124,125,136,137] (G:=Nat × List Int) (fun n g=>[(18,some (.buf g.1 g.2.length)),(138,some (.int .i64 (n : Int)))])
     (fun n g H=>g.2=(W.take n).map (fun b=>ix T (indexOf U (ix (ix f.shape.comp a) b)))∧Owns H0 H ((g.1,.cells 1 (g.2.map iI) 0)::(idr,.cells 1 (row.map iI) 0)::(q++[(id7,st X)]))) W.length (idm,[]) ⟨by simp,o⟩ rfl ?_
    clear o hg7
    rintro n ⟨idm,mv⟩ H hnn ⟨hmvv,o⟩;dsimp only at hmvv o
    have hml2 : mv.length=n:=by rw [hmvv,List.length_map,List.length_take]; omega
    have hg7 : H.get id7=some (st X):=o.get (id7,st X) (by simp);refine tt ?_;apply bk <;> intro h4
    ·have h4p:=of_decide h4
     have w4:=wsucc (k:=n) (by omega);refine tt ?_
     have hb : W.getD n default∈W:=mem_getD.mpr ⟨n,h4p,rfl⟩
     have hbv:=hWs.arr hb
     have hst:=c.st a haa (W.getD n default) (by simp only [ix_nat]; rw [hW]; exact hb);simp only [ix_nat] at hst;rw [hU] at hst
     have hin:=indexOf_in hst
     have hrow:=h.is.1.row' (a:=(a : Int)) haa.2;simp only [ix_nat] at hrow;refine ⟨h4p, ?_⟩;refine rd_get hg7 (by simp [st]) ?_;refine tt ?_;refine ⟨⟨hfo.1,by omega⟩, ?_⟩;rw [hU];refine ⟨_,(catThen_ok B f.shape a (W.getD n default) ⟨by omega,by rw [h.is.1.cl]; exact haa.2⟩ ⟨hbv.1.1,by rw [ix_nat]; omega⟩).run,tt ?_⟩;refine ⟨_,(index_ok B U _).run,tt ?_⟩;try simp only [ix_nat] at hin
     refine ⟨⟨hin.1,by omega⟩, ?_⟩;refine app_own (f:=iI) (ix T (indexOf U (ix (ix f.shape.comp a) (W.getD n default)))) o (by simp only [ix_nat]) rfl (by simp only [maxL]; omega) fun idm H o=>?_;refine tw w4 ?_;exact for_next (_,_) (by omega) ⟨by rw [take_succ_getD W h4p,List.map_append,hmvv]; rfl,o⟩ rfl
    ·have h4p:=of_ndecide h4
     obtain rfl : n=W.length:=by omega
     rw [List.take_length] at hmvv
     have hmv2 : mv=movedF f.shape V a T:=by
      rw [hmvv,movedF];simp only [ix_nat];rw [hW,hU]
     refine tt ?_;refine fz_own o rfl fun H o=>?_
     have hg7 : H.get id7=some (st X):=o.get (id7,st X) (by simp);refine tt ?_;refine rd_get hg7 (by simp [st]) ?_;refine tt ?_;refine ⟨⟨hto.1,by omega⟩,_,(key_ok B [mv] (by simp [keyB]; omega)).run, ?_⟩;rw [hF1];simp only [plE];refine tt ?_;refine ⟨okKey_plS _ _ _, ?_⟩
     have hmm:=hmv T hTm;rw [← hmv2] at hmm;rw [plS_get hnd1 hent hmm];simp only [Option.getD_some];refine ⟨⟨rfl,fun c hc=>by cases List.mem_singleton.mp hc; rfl⟩, ?_⟩;refine app_own (f:=iI) (indexOf F1 mv) o rfl rfl (by simp only [maxL]; omega) fun idr H o=>?_;refine tw w3 ?_;exact for_next (_,_) (by omega) ⟨by rw [take_succ_getD F0 h3p,List.map_append,hT,hrow,hmv2]; rfl,o⟩ rfl
   ·have h3p:=of_ndecide h3
    obtain rfl : i=F0.length:=by omega
    rw [List.take_length,← hact] at hrow;refine tt ?_;refine fz_own o rfl fun H o=>tt ?_
    have hX : LsO iL H0 H [(id7,st X)] X ((List.range a).map (actAt f V)):=LsO.mk o hq;clear o;refine rd_get hX.obj (by simp [st]) ?_;refine tt ?_;refine hX.app row rfl (by simp only [List.length_map,List.length_range,maxL]; omega) fun idn H o=>tt ?_;refine sw o.swap fun H o=>?_
    have e7 : (List.range a).map (actAt f V)++[row]=(List.range (a+1)).map (actAt f V):=by rw [List.range_succ,List.map_append,hrow]; rfl
    have hX : LsO iL H0 H [(id7,st (.buf idn ((List.range a).map (actAt f V)++[row]).length))] (.buf idn ((List.range a).map (actAt f V)++[row]).length) ((List.range a).map (actAt f V)++[row]):=.inr ⟨idn,rfl,o.swap⟩
    generalize (AV.buf idn ((List.range a).map (actAt f V)++[row]).length)=X7 at hX;rw [e7] at hX;refine tw w2 ?_;exact for_next X7 (by omega) hX rfl
  ·have h2p:=of_ndecide h2
   obtain rfl : a=f.shape.frm.length:=by omega
   refine tt ?_;refine wk_ls 7 hX rfl fun H o=>?_;simp only [List.set_cons_zero,List.set_cons_succ] at o;refine wk_ref 7 o rfl fun H o=>wkW_done ?_;refine tt ?_;exact pure_ret rfl o.sub
end Go.Proofs.Shf
namespace Go.Shf
open Go.AW
noncomputable def unitAt (f : SF) (V : List (List Int)) (x : Nat) : List Int:=((List.range (ix f.sizes x).toNat).map Int.ofNat).map fun e=>indexOf (famAt f V x) (imgs f (V.getD x default) e)
noncomputable def unitS (f : SF) (V : List (List Int)) : List (List Int):=(List.range f.sizes.length).map (unitAt f V)
end Go.Shf
namespace Go.Proofs.Shf
open Go.AW Go.Proofs Go.Shf
theorem unit_ok (B : Nat) (f : SF) (h : f.Shape) (hc : f.CompL) (V : List (List Int)) (c : CovOk f.shape V) (hfew : StepFew f V) : Pur Tryz.prog B 180 [stepVal f V] (iLL (unitS f V)):=by
 refine ⟨fun H0=>c180p.go fun hfi=>?_⟩
 have hm:=h.is.1.m
 have hob:=h.is.1.o
 have htl:=h.is.1.tol
 have hfl:=h.sl
 have hal:=h.al
 have hvl:=c.len;refine tt ?_;refine new_list iL (.nil _) fun id3 H o=>tt ?_
 refine awp_for [0,15,16] (G:=Nat) (fun k g=>[(3,some (.buf g k)),(17,some (.int .i64 (k : Int)))])
  (fun k g H=>Owns H0 H [(g,.cells 1 (((List.range k).map (unitAt f V)).map iL) 0)]) f.sizes.length id3 o rfl ?_
 clear o
 rintro k id3 H hk o
 replace o : Owns H0 H [(id3,.cells 1 (((List.range k).map (unitAt f V)).map iL) 0)]:=o;refine tt ?_;apply bk <;> intro h1
 ·have h1p:=of_decide h1
  have w:=wsucc (k:=k) (by omega)
  have hsv:=c.sv k (by omega)
  have hsn:=hsv.len
  have hsz:=h.sizeAt (y:=(k : Int)) (by omega)
  have hixk : ix f.sizes k=f.sizes.getD k default:=by simp only [ix_nat]
  have hfk : (famsOf f V).getD k default=famAt f V k:=by rw [famsOf,getD_map_range _ _ (by omega)]
  have hfkl : (famAt f V k).length≤16:=hfew k (by omega)
  have hfll : (famsOf f V).length=V.length:=by simp [famsOf]
  refine tt ?_;refine ⟨h1p, ?_⟩;refine new_list iI o fun id6 H o=>tt ?_;rw [hixk] at hsz
  refine awp_for [0,3,4,15,16,17,23] (G:=Nat × List Int) (fun e g=>[(6,some (.buf g.1 g.2.length)),(24,some (.int .i64 (e : Int)))])
   (fun e g H=>g.2=((List.range e).map Int.ofNat).map (fun e=>indexOf (famAt f V k) (imgs f (V.getD k default) e))∧Owns H0 H [(g.1,.cells 1 (g.2.map iI) 0),(id3,.cells 1 (((List.range k).map (unitAt f V)).map iL) 0)]) (f.sizes.getD k default).toNat (id6,[]) ⟨rfl,o⟩ rfl ?_
  clear o
  rintro e ⟨id6,row⟩ H he ⟨hrow,o⟩;dsimp only at hrow o
  have hrl : row.length=e:=by rw [hrow]; simp
  refine tt ?_;apply bk <;> intro h2
  ·have h2p:=of_decide h2
   have w2:=wsucc (k:=e) (by omega)
   have hee : (0 : Int)≤(e : Int)∧(e : Int)<ix f.sizes (k : Int):=by rw [hixk]; omega
   have hfam:=imgs_fam h hc hsv hee
   have hmem : imgs f (V.getD k default) e∈famAt f V k:=((famS_is h hsv).mem _).mpr hfam
   have hnd : (famAt f V k).Nodup:=(famS_is h hsv).nodup
   have hent : ∀ t,t∈famAt f V k→∀ y,y∈t→0≤y∧y<255:=fun t ht y hy=>by
    have hft:=((famS_is h hsv).mem t).mp ht
    obtain ⟨j,hj,rfl⟩:=mem_getD.mp hy
    have hj2 : j<(V.getD k default).length:=by rw [← hft.len]; exact hj
    have h1:=hft.ran j hj2
    have h2:=(fam_size h hsv (i:=j) hj2);rw [h2.1] at h2;omega
   have hil : (imgs f (V.getD k default) e).length=(V.getD k default).length:=by simp [imgs]
   refine tt ?_;refine ⟨by omega,by omega,_,(restricted_ok B f (V.getD k default) e (fun a ha=>?_) (by omega) (fun a ha=>?_)).run,⟨rfl,fun c hc=>by cases List.mem_singleton.mp hc; rfl⟩, ?_⟩
   ·have:=hsv.arr ha; omega
   ·have hv:=hsv.arr ha
    have h1:=h.actLen hv.1.2;rw [hv.2,hixk] at h1;omega
   refine ⟨_,(key_ok B [imgs f (V.getD k default) e] (by simp only [keyB,List.flatMap_cons,List.flatMap_nil,List.append_nil,List.length_append,List.length_map,List.length_cons,List.length_nil]; omega)).run, ?_⟩;rw [hfk];simp only [plE];refine tt ?_;refine ⟨okKey_plS _ _ _, ?_⟩;rw [plS_get hnd hent hmem];simp only [Option.getD_some];refine ⟨⟨rfl,fun c hc=>by cases List.mem_singleton.mp hc; rfl⟩, ?_⟩;refine app_own (f:=iI) (indexOf (famAt f V k) (imgs f (V.getD k default) e)) o rfl rfl (by simp only [maxL]; omega) fun id9 H o=>?_
   have e8 : row++[indexOf (famAt f V k) (imgs f (V.getD k default) e)]=((List.range (e+1)).map Int.ofNat).map (fun e=>indexOf (famAt f V k) (imgs f (V.getD k default) e)):=by
    rw [hrow,List.range_succ]; simp
   refine tw w2 ?_;exact for_next (_,_) (by omega) ⟨e8,o⟩ rfl
  ·have h2p:=of_ndecide h2
   have hee : e=(f.sizes.getD k default).toNat:=by omega
   have hrow2 : row=unitAt f V k:=by rw [hrow,hee,unitAt,ix_nat]
   refine tt ?_;refine fz_own o rfl fun H o=>tt ?_;refine app_own (f:=iL) row o rfl (by simp) (by simp only [List.length_map,List.length_range,maxL]; omega) fun id9 H o=>?_
   have e7 : (List.range k).map (unitAt f V)++[row]=(List.range (k+1)).map (unitAt f V):=by rw [List.range_succ,List.map_append,hrow2]; rfl
   rw [e7] at o ⊢;refine tw w ?_;exact for_next id9 (by omega) o (by simp)
 ·have h1p:=of_ndecide h1
  obtain rfl : k=f.sizes.length:=by omega
  refine tt ?_;refine fz_own o (by simp) fun H o=>tt ?_;exact pure_ret rfl o.sub
end Go.Proofs.Shf
namespace Go.Shf
open Go.AW
@[go_sem] def clsCells (c : Cat) (S : List (List (List Int))) (sz : AV) (pl : AV) : List AV:=[iI c.objs,iL c.frm,iL c.to,iL c.idn,iLL c.comp,sz,pl,iLLL S]
def Cov.mark (v : Cov) (x : Int) (s : List Int) : Bool:=(ix v.marks x).getD (indexOf (ix v.sieves x) s).toNat default
end Go.Shf
namespace Go.Proofs.Shf
open Go.AW Go.Proofs Go.Shf
theorem number_ok (B : Nat) (c : Cat) (S : List (List (List Int))) (sz pl : AV) (x : Int) (hx : 0≤x∧x.toNat<S.length) (s : List Int) : Pur Tryz.prog B 312 [.ptr (clsCells c S sz pl),.int .i64 x,iL s] (.int .i64 (indexOf (ix S x) s)):=by
 refine ⟨fun H0=>c312.go fun hfi=>?_⟩;refine tt ?_;refine ⟨hx, ?_⟩;refine (indexFunc_ok B (ix S x) 326 [.ptr [iL s]] (fun t=>dec (s=t)) fun t _=>(same1_ok B s t).run).go fun _=>?_;rw [findIdx_same];refine tt ?_;exact pure_ret rfl (.refl _)
theorem isM_ok (B : Nat) (v : Cov) (cnt : AV) (x : Int) (s : List Int) (hx : 0≤x∧x.toNat<v.sieves.length) (hm : x.toNat<v.marks.length) (hs : s∈ix v.sieves x) (hl : (ix v.marks x).length=(ix v.sieves x).length) :
  Pur Tryz.prog B 338 [.ptr (v.cells cnt),.int .i64 x,iL s] (.bool (v.mark x s)):=by
 refine ⟨fun H0=>c338.go fun hfi=>?_⟩
 have hin:=indexOf_in hs;refine tt ?_;refine ⟨⟨hx.1,hm⟩, ?_⟩;refine ⟨_,(number_ok B v.shape v.sieves (iL v.sizes) (iLL v.pulls) x hx s).run,tt ?_⟩;exact ⟨⟨hin.1,by omega⟩,pure_ret rfl (.refl _)⟩
def locP (v : Cov) (s t : List Int) : Prop:=∀ a,a∈t→v.mark (ix v.shape.to a) (pullS v.shape a s)=true
theorem locally_ok (B : Nat) (v : Cov) (hc : v.shape.Is) (cnt : AV) (s t : List Int) (x : Int) (hs : v.shape.Sieve x s) (ht : ∀ a,a∈t→0≤a∧a.toNat<v.shape.frm.length∧ix v.shape.frm a=x) (hsl : (v.sieves.length : Int)=v.shape.objs) (hml : v.marks.length=v.sieves.length)
  (hall : ∀ y : Int,0≤y∧y<v.shape.objs→(ix v.marks y).length=(ix v.sieves y).length∧∀ s,v.shape.Sieve y s→s∈ix v.sieves y) (htn : t.length≤1000000) :
  Pur Tryz.prog B 329 [.ptr (v.cells cnt),iL s,iL t] (.bool (dec (locP v s t))):=by
 refine ⟨fun H0=>c329.go fun hfi=>?_⟩;refine tt ?_
 refine awp_for [0,1,9,10] (G:=Unit) (fun k _=>[(11,some (.int .i64 (k : Int)))])
  (fun k _ H=>H=H0∧∀ i,i<k→v.mark (ix v.shape.to (t.getD i default)) (pullS v.shape (t.getD i default) s)=true) t.length () ⟨rfl,by simp⟩ rfl ?_
 rintro k _ H hk ⟨rfl,hyes⟩;refine tt ?_;apply bk <;> intro h1
 ·have h1p:=of_decide h1
  have w:=wsucc (k:=k) (by omega)
  have ha:=ht _ (mem_getD.mpr ⟨k,h1p,rfl⟩)
  have hto:=hc.1.toObj ha.2.1
  have htl:=hc.1.tol;refine tt ?_;refine ⟨h1p,⟨ha.1,by omega⟩, ?_⟩
  generalize hav : t.getD k default=a at *;refine ⟨_,(pull_ok B v.shape hc.1 a ⟨ha.1,ha.2.1⟩ s).run, ?_⟩
  have hp:=hall _ hto;refine ⟨_,(isM_ok B v cnt (ix v.shape.to a) (pullS v.shape a s) ⟨hto.1,by omega⟩ (by omega) (hp.2 _ ?_) hp.1).run, ?_⟩
  ·exact pullS_sieve hc ⟨ha.1,ha.2.1⟩ (by rw [ha.2.2]; exact hs)
  cases hmk : v.mark (ix v.shape.to a) (pullS v.shape a s) with
  | true =>
   refine tw w ?_;exact for_next () h1p ⟨rfl,lt_succ_all hyes (by rw [hav]; exact hmk)⟩ rfl
  | false =>
   refine tt ?_;refine pure_ret ?_ (.refl _);rw [dec_f]
   intro e
   have:=e a (by rw [← hav]; exact mem_getD.mpr ⟨k,h1p,rfl⟩);rw [hmk] at this; cases this
 ·have h1p:=of_ndecide h1;refine tt ?_;refine pure_ret ?_ (.refl _);rw [dec_t]
  intro a ha
  obtain ⟨i,hi,rfl⟩:=mem_getD.mp ha;exact hyes i (by omega)
theorem l28Unit_ok (B : Nat) (f : SF) (h : f.Shape) (V : List (List Int)) (c : CovOk f.shape V) : Pur Tryz.prog B 103 [.agg f.cells,iLL V,.agg (stepCells f V)] (iLL (unitS f V)):=by
 refine ⟨fun H0=>c103p.go fun hfi=>?_⟩
 have hm:=h.is.1.m
 have hob:=h.is.1.o
 have htl:=h.is.1.tol
 have hfl:=h.sl
 have hal:=h.al
 have hvl:=c.len;refine tt ?_;refine new_list iL (.nil _) fun id7 H o=>tt ?_
 refine awp_for [1,3,5] (G:=Nat) (fun k g=>[(7,some (.buf g k)),(8,some (.int .i64 (k : Int)))])
  (fun k g H=>Owns H0 H [(g,.cells 1 (((List.range k).map (unitAt f V)).map iL) 0)]) f.sizes.length id7 o rfl ?_
 clear o
 rintro k id7 H hk o
 replace o : Owns H0 H [(id7,.cells 1 (((List.range k).map (unitAt f V)).map iL) 0)]:=o;refine tt ?_;apply bk <;> intro h1
 ·have h1p:=of_decide h1
  have w:=wsucc (k:=k) (by omega)
  have hsv:=c.sv k (by omega)
  have hsn:=hsv.len
  have hsz:=h.sizeAt (y:=(k : Int)) (by omega)
  have hixk : ix f.sizes k=f.sizes.getD k default:=by simp only [ix_nat]
  have hfk : (famsOf f V).getD k default=famAt f V k:=by rw [famsOf,getD_map_range _ _ (by omega)]
  have hfll : (famsOf f V).length=V.length:=by simp [famsOf]
  refine tt ?_;refine new_list iI o fun id9 H o=>tt ?_;rw [hixk] at hsz
  refine awp_for [1,3,5,7,8] (G:=Nat × List Int) (fun e g=>[(9,some (.buf g.1 g.2.length)),(10,some (.int .i64 (e : Int)))])
   (fun e g H=>g.2=((List.range e).map Int.ofNat).map (fun e=>indexOf (famAt f V k) (imgs f (V.getD k default) e))∧Owns H0 H [(g.1,.cells 1 (g.2.map iI) 0),(id7,.cells 1 (((List.range k).map (unitAt f V)).map iL) 0)]) (f.sizes.getD k default).toNat (id9,[]) ⟨rfl,o⟩ rfl ?_
  clear o
  rintro e ⟨id9,row⟩ H he ⟨hrow,o⟩;dsimp only at hrow o
  have hrl : row.length=e:=by rw [hrow]; simp
  refine tt ?_;refine ⟨by omega, ?_⟩;apply bk <;> intro h2
  ·have h2p:=of_decide h2
   have w2:=wsucc (k:=e) (by omega);refine tt ?_;refine ⟨by omega,by omega,_,(l28Images_ok B f (V.getD k default) e (fun a ha=>?_) (by omega) (fun a ha=>?_)).run, ?_⟩
   ·have:=hsv.arr ha; omega
   ·have hv:=hsv.arr ha
    have h1:=h.actLen hv.1.2;rw [hv.2,hixk] at h1;omega
   rw [hfk];refine ⟨_,(l09Find_ok B (famAt f V k) (imgs f (V.getD k default) e)).run,tt ?_⟩;refine app_own (f:=iI) (indexOf (famAt f V k) (imgs f (V.getD k default) e)) o rfl rfl (by simp only [maxL]; omega) fun id9 H o=>?_
   have e8 : row++[indexOf (famAt f V k) (imgs f (V.getD k default) e)]=((List.range (e+1)).map Int.ofNat).map (fun e=>indexOf (famAt f V k) (imgs f (V.getD k default) e)):=by
    rw [hrow,List.range_succ]; simp
   refine tw w2 ?_;exact for_next (_,_) (by omega) ⟨e8,o⟩ rfl
  ·have h2p:=of_ndecide h2
   have hee : e=(f.sizes.getD k default).toNat:=by omega
   have hrow2 : row=unitAt f V k:=by rw [hrow,hee,unitAt,ix_nat]
   refine tt ?_;refine fz_own o rfl fun H o=>tt ?_;refine app_own (f:=iL) row o rfl (by simp) (by simp only [List.length_map,List.length_range,maxL]; omega) fun id9 H o=>?_
   have e7 : (List.range k).map (unitAt f V)++[row]=(List.range (k+1)).map (unitAt f V):=by rw [List.range_succ,List.map_append,hrow2]; rfl
   rw [e7] at o ⊢;refine tw w ?_;exact for_next id9 (by omega) o (by simp)
 ·have h1p:=of_ndecide h1
  obtain rfl : k=f.sizes.length:=by omega
  refine tt ?_;refine fz_own o (by simp) fun H o=>tt ?_;exact pure_ret rfl o.sub
theorem codeF_z {j : Top} {f : SF} (h : codeF j f=0) : j.Form∧f.Is∧codeT j=0∧j.shape=f.shape:=by
 unfold codeF at h
 by_cases h1 : j.Form∧f.Is
 ·rw [if_neg (fun e=>e h1)] at h
  by_cases h2 : codeT j=0∧¬ j.shape=f.shape
  ·rw [if_pos h2] at h; cases h
  ·rw [if_neg h2] at h;exact ⟨h1.1,h1.2,h,Classical.byContradiction fun e=>h2 ⟨h,e⟩⟩
 ·rw [if_pos h1] at h; cases h
open Classical in
noncomputable def firstA (j : Top) (f : SF) : List AV:=if codeF j f=0∧StepFew f (leastL j.shape j.covers) then stepCells f (leastL j.shape j.covers) else tabZ
open Classical in
noncomputable def firstC (j : Top) (f : SF) : Int:=if codeF j f=0 then (if StepFew f (leastL j.shape j.covers) then 0 else 3) else codeF j f
theorem l28First_ok (B : Nat) (j : Top) (f : SF) : Pur Tryz.prog B 108 [.agg j.cells,.agg f.cells] (.tup [.agg (firstA j f),.int .i64 (firstC j f)]):=by
 refine ⟨fun H0=>c108.go fun hfi=>?_⟩;refine tt ?_;refine nb (.nil _) fun id4 H o=>tt ?_;refine (l28Code_ok B j f).go fun _=>tt ?_;apply bk <;> intro h1
 ·have h1p : ¬ codeF j f=0:=by simpa using h1
  refine tt ?_;refine sw o fun H o=>tt ?_
  have hr:=o.rc 8 0 (by simp);simp only [List.drop_zero] at hr;rw [hr];refine pure_ret ?_ o.sub;rw [firstA,firstC,if_neg (fun e=>h1p e.1),if_neg h1p]; rfl
 ·have h1p : codeF j f=0:=by simpa using h1
  obtain ⟨hF,hf,hct,hsh⟩:=codeF_z h1p
  have htop : TopIs j.shape j.covers:=by
   unfold codeT at hct;rw [if_neg (fun e=>e hF)] at hct
   split at hct
   ·cases hct
   ·split at hct
    ·assumption
    ·cases hct
  have hcov:=least_cov hF.is hF.len (fun x hx s hs=>by
   obtain ⟨k,hk,rfl⟩:=mem_getD.mp hs;exact hF.sv x hx k hk) htop
  rw [hsh] at hcov;refine tt ?_;refine ⟨_,(l27Least_ok B j).run, ?_⟩;rw [hsh];refine ⟨_,(l28Make_ok B f hf.1 (leastL f.shape j.covers) hcov).run,tt ?_⟩;refine nb o fun id7 H o=>?_
  by_cases hfew : StepFew f (leastL f.shape j.covers)
  ·rw [stepA_t hfew,dec_t hfew];refine tt ?_;refine sw o fun H o=>tt ?_;refine rd_celln o (by simp) ?_;refine tt ?_;refine sw o.swap fun H o=>tt ?_
   have hr:=o.rc 8 0 (by simp);simp only [List.drop_zero] at hr;rw [hr];refine pure_ret ?_ o.sub;rw [firstA,firstC,if_pos ⟨h1p,by rw [hsh]; exact hfew⟩,if_pos h1p,if_pos (by rw [hsh]; exact hfew),hsh]; rfl
  ·rw [stepA_f hfew,dec_f hfew];refine tt ?_;refine sw o fun H o=>tt ?_;refine sw o.swap fun H o=>tt ?_
   have hr:=o.rc 8 0 (by simp);simp only [List.drop_zero] at hr;rw [hr];refine pure_ret ?_ o.sub;rw [firstA,firstC,if_neg (fun e=>hfew (by rw [← hsh]; exact e.2)),if_pos h1p,if_neg (fun e=>hfew (by rw [← hsh]; exact e))]; rfl
theorem SheafStep_ok (B : Nat) (j : Top) (f : SF) : Pur Tryz.prog B 43 [.agg j.cells,.agg f.cells] (.tup [.agg ((firstA j f).take 7),.int .i64 (firstC j f)]):=by
 refine ⟨fun H0=>c43.go fun hfi=>?_⟩;refine tt ?_;refine nb (.nil _) fun id4 H o=>tt ?_;refine (l28First_ok B j f).go fun _=>?_
 generalize hcd : firstC j f=cd
 obtain ⟨a1,a2,a3,a4,a5,a6,a7,a8,hA,h1⟩ : ∃ a1 a2 a3 a4 a5 a6 a7 a8,firstA j f=[a1,a2,a3,a4,a5,a6,a7,a8]∧∀ c,c∈[a1,a2,a3,a4,a5,a6,a7,a8]→c.one=true:=by
  unfold firstA
  split
  ·exact ⟨_,_,_,_,_,_,_,_,rfl,by simp only [memcons,memnil]; exact ⟨rfl,rfl,rfl,rfl,rfl,rfl,rfl,rfl,trivial⟩⟩
  ·exact ⟨_,_,_,_,_,_,_,_,rfl,by simp only [memcons,memnil]; exact ⟨rfl,rfl,rfl,rfl,rfl,rfl,rfl,rfl,trivial⟩⟩
 rw [hA];refine tt ?_;refine nb o fun id6 H o=>tt ?_;refine st_cells o (by simp) (by simp) h1 fun H o=>?_;simp only [wr_cons,wr_nil,List.set_cons_zero,List.set_cons_succ] at o;refine tt ?_;refine rd_celln o (by simp) ?_;refine tt ?_;refine st_cells o.swap (by simp) (by simp) (fun c hc=>h1 c (List.mem_of_mem_take (i:=7) (l:=[a1,a2,a3,a4,a5,a6,a7,a8]) hc)) fun H o=>?_;simp only [wr_cons,wr_nil,List.set_cons_zero,List.set_cons_succ] at o;refine tt ?_
 have hr:=o.rc 7 0 (by simp);simp only [List.drop_zero] at hr;rw [hr];exact pure_ret (by simp) o.sub
def lensOf (L : List (List (List Int))) : List Int:=L.map fun l=>(l.length : Int)
open Classical in
noncomputable def clsOr (c : Cat) : AV:=if AllFew c then .ptr (clsCells c (listsOf c) (iL (lensOf (listsOf c))) (iLL (pullsOf c (listsOf c)))) else .nilp
def SievesOk (B : Nat) (c : Cat) : Prop:=∀ x : Nat,x<c.objs.toNat→∃ l,Pur Tryz.prog B 334 [.ptr c.cells,.int .i64 x] (.tup [iLL l,.bool (dec (Few c x))])∧(Few c x→l=allS c x∧l.length≤16)
theorem classifier_ok (B : Nat) (c : Cat) (hc : c.Is) (hsv : SievesOk B c) : Pur Tryz.prog B 323 [.ptr c.cells] (.tup [clsOr c,.bool (dec (AllFew c))]):=by
 refine ⟨fun H0=>c323p.go fun hfi=>?_⟩
 have hm:=hc.1.m
 have hob:=hc.1.o
 have htl:=hc.1.tol;refine tt ?_;refine (catCopy_ok B c).go fun _=>tt ?_
 let st : AV→AV→AV→MObj:=fun x5 x6 x7=>.cells 8 [iI c.objs,iL c.frm,iL c.to,iL c.idn,iLL c.comp,x5,x6,x7] 0
 refine nb (.nil _) fun id4 H o=>tt ?_
 refine awp_for [0,4] (G:=(AV × AV) × List (Nat × MObj)) (fun k g=>[(5,some (.int .i64 (k : Int)))])
  (fun k g H=>LsO iLL H0 H ((id4,st g.1.1 .nilsl g.1.2)::(g.2++[])) g.1.2 ((List.range k).map fun x : Nat=>allS c (x : Int))∧LsP iI g.2 g.1.1 (lensOf ((List.range k).map fun x : Nat=>allS c (x : Int)))∧∀ x : Nat,x<k→Few c x)
  c.objs.toNat ((.nilsl,.nilsl),[]) ⟨.inl ⟨rfl,rfl,o⟩,.inl ⟨rfl,rfl,rfl⟩,by simp⟩ rfl ?_
 clear o
 rintro k ⟨⟨X5,X7⟩,p5⟩ H hk ⟨hX,h5,hall⟩;dsimp only at hX h5;refine tt ?_;apply bk <;> intro h1
 ·have h1p:=of_decide h1
  have w:=wsucc (k:=k) (by omega)
  obtain ⟨l,hl,hl2⟩:=hsv k (by omega);refine tt ?_;refine hl.go fun _=>tt ?_
  by_cases hfw : Few c k
  ·rw [dec_t hfw]
   obtain ⟨rfl,hl16⟩:=hl2 hfw;refine tt ?_
   obtain ⟨Lk,hLk⟩ : ∃ Lk,Lk=(List.range (k+1)).map fun x : Nat=>allS c (x : Int):=⟨_,rfl⟩
   have e7 : ((List.range k).map fun x : Nat=>allS c (x : Int))++[allS c k]=Lk:=by rw [hLk,List.range_succ,List.map_append]; rfl
   have e5 : lensOf ((List.range k).map fun x : Nat=>allS c (x : Int))++[((allS c k).length : Int)]=lensOf Lk:=by
    rw [← e7,lensOf,lensOf,List.map_append]; rfl
   have hLl : Lk.length=k+1:=by rw [hLk]; simp
   have hll : (lensOf Lk).length=k+1:=by rw [lensOf,List.length_map,hLl]
   refine tt ?_;refine rd_get hX.obj (by simp [st]) ?_;refine tt ?_;refine hX.app (allS c k) rfl (by simp only [List.length_map,List.length_range,maxL]; omega) fun idn H o=>?_;rw [e7] at o ⊢;refine tt ?_;refine sw o.swap fun H o=>?_
   have hX : LsO iLL H0 H ((id4,st X5 .nilsl (.buf idn Lk.length))::(p5++[])) (.buf idn Lk.length) Lk:=.inr ⟨idn,rfl,o.swap⟩
   generalize (AV.buf idn Lk.length)=X7 at hX;clear o
   obtain ⟨p7,h7,hX⟩:=hX.focus h5;rw [List.nil_append] at hX;refine tt ?_;refine rd_get hX.obj (by simp [st]) ?_;refine tt ?_;refine hX.app ((allS c k).length : Int) rfl (by simp only [lensOf,List.length_map,List.length_range,maxL]; omega) fun idn H o=>?_;rw [e5] at o ⊢;refine tt ?_;refine sw o.swap fun H o=>?_
   have hX : LsO iI H0 H ((id4,st (.buf idn (lensOf Lk).length) .nilsl X7)::p7) (.buf idn (lensOf Lk).length) (lensOf Lk):=.inr ⟨idn,rfl,o.swap⟩
   generalize (AV.buf idn (lensOf Lk).length)=X5 at hX;clear o;rw [← List.append_nil p7] at hX
   obtain ⟨p5,h5,hX⟩:=hX.focus h7;rw [hLk] at hX h5;rw [List.nil_append,← List.append_nil p5] at hX;refine tw w ?_;refine for_next ((X5,X7),p5) (by omega) ⟨hX,h5,fun x hx=>?_⟩ rfl
   by_cases e : x=k
   ·subst e; exact hfw
   ·exact hall x (by omega)
  ·rw [dec_f hfw];refine tt ?_
   have hno : ¬ AllFew c:=fun e=>hfw (e k (by omega))
   have hsub : H0.sub H:=by obtain ⟨_,oo,_⟩:=hX.split; exact oo.sub
   refine pure_ret ?_ hsub;rw [clsOr,if_neg hno,dec_f hno]
 ·have h1p:=of_ndecide h1;refine tt ?_
  have hkn : k=c.objs.toNat:=by omega
  have hfew : AllFew c:=fun x hx=>hall x (by omega);rw [clsOr,if_pos hfew,dec_t hfew]
  have hLk : ((List.range k).map fun x : Nat=>allS c (x : Int))=listsOf c:=by rw [hkn]; rfl
  have tab:=tabOk hc hfew;rw [hLk] at hX h5
  generalize hL : listsOf c=L at *;refine wk_ls 7 hX rfl fun H o=>?_;clear hX;simp only [List.set_cons_zero,List.set_cons_succ] at o
  have hX:=LsO.mk (o.perm List.perm_middle.symm) h5;clear o;refine wk_ls 5 hX rfl fun H o=>wkW_done ?_;clear hX;simp only [List.set_cons_zero,List.set_cons_succ] at o
  generalize hst : st=st2;clear hall h5 hst st2 st
  let st : AV→MObj:=fun x6=>.cells 8 [iI c.objs,iL c.frm,iL c.to,iL c.idn,iLL c.comp,iL (lensOf L),x6,iLLL L] 0
  have hLl:=tab.len;refine tt ?_
  refine awp_for [0,4,60] (G:=AV) (fun a g=>[(61,some (.int .i64 (a : Int)))])
   (fun a X H=>LsO iL H0 H [(id4,st X)] X ((List.range a).map (rowP c L))) c.frm.length .nilsl (.inl ⟨rfl,rfl,o⟩) rfl ?_
  clear o
  rintro a X H ha hX
  replace hX : LsO iL H0 H [(id4,st X)] X ((List.range a).map (rowP c L)):=hX;refine tt ?_;apply bk <;> intro h2
  ·have h2p:=of_decide h2
   have w2:=wsucc (k:=a) (by omega)
   have haa : 0≤(a : Int)∧(a : Int).toNat<c.frm.length:=⟨by omega,by simpa using h2p⟩
   have hfo:=hc.1.frmObj haa.2
   have hto:=hc.1.toObj haa.2;simp only [ix_nat] at hfo hto
   obtain ⟨q,o,hq⟩:=hX.split;clear hX;refine tt ?_;refine new_list iI o fun idr H o=>?_
   have hg4 : H.get id4=some (st X):=o.get (id4,st X) (by simp);refine tt ?_;refine rd_get hg4 (by simp [st]) ?_;refine tt ?_;refine ⟨h2p,⟨hfo.1,by omega⟩, ?_⟩
   have hF0 : ix L (c.frm.getD a default)=L.getD (c.frm.getD a default).toNat default:=rfl
   have hfw:=tab.few (c.frm.getD a default).toNat (by omega)
   have hrow : rowP c L a=(L.getD (c.frm.getD a default).toNat default).map fun s=>indexOf (ix L (c.to.getD a default)) (pullS c a s):=rfl;rw [hF0]
   generalize hF : L.getD (c.frm.getD a default).toNat default=F at *
   refine awp_for [0,4,8,60,61,77,78] (G:=Nat × List Int) (fun i g=>[(9,some (.buf g.1 g.2.length)),(79,some (.int .i64 (i : Int)))])
    (fun i g H=>g.2=(F.take i).map (fun s=>indexOf (ix L (c.to.getD a default)) (pullS c a s))∧Owns H0 H ((g.1,.cells 1 (g.2.map iI) 0)::(q++[(id4,st X)]))) F.length (idr,[]) ⟨by simp,o⟩ rfl ?_
   clear o hg4
   rintro i ⟨idr,row⟩ H hi ⟨hr,o⟩;dsimp only at hr o
   have hrl : row.length=i:=by rw [hr,List.length_map,List.length_take]; omega
   have hg4 : H.get id4=some (st X):=o.get (id4,st X) (by simp);refine tt ?_;apply bk <;> intro h3
   ·have h3p:=of_decide h3
    have w3:=wsucc (k:=i) (by omega);refine tt ?_;refine ⟨h3p,by omega,_,(pull_ok B c hc.1 a haa (F.getD i default)).run,tt ?_⟩;refine CallH.lentPure (es:=[.ptr (clsCells c L (iL (lensOf L)) X),.int .i64 (c.to.getD a default),iL (pullS c a (F.getD i default))]) (.int _ _) rfl (fun j hj=>?_) (number_ok B c L (iL (lensOf L)) X (c.to.getD a default) ⟨hto.1,by omega⟩ _).run ?_
    ·obtain rfl | rfl | rfl : j=0∨j=1∨j=2:=by simp only [List.length_cons,List.length_nil] at hj; omega
     ·exact (Tr.ref id4 8 0 _ _ hg4 rfl fun i _=>.val _).arg
     ·exact val_arg _
     ·exact val_arg _
    refine tt ?_;refine app_own (f:=iI) (indexOf (ix L (c.to.getD a default)) (pullS c a (F.getD i default))) o rfl rfl (by simp only [maxL]; omega) fun idr H o=>?_;refine tw w3 ?_;exact for_next (_,_) (by omega) ⟨by rw [take_succ_getD F h3p,List.map_append,hr]; rfl,o⟩ rfl
   ·have h3p:=of_ndecide h3
    obtain rfl : i=F.length:=by omega
    rw [List.take_length,← hrow] at hr;refine tt ?_;refine fz_own o rfl fun H o=>tt ?_
    have hX : LsO iL H0 H [(id4,st X)] X ((List.range a).map (rowP c L)):=LsO.mk o hq;clear o;refine rd_get hX.obj (by simp [st]) ?_;refine tt ?_;refine hX.app row rfl (by simp only [List.length_map,List.length_range,maxL]; omega) fun idn H o=>tt ?_;refine sw o.swap fun H o=>?_
    have e7 : (List.range a).map (rowP c L)++[row]=(List.range (a+1)).map (rowP c L):=by rw [List.range_succ,List.map_append,hr]; rfl
    have hX : LsO iL H0 H [(id4,st (.buf idn ((List.range a).map (rowP c L)++[row]).length))] (.buf idn ((List.range a).map (rowP c L)++[row]).length) ((List.range a).map (rowP c L)++[row]):=.inr ⟨idn,rfl,o.swap⟩
    generalize (AV.buf idn ((List.range a).map (rowP c L)++[row]).length)=X7 at hX;rw [e7] at hX;refine tw w2 ?_;exact for_next X7 (by omega) hX rfl
  ·have h2p:=of_ndecide h2
   obtain rfl : a=c.frm.length:=by omega
   refine tt ?_;refine wk_ls 6 hX rfl fun H o=>?_;simp only [List.set_cons_zero,List.set_cons_succ] at o;refine wk_ref 4 o rfl fun H o=>wkW_done ?_;refine tt ?_;exact pure_ret rfl o.sub
end Go.Proofs.Shf
