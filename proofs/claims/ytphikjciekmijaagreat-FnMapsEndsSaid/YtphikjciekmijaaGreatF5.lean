/- Contracts, part 5. -/
import Derived.Test.YtphikjciekmijaaGreatF4
set_option linter.unusedVariables false
set_option linter.unusedSimpArgs false
set_option linter.unusedSectionVars false
set_option maxRecDepth 100000
open Nat (reduceEqDiff reduceAdd reduceMul reduceLeDiff reduceLT)
namespace Go.Shf
open Go.AW
def constF (c : Cat) (n : Int) : SF:=⟨c,List.replicate c.objs.toNat n,List.replicate c.frm.length ((List.range n.toNat).map Int.ofNat)⟩
theorem rep_succ {α : Type} (k : Nat) (a : α) : List.replicate (k+1) a=List.replicate k a++[a]:=List.replicate_succ'
end Go.Shf
namespace Go.Proofs.Shf
open Go.AW Go.Proofs Go.Shf
abbrev z7 : List AV:=[.int .i64 0,.nilsl,.nilsl,.nilsl,.nilsl,.nilsl,.nilsl]
theorem l19ConstG_ok (B : Nat) (c : Cat) (hob : 0≤c.objs∧c.objs≤4096) (hm : c.frm.length≤4096) (n : Int) (hn : 0≤n∧n≤100) : Pur Tryz.prog B 250 [.agg c.cells,iI n] (.agg (constF c n).cells):=by
 refine ⟨fun H0=>c250p (by simp) fun hfi=>?_⟩;unfold s250p
 have o : Owns H0 H0 []:=.nil _;refine tt ?_;refine nb o fun id4 H o=>tt ?_;refine (l02Own_ok B c).go fun _=>tt ?_;refine nb o fun id5 H o=>tt ?_;refine sw o fun H o=>?_
 let st : AV→AV→MObj:=fun x5 x6=>.cells 7 [iI c.objs,iL c.frm,iL c.to,iL c.idn,iLL c.comp,x5,x6] 0
 refine tt ?_;refine awp_for [1,2,4,5] (G:=AV) (fun k X=>[(6,some (.int .i64 (k : Int)))]) (fun k X H=>LsO iI H0 H ((id5,st X .nilsl)::[(id4,.cells 7 z7 0)]) X (List.replicate k n)) c.objs.toNat .nilsl (.inl ⟨rfl,rfl,o⟩) rfl ?_;clear o
 rintro k X H hk hX;refine tt ?_;apply bk <;> intro h1
 ·have h1p:=of_decide h1
  have w:=wsucc (k:=k) (by omega);refine tt ?_;refine rd_get hX.obj (by simp [st]) ?_;refine tt ?_;refine hX.app n rfl (by simp only [List.length_replicate,maxL]; omega) fun idn H o=>?_;rw [← rep_succ] at o ⊢;refine tt ?_;refine sw o.swap fun H o=>?_;refine tw w ?_;exact for_next _ (by omega) (.inr ⟨idn,rfl,o.swap⟩) rfl
 ·have h1p:=of_ndecide h1
  obtain rfl : k=c.objs.toNat:=by omega
  obtain ⟨p5,o,h5⟩:=hX.split
  have o : Owns H0 H ((id5,st X .nilsl)::(p5++[(id4,.cells 7 z7 0)])):=o.perm List.perm_middle;clear hX;refine tt ?_;refine awp_for [1,2,4,5] (G:=AV) (fun a Y=>[(7,some (.int .i64 (a : Int)))]) (fun a Y H=>LsO iL H0 H ((id5,st X Y)::(p5++[(id4,.cells 7 z7 0)])) Y (List.replicate a ((List.range n.toNat).map Int.ofNat))) c.frm.length .nilsl (.inl ⟨rfl,rfl,o⟩) rfl ?_;clear o
  rintro a Y H ha hY
  replace hY : LsO iL H0 H ((id5,st X Y)::(p5++[(id4,.cells 7 z7 0)])) Y (List.replicate a ((List.range n.toNat).map Int.ofNat)):=hY;refine tt ?_;apply bk <;> intro h2
  ·have h2p:=of_decide h2
   have w2:=wsucc (k:=a) (by omega)
   obtain ⟨q,o,hq⟩:=hY.split;clear hY;refine tt ?_;refine new_list iI o fun id8 H o=>tt ?_
   refine awp_for [1,2,4,5,7] (G:=Nat × List Int) (fun e g=>[(8,some (.buf g.1 g.2.length)),(9,some (.int .i64 (e : Int)))])
    (fun e g H=>g.2=(List.range e).map Int.ofNat∧Owns H0 H ((g.1,.cells 1 (g.2.map iI) 0)::(q++((id5,st X Y)::(p5++[(id4,.cells 7 z7 0)]))))) n.toNat (id8,[]) ⟨rfl,o⟩ rfl ?_
   clear o
   rintro e ⟨id8,row⟩ H he ⟨hrow,o⟩;dsimp only at hrow o
   have hrl : row.length=e:=by rw [hrow]; simp
   refine tt ?_;apply bk <;> intro h3
   ·have h3p:=of_decide h3
    have w3:=wsucc (k:=e) (by omega);refine tt ?_;refine app_own (e : Int) o rfl rfl (by simp only [maxL]; omega) fun id8 H o=>?_;refine tw w3 ?_;exact for_next (_,_) (by omega) ⟨by rw [hrow,List.range_succ]; simp,o⟩ rfl
   ·have h3p:=of_ndecide h3
    obtain rfl : e=n.toNat:=by omega
    refine tt ?_;refine fz_own o rfl fun H o=>?_
    have hY:=LsO.mk o hq;clear o;refine tt ?_;refine rd_get hY.obj (by simp [st]) ?_;refine tt ?_;refine hY.app row rfl (by simp only [List.length_replicate,maxL]; omega) fun idn H o=>?_;rw [hrow,← rep_succ] at o ⊢;refine tt ?_;refine sw o.swap fun H o=>?_;refine tw w2 ?_;exact for_next _ (by omega) (.inr ⟨idn,rfl,o.swap⟩) rfl
  ·have h2p:=of_ndecide h2
   obtain rfl : a=c.frm.length:=by omega
   refine tt ?_;refine wk_ls 6 hY rfl fun H o=>?_;simp only [List.set_cons_zero,List.set_cons_succ] at o
   have hX:=LsO.mk (o.perm List.perm_middle.symm) h5;clear o;refine wk_ls 5 hX rfl fun H o=>wkW_done ?_;simp only [List.set_cons_zero,List.set_cons_succ] at o;refine tt ?_;refine rd_celln o (by simp) ?_;refine tt ?_;refine sw o.swap fun H o=>tt ?_
   have hr:=o.rc 7 0 (by simp);simp only [List.drop_zero] at hr;rw [hr];exact pure_ret rfl o.sub
theorem l19Constant_ok (B : Nat) (c : Cat) (hc : c.Shape) (n : Int) (hn : 0≤n∧n≤100) : Pur Tryz.prog B 250 [.agg c.cells,iI n] (.agg (constF c n).cells) :=
 l19ConstG_ok B c (by have:=hc.o; omega) (by have:=hc.m; omega) n hn
def FreeR (c : Cat) (os : List Int) (r : AV) : Prop:=r=.agg (freeQ c os).cells∧(freeQ c os).Pre c 120
theorem l19FreeQ_ok (B : Nat) (c : Cat) (hc : c.Is) (os : List Int) (hos : os.length≤3) : Rets B 208 [.agg c.cells,iL os] (FreeR c os):=by
 intro H0;refine c208p (by simp) fun _=>?_
 have hm:=hc.1.m
 have hob:=hc.1.o
 have htl:=hc.1.tol;unfold s208p
 have o : Owns H0 H0 []:=.nil _;refine tt ?_;refine nb o fun id4 H o=>tt ?_;refine ⟨⟨by omega,by simp only [maxL]; omega⟩, ?_⟩;rw [rep_one];refine newBuf_own o fun idL H o=>tt ?_
 refine awp_for [1,2,4,5] (G:=List AV × List (List (List Int)) × List (Nat × MObj)) (fun k _=>[(6,some (.int .i64 (k : Int)))])
  (fun k g H=>Owns H0 H ((idL,.cells 1 g.1 0)::(g.2.2++[(id4,.cells 7 z7 0)]))∧LsR iL g.1 g.2.1 g.2.2∧FreeX c os k 0 g.2.1) os.length (List.replicate c.objs.toNat .nilsl,List.replicate c.objs.toNat [],[]) ⟨o,LsR.rep iL _,.zero hob.1⟩ rfl ?_
 clear o
 rintro k ⟨Xs,LL,ob⟩ H hk ⟨o,hR,hI⟩;dsimp only at o hR hI;refine tt ?_;apply bk <;> intro h1
 ·have h1p:=of_decide h1
  have w1:=wsucc (k:=k) (by omega);refine tt ?_
  refine awp_for [1,2,4,5,6] (G:=List AV × List (List (List Int)) × List (Nat × MObj)) (fun h _=>[(7,some (.int .i64 (h : Int)))])
   (fun h g H=>Owns H0 H ((idL,.cells 1 g.1 0)::(g.2.2++[(id4,.cells 7 z7 0)]))∧LsR iL g.1 g.2.1 g.2.2∧FreeX c os k h g.2.1) c.frm.length (Xs,LL,ob) ⟨o,hR,hI⟩ rfl ?_
  clear o hR hI Xs LL ob
  rintro h ⟨Xs,LL,ob⟩ H hh ⟨o,hR,hI⟩;dsimp only at o hR hI;refine tt ?_;apply bk <;> intro h2
  ·have h2p:=of_decide h2
   have w2:=wsucc (k:=h) (by omega)
   have hto:=hc.1.toObj (f:=(h : Int)) (by simpa using h2p);rw [ix_nat] at hto
   have hXl:=hR.len
   have hLl:=hI.len
   have hbd:=hI.bd (c.to.getD h default).toNat
   have hkm : k*c.frm.length≤2*40:=Nat.mul_le_mul (by omega) hm;refine tt ?_;refine ⟨h2p,h1p, ?_⟩;apply bk <;> intro h3
   ·have h3p : c.frm.getD h default=os.getD k default:=of_decide h3;refine tt ?_;refine ⟨by omega,by omega,⟨hto.1,by omega⟩,rd_get o.h0 (by omega) ?_⟩;refine tt ?_;refine rows_app o hR (by omega) [(k : Int),(h : Int)] rfl (by show (LL.getD _ default).length+1≤maxL; simp only [maxL]; omega) fun X' o' H hX1 hR o=>?_;try simp only [go_sem,↓reduceIte,reduceEqDiff,reduceAdd,reduceMul,reduceLeDiff,reduceLT,AV.cells_one hX1]
    refine ⟨⟨hto.1,by omega⟩,st_cells o (by omega) rfl (by simp only [memcons,memnil]; exact ⟨hX1,trivial⟩) fun H o=>?_⟩;simp only [wr_cons,wr_nil] at o;refine tw w2 ?_;exact for_next (_,_,_) (by omega) ⟨o,hR,hI.hit hc.1 h1p h2p h3p⟩ rfl
   ·refine tw w2 ?_;exact for_next (_,_,_) (by omega) ⟨o,hR,hI.skip (of_ndecide h3)⟩ rfl
  ·have h2p:=of_ndecide h2
   obtain rfl : h=c.frm.length:=by omega
   refine tw w1 ?_;exact for_next (_,_,_) (by omega) ⟨o,hR,hI.next⟩ rfl
 ·have h1p:=of_ndecide h1
  obtain rfl : k=os.length:=by omega
  have hLl:=hI.len;refine tt ?_;refine wk_rows hR [] H o fun H o=>wkW_done ?_;rw [List.nil_append] at o;clear hR;refine tt ?_;refine fz_own (f:=iLL) o (by omega) fun H o=>tt ?_;refine (l02Own_ok B c).go fun _=>tt ?_;refine nb o fun id8 H o=>tt ?_;refine sw o fun H o=>?_
  let st : AV→AV→MObj:=fun x5 x6=>.cells 7 [iI c.objs,iL c.frm,iL c.to,iL c.idn,iLL c.comp,x5,x6] 0
  refine tt ?_
  have hpre:=free_pre hc hI.toFreeI (N:=120) (by have:=Nat.mul_le_mul hos hm; omega)
  have hof:=hI.of
  have hfull:=hI.full;clear hI;refine awp_for [2,4,5,8] (G:=AV) (fun k X=>[(9,some (.int .i64 (k : Int)))]) (fun k X H=>LsO iI H0 H ((id8,st X .nilsl)::[(id4,.cells 7 z7 0)]) X ((LL.take k).map fun l=>(l.length : Int))) LL.length .nilsl (.inl ⟨rfl,rfl,o⟩) rfl ?_;clear o
  rintro k X H hk hX;refine tt ?_;apply bk <;> intro h4
  ·have h4p:=of_decide h4
   have w:=wsucc (k:=k) (by omega);refine tt ?_;refine rd_get hX.obj (by simp [st]) ?_;refine tt ?_;refine ⟨h4p, ?_⟩;refine hX.app ((LL.getD k default).length : Int) rfl (by simp only [List.length_map,List.length_take,maxL]; omega) fun idn H o=>?_
   have e5 : ((LL.take k).map fun l=>(l.length : Int))++[((LL.getD k default).length : Int)]=(LL.take (k+1)).map fun l=>(l.length : Int):=by rw [take_one LL h4p]; simp
   rw [e5] at o ⊢;refine tt ?_;refine sw o.swap fun H o=>?_;refine tw w ?_;exact for_next _ (by omega) (.inr ⟨idn,rfl,o.swap⟩) rfl
  ·have h4p:=of_ndecide h4
   obtain rfl : k=LL.length:=by omega
   rw [List.take_length] at hX
   obtain ⟨p5,o,hp5⟩:=hX.split
   have o : Owns H0 H ((id8,st X .nilsl)::(p5++[(id4,.cells 7 z7 0)])):=o.perm List.perm_middle;clear hX;refine tt ?_;refine awp_for [2,4,5,8] (G:=AV) (fun a Y=>[(10,some (.int .i64 (a : Int)))]) (fun a Y H=>LsO iL H0 H ((id8,st X Y)::(p5++[(id4,.cells 7 z7 0)])) Y ((List.range a).map (freeAct c LL))) c.frm.length .nilsl (.inl ⟨rfl,rfl,o⟩) rfl ?_;clear o
   rintro a Y H ha hY
   replace hY : LsO iL H0 H ((id8,st X Y)::(p5++[(id4,.cells 7 z7 0)])) Y ((List.range a).map (freeAct c LL)):=hY;refine tt ?_;apply bk <;> intro h5
   ·have h5p:=of_decide h5
    have w2:=wsucc (k:=a) (by omega)
    have hfr:=hc.1.frmObj (f:=(a : Int)) (by simpa using h5p)
    have hto:=hc.1.toObj (f:=(a : Int)) (by simpa using h5p);rw [ix_nat] at hfr hto
    obtain ⟨q,o,hq⟩:=hY.split;clear hY;refine tt ?_;refine new_list iI o fun id11 H o=>tt ?_;refine ⟨h5p,⟨hfr.1,by omega⟩,by omega,⟨hto.1,by omega⟩, ?_⟩
    have eF : ix LL (c.frm.getD a default)=LL.getD (c.frm.getD a default).toNat default:=rfl
    have eT : ix LL (c.to.getD a default)=LL.getD (c.to.getD a default).toNat default:=rfl
    have hact : freeAct c LL a=(LL.getD (c.frm.getD a default).toNat default).map fun q=>indexOf (LL.getD (c.to.getD a default).toNat default) [ix q 0,(ix c.comp (ix q 1)).getD a default]:=rfl
    have hofF:=hof (c.frm.getD a default).toNat (by omega);rw [eF,eT]
    generalize hF : LL.getD (c.frm.getD a default).toNat default=F at *
    generalize hT : LL.getD (c.to.getD a default).toNat default=T at *
    have hFl : F.length≤200:=by
     have:=hpre.sz (F.length : Int) (List.mem_map.mpr ⟨F,by rw [← hF]; exact mem_getD.mpr ⟨_,by omega,rfl⟩,rfl⟩);omega
    refine awp_for [2,4,5,8,10,12,13] (G:=Nat × List Int) (fun e g=>[(11,some (.buf g.1 g.2.length)),(14,some (.int .i64 (e : Int)))])
     (fun e g H=>g.2=(F.take e).map (fun q=>indexOf T [ix q 0,(ix c.comp (ix q 1)).getD a default])∧Owns H0 H ((g.1,.cells 1 (g.2.map iI) 0)::(q++((id8,st X Y)::(p5++[(id4,.cells 7 z7 0)]))))) F.length (id11,[]) ⟨by simp,o⟩ rfl ?_
    clear o
    rintro e ⟨id11,row⟩ H he ⟨hrow,o⟩;dsimp only at hrow o
    have hrl : row.length=e:=by rw [hrow,List.length_map,List.length_take]; omega
    refine tt ?_;apply bk <;> intro h6
    ·have h6p:=of_decide h6
     have w3:=wsucc (k:=e) (by omega)
     obtain ⟨i,j,eq,hi,hj,_,_⟩:=hofF (F.getD e default) (mem_getD.mpr ⟨e,h6p,rfl⟩)
     have e0 : ix (F.getD e default) 0=(i : Int):=by rw [eq]; rfl
     have e1 : ix (F.getD e default) 1=(j : Int):=by rw [eq]; rfl
     have el : (F.getD e default).length=2:=by rw [eq]; rfl
     have hcl:=hc.1.cl
     have hrw:=hc.1.row' (a:=(j : Int)) (by simpa using hj);refine tt ?_;refine ⟨h6p,⟨by omega,by rw [el]; decide⟩,h6p,⟨by omega,by rw [el]; decide⟩, ?_⟩;rw [e0,e1];refine ⟨_,(l02Then_ok B c (j : Int) (a : Int) ⟨by omega,by rw [Int.toNat_natCast,hcl]; exact hj⟩ ⟨by omega,by rw [hrw]; simpa using h5p⟩).run,tt ?_⟩;refine ⟨_,(l05Place_ok B T [(i : Int),(ix c.comp (j : Int)).getD a default]).run,tt ?_⟩;refine app_own (indexOf T [(i : Int),(ix c.comp (j : Int)).getD a default]) o rfl rfl (by simp only [maxL]; omega) fun id11 H o=>?_;refine tw w3 ?_;refine for_next (_,_) (by omega) ⟨?_,o⟩ rfl;rw [take_one F h6p,List.map_append,← hrow,List.map_cons,List.map_nil,e0,e1]
    ·have h6p:=of_ndecide h6
     obtain rfl : e=F.length:=by omega
     rw [List.take_length,← hact] at hrow;refine tt ?_;refine fz_own o rfl fun H o=>?_
     have hY:=LsO.mk o hq;clear o;refine tt ?_;refine rd_get hY.obj (by simp [st]) ?_;refine tt ?_
     have e7 : (List.range a).map (freeAct c LL)++[row]=(List.range (a+1)).map (freeAct c LL):=by rw [map_range_succ,hrow]
     refine hY.app row rfl (by simp only [List.length_map,List.length_range,maxL]; omega) fun idn H o=>tt ?_;refine sw o.swap fun H o=>?_
     have hY : LsO iL H0 H ((id8,st X (.buf idn ((List.range a).map (freeAct c LL)++[row]).length))::(p5++[(id4,.cells 7 z7 0)])) (.buf idn ((List.range a).map (freeAct c LL)++[row]).length) ((List.range a).map (freeAct c LL)++[row]):=.inr ⟨idn,rfl,o.swap⟩
     generalize (AV.buf idn ((List.range a).map (freeAct c LL)++[row]).length)=Y' at hY;rw [e7] at hY;refine tw w2 ?_;exact for_next Y' (by omega) hY rfl
   ·have h5p:=of_ndecide h5
    obtain rfl : a=c.frm.length:=by omega
    refine tt ?_;refine wk_ls 6 hY rfl fun H o=>?_;simp only [List.set_cons_zero,List.set_cons_succ] at o
    have hX:=LsO.mk (o.perm List.perm_middle.symm) hp5;clear o;refine wk_ls 5 hX rfl fun H o=>wkW_done ?_;simp only [List.set_cons_zero,List.set_cons_succ] at o;refine tt ?_;refine rd_celln o (by simp) ?_;refine tt ?_;refine sw o.swap fun H o=>tt ?_
    have hr:=o.rc 7 0 (by simp);simp only [List.drop_zero] at hr;rw [hr];exact rets_ret ⟨by rw [freeQ,← hfull]; rfl,by rw [freeQ,← hfull]; exact hpre⟩ o.sub
def AnyF (r : AV) : Prop:=∃ f : SF,r=.agg f.cells
def AnyFc (c : Cat) (r : AV) : Prop:=∃ f : SF,r=.agg f.cells∧f.shape=c∧f.acts.length≤40
def PairsOk (sz : List Int) (PP : List (List (List Int))) : Prop:=PP.length=sz.length∧∀ x : Nat,x<sz.length→∀ q,q∈PP.getD x default→2≤q.length∧(0≤q.getD 0 default∧q.getD 0 default<sz.getD x default)∧(0≤q.getD 1 default∧q.getD 1 default<sz.getD x default)
def GlueR (f : SF) (r : AV) : Prop:=∃ (CC : List (List Int)) (g : SF),r=.agg g.cells∧ClsC f.sizes CC∧QuoOk f CC g
theorem l19GlueQ_ok (B : Nat) (f : SF) (c : Cat) (hc : c.Is) (hf : f.Pre c 120) (PP : List (List (List Int))) (hP : PairsOk f.sizes PP) : Rets B 249 [.agg f.cells,iLLL PP] (GlueR f):=by
 intro H0;refine c249p (by simp) fun _=>?_
 obtain ⟨rfl,hsl,hal,hsz,hact⟩:=hf
 have hm:=hc.1.m
 have hob:=hc.1.o
 have htl:=hc.1.tol;unfold s249p
 have o : Owns H0 H0 []:=.nil _
 have hz0 : ∀ x,x<f.sizes.length→0≤f.sizes.getD x default∧f.sizes.getD x default≤120:=fun x hx=>hsz _ (mem_getD.mpr ⟨x,hx,rfl⟩);refine tt ?_;refine nb o fun id4 H o=>tt ?_;refine new_list iL o fun id5 H o=>tt ?_
 refine awp_for [1,2,4] (G:=Nat × List (List Int)) (fun k g=>[(5,some (.buf g.1 g.2.length)),(6,some (.int .i64 (k : Int)))])
  (fun k g H=>g.2=(List.range k).map (clsAt f.sizes PP)∧Owns H0 H [(g.1,.cells 1 (g.2.map iL) 0),(id4,.cells 7 z7 0)]) f.sizes.length (id5,[]) ⟨rfl,o⟩ rfl ?_
 clear o
 rintro k ⟨id5,CC⟩ H hk ⟨hCC,o⟩
 replace hCC : CC=(List.range k).map (clsAt f.sizes PP):=hCC
 replace o : Owns H0 H [(id5,.cells 1 (CC.map iL) 0),(id4,.cells 7 z7 0)]:=o
 have hCl : CC.length=k:=by rw [hCC]; simp
 refine tt ?_;apply bk <;> intro h1
 ·have h1p:=of_decide h1
  have w1:=wsucc (k:=k) (by omega)
  have hzk:=hz0 k h1p
  obtain ⟨n,hn⟩ : ∃ n : Nat,f.sizes.getD k default=n:=⟨_,(Int.toNat_of_nonneg hzk.1).symm⟩
  have hPk:=hP.2 k h1p
  have hcl : clsAt f.sizes PP k=joinL n (PP.getD k default):=by rw [clsAt,hn,Int.toNat_natCast]
  rw [hn] at hPk hzk;refine tt ?_;refine ⟨h1p,by rw [hP.1]; exact h1p, ?_⟩;rw [hn];refine ⟨_,(join_pok B n (by omega) (PP.getD k default) fun q hq=>?_).run, ?_⟩
  ·have:=hPk q hq; omega
  refine tt ?_;refine app_own (joinL n (PP.getD k default)) o rfl rfl (by simp only [maxL]; omega) fun id5 H o=>?_;refine tw w1 ?_;exact for_next (_,_) (by omega) ⟨by rw [hCC,map_range_succ,hcl],o⟩ rfl
 ·have h1p:=of_ndecide h1
  obtain rfl : k=f.sizes.length:=by omega
  have hK : ClsC f.sizes CC:=by rw [hCC]; exact clsC_join (fun y hy=>(hsz y hy).1) PP
  clear hCC;refine tt ?_;rw [hCl];refine tt ?_
  refine awp_while [2,4,5] (G:=Bool × List (List Int)) (fun g=>[(7,some (.bool g.1))]) (fun m g H=>(m=pot g.2+(if g.1=true then 1 else 0)∧ClsC f.sizes g.2∧(g.1=false→Cg f g.2 f.acts.length))∧Owns H0 H [(id5,.cells 1 (g.2.map iL) 0),(id4,.cells 7 z7 0)])
   (pot CC+1) (true,CC) ⟨⟨by simp,hK,fun h=>absurd h (by simp)⟩,o⟩ rfl ?_
  clear o hK hCl CC
  rintro m ⟨more,CC⟩ H ⟨⟨hmm,hK,hG⟩,o⟩
  replace hG : more=false→Cg f CC f.acts.length:=hG
  replace hmm : m=pot CC+(if more=true then 1 else 0):=hmm
  replace hK : ClsC f.sizes CC:=hK
  replace o : Owns H0 H [(id5,.cells 1 (CC.map iL) 0),(id4,.cells 7 z7 0)]:=o
  cases more;rotate_left 1
  ·refine tt ?_
   obtain ⟨P0,hP0⟩ : ∃ P0,P0=pot CC:=⟨_,rfl⟩;rw [← hP0] at hmm
   refine awp_for [2,4,5] (G:=Bool × List (List Int)) (fun a g=>[(7,some (.bool g.1)),(8,some (.int .i64 (a : Int)))])
    (fun a g H=>(pot g.2≤P0∧(g.1=true→pot g.2<P0)∧ClsC f.sizes g.2∧(g.1=false→Cg f g.2 a))∧Owns H0 H [(id5,.cells 1 (g.2.map iL) 0),(id4,.cells 7 z7 0)]) f.acts.length (false,CC) ⟨⟨by simp [hP0],by simp,hK,fun _ a h=>absurd h (Nat.not_lt_zero a)⟩,o⟩ rfl ?_
   clear o hK hG hP0 CC
   rintro a ⟨more,CC⟩ H ha ⟨⟨hp1,hp2,hK,hG⟩,o⟩
   replace hG : more=false→Cg f CC a:=hG
   replace hp1 : pot CC≤P0:=hp1
   replace hp2 : more=true→pot CC<P0:=hp2
   replace hK : ClsC f.sizes CC:=hK
   replace o : Owns H0 H [(id5,.cells 1 (CC.map iL) 0),(id4,.cells 7 z7 0)]:=o;refine tt ?_;apply bk <;> intro h2
   ·have h2p:=of_decide h2
    have w2:=wsucc (k:=a) (by omega)
    have ham : a<f.shape.frm.length:=by omega
    have hfr:=hc.1.frmObj (f:=(a : Int)) (by simpa using ham)
    have hto:=hc.1.toObj (f:=(a : Int)) (by simpa using ham)
    have hac:=hact a ham;rw [ix_nat] at hfr hto
    obtain ⟨x,hx⟩ : ∃ x : Nat,f.shape.frm.getD a default=x:=⟨_,(Int.toNat_of_nonneg hfr.1).symm⟩
    obtain ⟨y,hy⟩ : ∃ y : Nat,f.shape.to.getD a default=y:=⟨_,(Int.toNat_of_nonneg hto.1).symm⟩;rw [hx,hy,ix_nat,ix_nat] at hac;rw [hx] at hfr;rw [hy] at hto
    have hxl : x<f.sizes.length:=by omega
    have hyl : y<f.sizes.length:=by omega
    have hzx:=hz0 x hxl
    have hzy:=hz0 y hyl
    obtain ⟨n,hn⟩ : ∃ n : Nat,f.sizes.getD x default=n:=⟨_,(Int.toNat_of_nonneg hzx.1).symm⟩
    obtain ⟨ny,hny⟩ : ∃ n : Nat,f.sizes.getD y default=n:=⟨_,(Int.toNat_of_nonneg hzy.1).symm⟩;rw [hn] at hac hzx;rw [hny] at hac hzy
    have hlen : (f.acts.getD a default).length=n:=by omega
    refine tt ?_;refine ⟨ham,by omega, ?_⟩;rw [hx,hy];refine tt ?_
    refine awp_for [2,4,5,8,9,10] (G:=Bool × List (List Int)) (fun d g=>[(7,some (.bool g.1)),(11,some (.int .i64 (d : Int)))])
     (fun d g H=>(pot g.2≤P0∧(g.1=true→pot g.2<P0)∧ClsC f.sizes g.2∧(g.1=false→Cg f g.2 a∧CgA f g.2 a d))∧Owns H0 H [(id5,.cells 1 (g.2.map iL) 0),(id4,.cells 7 z7 0)]) n (more,CC) ⟨⟨hp1,hp2,hK,fun q=>⟨hG q,fun d h=>absurd h (Nat.not_lt_zero d)⟩⟩,o⟩ rfl ?_
    clear o hp1 hp2 hK hG
    rintro d ⟨more,CC⟩ H hd ⟨⟨hp1,hp2,hK,hG⟩,o⟩
    replace hG : more=false→Cg f CC a∧CgA f CC a d:=hG
    replace hp1 : pot CC≤P0:=hp1
    replace hp2 : more=true→pot CC<P0:=hp2
    replace hK : ClsC f.sizes CC:=hK
    replace o : Owns H0 H [(id5,.cells 1 (CC.map iL) 0),(id4,.cells 7 z7 0)]:=o
    have hkx:=hK.row x hxl
    have hkl:=hK.len;rw [hn] at hkx;refine tt ?_;refine ⟨hxl,rd_own o (by omega) ?_⟩
    have ecl : (CC.getD x default).length=n:=by omega
    refine tw ecl ?_;apply bk <;> intro h3
    ·have h3p:=of_decide h3
     have w3:=wsucc (k:=d) (by omega);refine tt ?_
     refine awp_for [2,4,5,8,9,10,11] (G:=Bool × List (List Int)) (fun e g=>[(7,some (.bool g.1)),(12,some (.int .i64 (e : Int)))])
      (fun e g H=>(pot g.2≤P0∧(g.1=true→pot g.2<P0)∧ClsC f.sizes g.2∧(g.1=false→Cg f g.2 a∧CgA f g.2 a d∧CgD f g.2 a d e))∧Owns H0 H [(id5,.cells 1 (g.2.map iL) 0),(id4,.cells 7 z7 0)]) d (more,CC) ⟨⟨hp1,hp2,hK,fun q=>⟨(hG q).1,(hG q).2,fun e h=>absurd h (Nat.not_lt_zero e)⟩⟩,o⟩ rfl ?_
     clear o hp1 hp2 hK hG hkx hkl ecl
     rintro e ⟨more,CC⟩ H he ⟨⟨hp1,hp2,hK,hG⟩,o⟩
     replace hG : more=false→Cg f CC a∧CgA f CC a d∧CgD f CC a d e:=hG
     replace hp1 : pot CC≤P0:=hp1
     replace hp2 : more=true→pot CC<P0:=hp2
     replace hK : ClsC f.sizes CC:=hK
     replace o : Owns H0 H [(id5,.cells 1 (CC.map iL) 0),(id4,.cells 7 z7 0)]:=o
     have hkx:=hK.row x hxl
     have hky:=hK.row y hyl
     have hkl:=hK.len;rw [hn] at hkx;rw [hny] at hky;refine tt ?_;apply bk <;> intro h4
     ·have h4p:=of_decide h4
      have w4:=wsucc (k:=e) (by omega)
      have hu:=hac.2 _ (mem_getD.mpr ⟨d,by omega,rfl⟩)
      have hv:=hac.2 _ (mem_getD.mpr ⟨e,by omega,rfl⟩);refine tt ?_;refine ⟨h2p,by omega,h2p,by omega, ?_⟩
      generalize hu' : (f.acts.getD a default).getD d default=u at hu ⊢
      generalize hv' : (f.acts.getD a default).getD e default=v at hv ⊢;refine tt ?_;refine ⟨hxl,rd_own o (by omega) ?_⟩;refine tt ?_;refine ⟨by omega,hxl,rd_own o (by omega) ?_⟩;refine tt ?_;refine ⟨by omega, ?_⟩;apply bk <;> intro h5
      ·refine tw h5 ?_
       have hlx : (CC.getD y default).length=ny:=by omega
       refine ⟨hyl,rd_own o (by omega) ?_⟩;refine tt ?_;refine ⟨⟨hu.1,by omega⟩,hyl,rd_own o (by omega) ?_⟩;refine tt ?_;refine ⟨⟨hv.1,by omega⟩, ?_⟩;apply bk <;> intro h6
       ·refine tt ?_
        have h6p:=dd h6
        have h6p : ix (CC.getD y default) u≠ix (CC.getD y default) v:=h6p
        have hul : 0≤u∧u.toNat<(CC.getD y default).length:=⟨hu.1,by omega⟩
        have hvl : 0≤v∧v.toNat<(CC.getD y default).length:=⟨hv.1,by omega⟩
        have hpo:=pairsOf_ok hul hvl;rw [hlx] at hpo
        have hgl:=joinL_glued (n:=ny) (ps:=pairsOf (CC.getD y default)++[[u,v]]) fun q hq=>⟨(hpo q hq).2.1.2,(hpo q hq).2.2.2⟩
        have hless:=glued_less (by rw [joinL_len,hlx]) hul hvl h6p hgl
        have hset:=hK.set hyl (m:=joinL ny (pairsOf (CC.getD y default)++[[u,v]])) (by rw [joinL_len,hny]) (fun w hw=>by rw [hny]; exact joinL_ran hw) (joinL_cont _ _)
        have hpot:=pot_set CC y _ (by omega) hless;refine ⟨hyl,hyl,rd_own o (by omega) ?_⟩;rw [hny];refine tt ?_;refine (l01Pairs_own B (CC.getD y default) _ _ _ o).own fun idp A H o hA=>?_;subst hA
        have hpl : (pairsOf (CC.getD y default)).length=ny:=by rw [pairsOf,List.length_map,List.length_range,hlx]
        refine tt ?_;refine app_own [u,v] o rfl rfl (by simp only [maxL]; omega) fun idp H o=>tt ?_;refine call_fz 1 rfl o rfl fun H o=>?_;refine (join_pok B ny (by omega) (pairsOf (CC.getD y default)++[[u,v]]) hpo).go fun _=>tt ?_;refine ⟨hyl,set_own (f:=iL) (joinL ny (pairsOf (CC.getD y default)++[[u,v]])) o rfl (by omega) fun H o=>?_⟩;refine tw w4 ?_;exact for_next (true,_) (by omega) ⟨⟨Nat.le_trans (Nat.le_of_lt hpot) hp1,fun _=>Nat.lt_of_lt_of_le hpot hp1,hset,fun h=>absurd h (by simp)⟩,o⟩ rfl
       ·refine tw w4 ?_
        have h6p:=dd h6
        have hat : CgAt f CC a d e:=fun _=>by rw [hy,ix_nat,hu',hv']; exact h6p
        exact for_next (more,CC) (by omega) ⟨⟨hp1,hp2,hK,fun q=>⟨(hG q).1,(hG q).2.1,lt_succ_all (hG q).2.2 hat⟩⟩,o⟩ rfl
      ·try simp only [go_sem,↓reduceIte,reduceEqDiff,reduceAdd,reduceMul,reduceLeDiff,reduceLT,h5,w4]
       have h5p:=dd h5
       have hat : CgAt f CC a d e:=fun q=>by rw [hx,ix_nat] at q; exact absurd q h5p
       exact for_next (more,CC) (by omega) ⟨⟨hp1,hp2,hK,fun q=>⟨(hG q).1,(hG q).2.1,lt_succ_all (hG q).2.2 hat⟩⟩,o⟩ rfl
     ·have h4p:=of_ndecide h4
      obtain rfl : e=d:=by omega
      refine tw w3 ?_;exact for_next (more,CC) (by omega) ⟨⟨hp1,hp2,hK,fun q=>⟨(hG q).1,lt_succ_all (hG q).2.1 (hG q).2.2⟩⟩,o⟩ rfl
    ·have h3p:=of_ndecide h3
     obtain rfl : d=n:=by omega
     refine tw w2 ?_;exact for_next (more,CC) (by omega) ⟨⟨hp1,hp2,hK,fun q=>lt_succ_all (hG q).1 (by rw [hlen]; exact (hG q).2)⟩,o⟩ rfl
   ·have h2p:=of_ndecide h2
    obtain rfl : a=f.acts.length:=by omega
    refine tt ?_
    cases more
    ·exact while_next (pot CC) (false,CC) (by simp at hmm; omega) ⟨⟨by simp,hK,hG⟩,o⟩ rfl
    ·have:=hp2 rfl;exact while_next (pot CC+1) (true,CC) (by simp at hmm; omega) ⟨⟨by simp,hK,fun h=>absurd h (by simp)⟩,o⟩ rfl
  ·clear hmm
   have hCg:=hG rfl
   have hkl:=hK.len
   have hcx : ∀ x,x<f.sizes.length→(CC.getD x default).length≤120:=fun x hx=>by have:=hK.row x hx; have:=hz0 x hx; omega
   have hmx : ∀ x,x<f.sizes.length→(0≤mxL (CC.getD x default)∧mxL (CC.getD x default)≤f.sizes.getD x default)∧∀ v,v∈CC.getD x default→v<mxL (CC.getD x default) :=
    fun x hx=>mxL_bd (hz0 x hx).1 (hK.ran x hx)
   refine tt ?_;refine fz_own o hkl.symm fun H o=>tt ?_;refine (l02Own_ok B f.shape).go fun _=>tt ?_;refine nb o fun id8 H o=>tt ?_;refine sw o fun H o=>?_
   let st : AV→AV→MObj:=fun x5 x6=>.cells 7 [iI f.shape.objs,iL f.shape.frm,iL f.shape.to,iL f.shape.idn,iLL f.shape.comp,x5,x6] 0
   refine tt ?_;refine awp_for [2,4,5,15] (G:=AV) (fun k X=>[(16,some (.int .i64 (k : Int)))]) (fun k X H=>LsO iI H0 H ((id8,st X .nilsl)::[(id4,.cells 7 z7 0)]) X ((CC.take k).map mxL)) CC.length .nilsl (.inl ⟨rfl,rfl,o⟩) rfl ?_;clear o
   rintro k X H hk hX;refine tt ?_;apply bk <;> intro h1
   ·have h1p:=of_decide h1
    have w1:=wsucc (k:=k) (by omega)
    obtain ⟨p,o,hp⟩:=hX.split;clear hX
    have hck:=hcx k (by omega)
    have hrk:=hK.ran k (by omega)
    have hzk:=hz0 k (by omega);refine tt ?_;refine awp_for [2,4,5,15,16] (G:=Unit) (fun e _=>[(17,some (.int .i64 (mxL ((CC.getD k default).take e)))),(18,some (.int .i64 (e : Int)))]) (fun e _ H=>Owns H0 H (p++((id8,st X .nilsl)::[(id4,.cells 7 z7 0)]))) (CC.getD k default).length () o rfl ?_;clear o
    rintro e _ H he o;refine tt ?_;refine ⟨h1p, ?_⟩;apply bk <;> intro h2
    ·have h2p:=of_decide h2
     have w2:=wsucc (k:=e) (by omega)
     have hv:=hrk _ (mem_getD.mpr ⟨e,h2p,rfl⟩)
     have w3 : IntKind.i64.wrap ((CC.getD k default).getD e default+1)=(CC.getD k default).getD e default+1:=wrap_i64 (by omega) (by omega)
     have hms:=mxL_succ (CC.getD k default) h2p;refine tt ?_;refine ⟨h1p,h2p, ?_⟩;rw [w3,← hms];refine tw w2 ?_;exact for_next () (by omega) o rfl
    ·have h2p:=of_ndecide h2
     obtain rfl : e=(CC.getD k default).length:=by omega
     rw [List.take_length]
     have hX:=LsO.mk o hp;clear o;refine tt ?_;refine rd_get hX.obj (by simp [st]) ?_;refine tt ?_
     have e7 : (CC.take k).map mxL++[mxL (CC.getD k default)]=(CC.take (k+1)).map mxL:=by rw [take_one CC h1p]; simp
     refine hX.app (mxL (CC.getD k default)) rfl (by simp only [List.length_map,List.length_take,maxL]; omega) fun idn H o=>?_;rw [e7] at o ⊢;refine tt ?_;refine sw o.swap fun H o=>?_;refine tw w1 ?_;exact for_next _ (by omega) (.inr ⟨idn,rfl,o.swap⟩) rfl
   ·have h1p:=of_ndecide h1
    obtain rfl : k=CC.length:=by omega
    rw [List.take_length] at hX
    obtain ⟨p5,o,hp5⟩:=hX.split
    have o : Owns H0 H ((id8,st X .nilsl)::(p5++[(id4,.cells 7 z7 0)])):=o.perm List.perm_middle;clear hX;refine tt ?_;refine awp_for [2,4,5,15] (G:=AV × List (List Int)) (fun a Y=>[(19,some (.int .i64 (a : Int)))]) (fun a Y H=>(Y.2.length=a∧∀ i : Nat,i<a→RowTo f CC i (Y.2.getD i default) (f.acts.getD i default).length)∧LsO iL H0 H ((id8,st X Y.1)::(p5++[(id4,.cells 7 z7 0)])) Y.1 Y.2) f.acts.length (.nilsl,[]) ⟨⟨rfl,fun i h=>absurd h (Nat.not_lt_zero i)⟩,.inl ⟨rfl,rfl,o⟩⟩ rfl ?_;clear o
    rintro a ⟨Y,RR⟩ H ha ⟨⟨hRR,hRow⟩,hY⟩
    replace hRow : ∀ i : Nat,i<a→RowTo f CC i (RR.getD i default) (f.acts.getD i default).length:=hRow
    replace hRR : RR.length=a:=hRR
    replace hY : LsO iL H0 H ((id8,st X Y)::(p5++[(id4,.cells 7 z7 0)])) Y RR:=hY;refine tt ?_;apply bk <;> intro h2
    ·have h2p:=of_decide h2
     have w2:=wsucc (k:=a) (by omega)
     have ham : a<f.shape.frm.length:=by omega
     have hfr:=hc.1.frmObj (f:=(a : Int)) (by simpa using ham)
     have hto:=hc.1.toObj (f:=(a : Int)) (by simpa using ham)
     have hac:=hact a ham;rw [ix_nat] at hfr hto
     obtain ⟨x,hx⟩ : ∃ x : Nat,f.shape.frm.getD a default=x:=⟨_,(Int.toNat_of_nonneg hfr.1).symm⟩
     obtain ⟨y,hy⟩ : ∃ y : Nat,f.shape.to.getD a default=y:=⟨_,(Int.toNat_of_nonneg hto.1).symm⟩;rw [hx,hy,ix_nat,ix_nat] at hac;rw [hx] at hfr;rw [hy] at hto
     have hxl : x<f.sizes.length:=by omega
     have hyl : y<f.sizes.length:=by omega
     have hzx:=hz0 x hxl
     have hkx:=hK.row x hxl
     have hky:=hK.row y hyl
     have hmxx:=hmx x hxl;refine tt ?_;refine ⟨ham,by omega, ?_⟩;rw [hx,hy];refine tt ?_
     obtain ⟨idX,rfl,rfl⟩:=hp5.sub (i:=x) (by rw [List.length_map]; omega);refine rd_get hY.obj (by simp [st]) ?_;refine tt ?_;refine ⟨by rw [List.length_map]; omega,rd_inner (f:=iI) (hY.get (x:=(idX,.cells 1 ((CC.map mxL).map iI) 0)) (by simp)) (by rw [List.length_map]; omega) ?_⟩;rw [map_getD mxL (show x<CC.length by omega)]
     obtain ⟨n,hn⟩ : ∃ n : Nat,mxL (CC.getD x default)=n:=⟨_,(Int.toNat_of_nonneg hmxx.1.1).symm⟩;rw [hn] at hmxx ⊢
     obtain ⟨q,o,hq⟩:=hY.split;clear hY;refine tt ?_;refine ⟨⟨by omega,by simp only [maxL]; omega⟩,mks_list iI 0 rfl o fun id22 H o=>?_⟩;refine tt ?_
     have hrep : (List.replicate n (0 : Int)).length=n:=List.length_replicate
     refine awp_for [2,4,5,15,19,20,21,22] (G:=List Int) (fun e _=>[(23,some (.int .i64 (e : Int)))])
      (fun e A H=>(A.length=n∧RowTo f CC a A e)∧Owns H0 H ((id22,.cells 1 (A.map iI) 0)::(q++((id8,st (.buf idX (CC.map mxL).length) Y)::([(idX,.cells 1 ((CC.map mxL).map iI) 0)]++[(id4,.cells 7 z7 0)]))))) (CC.getD x default).length (List.replicate n 0) ⟨⟨hrep,by rw [hx,ix_nat,hn,hrep],fun e h=>absurd h (Nat.not_lt_zero e)⟩,o⟩ rfl ?_
     clear o
     rintro e A H he ⟨⟨hA,hAr⟩,o⟩;refine tt ?_;refine ⟨by omega, ?_⟩;apply bk <;> intro h3
     ·have h3p:=of_decide h3
      have w3:=wsucc (k:=e) (by omega)
      have hcv:=hmxx.2 _ (mem_getD.mpr ⟨e,h3p,rfl⟩)
      have hcr:=hK.ran x hxl _ (mem_getD.mpr ⟨e,h3p,rfl⟩)
      have hav:=hac.2 _ (mem_getD.mpr ⟨e,by omega,rfl⟩);refine tt ?_;refine ⟨by omega,h3p,by omega,h2p,by omega,⟨hav.1,by omega⟩,⟨hcr.1,by omega⟩, ?_⟩
      have hset:=hAr.set (hCg a h2p) (by omega) (fun e' he'=>by rw [hx,ix_nat]; exact (hK.ran x hxl _ (mem_getD.mpr ⟨e',by omega,rfl⟩)).1) (by rw [hx,ix_nat]; omega);rw [hx,hy,ix_nat,ix_nat] at hset;refine set_own (f:=iI) _ o rfl (by omega) fun H o=>?_;refine tw w3 ?_;exact for_next (A.set _ _) (by omega) ⟨⟨by rw [List.length_set]; exact hA,hset⟩,o⟩ rfl
     ·have h3p:=of_ndecide h3
      obtain rfl : e=(CC.getD x default).length:=by omega
      have hAe : RowTo f CC a A (f.acts.getD a default).length:=by rw [show (f.acts.getD a default).length=(CC.getD x default).length by omega]; exact hAr
      refine tt ?_;refine fz_own o hA.symm fun H o=>?_
      have hY:=LsO.mk o hq;clear o;refine tt ?_;refine rd_get hY.obj (by simp [st]) ?_;refine tt ?_;refine hY.app A rfl (by simp only [maxL]; omega) fun idn H o=>tt ?_;refine sw o.swap fun H o=>?_;refine tw w2 ?_;exact for_next (.buf idn (RR++[A]).length,RR++[A]) (by omega) ⟨⟨by show (RR++[A]).length=_; simp [hRR],rows_snoc (P:=fun i r=>RowTo f CC i r (f.acts.getD i default).length) hRR hRow hAe⟩,.inr ⟨idn,rfl,o.swap⟩⟩ rfl
    ·have h2p:=of_ndecide h2
     obtain rfl : a=f.acts.length:=by omega
     refine tt ?_;refine wk_ls 6 hY rfl fun H o=>?_;simp only [List.set_cons_zero,List.set_cons_succ] at o
     have hX:=LsO.mk (o.perm List.perm_middle.symm) hp5;clear o;refine wk_ls 5 hX rfl fun H o=>wkW_done ?_;simp only [List.set_cons_zero,List.set_cons_succ] at o;refine tt ?_;refine rd_celln o (by simp) ?_;refine tt ?_;refine sw o.swap fun H o=>tt ?_
     have hr:=o.rc 7 0 (by simp);simp only [List.drop_zero] at hr;rw [hr];exact rets_ret ⟨CC,⟨f.shape,CC.map mxL,RR⟩,rfl,hK,rfl,rfl,hRR,hRow⟩ o.sub
end Go.Proofs.Shf
namespace Go.Shf
open Go.AW
theorem repl_getD {α : Type} [Inhabited α] (n : Nat) (a : α) {i : Nat} (h : i<n) : (List.replicate n a).getD i default=a:=by
 rw [List.getD_eq_getElem?_getD,List.getElem?_replicate,if_pos h]; rfl
section
variable {c : Cat} {n : Nat}
theorem constF_size (hc : c.Shape) {x : Int} (hx : 0≤x∧x<c.objs) : ix (constF c n).sizes x=n:=repl_getD _ _ (by have:=hc.o; omega)
theorem constF_act {a : Int} (ha : a.toNat<c.frm.length) : ix (constF c n).acts a=(List.range n).map Int.ofNat:=repl_getD _ _ ha
theorem num_getD {i : Nat} (hi : i<n) : ((List.range n).map Int.ofNat).getD i default=i:=by rw [map_getD _ (by simpa using hi)]; simp [List.getD_eq_getElem?_getD,hi]
theorem constF_sh (hc : c.Is) (hn : n≤16) : (constF c n).Shape where
 is:=hc
 sl:=by have:=hc.1.o; simp only [constF,List.length_replicate]; omega
 al:=by simp [constF]
 sz y hy:=by
  have:=List.eq_of_mem_replicate hy;omega
 act a ha:=by
  have ha2 : a<c.frm.length:=by simpa [constF] using ha
  have e1 : (constF c n).acts.getD a default=(List.range n).map Int.ofNat:=by
   have:=constF_act (c:=c) (n:=n) (a:=(a : Int)) (by simpa using ha2)
   rwa [ix_nat] at this
  have hf:=hc.1.frmObj (f:=(a : Int)) (by simpa using ha2)
  have ht:=hc.1.toObj (f:=(a : Int)) (by simpa using ha2);rw [ix_nat] at hf ht;rw [e1];refine ⟨?_,fun y hy=>?_⟩
  ·rw [show (constF c n).shape=c from rfl,constF_size hc.1 hf]; simp
  ·rw [show (constF c n).shape=c from rfl,constF_size hc.1 ht]
   obtain ⟨i,hi,rfl⟩:=List.mem_map.mp hy;rw [List.mem_range] at hi;simp only [Int.ofNat_eq_natCast]; omega
theorem constF_is (hc : c.Is) (hn : n≤16) : (constF c n).Is:=by
 refine ⟨constF_sh hc hn,fun x hx e he=>?_,fun a b ha hb hab e he=>?_⟩
 ·have hx2 : x<c.idn.length:=hx
  have hi:=hc.1.idn _ (mem_getD.mpr ⟨x,hx2,rfl⟩)
  have e1 : ix (constF c n).acts ((constF c n).shape.idn.getD x default)=(List.range n).map Int.ofNat:=constF_act (by show (c.idn.getD x default).toNat<_; omega);rw [e1] at he ⊢;exact num_getD (by simpa using he)
 ·have ha2 : a<c.frm.length:=ha
  have hb2 : b<c.frm.length:=hb
  have hy:=hc.1.yes a b ha2 hb2 hab
  have e1 : (constF c n).acts.getD a default=(List.range n).map Int.ofNat:=by
   have:=constF_act (c:=c) (n:=n) (a:=(a : Int)) (by simpa using ha2)
   rwa [ix_nat] at this
  have e2 : (constF c n).acts.getD b default=(List.range n).map Int.ofNat:=by
   have:=constF_act (c:=c) (n:=n) (a:=(b : Int)) (by simpa using hb2)
   rwa [ix_nat] at this
  have e3 : ix (constF c n).acts (((constF c n).shape.comp.getD a default).getD b default)=(List.range n).map Int.ofNat:=constF_act (by show ((c.comp.getD a default).getD b default).toNat<_; omega);rw [e1] at he ⊢
  have he2 : e<n:=by simpa using he
  rw [e3,e2,num_getD he2,ix_nat,num_getD he2]
end
end Go.Shf
namespace Go.Proofs.Shf
open Go.AW Go.Proofs Go.Shf
theorem l03Poset_ok (B : Nat) (R : List (List Int)) (hR : SqT 4 R) : Rets B 163 [iLL R] (CatQ 16):=by
 intro H0;refine c163p (by simp) fun hf=>?_
 obtain ⟨hR4,hrow⟩:=hR;unfold s163p;refine tt ?_;refine newRef_own (.nil _) fun id2 H o=>tt ?_;refine newBuf_own o fun idN H o=>tt ?_;refine newBuf_own o fun a H o=>tt ?_;refine newBuf_own o fun b H o=>tt ?_;refine newBuf_own o fun i H o=>tt ?_;refine newBuf_own o fun d H o=>tt ?_;refine newRef_own o fun id5 H o=>tt ?_;refine sw o fun H o=>tt ?_
 generalize hn : R.length=n at *
 refine awp_for [0,2,3,5] (G:=(Nat × List Int) × (Nat × List Int) × (Nat × List (List Int))) (fun k g=>[(4,some (.buf g.2.2.1 g.2.2.2.length)),(6,some (.int .i64 (k : Int)))])
  (fun k g H=>g.2.1.2.length=g.1.2.length∧g.1.2.length≤k*n∧(∀ y,y∈g.1.2→0≤y∧y<n)∧(∀ y,y∈g.2.1.2→0≤y∧y<n)∧g.2.2.2.length=k∧(∀ r,r∈g.2.2.2→r.length=n) ∧
   Owns H0 H [(id5,MObj.cells 5 [iI n,.buf g.1.1 g.1.2.length,.buf g.2.1.1 g.2.1.2.length,.buf i 0,.buf d 0] 0),(g.1.1,MObj.cells 1 (g.1.2.map iI) 0),(g.2.1.1,MObj.cells 1 (g.2.1.2.map iI) 0),(g.2.2.1,MObj.cells 1 (g.2.2.2.map iL) 0),
    (i,MObj.cells 1 [] 0),(d,MObj.cells 1 [] 0),(id2,MObj.cells 5 [iI 0,.nilsl,.nilsl,.nilsl,.nilsl] 0)]) n ((a,[]),(b,[]),(idN,[]))
  ⟨rfl,by simp,by simp,by simp,rfl,by simp,o.pm⟩ rfl ?_
 clear o
 rintro k ⟨⟨a,A⟩,⟨b,C⟩,⟨idN,rows⟩⟩ H hk ⟨hC,hA,hAr,hCr,hrl,hrr,o⟩;dsimp only at hC hA hAr hCr hrl hrr
 replace o : Owns H0 H [(id5,MObj.cells 5 [iI n,.buf a A.length,.buf b C.length,.buf i 0,.buf d 0] 0),(a,MObj.cells 1 (A.map iI) 0),(b,MObj.cells 1 (C.map iI) 0),(idN,MObj.cells 1 (rows.map iL) 0),
    (i,MObj.cells 1 [] 0),(d,MObj.cells 1 [] 0),(id2,MObj.cells 5 [iI 0,.nilsl,.nilsl,.nilsl,.nilsl] 0)]:=o
 refine tt ?_;apply bk <;> intro h1
 ·have h1p:=of_decide h1;refine tt ?_;refine newBuf_own o fun idr H o=>tt ?_
  have hkn : k*n+n≤16:=by
   have : (k+1)*n≤4*4:=Nat.mul_le_mul (by omega) (by omega);rw [Nat.succ_mul] at this; omega
  refine awp_for [0,2,3,4,5,6] (G:=(Nat × List Int) × (Nat × List Int) × (Nat × List Int)) (fun j g=>[(7,some (.buf g.1.1 g.1.2.length)),(8,some (.int .i64 (j : Int)))])
   (fun j g H=>g.1.2.length=j∧g.2.2.2.length=g.2.1.2.length∧g.2.1.2.length≤k*n+j∧(∀ y,y∈g.2.1.2→0≤y∧y<n)∧(∀ y,y∈g.2.2.2→0≤y∧y<n) ∧
    Owns H0 H [(g.1.1,MObj.cells 1 (g.1.2.map iI) 0),(id5,MObj.cells 5 [iI n,.buf g.2.1.1 g.2.1.2.length,.buf g.2.2.1 g.2.2.2.length,.buf i 0,.buf d 0] 0),(g.2.1.1,MObj.cells 1 (g.2.1.2.map iI) 0),(g.2.2.1,MObj.cells 1 (g.2.2.2.map iI) 0),(idN,MObj.cells 1 (rows.map iL) 0),
    (i,MObj.cells 1 [] 0),(d,MObj.cells 1 [] 0),(id2,MObj.cells 5 [iI 0,.nilsl,.nilsl,.nilsl,.nilsl] 0)]) n ((idr,[]),(a,A),(b,C))
   ⟨rfl,hC,by omega,hAr,hCr,o⟩ rfl ?_
  clear o hA hAr hCr hC
  rintro j ⟨⟨idr,row⟩,⟨a,A⟩,⟨b,C⟩⟩ H hj ⟨hrow',hC,hA,hAr,hCr,o⟩
  replace hrow' : row.length=j:=hrow';dsimp only at hC hA hAr hCr
  replace o : Owns H0 H [(idr,MObj.cells 1 (row.map iI) 0),(id5,MObj.cells 5 [iI n,.buf a A.length,.buf b C.length,.buf i 0,.buf d 0] 0),(a,MObj.cells 1 (A.map iI) 0),(b,MObj.cells 1 (C.map iI) 0),(idN,MObj.cells 1 (rows.map iL) 0),
    (i,MObj.cells 1 [] 0),(d,MObj.cells 1 [] 0),(id2,MObj.cells 5 [iI 0,.nilsl,.nilsl,.nilsl,.nilsl] 0)]:=o
  refine tt ?_;apply bk <;> intro h2
  ·have h2p:=of_decide h2
   have w:=wsucc (k:=j) (by omega);refine tt ?_;refine rd_cells o.tl (by simp) ?_;refine tt ?_;refine app_own _ o rfl rfl (by simp only [maxL]; omega) fun idr H o=>?_
   have hR1:=hrow k (by omega);refine tt ?_;refine ⟨by omega,by omega, ?_⟩;apply bk <;> intro h3
   ·refine tt ?_;refine rd_cells o.tl (by simp) ?_;refine tt ?_;refine app_own _ (o.pull [_,_]) rfl rfl (by simp only [maxL]; omega) fun a H o=>tt ?_;refine sw (o.pull [_,_]) fun H o=>tt ?_;refine rd_cells o (by simp) ?_;refine tt ?_;refine app_own _ (o.pull [_,_,_]) rfl rfl (by simp only [maxL]; omega) fun b H o=>tt ?_;refine sw o.swap fun H o=>?_;refine tw w ?_;refine for_next ((idr,_),(a,A++[(k : Int)]),(b,C++[(j : Int)])) h2p ⟨by simp [hrow'],by simp [hC],by simp; omega, ?_, ?_,o.pm⟩ rfl
    ·intro y hy
     rcases List.mem_append.mp hy with h | h
     ·exact hAr y h
     ·rw [List.mem_singleton] at h; subst h; omega
    ·intro y hy
     rcases List.mem_append.mp hy with h | h
     ·exact hCr y h
     ·rw [List.mem_singleton] at h; subst h; omega
   ·refine tw w ?_;exact for_next ((idr,_),(a,A),(b,C)) h2p ⟨by simp [hrow'],hC,by show A.length≤_; omega,hAr,hCr,o⟩ rfl
  ·have h2p:=of_ndecide h2;refine tt ?_;refine fz_own o rfl fun H o=>tt ?_;refine app_own row (o.pull [_,_,_]) rfl rfl (by simp only [maxL]; omega) fun idN H o=>?_
   have w:=wsucc (k:=k) (by omega);refine tw w ?_;refine for_next ((a,A),(b,C),(idN,rows++[row])) h1p ⟨hC,by show A.length≤_; rw [Nat.succ_mul]; omega,hAr,hCr,by simp [hrl], ?_,o.pm⟩ rfl
   intro r hr
   rcases List.mem_append.mp hr with h | h
   ·exact hrr r h
   ·rw [List.mem_singleton] at h; subst h; omega
 ·have h1p:=of_ndecide h1
  have hkn : k=n:=by omega
  subst hkn
  have hA16 : A.length≤16:=Nat.le_trans hA (Nat.mul_le_mul hR4 hR4);refine tt ?_;refine fz_own (o.pull [_,_,_]) rfl fun H o=>tt ?_
  refine awp_for [2,3,4,5] (G:=(Nat × List Int)) (fun j g=>[(9,some (.int .i64 (j : Int)))])
   (fun j g H=>g.2.length=j∧Owns H0 H [(id5,MObj.cells 5 [iI k,.buf a A.length,.buf b C.length,.buf g.1 g.2.length,.buf d 0] 0),(g.1,MObj.cells 1 (g.2.map iI) 0),(a,MObj.cells 1 (A.map iI) 0),(b,MObj.cells 1 (C.map iI) 0),
    (d,MObj.cells 1 [] 0),(id2,MObj.cells 5 [iI 0,.nilsl,.nilsl,.nilsl,.nilsl] 0)]) k (i,[]) ⟨rfl,o.pm⟩ rfl ?_
  clear o
  rintro j ⟨i,I⟩ H hj ⟨hI,o⟩;dsimp only at hI
  replace o : Owns H0 H [(id5,MObj.cells 5 [iI k,.buf a A.length,.buf b C.length,.buf i I.length,.buf d 0] 0),(i,MObj.cells 1 (I.map iI) 0),(a,MObj.cells 1 (A.map iI) 0),(b,MObj.cells 1 (C.map iI) 0),
    (d,MObj.cells 1 [] 0),(id2,MObj.cells 5 [iI 0,.nilsl,.nilsl,.nilsl,.nilsl] 0)]:=o
  refine tt ?_;apply bk <;> intro h2
  ·have h2p:=of_decide h2
   have w:=wsucc (k:=j) (by omega)
   have hrj:=hrr (rows.getD j default) (mem_getD.mpr ⟨j,by omega,rfl⟩);refine tt ?_;refine rd_cells o (by simp) ?_;refine tt ?_;refine ⟨by omega,by omega,tt ?_⟩;refine app_own _ o.swap rfl rfl (by simp only [maxL]; omega) fun i H o=>tt ?_;refine sw o.swap fun H o=>?_;refine tw w ?_;exact for_next (i,_) h2p ⟨by simp [hI],o⟩ rfl
  ·have h2p:=of_ndecide h2
   have hIk : I.length=k:=by omega
   refine tt ?_;refine wk_cell 3 o rfl rfl fun H o=>?_;simp only [List.set_cons_zero,List.set_cons_succ] at o;refine wk_cell 1 o rfl rfl fun H o=>?_;simp only [List.set_cons_zero,List.set_cons_succ] at o;refine wk_cell 2 o rfl rfl fun H o=>wkW_done ?_;simp only [List.set_cons_zero,List.set_cons_succ] at o;clear h2 h2p hj hI;refine tt ?_
   refine awp_for [2,4,5] (G:=(Nat × List (List Int))) (fun j g=>[(10,some (.int .i64 (j : Int)))])
    (fun j g H=>g.2.length=j∧(∀ r,r∈g.2→r.length=A.length)∧Owns H0 H [(id5,MObj.cells 5 [iI k,iL A,iL C,iL I,.buf g.1 g.2.length] 0),(g.1,MObj.cells 1 (g.2.map iL) 0),(id2,MObj.cells 5 [iI 0,.nilsl,.nilsl,.nilsl,.nilsl] 0)]) A.length (d,[]) ⟨rfl,by simp,o⟩ rfl ?_
   clear o
   rintro f ⟨d,D⟩ H hf' ⟨hD,hDr,o⟩;dsimp only at hD hDr o;refine tt ?_;refine rd_cells o (by simp) ?_;refine tt ?_;apply bk <;> intro h2
   ·have h2p:=of_decide h2;refine tt ?_;refine newBuf_own o fun idr H o=>tt ?_
    refine awp_for [2,4,5,10] (G:=Nat × List Int) (fun g r=>[(11,some (.buf r.1 r.2.length)),(12,some (.int .i64 (g : Int)))])
     (fun g r H=>r.2.length=g∧Owns H0 H [(r.1,MObj.cells 1 (r.2.map iI) 0),(id5,MObj.cells 5 [iI k,iL A,iL C,iL I,.buf d D.length] 0),(d,MObj.cells 1 (D.map iL) 0),(id2,MObj.cells 5 [iI 0,.nilsl,.nilsl,.nilsl,.nilsl] 0)]) A.length (idr,[]) ⟨rfl,o⟩ rfl ?_
    clear o
    rintro g ⟨idr,row⟩ H hg ⟨hrl',o⟩
    replace hrl' : row.length=g:=hrl';dsimp only at o;refine tt ?_;refine rd_cells o.tl (by simp) ?_;refine tt ?_;apply bk <;> intro h3
    ·have h3p:=of_decide h3
     have w:=wsucc (k:=g) (by omega);refine tt ?_;refine rd_cells o.tl (by simp) ?_;refine tt ?_;refine ⟨by omega, ?_⟩;refine rd_cells o.tl (by simp) ?_;refine tt ?_;refine ⟨by omega,tt ?_⟩
     have hAf:=hAr (A.getD f default) (mem_getD.mpr ⟨f,h2p,rfl⟩)
     have hCg:=hCr (C.getD g default) (mem_getD.mpr ⟨g,by omega,rfl⟩)
     have hrx:=hrr (ix rows (A.getD f default)) (ix_mem (by omega));apply bk <;> intro h4
     ·refine tt ?_;refine rd_cells o.tl (by simp) ?_;refine tt ?_;refine ⟨h2p,⟨by omega,by omega⟩, ?_⟩;refine rd_cells o.tl (by simp) ?_;refine tt ?_;refine ⟨by omega,⟨by omega,by omega⟩, ?_⟩;refine app_own _ o rfl rfl (by simp only [maxL]; omega) fun idr H o=>?_;refine tw w ?_;exact for_next (idr,_) h3p ⟨by simp [hrl'],o⟩ rfl
     ·refine tt ?_;refine app_own _ o rfl rfl (by simp only [maxL]; omega) fun idr H o=>?_;refine tw w ?_;exact for_next (idr,_) h3p ⟨by simp [hrl'],o⟩ rfl
    ·have h3p:=of_ndecide h3
     have w:=wsucc (k:=f) (by omega);refine tt ?_;refine fz_own o rfl fun H o=>tt ?_;refine rd_cells o (by simp) ?_;refine tt ?_;refine app_own row o.swap rfl rfl (by simp only [maxL]; omega) fun d H o=>tt ?_;refine sw o.swap fun H o=>?_;refine tw w ?_;refine for_next (d,D++[row]) h2p ⟨by simp [hD], ?_,o⟩ rfl
     intro r hr
     rcases List.mem_append.mp hr with h | h
     ·exact hDr r h
     ·rw [List.mem_singleton] at h; subst h; omega
   ·have h2p:=of_ndecide h2;refine tt ?_;refine wk_cell 4 o rfl rfl fun H o=>wkW_done ?_;simp only [List.set_cons_zero,List.set_cons_succ] at o;refine tt ?_;refine rd_celln o (by simp) ?_;refine tt ?_;refine sw o.swap fun H o=>tt ?_
    have hr2:=o.rc 5 0 (by simp);simp only [List.drop_zero] at hr2;rw [hr2];refine tt ?_
    have hDA : D.length=A.length:=by omega
    refine rets_ret ⟨⟨k,A,C,I,D⟩,rfl,⟨by show (0 : Int)≤(k : Int); omega,by show (k : Int)≤((16 : Nat) : Int); omega⟩,by show (I.length : Int)=k; omega,hA16,hC,hDA,fun x hx=>?_⟩ o.sub;exact hDr _ (mem_getD.mpr ⟨x,by rw [hDA]; exact hx,rfl⟩)
end Go.Proofs.Shf
namespace Go.AW
theorem LsR.inner {α : Type} {f : α→AV} : ∀ (ms : List (Nat × List α)),LsR f (ms.map bufE) (ms.map Prod.snd) (inner f ms)
 | []=>.nil
 | m::ms=>LsR.cons (p:=[(m.1,.cells 1 (m.2.map f) 0)]) (.inr ⟨m.1,rfl,rfl⟩) (LsR.inner ms)
theorem app_own' {α : Type} [Inhabited α] {f : α→AV} [One f] {H0 H : Heap} {l : Ob} {K : Kont} {id fr n : Nat} {out : List α} (a : α) {v : AV} (h : Owns H0 H ((id,.cells 1 (out.map f) fr)::l)) (hv : v=f a) (hn : n=out.length) (hm : out.length+1≤maxL)
  (hk : ∀ id' H' A,A=out++[a]→A.length=out.length+1→Owns H0 H' ((id',.cells 1 (A.map f) fr)::l)→K (.buf id' A.length) H') : appW 1 (some (.buf id n)) (some (.sl [v])) K H :=
 app_own a h hv hn hm fun id' H' o=>hk id' H' _ rfl (by simp) o
end Go.AW
namespace Go.Proofs.Shf
open Go.AW Go.Proofs Go.Shf
theorem l01Own2_own (B : Nat) (T : List (List Int)) (H0 H : Heap) (l : Ob) (o : Owns H0 H l) :
  CallH Tryz.prog B 169 [iLL T] H (fun r H'=>∃ d Xs ob,r=.buf d Xs.length∧LsR iI Xs T ob∧Owns H0 H' ((d,.cells 1 Xs 0)::(ob++l))):=by
 refine c169p (by simp) fun ⟨hf,_⟩=>?_
 have hl:=fine_mL_le hf;simp only [maxL] at hl;unfold s169p;refine tt ?_;refine newBuf_own o fun d H o=>tt ?_
 refine awp_for [0] (G:=Nat × List (Nat × List Int)) (fun k g=>[(3,some (.buf g.1 g.2.length)),(4,some (.int .i64 (k : Int)))])
  (fun k g H=>g.2.map Prod.snd=T.take k∧Owns H0 H ((g.1,MObj.cells 1 (g.2.map bufE) 0)::(inner iI g.2++l))) T.length (d,[]) ⟨by simp,o⟩ rfl ?_
 clear o
 rintro k ⟨d,ms⟩ H hk ⟨hms,o⟩;dsimp only at hms o
 have hml : ms.length=k:=by
  have:=congrArg List.length hms
  simpa [Nat.min_eq_left hk] using this
 refine tt ?_;apply bk <;> intro h1
 ·have h1p:=of_decide h1
  have w:=wsucc (k:=k) (by omega);refine tt ?_;refine ⟨h1p, ?_⟩;refine (l01Own_own B (T.getD k default) H0 H _ o).own fun id A H o hA=>?_;subst hA;refine tt ?_;refine app_own (f:=bufE) (id,T.getD k default) o.swap rfl rfl (by simp only [maxL]; omega) fun d H o=>?_;refine tw w ?_;refine for_next (d,ms++[(id,T.getD k default)]) h1p ⟨by rw [List.map_append,hms,take_succ' T h1p]; rfl, ?_⟩ rfl;refine o.perm (.cons _ ?_);simp only [inner,List.map_append,List.map_cons,List.map_nil,List.append_assoc,List.cons_append,List.nil_append];exact List.perm_middle.symm
 ·have h1p:=of_ndecide h1
  obtain rfl : k=T.length:=by omega
  rw [List.take_length] at hms;refine tt ?_;refine ⟨H,.refl H,d,ms.map bufE,inner iI ms,by simp, ?_,o⟩;rw [← hms]; exact LsR.inner ms
theorem New.go' {P : Program} {B : Nat} {fn : FuncId} {args : List AV} {O : Ob→AV→Prop} {H0 H : Heap} {l : Ob} {K : Kont} (h : New P B fn args O) (o : Owns H0 H l) (hk : ∀ r p H',O p r→Owns H0 H' (p++l)→H.sub H'→K r H') : CallH P B fn args H K :=
 (h.run H).mono fun r H' ⟨p,q1,q2⟩=>hk r p H' q1 (o.trans q2) q2.sub
def OLb (l : List Int) (p : Ob) (X : AV) : Prop:=∃ id,X=.buf id l.length∧p=[(id,.cells 1 (l.map iI) 0)]
theorem l01Own_new (B : Nat) (l : List Int) : New Tryz.prog B 168 [iL l] (OLb l) :=
 ⟨fun H=>(l01Own_own B l H H [] (.nil H)).mono fun r H' ⟨id,A,e,o,q⟩=>by
  subst e q;exact ⟨_,⟨id,rfl,rfl⟩,o⟩⟩
def OLLb (T : List (List Int)) (p : Ob) (X : AV) : Prop:=∃ d Xs ob,X=.buf d Xs.length∧LsR iI Xs T ob∧p=(d,.cells 1 Xs 0)::ob
theorem l01Own2_new (B : Nat) (T : List (List Int)) : New Tryz.prog B 169 [iLL T] (OLLb T) :=
 ⟨fun H=>(l01Own2_own B T H H [] (.nil H)).mono fun r H' ⟨d,Xs,ob,e,h,o⟩=>by
  rw [List.append_nil] at o;exact ⟨_,⟨d,Xs,ob,e,h,rfl⟩,o⟩⟩
def OCb (c : Cat) (p : Ob) (X : AV) : Prop:=∃ a b i d Xs ob,X=.agg [iI c.objs,.buf a c.frm.length,.buf b c.to.length,.buf i c.idn.length,.buf d Xs.length]∧LsR iI Xs c.comp ob ∧
 p=(a,.cells 1 (c.frm.map iI) 0)::(b,.cells 1 (c.to.map iI) 0)::(i,.cells 1 (c.idn.map iI) 0)::(d,.cells 1 Xs 0)::ob
theorem l02Own_new (B : Nat) (c : Cat) : New Tryz.prog B 64 [.agg c.cells] (OCb c):=by
 refine ⟨fun H0=>c64p (by simp) fun _=>?_⟩;unfold s64p;refine tt ?_;refine newRef_own (.nil _) fun id H o=>tt ?_;refine New.go' (l01Own_new B c.frm) o fun X1 p1 H ⟨a,e1,e2⟩ o hs=>⟨hs, ?_⟩;subst e1 e2;refine tt ?_;refine New.go' (l01Own_new B c.to) o fun X1 p1 H ⟨b,e1,e2⟩ o hs=>⟨hs, ?_⟩;subst e1 e2;refine tt ?_;refine New.go' (l01Own_new B c.idn) o fun X1 p1 H ⟨i,e1,e2⟩ o hs=>⟨hs, ?_⟩;subst e1 e2;refine tt ?_;refine New.go' (l01Own2_new B c.comp) o fun X1 p1 H ⟨d,Xs,ob,e1,h,e2⟩ o hs=>⟨hs, ?_⟩;subst e1 e2;refine tt ?_
 have o : Owns H0 H ((id,MObj.cells 5 [iI 0,.nilsl,.nilsl,.nilsl,.nilsl] 0)::(a,MObj.cells 1 (c.frm.map iI) 0)::(b,MObj.cells 1 (c.to.map iI) 0)::(i,MObj.cells 1 (c.idn.map iI) 0)::(d,MObj.cells 1 Xs 0)::ob):=o.pm;refine sw o fun H o=>tt ?_
 have hr:=o.rc 5 0 (by simp);simp only [List.drop_zero] at hr;rw [hr];exact ⟨H,.refl H,_,⟨a,b,i,d,Xs,ob,rfl,h,rfl⟩,o.tl⟩
end Go.Proofs.Shf
namespace Go.AW
theorem LsR.snoc' {α : Type} {f : α→AV} {Xs : List AV} {As : List (List α)} {o p : List (Nat × MObj)} {X : AV} {A : List α} (h : LsR f Xs As o) (hp : LsP f p X A) : LsR f (Xs++[X]) (As++[A]) (o++p):=by
 induction h with
 | nil=>simpa using LsR.cons hp .nil
 | cons q _ ih=>simpa using LsR.cons q ih
theorem app_raw {H0 H : Heap} {l : Ob} {K : Kont} {id n : Nat} {Xs : List AV} {Y : AV} (o : Owns H0 H ((id,.cells 1 Xs 0)::l)) (hn : n=Xs.length) (h1 : Y.cells=[Y]) (h2 : Y.one=true) (hm : Xs.length+1≤maxL)
  (hk : ∀ id' H',Owns H0 H' ((id',.cells 1 (Xs++[Y]) 0)::l)→K (.buf id' (Xs.length+1)) H') : appW 1 (some (.buf id n)) (some (.sl [Y])) K H:=by
 subst hn
 have hok : okEls 1 [Y]:=by
  intro e he;rw [List.mem_singleton] at he; subst he;rw [h1];exact ⟨rfl,fun c hc=>by rw [List.mem_singleton] at hc; subst hc; exact h2⟩
 have h0:=o.h0;simp only at h0;simp only [appW,h0,srcOf,app2];refine ⟨⟨trivial,by simp,by simp; omega,by simp; omega,hok⟩,fun id' hn=>?_⟩
 have hfl : flat [Y]=[Y]:=by simp [flat,h1]
 rw [hfl];exact hk id' _ (o.mv hn (.cells 1 (Xs++[Y]) 0))
end Go.AW
namespace Go.Proofs.Shf
open Go.AW Go.Proofs Go.Shf
@[go_sem] def sumO (id7 id4 : Nat) (x0 : Int) (a : Nat) (A : List Int) (b : Nat) (C : List Int) (i : Nat) (I : List Int) (d : Nat) (Xs : List AV) (ob : Ob) : Ob :=
 (id7,.cells 5 [iI x0,.buf a A.length,.buf b C.length,.buf i I.length,.buf d Xs.length] 0)::(a,.cells 1 (A.map iI) 0)::(b,.cells 1 (C.map iI) 0)::(i,.cells 1 (I.map iI) 0)::(d,.cells 1 Xs 0)::(ob++[(id4,.cells 5 [iI 0,.nilsl,.nilsl,.nilsl,.nilsl] 0)])
theorem l03Sum_new (B N M : Nat) (hNM : N+M≤4096) (c e : Cat) (hc : c.Sh N) (he : e.Sh M) : New Tryz.prog B 160 [.agg c.cells,.agg e.cells] (fun p X=>∃ c' : Cat,c'.Sh (N+M)∧OCb c' p X):=by
 refine ⟨fun H0=>c160p (by simp) fun _=>?_⟩
 obtain ⟨cob,cil,cml,ctl,ccl,crow⟩:=hc
 obtain ⟨eob,eil,eml,etl,ecl,erow⟩:=he;unfold s160p;refine tt ?_;refine newRef_own (.nil _) fun id4 H o=>tt ?_;refine New.go' (l02Own_new B c) o fun X1 p1 H ⟨a,b,i,d,Xs,ob,e1,hX,e2⟩ o _=>?_;subst e1 e2
 have hXl:=hX.len;refine tt ?_;refine newRef_own o fun id7 H o=>tt ?_;refine sw o fun H o=>tt ?_
 have wo : IntKind.i64.wrap (c.objs+e.objs)=c.objs+e.objs:=wrap_i64 (by omega) (by omega);refine tw wo ?_;refine sw o fun H o=>tt ?_
 have o : Owns H0 H (sumO id7 id4 (c.objs+e.objs) a c.frm b c.to i c.idn d Xs ob):=o
 refine awp_for [3,4,5,6,7] (G:=Nat × List Int) (fun k _=>[(8,some (.int .i64 (k : Int)))])
  (fun k g H=>g.2.length=c.idn.length+k∧Owns H0 H (sumO id7 id4 (c.objs+e.objs) a c.frm b c.to g.1 g.2 d Xs ob)) e.objs.toNat (i,c.idn) ⟨rfl,o⟩ rfl ?_
 clear o
 rintro k ⟨i,I⟩ H hk ⟨hI,o⟩;dsimp only at hI o;unfold sumO at o;refine tt ?_;apply bk <;> intro h1
 ·have h1p:=of_decide h1
  have w:=wsucc (k:=k) (by omega);refine tt ?_;refine rd_cells o (by simp) ?_;refine tt ?_;refine ⟨by omega, ?_⟩;refine app_own' _ (o.pull [_,_,_]) rfl rfl (by simp only [maxL]; omega) fun i H I2 _ hI2 o=>tt ?_;refine sw o.swap fun H o=>?_;refine tw w ?_;refine for_next (i,I2) (by omega) ⟨by show I2.length=_; omega, ?_⟩ rfl
  try unfold sumO
  exact o.pm
 ·have h1p:=of_ndecide h1
  have hIl : I.length=c.idn.length+e.objs.toNat:=by omega
  clear h1 h1p hk hI;refine tt ?_
  refine awp_for [3,4,5,6,7] (G:=List AV × Ob × List (List Int)) (fun f _=>[(9,some (.int .i64 (f : Int)))])
   (fun f g H=>LsR iI g.1 g.2.2 g.2.1∧g.2.2.length=c.frm.length∧(∀ x,x<c.frm.length→(g.2.2.getD x []).length=c.frm.length+if x<f then e.frm.length else 0) ∧
    Owns H0 H (sumO id7 id4 (c.objs+e.objs) a c.frm b c.to i I d g.1 g.2.1)) c.frm.length (Xs,ob,c.comp) ⟨hX,ccl,fun x hx=>by rw [if_neg (by omega)]; exact crow x hx,o⟩ rfl ?_
  clear o hX hXl
  rintro f ⟨Xs,ob,As⟩ H hf ⟨hX,hAl,hAr,o⟩;dsimp only at hX hAl hAr o
  have hXl:=hX.len;unfold sumO at o;refine tt ?_;refine rd_cells o (by simp) ?_;refine tt ?_;apply bk <;> intro h1
  ·have h1p:=of_decide h1
   have hf1 : f<c.frm.length:=by omega
   clear h1 h1p;refine tt ?_
   refine awp_for [3,4,5,6,7,9] (G:=List AV × Ob × List (List Int)) (fun j _=>[(10,some (.int .i64 (j : Int)))])
    (fun j g H=>LsR iI g.1 g.2.2 g.2.1∧g.2.2.length=c.frm.length∧(∀ x,x<c.frm.length→(g.2.2.getD x []).length=c.frm.length+if x<f then e.frm.length else if x=f then j else 0) ∧
     Owns H0 H (sumO id7 id4 (c.objs+e.objs) a c.frm b c.to i I d g.1 g.2.1)) e.frm.length (Xs,ob,As) ⟨hX,hAl,fun x hx=>by rw [hAr x hx]; split <;> simp,o⟩ rfl ?_
   clear o hX hXl hAl hAr
   rintro j ⟨Xs,ob,As⟩ H hj ⟨hX,hAl,hAr,o⟩;dsimp only at hX hAl hAr o
   have hXl:=hX.len;unfold sumO at o;refine tt ?_;apply bk <;> intro h2
   ·have h2p:=of_decide h2
    have w:=wsucc (k:=j) (by omega);refine tt ?_;refine ⟨⟨_,_,o.h0⟩,rd_cells o (by simp) ?_⟩;refine tt ?_;refine ⟨⟨_,_,o.h0⟩,rd_cells o (by simp) ?_⟩;refine tt ?_;refine ⟨by omega, ?_⟩
    have od:=o.pull [_,_,_,_];simp only [List.cons_append,List.nil_append] at od;refine rd_cells od (by omega) ?_;refine tt ?_
    have od2 : Owns H0 H ((d,MObj.cells 1 Xs 0)::(ob++[(id7,MObj.cells 5 [iI (c.objs+e.objs),.buf a c.frm.length,.buf b c.to.length,.buf i I.length,.buf d Xs.length] 0),(a,MObj.cells 1 (c.frm.map iI) 0),(b,MObj.cells 1 (c.to.map iI) 0),(i,MObj.cells 1 (I.map iI) 0),(id4,MObj.cells 5 [iI 0,.nilsl,.nilsl,.nilsl,.nilsl] 0)])):=od.pm
    have hrow:=hAr f hf1;rw [if_neg (by omega),if_pos rfl] at hrow;refine rows_app od2 hX (by omega) (-1) rfl (by simp only [maxL]; omega) fun X' ob' H hX1 hX' o=>?_;try simp only [go_sem,↓reduceIte,reduceEqDiff,reduceAdd,reduceMul,reduceLeDiff,reduceLT,AV.cells_one hX1]
    refine ⟨by omega,st_cells o (by omega) (by (try simp only [go_sem]); (try simp)) (by simp [hX1]) fun H o=>?_⟩
    have hw : wr Xs f [X']=Xs.set f X':=rfl;rw [hw] at o;refine tw w ?_
    have hXl2 : (Xs.set f X').length=Xs.length:=by simp
    refine for_next (Xs.set f X',ob',As.set f (As.getD f []++[-1])) h2p ⟨hX',by simp [hAl],fun x hx=>?_, ?_⟩ rfl
    ·show ((As.set f (As.getD f []++[-1])).getD x []).length=_
     rw [getD_set]
     by_cases hxf : f=x
     ·subst hxf;rw [if_pos ⟨rfl,by omega⟩,List.length_append,hrow,if_neg (by omega),if_pos rfl]; simp; omega
     ·rw [if_neg (fun q=>hxf q.1),hAr x hx]
      by_cases hx2 : x<f
      ·rw [if_pos hx2,if_pos hx2]
      ·rw [if_neg hx2,if_neg hx2,if_neg (by omega),if_neg (by omega)]
    ·try unfold sumO
     try rw [hXl2]
     exact o.pm
   ·have h2p:=of_ndecide h2
    have w:=wsucc (k:=f) (by omega);refine tw w ?_;refine for_next (Xs,ob,As) hf1 ⟨hX,hAl,fun x hx=>?_,o⟩ rfl
    have:=hAr x hx
    show (As.getD x []).length=_
    rw [this]
    by_cases hx2 : x<f
    ·rw [if_pos hx2,if_pos (by omega)]
    ·by_cases hx3 : x=f
     ·rw [if_neg hx2,if_pos hx3,if_pos (by omega)]; omega
     ·rw [if_neg hx2,if_neg hx3,if_neg (by omega)]
  ·have h1p:=of_ndecide h1
   have hAr2 : ∀ x,x<c.frm.length→(As.getD x []).length=c.frm.length+e.frm.length:=fun x hx=>by rw [hAr x hx,if_pos (by omega)]
   clear h1 h1p hf hAr;refine tt ?_
   refine awp_for [3,4,5,6,7] (G:=(Nat × List Int) × (Nat × List Int) × Nat × List AV × Ob × List (List Int)) (fun f _=>[(11,some (.int .i64 (f : Int)))])
    (fun f g H=>g.1.2.length=c.frm.length+f∧g.2.1.2.length=c.frm.length+f∧LsR iI g.2.2.2.1 g.2.2.2.2.2 g.2.2.2.2.1∧g.2.2.2.2.2.length=c.frm.length+f∧(∀ x,x<c.frm.length+f→(g.2.2.2.2.2.getD x []).length=c.frm.length+e.frm.length) ∧
     Owns H0 H (sumO id7 id4 (c.objs+e.objs) g.1.1 g.1.2 g.2.1.1 g.2.1.2 i I g.2.2.1 g.2.2.2.1 g.2.2.2.2.1)) e.frm.length ((a,c.frm),(b,c.to),d,Xs,ob,As) ⟨rfl,ctl,hX,hAl,hAr2,o⟩ rfl ?_
   clear o hX hXl hAl hAr2
   rintro f ⟨⟨a,A⟩,⟨b,C⟩,d,Xs,ob,As⟩ H hf ⟨hA,hC,hX,hAl,hAr,o⟩;dsimp only at hA hC hX hAl hAr o
   have hXl:=hX.len;unfold sumO at o;refine tt ?_;apply bk <;> intro h1
   ·have h1p:=of_decide h1;refine tt ?_;refine rd_cells o (by simp) ?_;refine tt ?_;refine ⟨h1p,app_own' _ o.swap rfl rfl (by simp only [maxL]; omega) fun a H A2 _ hA2 o=>?_⟩;refine tt ?_;refine sw o.swap fun H o=>tt ?_;refine rd_cells o (by simp) ?_;refine tt ?_;refine ⟨by omega,app_own' _ (o.pull [_,_]) rfl rfl (by simp only [maxL]; omega) fun b H C2 _ hC2 o=>?_⟩;refine tt ?_;refine sw o.swap fun H o=>tt ?_
    have o : Owns H0 H (sumO id7 id4 (c.objs+e.objs) a A2 b C2 i I d Xs ob):=by
     try unfold sumO
     exact o.pm
    refine newBuf_own o fun idr H o=>tt ?_
    refine awp_for [3,4,5,6,7,11] (G:=Nat × List Int) (fun j g=>[(12,some (.buf g.1 g.2.length)),(13,some (.int .i64 (j : Int)))])
     (fun j g H=>g.2.length=j∧Owns H0 H ((g.1,MObj.cells 1 (g.2.map iI) 0)::sumO id7 id4 (c.objs+e.objs) a A2 b C2 i I d Xs ob)) c.frm.length (idr,[]) ⟨rfl,o⟩ rfl ?_
    clear o
    rintro j ⟨idr,row⟩ H hj ⟨hr,o⟩;dsimp only at hr o;refine tt ?_;apply bk <;> intro h2
    ·have h2p:=of_decide h2
     have w:=wsucc (k:=j) (by omega);refine tt ?_;refine app_own' _ o rfl rfl (by simp only [maxL]; omega) fun idr H row2 _ hrow2 o=>?_;refine tw w ?_;exact for_next (idr,row2) h2p ⟨by show row2.length=_; omega,o⟩ rfl
    ·have h2p:=of_ndecide h2
     have hrm : row.length=c.frm.length:=by omega
     clear h2 h2p hj hr;refine tt ?_
     refine awp_for [3,4,5,6,7,11] (G:=Nat × List Int) (fun j g=>[(12,some (.buf g.1 g.2.length)),(14,some (.int .i64 (j : Int)))])
      (fun j g H=>g.2.length=c.frm.length+j∧Owns H0 H ((g.1,MObj.cells 1 (g.2.map iI) 0)::sumO id7 id4 (c.objs+e.objs) a A2 b C2 i I d Xs ob)) e.frm.length (idr,row) ⟨hrm,o⟩ rfl ?_
     clear o hrm
     rintro j ⟨idr,row⟩ H hj ⟨hr,o⟩;dsimp only at hr o;refine tt ?_;apply bk <;> intro h3
     ·have h3p:=of_decide h3
      have w:=wsucc (k:=j) (by omega)
      have her:=erow f (by omega);refine tt ?_;refine ⟨by omega,by omega, ?_⟩;apply bk <;> intro h4
      ·refine tt ?_;refine app_own' _ o rfl rfl (by simp only [maxL]; omega) fun idr H row2 _ hrow2 o=>?_;refine tw w ?_;exact for_next (idr,row2) h3p ⟨by show row2.length=_; omega,o⟩ rfl
      ·refine tt ?_;refine app_own' _ o rfl rfl (by simp only [maxL]; omega) fun idr H row2 _ hrow2 o=>?_;refine tw w ?_;exact for_next (idr,row2) h3p ⟨by show row2.length=_; omega,o⟩ rfl
     ·have h3p:=of_ndecide h3
      have w:=wsucc (k:=f) (by omega);unfold sumO at o;refine tt ?_;refine rd_cells o.tl (by simp) ?_;refine tt ?_;refine app_raw (o.pull [_,_,_,_,_]) rfl rfl rfl (by simp only [maxL]; omega) fun d H o=>tt ?_
      have o:=o.pull [_,_];simp only [List.cons_append,List.nil_append] at o;refine sw o fun H o=>?_;refine tw w ?_
      have hXl2 : (Xs++[AV.buf idr row.length]).length=Xs.length+1:=by simp
      refine for_next ((a,A2),(b,C2),d,Xs++[AV.buf idr row.length],ob++[(idr,MObj.cells 1 (row.map iI) 0)],As++[row]) h1p ⟨by show A2.length=_; omega,by show C2.length=_; omega,hX.snoc' (.inr ⟨idr,rfl,rfl⟩),by simp; omega,fun x hx=>?_, ?_⟩ rfl
      ·show ((As++[row]).getD x []).length=_
       by_cases hx2 : x<c.frm.length+f
       ·have e1 : (As++[row]).getD x []=As.getD x []:=by rw [List.getD_eq_getElem?_getD,List.getElem?_append_left (by omega),← List.getD_eq_getElem?_getD]
        rw [e1]; exact hAr x hx2
       ·have e1 : (As++[row]).getD x []=row:=by
         have : x=As.length:=by omega
         subst this; simp
        rw [e1]; omega
      ·try unfold sumO
       try rw [hXl2]
       exact o.pm
   ·have h1p:=of_ndecide h1
    obtain rfl : f=e.frm.length:=by omega
    refine tt ?_;refine rd_celln o (by simp) ?_;refine tt ?_
    have o : Owns H0 H ((id4,MObj.cells 5 [iI 0,.nilsl,.nilsl,.nilsl,.nilsl] 0)::(id7,MObj.cells 5 [iI (c.objs+e.objs),.buf a A.length,.buf b C.length,.buf i I.length,.buf d Xs.length] 0)::(a,MObj.cells 1 (A.map iI) 0)::(b,MObj.cells 1 (C.map iI) 0)::(i,MObj.cells 1 (I.map iI) 0)::(d,MObj.cells 1 Xs 0)::ob):=o.pm;refine sw o fun H o=>tt ?_
    have hr2:=o.rc 5 0 (by simp);simp only [List.drop_zero] at hr2;rw [hr2];refine tt ?_
    refine ⟨H,.refl H,_,⟨⟨c.objs+e.objs,A,C,I,As⟩,⟨⟨by show 0≤c.objs+e.objs; omega,by show c.objs+e.objs≤((N+M : Nat) : Int); omega⟩,by show (I.length : Int)=c.objs+e.objs; omega,by show A.length≤N+M; omega,by show C.length=A.length; omega,by show As.length=A.length; omega,fun x hx=>?_⟩,
     a,b,i,d,Xs,ob,rfl,hX,rfl⟩,o.tl.tl⟩
    show (As.getD x []).length=A.length
    rw [hAr x (by have : x<A.length:=hx; omega)]; omega
theorem l03Join_ok (B N M : Nat) (hNM : N+M≤4096) (hNM2 : N*M≤65536) (c e : Cat) (hc : c.Sh N) (he : e.Sh M) : Rets B 248 [.agg c.cells,.agg e.cells] (CatQ (N+M+N*M)):=by
 intro H0;refine c248p (by simp) fun _=>?_
 have cob:=hc.ob
 have eob:=he.ob;unfold s248p;refine tt ?_;refine newRef_own (.nil _) fun id4 H o=>tt ?_;refine New.go' (l03Sum_new B N M hNM c e hc he) o fun X1 p1 H ⟨q,hq,a,b,i,d,Xs,ob,e1,hX,e2⟩ o _=>?_;subst e1 e2
 have hXl:=hX.len
 obtain ⟨qob,qil,qml,qtl,qcl,qrow⟩:=hq
 obtain ⟨qo,A,C,I,As⟩:=q;simp only at qob qil qml qtl qcl qrow hX hXl;refine tt ?_;refine newRef_own o fun id5 H o=>tt ?_;refine sw o fun H o=>tt ?_
 have o : Owns H0 H (sumO id5 id4 qo a A b C i I d Xs ob):=o;unfold sumO at o;refine rd_cells o (by simp) ?_;refine tt ?_
 generalize hm : A.length=m at *
 refine awp_for [2,3,4,5,6] (G:=(Nat × List Int) × (Nat × List Int)) (fun k _=>[(7,some (.int .i64 (k : Int)))])
  (fun k g H=>g.2.2.length=g.1.2.length∧m≤g.1.2.length∧g.1.2.length=m+k*e.objs.toNat∧Owns H0 H (sumO id5 id4 qo g.1.1 g.1.2 g.2.1 g.2.2 i I d Xs ob)) c.objs.toNat ((a,A),(b,C)) ⟨by simp only; omega,by simp only; omega,by simp [hm],by unfold sumO; rw [hm]; exact o⟩ rfl ?_
 clear o hm qtl
 rintro k ⟨⟨a,A⟩,⟨b,C⟩⟩ H hk ⟨hC,hA1,hA,o⟩;dsimp only at hC hA1 hA o
 have hMe : ∀ x,x≤c.objs.toNat→x*e.objs.toNat≤N*M:=fun x hx=>Nat.mul_le_mul (by omega) (by omega);refine tt ?_;apply bk <;> intro h1
 ·have h1p:=of_decide h1
  have hk1 : k+1≤c.objs.toNat:=by omega
  refine tt ?_
  refine awp_for [2,3,4,5,6,7] (G:=(Nat × List Int) × (Nat × List Int)) (fun j _=>[(8,some (.int .i64 (j : Int)))])
   (fun j g H=>g.2.2.length=g.1.2.length∧m≤g.1.2.length∧g.1.2.length=m+k*e.objs.toNat+j∧Owns H0 H (sumO id5 id4 qo g.1.1 g.1.2 g.2.1 g.2.2 i I d Xs ob)) e.objs.toNat ((a,A),(b,C)) ⟨hC,hA1,hA,o⟩ rfl ?_
  clear o hC hA1 hA
  rintro j ⟨⟨a,A⟩,⟨b,C⟩⟩ H hj ⟨hC,hA1,hA,o⟩;dsimp only at hC hA1 hA o
  have hM1:=hMe (k+1) hk1;rw [Nat.succ_mul] at hM1;refine tt ?_;apply bk <;> intro h2
  ·have h2p:=of_decide h2
   have w:=wsucc (k:=j) (by omega);unfold sumO at o;refine tt ?_;refine rd_cells o (by simp) ?_;refine tt ?_;refine app_own' _ o.swap rfl rfl (by simp only [maxL]; omega) fun a H A2 _ hA2 o=>tt ?_;refine sw o.swap fun H o=>tt ?_;refine rd_cells o (by simp) ?_;refine tt ?_;refine app_own' _ (o.pull [_,_]) rfl rfl (by simp only [maxL]; omega) fun b H C2 _ hC2 o=>tt ?_;refine sw o.swap fun H o=>?_;refine tw w ?_;refine for_next ((a,A2),(b,C2)) (by omega) ⟨by show C2.length=A2.length; omega,by show m≤A2.length; omega,by show A2.length=_; omega, ?_⟩ rfl
   try unfold sumO
   exact o.pm
  ·have h2p:=of_ndecide h2
   have w:=wsucc (k:=k) (by omega);refine tw w ?_;exact for_next ((a,A),(b,C)) (by omega) ⟨hC,hA1,by show A.length=_; rw [Nat.succ_mul]; omega,o⟩ rfl
 ·have h1p:=of_ndecide h1
  have hAb : A.length≤N+M+N*M:=by have:=hMe k hk; omega
  clear h1 h1p hk hA;unfold sumO at o;refine tt ?_
  have od : Owns H0 H ((d,MObj.cells 1 Xs 0)::(ob++[(id5,MObj.cells 5 [iI qo,.buf a A.length,.buf b C.length,.buf i I.length,.buf d Xs.length] 0),(a,MObj.cells 1 (A.map iI) 0),(b,MObj.cells 1 (C.map iI) 0),(i,MObj.cells 1 (I.map iI) 0),(id4,MObj.cells 5 [iI 0,.nilsl,.nilsl,.nilsl,.nilsl] 0)])):=o.pm;refine wk_rows hX [] H od fun H o=>?_;simp only [List.nil_append] at o
  have o : Owns H0 H [(id5,MObj.cells 5 [iI qo,.buf a A.length,.buf b C.length,.buf i I.length,.buf d Xs.length] 0),(d,MObj.cells 1 (As.map iL) 0),(a,MObj.cells 1 (A.map iI) 0),(b,MObj.cells 1 (C.map iI) 0),(i,MObj.cells 1 (I.map iI) 0),(id4,MObj.cells 5 [iI 0,.nilsl,.nilsl,.nilsl,.nilsl] 0)]:=o.pm;refine wk_cell 4 o rfl hXl fun H o=>?_;simp only [List.set_cons_zero,List.set_cons_succ] at o;refine wk_cell 1 o rfl rfl fun H o=>?_;simp only [List.set_cons_zero,List.set_cons_succ] at o;refine wk_cell 2 o rfl rfl fun H o=>?_;simp only [List.set_cons_zero,List.set_cons_succ] at o;refine wk_cell 3 o rfl rfl fun H o=>wkW_done ?_;simp only [List.set_cons_zero,List.set_cons_succ] at o;clear od;refine tt ?_;refine newBuf_own o fun idt H o=>tt ?_
  refine awp_for [2,3,4,5,6] (G:=Nat × List (List Int)) (fun f g=>[(9,some (.buf g.1 g.2.length)),(10,some (.int .i64 (f : Int)))])
   (fun f g H=>g.2.length=f∧(∀ r,r∈g.2→r.length=A.length)∧Owns H0 H [(g.1,MObj.cells 1 (g.2.map iL) 0),(id5,MObj.cells 5 [iI qo,iL A,iL C,iL I,iLL As] 0),(id4,MObj.cells 5 [iI 0,.nilsl,.nilsl,.nilsl,.nilsl] 0)]) A.length (idt,[]) ⟨rfl,by simp,o⟩ rfl ?_
  clear o
  rintro f ⟨idt,T⟩ H hf ⟨hT,hTr,o⟩;dsimp only at hT hTr o;refine tt ?_;refine rd_cells o.tl (by simp) ?_;refine tt ?_;apply bk <;> intro h2
  ·have h2p:=of_decide h2;refine tt ?_;refine newBuf_own o fun idr H o=>tt ?_
   refine awp_for [2,3,4,5,6,9,10] (G:=Nat × List Int) (fun g r=>[(11,some (.buf r.1 r.2.length)),(12,some (.int .i64 (g : Int)))])
    (fun g r H=>r.2.length=g∧Owns H0 H [(r.1,MObj.cells 1 (r.2.map iI) 0),(idt,MObj.cells 1 (T.map iL) 0),(id5,MObj.cells 5 [iI qo,iL A,iL C,iL I,iLL As] 0),(id4,MObj.cells 5 [iI 0,.nilsl,.nilsl,.nilsl,.nilsl] 0)]) A.length (idr,[]) ⟨rfl,o⟩ rfl ?_
   clear o
   rintro g ⟨idr,row⟩ H hg ⟨hr,o⟩;dsimp only at hr o;refine tt ?_;refine rd_cells o.tl.tl (by simp) ?_;refine tt ?_;apply bk <;> intro h3
   ·have h3p:=of_decide h3
    have w:=wsucc (k:=g) (by omega);refine tt ?_;refine rd_cells o.tl.tl (by simp) ?_;refine tt ?_;refine ⟨by omega,rd_cells o.tl.tl (by simp) ?_⟩;refine tt ?_;refine ⟨by omega,tt ?_⟩;apply bk <;> intro h4
    ·refine tt ?_;refine app_own' _ o rfl rfl (by simp only [maxL]; omega) fun idr H row2 _ hrow2 o=>?_;refine tw w ?_;exact for_next (idr,row2) h3p ⟨by show row2.length=_; omega,o⟩ rfl
    ·refine tt ?_;apply bk <;> intro h5
     ·have h5p:=of_decide h5;refine tw h5 ?_;apply bk <;> intro h6
      ·have h6p:=of_decide h6
       have hq:=qrow f h5p;refine tt ?_;refine rd_cells o.tl.tl (by simp) ?_;refine tt ?_;refine ⟨by omega,by omega, ?_⟩;refine app_own' _ o rfl rfl (by simp only [maxL]; omega) fun idr H row2 _ hrow2 o=>?_;refine tw w ?_;exact for_next (idr,row2) h3p ⟨by show row2.length=_; omega,o⟩ rfl
      ·refine tt ?_;refine rd_cells o.tl.tl (by simp) ?_;refine tt ?_;refine ⟨by omega,tt ?_⟩;refine rd_cells o.tl.tl (by simp) ?_;refine tt ?_;refine ⟨by omega,tt ?_⟩;refine app_own' _ o rfl rfl (by simp only [maxL]; omega) fun idr H row2 _ hrow2 o=>?_;refine tw w ?_;exact for_next (idr,row2) h3p ⟨by show row2.length=_; omega,o⟩ rfl
     ·refine tw h5 ?_;refine rd_cells o.tl.tl (by simp) ?_;refine tt ?_;refine ⟨by omega,tt ?_⟩;refine rd_cells o.tl.tl (by simp) ?_;refine tt ?_;refine ⟨by omega,tt ?_⟩;refine app_own' _ o rfl rfl (by simp only [maxL]; omega) fun idr H row2 _ hrow2 o=>?_;refine tw w ?_;exact for_next (idr,row2) h3p ⟨by show row2.length=_; omega,o⟩ rfl
   ·have h3p:=of_ndecide h3
    have w:=wsucc (k:=f) (by omega);refine tt ?_;refine fz_own o rfl fun H o=>tt ?_;refine app_own row o rfl rfl (by simp only [maxL]; omega) fun idt H o=>?_;refine tw w ?_;refine for_next (idt,T++[row]) h2p ⟨by simp [hT], ?_,o⟩ rfl
    intro r hr2
    rcases List.mem_append.mp hr2 with h | h
    ·exact hTr r h
    ·rw [List.mem_singleton] at h; subst h; omega
  ·have h2p:=of_ndecide h2;refine tt ?_;refine fz_own o rfl fun H o=>tt ?_;refine sw o fun H o=>tt ?_;refine rd_celln o (by simp) ?_;refine tt ?_;refine sw o.swap fun H o=>tt ?_
   have hr2:=o.rc 5 0 (by simp);simp only [List.drop_zero] at hr2;rw [hr2];refine tt ?_
   have hTA : T.length=A.length:=by omega
   refine rets_ret ⟨⟨qo,A,C,I,T⟩,rfl,⟨qob.1,Int.le_trans qob.2 (Int.ofNat_le.mpr (Nat.le_add_right _ _))⟩,qil,hAb,hC,hTA,fun x hx=>?_⟩ o.sub;exact hTr _ (mem_getD.mpr ⟨x,by rw [hTA]; exact hx,rfl⟩)
@[go_sem] def prodO (id7 id4 : Nat) (x0 : Int) (a : Nat) (A : List Int) (b : Nat) (C : List Int) (i : Nat) (I : List Int) (d : Nat) (D : List (List Int)) : Ob :=
 [(id7,.cells 5 [iI x0,.buf a A.length,.buf b C.length,.buf i I.length,.buf d D.length] 0),(a,.cells 1 (A.map iI) 0),(b,.cells 1 (C.map iI) 0),(i,.cells 1 (I.map iI) 0),(d,.cells 1 (D.map iL) 0),(id4,.cells 5 [iI 0,.nilsl,.nilsl,.nilsl,.nilsl] 0)]
theorem l03Product_ok (B N M : Nat) (hN : N≤65536) (hM : M≤65536) (hNM : N*M≤65536) (c e : Cat) (hc : c.Sh N) (he : e.Sh M) : Rets B 161 [.agg c.cells,.agg e.cells] (CatQ (N*M)):=by
 intro H0;refine c161p (by simp) fun _=>?_
 obtain ⟨cob,cil,cml,ctl,ccl,crow⟩:=hc
 obtain ⟨eob,eil,eml,etl,ecl,erow⟩:=he
 have hp0 : 0≤c.objs*e.objs:=Int.mul_nonneg cob.1 eob.1
 have hpN : c.objs*e.objs≤(N : Int)*(M : Int):=Int.mul_le_mul cob.2 eob.2 eob.1 (Int.natCast_nonneg N)
 have hpe : ((N*M : Nat) : Int)=(N : Int)*(M : Int):=Int.natCast_mul N M
 have wo : IntKind.i64.wrap (c.objs*e.objs)=c.objs*e.objs:=wrap_i64 (by omega) (by omega)
 have hoe : c.objs*e.objs=((c.objs.toNat*e.objs.toNat : Nat) : Int):=by rw [Int.natCast_mul,Int.toNat_of_nonneg cob.1,Int.toNat_of_nonneg eob.1]
 have hMo : ∀ x,x≤c.objs.toNat→x*e.objs.toNat≤N*M:=fun x hx=>Nat.mul_le_mul (by omega) (by omega)
 have hMf : ∀ x,x≤c.frm.length→x*e.frm.length≤N*M:=fun x hx=>Nat.mul_le_mul (by omega) (by omega);unfold s161p;refine tw wo ?_;refine newRef_own (.nil _) fun id4 H o=>?_;refine tw wo ?_;refine newBuf_own o fun a H o=>tt ?_;refine newBuf_own o fun b H o=>tt ?_;refine newBuf_own o fun i H o=>tt ?_;refine newBuf_own o fun d H o=>tt ?_;refine newRef_own o fun id7 H o=>tt ?_;refine sw o fun H o=>tt ?_
 refine awp_for [2,3,4,5,6,7] (G:=Nat × List Int) (fun k _=>[(8,some (.int .i64 (k : Int)))])
  (fun k g H=>g.2.length=k*e.objs.toNat∧Owns H0 H (prodO id7 id4 (c.objs*e.objs) a [] b [] g.1 g.2 d [])) c.objs.toNat (i,[]) ⟨by simp,by unfold prodO; exact o.pm⟩ rfl ?_
 clear o
 rintro k ⟨i,I⟩ H hk ⟨hI,o⟩;dsimp only at hI o;refine tt ?_;apply bk <;> intro h1
 ·have h1p:=of_decide h1
  have hk1:=hMo (k+1) (by omega);rw [Nat.succ_mul] at hk1;refine tt ?_
  refine awp_for [2,3,4,5,6,7,8] (G:=Nat × List Int) (fun j _=>[(9,some (.int .i64 (j : Int)))])
   (fun j g H=>g.2.length=k*e.objs.toNat+j∧Owns H0 H (prodO id7 id4 (c.objs*e.objs) a [] b [] g.1 g.2 d [])) e.objs.toNat (i,I) ⟨hI,o⟩ rfl ?_
  clear o hI
  rintro j ⟨i,I⟩ H hj ⟨hI,o⟩;dsimp only at hI o;refine tt ?_;apply bk <;> intro h2
  ·have h2p:=of_decide h2
   have w:=wsucc (k:=j) (by omega);unfold prodO at o;refine tt ?_;refine rd_cells o (by simp) ?_;refine tt ?_;refine ⟨by omega,by omega, ?_⟩;refine app_own' _ (o.pull [_,_,_]) rfl rfl (by simp only [maxL]; omega) fun i H I2 _ hI2 o=>tt ?_;refine sw o.swap fun H o=>?_;refine tw w ?_;refine for_next (i,I2) (by omega) ⟨by show I2.length=_; omega, ?_⟩ rfl
   try unfold prodO
   exact o.pm
  ·have h2p:=of_ndecide h2
   have w:=wsucc (k:=k) (by omega);refine tw w ?_;exact for_next (i,I) (by omega) ⟨by show I.length=_; rw [Nat.succ_mul]; omega,o⟩ rfl
 ·have h1p:=of_ndecide h1
  obtain rfl : k=c.objs.toNat:=by omega
  clear h1 h1p hk;refine tt ?_
  refine awp_for [2,3,4,5,6,7] (G:=(Nat × List Int) × (Nat × List Int) × (Nat × List (List Int))) (fun k _=>[(10,some (.int .i64 (k : Int)))])
   (fun k g H=>g.1.2.length=k*e.frm.length∧g.2.1.2.length=k*e.frm.length∧g.2.2.2.length=k*e.frm.length∧(∀ r,r∈g.2.2.2→r.length=c.frm.length*e.frm.length) ∧
    Owns H0 H (prodO id7 id4 (c.objs*e.objs) g.1.1 g.1.2 g.2.1.1 g.2.1.2 i I g.2.2.1 g.2.2.2)) c.frm.length ((a,[]),(b,[]),(d,[])) ⟨by simp,by simp,by simp,by simp,o⟩ rfl ?_
  clear o
  rintro k ⟨⟨a,A⟩,⟨b,C⟩,⟨d,D⟩⟩ H hk ⟨hA,hC,hD,hDr,o⟩;dsimp only at hA hC hD hDr o;refine tt ?_;apply bk <;> intro h1
  ·have h1p:=of_decide h1
   have hk1:=hMf (k+1) (by omega);rw [Nat.succ_mul] at hk1
   have crk:=crow k h1p;refine tt ?_
   refine awp_for [2,3,4,5,6,7,10] (G:=(Nat × List Int) × (Nat × List Int) × (Nat × List (List Int))) (fun j _=>[(11,some (.int .i64 (j : Int)))])
    (fun j g H=>g.1.2.length=k*e.frm.length+j∧g.2.1.2.length=k*e.frm.length+j∧g.2.2.2.length=k*e.frm.length+j∧(∀ r,r∈g.2.2.2→r.length=c.frm.length*e.frm.length) ∧
     Owns H0 H (prodO id7 id4 (c.objs*e.objs) g.1.1 g.1.2 g.2.1.1 g.2.1.2 i I g.2.2.1 g.2.2.2)) e.frm.length ((a,A),(b,C),(d,D)) ⟨hA,hC,hD,hDr,o⟩ rfl ?_
   clear o hA hC hD hDr
   rintro j ⟨⟨a,A⟩,⟨b,C⟩,⟨d,D⟩⟩ H hj ⟨hA,hC,hD,hDr,o⟩;dsimp only at hA hC hD hDr o;refine tt ?_;apply bk <;> intro h2
   ·have h2p:=of_decide h2
    have erj:=erow j h2p;unfold prodO at o;refine tt ?_;refine rd_cells o (by simp) ?_;refine tt ?_;refine ⟨by omega,by omega, ?_⟩;refine app_own' _ o.swap rfl rfl (by simp only [maxL]; omega) fun a H A2 _ hA2 o=>tt ?_;refine sw o.swap fun H o=>tt ?_;refine rd_cells o (by simp) ?_;refine tt ?_;refine ⟨by omega,by omega, ?_⟩;refine app_own' _ (o.pull [_,_]) rfl rfl (by simp only [maxL]; omega) fun b H C2 _ hC2 o=>tt ?_;refine sw o.swap fun H o=>tt ?_
    have o : Owns H0 H (prodO id7 id4 (c.objs*e.objs) a A2 b C2 i I d D):=by
     try unfold prodO
     exact o.pm
    refine newBuf_own o fun idr H o=>tt ?_
    refine awp_for [2,3,4,5,6,7,10,11] (G:=Nat × List Int) (fun f g=>[(12,some (.buf g.1 g.2.length)),(13,some (.int .i64 (f : Int)))])
     (fun f g H=>g.2.length=f*e.frm.length∧Owns H0 H ((g.1,MObj.cells 1 (g.2.map iI) 0)::prodO id7 id4 (c.objs*e.objs) a A2 b C2 i I d D)) c.frm.length (idr,[]) ⟨by simp,o⟩ rfl ?_
    clear o
    rintro f ⟨idr,row⟩ H hf ⟨hr,o⟩;dsimp only at hr o;refine tt ?_;apply bk <;> intro h3
    ·have h3p:=of_decide h3
     have hf1:=hMf (f+1) (by omega);rw [Nat.succ_mul] at hf1;refine tt ?_
     refine awp_for [2,3,4,5,6,7,10,11,13] (G:=Nat × List Int) (fun g r=>[(12,some (.buf r.1 r.2.length)),(14,some (.int .i64 (g : Int)))])
      (fun g r H=>r.2.length=f*e.frm.length+g∧Owns H0 H ((r.1,MObj.cells 1 (r.2.map iI) 0)::prodO id7 id4 (c.objs*e.objs) a A2 b C2 i I d D)) e.frm.length (idr,row) ⟨hr,o⟩ rfl ?_
     clear o hr
     rintro g ⟨idr,row⟩ H hg ⟨hr,o⟩;dsimp only at hr o;refine tt ?_;apply bk <;> intro h4
     ·have h4p:=of_decide h4
      have w:=wsucc (k:=g) (by omega);refine tt ?_;refine ⟨by omega,by omega,tt ?_⟩;apply bk <;> intro h5
      ·refine tw h5 ?_;refine ⟨by omega,by omega,tt ?_⟩;apply bk <;> intro h6
       ·refine tt ?_;refine ⟨by omega,by omega,by omega,by omega, ?_⟩;refine app_own' _ o rfl rfl (by simp only [maxL]; omega) fun idr H row2 _ hrow2 o=>?_;refine tw w ?_;exact for_next (idr,row2) h4p ⟨by show row2.length=_; omega,o⟩ rfl
       ·refine tt ?_;refine app_own' _ o rfl rfl (by simp only [maxL]; omega) fun idr H row2 _ hrow2 o=>?_;refine tw w ?_;exact for_next (idr,row2) h4p ⟨by show row2.length=_; omega,o⟩ rfl
      ·refine tw h5 ?_;refine app_own' _ o rfl rfl (by simp only [maxL]; omega) fun idr H row2 _ hrow2 o=>?_;refine tw w ?_;exact for_next (idr,row2) h4p ⟨by show row2.length=_; omega,o⟩ rfl
     ·have h4p:=of_ndecide h4
      have w:=wsucc (k:=f) (by omega);refine tw w ?_;exact for_next (idr,row) h3p ⟨by show row.length=_; rw [Nat.succ_mul]; omega,o⟩ rfl
    ·have h3p:=of_ndecide h3
     obtain rfl : f=c.frm.length:=by omega
     have w:=wsucc (k:=j) (by omega);unfold prodO at o;refine tt ?_;refine fz_own o rfl fun H o=>tt ?_;refine rd_cells o (by simp) ?_;refine tt ?_;refine app_own' row (o.pull [_,_,_,_]) rfl rfl (by simp only [maxL]; omega) fun d H D2 eD hD2 o=>tt ?_;refine sw o.swap fun H o=>?_;refine tw w ?_;refine for_next ((a,A2),(b,C2),(d,D2)) h2p ⟨by show A2.length=_; omega,by show C2.length=_; omega,by show D2.length=_; omega,fun r hr2=>?_, ?_⟩ rfl
     ·dsimp only at hr2;rw [eD] at hr2
      rcases List.mem_append.mp hr2 with h | h
      ·exact hDr r h
      ·rw [List.mem_singleton] at h; subst h; exact hr
     ·try unfold prodO
      exact o.pm
   ·have h2p:=of_ndecide h2
    have w:=wsucc (k:=k) (by omega);refine tw w ?_;exact for_next ((a,A),(b,C),(d,D)) h1p ⟨by show A.length=_; rw [Nat.succ_mul]; omega,by show C.length=_; rw [Nat.succ_mul]; omega,by show D.length=_; rw [Nat.succ_mul]; omega,hDr,o⟩ rfl
  ·have h1p:=of_ndecide h1
   obtain rfl : k=c.frm.length:=by omega
   have hAb : A.length≤N*M:=by rw [hA]; exact hMf _ (Nat.le_refl _)
   unfold prodO at o;refine tt ?_
   have o : Owns H0 H [(id7,MObj.cells 5 [iI (c.objs*e.objs),.buf a A.length,.buf b C.length,.buf i I.length,.buf d D.length] 0),(d,MObj.cells 1 (D.map iL) 0),(a,MObj.cells 1 (A.map iI) 0),(b,MObj.cells 1 (C.map iI) 0),(i,MObj.cells 1 (I.map iI) 0),(id4,MObj.cells 5 [iI 0,.nilsl,.nilsl,.nilsl,.nilsl] 0)]:=o.pm;refine wk_cell 4 o rfl rfl fun H o=>?_;simp only [List.set_cons_zero,List.set_cons_succ] at o;refine wk_cell 1 o rfl rfl fun H o=>?_;simp only [List.set_cons_zero,List.set_cons_succ] at o;refine wk_cell 2 o rfl rfl fun H o=>?_;simp only [List.set_cons_zero,List.set_cons_succ] at o;refine wk_cell 3 o rfl rfl fun H o=>wkW_done ?_;simp only [List.set_cons_zero,List.set_cons_succ] at o;refine tt ?_;refine rd_celln o (by simp) ?_;refine tt ?_;refine sw o.swap fun H o=>tt ?_
   have hr2:=o.rc 5 0 (by simp);simp only [List.drop_zero] at hr2;rw [hr2];refine tt ?_
   have hDA : D.length=A.length:=by omega
   refine rets_ret ⟨⟨c.objs*e.objs,A,C,I,D⟩,rfl,⟨hp0,by show c.objs*e.objs≤_; omega⟩,by show (I.length : Int)=c.objs*e.objs; omega,hAb,by show C.length=A.length; omega,hDA,fun x hx=>?_⟩ o.sub;rw [hDr _ (mem_getD.mpr ⟨x,by rw [hDA]; exact hx,rfl⟩)]; exact hA.symm
end Go.Proofs.Shf
namespace Go.AW
theorem inner_set {α : Type} {f : α→AV} : ∀ (ms : List (Nat × List α)) (x : Nat) (h : x<ms.length),∃ r,(inner f ms).Perm (((ms.getD x default).1,MObj.cells 1 ((ms.getD x default).2.map f) 0)::r) ∧
  ∀ m : Nat × List α,(inner f (ms.set x m)).Perm ((m.1,MObj.cells 1 (m.2.map f) 0)::r)
 | [],x,h=>by simp at h
 | m::ms,0,h=>⟨inner f ms,.refl _,fun m'=>.refl _⟩
 | m::ms,x+1,h=>by
  obtain ⟨r,h1,h2⟩:=inner_set ms x (by simpa using h);refine ⟨(m.1,MObj.cells 1 (m.2.map f) 0)::r, ?_,fun m'=>?_⟩
  ·exact (List.Perm.cons _ h1).trans (.swap _ _ _)
  ·exact (List.Perm.cons _ (h2 m')).trans (.swap _ _ _)
theorem st_inner {α : Type} [Inhabited α] {f : α→AV} [One f] {H0 H : Heap} {l : Ob} {K : Kont} {id fr : Nat} {ms : List (Nat × List α)} (o : Owns H0 H ((id,.cells 1 (ms.map bufE) fr)::(inner f ms++l))) {x y : Nat} (hx : x<ms.length) (hy : y<(ms.getD x default).2.length) (v : α) {c : AV} (hc : c=f v)
  (hk : ∀ H',Owns H0 H' ((id,.cells 1 ((ms.set x ((ms.getD x default).1,(ms.getD x default).2.set y v)).map bufE) fr)::(inner f (ms.set x ((ms.getD x default).1,(ms.getD x default).2.set y v))++l))→K nv H') :
  st1 (H.get (ms.getD x default).1) (ms.getD x default).1 y 1 [c] K H:=by
 subst hc
 obtain ⟨r,h1,h2⟩:=inner_set (f:=f) ms x hx
 have o1 : Owns H0 H (((ms.getD x default).1,MObj.cells 1 ((ms.getD x default).2.map f) 0)::(id,.cells 1 (ms.map bufE) fr)::(r++l)):=by
  refine o.perm (((List.Perm.append_right l h1).cons _).trans ?_);simp only [List.cons_append];exact .swap _ _ _
 refine st_cells o1 (by rw [List.length_map]; omega) rfl (by simp [One.one]) fun H' o2=>?_
 have e1 : wr ((ms.getD x default).2.map f) y [f v]=((ms.getD x default).2.set y v).map f:=by
  simp [wr,List.map_set]
 have e2 : (ms.set x ((ms.getD x default).1,(ms.getD x default).2.set y v)).map bufE=ms.map (bufE (α:=α)):=by
  rw [List.map_set];apply List.ext_getElem?
  intro j
  by_cases hj : x=j
  ·subst hj;rw [List.getElem?_set_self (by simpa using hx)]
   simp [hx,bufE,List.getD_eq_getElem?_getD]
  ·rw [List.getElem?_set_ne hj]
 rw [e1] at o2;refine hk H' ?_;rw [e2];refine o2.perm ((List.Perm.swap _ _ _).trans (.cons _ ?_))
 have:=List.Perm.append_right l (h2 ((ms.getD x default).1,(ms.getD x default).2.set y v)).symm
 simpa using this
end Go.AW
namespace Go.Proofs.Shf
open Go.AW Go.Proofs Go.Shf
theorem Rd.goZ {B : Nat} {fn : FuncId} {args : List AV} {Q : AV→Prop} {id : Nat} {s : Src} {H0 H : Heap} {l : List (Nat × MObj)} {K : Kont} (h : Rd B fn args Q) (hs : s.Ok) (o : Owns H0 H ((id,s.obj)::l))
  (hk : ∀ (r : AV) (s' : Src) (H' : Heap),r.fine→Q r→s'.Ok→Owns H0 H' ((id,s'.obj)::l)→(∀ z,z≠3→H.subZ z H')→K r H') : CallH Tryz.prog B fn (.ref id 0::args) H K :=
 (h id s _ H hs o.self).mono' fun r H' hf ⟨q,s',hs',o'⟩=>hk r s' H' hf q hs' (o.del.trans o') fun z hz i cs f e=>by
  have h0:=o.h0;refine o'.sub i _ ?_;rw [Heap.get_del_ne]
  ·exact e
  ·rintro rfl;simp only at h0;rw [h0] at e;simp only [Src.obj] at e
   cases e;exact hz rfl
theorem l02Relation_ok (B n : Nat) (hn : n≤4) : Rd B 242 [iI n] (SqQ 4):=by
 intro id s H0 H hs o;refine c242p (by simp) fun _=>?_;unfold s242p;refine tt ?_;refine newBuf_own o fun idR H o=>tt ?_
 refine awp_for [0,1] (G:=Src × Nat × List (Nat × List Int)) (fun k g=>[(5,some (.buf g.2.1 g.2.2.length)),(6,some (.int .i64 (k : Int)))])
  (fun k g H=>g.1.Ok∧g.2.2.length=k∧(∀ m,m∈g.2.2→m.2.length=n)∧Owns H0 H ((g.2.1,MObj.cells 1 (g.2.2.map bufE) 0)::(inner iI g.2.2++[(id,g.1.obj)]))) n (s,idR,[]) ⟨hs,rfl,by simp,o⟩ rfl ?_
 clear o hs
 rintro k ⟨s,idR,ms⟩ H hk ⟨hs,hml,hmr,o⟩;dsimp only at hs hml hmr o;refine tt ?_;refine ⟨fun h1=>At.mk ?_,fun h1=>At.mk ?_⟩
 ·have h1p:=of_decide h1;refine tt ?_;refine ⟨by simp only [maxL]; omega, ?_⟩;refine mks_list iI 0 rfl o fun idr H o=>tt ?_;refine ⟨by omega,set_own 1 o rfl (by simp; omega) fun H o=>?_⟩
  have wk1:=wsucc (k:=k) (by omega);refine tw wk1 ?_
  refine awp_for [0,1,5,6,7] (G:=Src × List Int) (fun q g=>[(8,some (.int .i64 ((k+1+q : Nat) : Int)))])
   (fun q g H=>g.1.Ok∧g.2.length=n∧Owns H0 H ((idr,MObj.cells 1 (g.2.map iI) 0)::(idR,MObj.cells 1 (ms.map bufE) 0)::(inner iI ms++[(id,g.1.obj)]))) (n - (k+1)) (s,(List.replicate n 0).set k 1) ⟨hs,by simp,o⟩ rfl ?_
  clear o hs
  rintro q ⟨s,row⟩ H hq ⟨hs,hr,o⟩;dsimp only at hs hr o;refine tt ?_;refine ⟨fun h2=>At.mk ?_,fun h2=>At.mk ?_⟩
  ·have h2p:=of_decide h2
   have w:=wsucc (k:=k+1+q) (by omega);refine tt ?_
   have o : Owns H0 H ((id,s.obj)::(idr,MObj.cells 1 (row.map iI) 0)::(idR,MObj.cells 1 (ms.map bufE) 0)::inner iI ms):=o.pm;refine (l01Next_ok B 2).go hs o fun r s H _ ⟨v,e,_⟩ hs o=>?_;subst e;refine tt ?_;refine ⟨by omega, ?_⟩
   have o:=o.swap;refine set_own v o rfl (by omega) fun H o=>?_;refine tw w ?_;refine for_next (s,row.set (k+1+q) v) (by omega) ⟨hs,by simp [hr],o.pm⟩ rfl
  ·have h2p:=of_ndecide h2
   have w:=wsucc (k:=k) (by omega);refine tt ?_;refine app_own (f:=bufE) (idr,row) o.swap (by simp [bufE,hr]) rfl (by simp only [maxL]; omega) fun idR H o=>?_;refine tw w ?_;refine for_next (s,idR,ms++[(idr,row)]) h1p ⟨hs,by simp [hml], ?_, ?_⟩ rfl
   ·intro m hm
    rcases List.mem_append.mp hm with h | h
    ·exact hmr m h
    ·rw [List.mem_singleton] at h; subst h; exact hr
   ·refine o.perm (.cons _ ?_);simp only [inner,List.map_append,List.map_cons,List.map_nil,List.append_assoc,List.cons_append,List.nil_append];exact List.perm_middle.symm
 ·have h1p:=of_ndecide h1
  obtain rfl : k=n:=by omega
  clear h1 h1p hk;refine tt ?_
  have o : Owns H0 H ((id,s.obj)::(idR,MObj.cells 1 (ms.map bufE) 0)::inner iI ms):=o.pm;refine ⟨fun h2=>At.mk ?_,fun h2=>At.mk ?_⟩
  case' refine_1 =>
   have h2p:=of_decide h2;refine tw h2 ?_;refine (l01Next_ok B 4).go hs o fun r s H _ ⟨v,e,_⟩ hs o=>?_;subst e;refine tt ?_;refine ⟨fun h3=>At.mk ?_,fun h3=>At.mk ?_⟩
   case' refine_1 =>
    have wp : IntKind.i64.wrap ((k : Int) - 1)=((k - 1 : Nat) : Int):=wpred (by omega) (by omega);refine tw wp ?_;refine ⟨by omega,⟨_,_,o.tl.h0⟩,rd_cells o.tl (by simp; omega) ?_⟩;refine tt ?_;refine (l01Next_ok B k).goZ hs o fun r s H _ ⟨v,e,hv0,hv1,_⟩ hs o hz=>⟨hz, ?_⟩;subst e
    have hv1:=hv1 (by omega)
    have hrk:=hmr (ms.getD (k - 1) default) (mem_getD.mpr ⟨k - 1,by omega,rfl⟩);rw [getD_map ms (by omega)];refine tt ?_;refine ⟨by omega, ?_⟩
    have o : Owns H0 H ((idR,MObj.cells 1 (ms.map bufE) 0)::(inner iI ms++[(id,s.obj)])):=o.pm;refine st_inner o (by omega) (by omega) 1 rfl fun H o=>?_
    have hml : (ms.set (k - 1) ((ms.getD (k - 1) default).1,(ms.getD (k - 1) default).2.set v.toNat 1)).length=k:=by simp [hml]
    have hmr : ∀ m,m∈ms.set (k - 1) ((ms.getD (k - 1) default).1,(ms.getD (k - 1) default).2.set v.toNat 1)→m.2.length=k:=by
     intro m hm
     rcases List.mem_or_eq_of_mem_set hm with h | h
     ·exact hmr m h
     ·rw [h]; simpa using hrk
    generalize ms.set (k - 1) ((ms.getD (k - 1) default).1,(ms.getD (k - 1) default).2.set v.toNat 1)=ms at hml hmr o
    have o : Owns H0 H ((id,s.obj)::(idR,MObj.cells 1 (ms.map bufE) 0)::inner iI ms):=o.pm
  all_goals
   try (try simp only [go_sem,↓reduceIte,reduceEqDiff,reduceAdd,reduceMul,reduceLeDiff,reduceLT,h2])
   clear h2
   have o : Owns H0 H ((idR,MObj.cells 1 (ms.map bufE) 0)::(inner iI ms++[(id,s.obj)])):=o.pm
   generalize hm0 : ms.length=m0
   replace hm0 : m0=k:=by omega
   refine awp_for [1,5] (G:=List (Nat × List Int)) (fun x _=>[(9,some (.int .i64 (x : Int)))]) (fun _ ms H=>ms.length=k∧(∀ m,m∈ms→m.2.length=k)∧Owns H0 H ((idR,MObj.cells 1 (ms.map bufE) 0)::(inner iI ms++[(id,s.obj)]))) k ms ⟨hml,hmr,o⟩ rfl ?_;clear o hml hmr
   rintro x ms H hx ⟨hml,hmr,o⟩
   replace hml : ms.length=k:=hml
   replace hmr : ∀ m,m∈ms→m.2.length=k:=hmr
   replace o : Owns H0 H ((idR,MObj.cells 1 (ms.map bufE) 0)::(inner iI ms++[(id,s.obj)])):=o;refine tt ?_;refine ⟨fun g1=>At.mk ?_,fun g1=>At.mk ?_⟩
   ·have g1p:=of_decide g1
    have wx:=wsucc (k:=x) (by omega);refine tt ?_;refine awp_for [1,5,9] (G:=List (Nat × List Int)) (fun y _=>[(10,some (.int .i64 (y : Int)))]) (fun _ ms H=>ms.length=k∧(∀ m,m∈ms→m.2.length=k)∧Owns H0 H ((idR,MObj.cells 1 (ms.map bufE) 0)::(inner iI ms++[(id,s.obj)]))) k ms ⟨hml,hmr,o⟩ rfl ?_;clear o hml hmr
    rintro y ms H hy ⟨hml,hmr,o⟩
    replace hml : ms.length=k:=hml
    replace hmr : ∀ m,m∈ms→m.2.length=k:=hmr
    replace o : Owns H0 H ((idR,MObj.cells 1 (ms.map bufE) 0)::(inner iI ms++[(id,s.obj)])):=o;refine tt ?_;refine ⟨fun g2=>At.mk ?_,fun g2=>At.mk ?_⟩
    ·have g2p:=of_decide g2
     have wy:=wsucc (k:=y) (by omega);refine tt ?_;refine awp_for [1,5,9,10] (G:=List (Nat × List Int)) (fun z _=>[(11,some (.int .i64 (z : Int)))]) (fun _ ms H=>ms.length=k∧(∀ m,m∈ms→m.2.length=k)∧Owns H0 H ((idR,MObj.cells 1 (ms.map bufE) 0)::(inner iI ms++[(id,s.obj)]))) k ms ⟨hml,hmr,o⟩ rfl ?_;clear o hml hmr
     rintro z ms H hz ⟨hml,hmr,o⟩
     replace hml : ms.length=k:=hml
     replace hmr : ∀ m,m∈ms→m.2.length=k:=hmr
     replace o : Owns H0 H ((idR,MObj.cells 1 (ms.map bufE) 0)::(inner iI ms++[(id,s.obj)])):=o;refine tt ?_;refine ⟨fun g3=>At.mk ?_,fun g3=>At.mk ?_⟩
     ·have g3p:=of_decide g3
      have wz:=wsucc (k:=z) (by omega)
      have hry:=hmr (ms.getD y default) (mem_getD.mpr ⟨y,by omega,rfl⟩)
      have hrx:=hmr (ms.getD x default) (mem_getD.mpr ⟨x,by omega,rfl⟩);refine tt ?_;refine ⟨by omega,rd_cells o (by simp; omega) ?_⟩;rw [getD_map ms (by omega)];refine tt ?_;refine ⟨by omega,rd_inner (o.inner_get (by omega)) (by omega) ?_⟩;refine tt ?_;refine ⟨fun g4=>At.mk ?_,fun g4=>At.mk ?_⟩
      case' refine_1 =>
       refine tw g4 ?_;refine ⟨by omega,rd_cells o (by simp; omega) ?_⟩;rw [getD_map ms (by omega)];refine tt ?_;refine ⟨by omega,rd_inner (o.inner_get (by omega)) (by omega) ?_⟩;refine tt ?_;refine ⟨fun g5=>At.mk ?_,fun g5=>At.mk ?_⟩
       case' refine_1 =>
        refine tt ?_;refine ⟨by omega,rd_cells o (by simp; omega) ?_⟩;rw [getD_map ms (by omega)];refine tt ?_;refine ⟨by omega, ?_⟩;refine st_inner o (by omega) (by omega) 1 rfl fun H o=>?_
        have hml : (ms.set y ((ms.getD y default).1,(ms.getD y default).2.set z 1)).length=k:=by simp [hml]
        have hmr : ∀ m,m∈ms.set y ((ms.getD y default).1,(ms.getD y default).2.set z 1)→m.2.length=k:=by
         intro m hm
         rcases List.mem_or_eq_of_mem_set hm with h | h
         ·exact hmr m h
         ·rw [h]; simpa using hry
        generalize ms.set y ((ms.getD y default).1,(ms.getD y default).2.set z 1)=ms at hml hmr o
      all_goals
       try (try simp only [go_sem,↓reduceIte,reduceEqDiff,reduceAdd,reduceMul,reduceLeDiff,reduceLT,g4])
       try (try simp only [go_sem,↓reduceIte,reduceEqDiff,reduceAdd,reduceMul,reduceLeDiff,reduceLT,wz])
       exact for_next ms g3p ⟨hml,hmr,o⟩ rfl
     ·refine tw wy ?_;exact for_next ms g2p ⟨hml,hmr,o⟩ rfl
    ·refine tw wx ?_;exact for_next ms g1p ⟨hml,hmr,o⟩ rfl
   ·refine tt ?_;refine wk_nest (f:=iI) ms [] H o fun H o=>wkW_done ?_;simp only [List.nil_append] at o;refine tt ?_;refine fz_own (f:=iL) o (by simp; omega) fun H o=>tt ?_;refine src_ret ⟨ms.map Prod.snd,rfl,by simp; omega,fun i hi=>?_⟩ hs o
    have hi' : i<ms.length:=by simpa using hi
    have e1 : (ms.map Prod.snd).getD i default=(ms.getD i default).2:=by simp [List.getD_eq_getElem?_getD,hi']
    rw [e1,hmr _ (mem_getD.mpr ⟨i,hi',rfl⟩)]; simp [hml]
end Go.Proofs.Shf
namespace Go.AW
section
variable {α : Type} [Inhabited α] {f : α→AV} {n : Nat} [h : AggN n f] {H0 H : Heap} {l : Ob} {K : Kont}
theorem flat_drop : ∀ (l : List α) (x : Nat),(flat (l.map f)).drop (x*n)=flat ((l.drop x).map f)
 | l,0=>by simp
 | [],x+1=>by simp [flat]
 | a::r,x+1=>by
  have e : (x+1)*n=(f a).cells.length+x*n:=by rw [h.len a,Nat.succ_mul,Nat.add_comm]
  simp only [List.map_cons,flat,List.drop_succ_cons];rw [e,← List.drop_drop,List.drop_left];exact flat_drop r x
theorem flat_slice {A : List α} {x : Nat} (hx : x<A.length) : ((flat (A.map f)).drop (x*n)).take n=(f (A.getD x default)).cells:=by
 rw [flat_drop,List.drop_eq_getElem_cons hx,List.map_cons,flat,List.take_left' (h.len _)]
 congr 2
 simp [List.getD_eq_getElem?_getD,hx]
theorem flat_get {A : List α} {x off : Nat} (hx : x<A.length) (ho : off<n) : (flat (A.map f)).getD (x*n+off) nv=(f (A.getD x default)).cells.getD off nv:=by
 rw [← flat_slice (f:=f) (n:=n) hx];simp only [List.getD_eq_getElem?_getD,List.getElem?_take,List.getElem?_drop];rw [if_pos ho]
theorem flat_bound {A : List α} {x off m : Nat} (hx : x<A.length) (ho : off+m≤n) : x*n+off+m≤(flat (A.map f)).length:=by
 rw [flat_len (f:=f) (n:=n)]
 have:=Nat.mul_le_mul_right n (show x+1≤A.length by omega);rw [Nat.succ_mul] at this; omega
theorem wr_app : ∀ (vs a b c : List AV),vs.length=b.length→wr (a++(b++c)) a.length vs=a++(vs++c)
 | [],a,[],c,_=>by simp [wr]
 | v::vs,a,[],c,hl=>by simp at hl
 | [],a,d::b,c,hl=>by simp at hl
 | v::vs,a,d::b,c,hl=>by
  rw [wr]
  have e : (a++(d::b++c)).set a.length v=(a++[v])++(b++c):=by simp
  rw [e]
  have:=wr_app vs (a++[v]) b c (by simpa using hl)
  simpa using this
theorem flat_wr {A : List α} {x : Nat} (hx : x<A.length) (a : α) : wr (flat (A.map f)) (x*n) (f a).cells=flat ((A.set x a).map f):=by
 have e1 : A=A.take x++(A.getD x default::A.drop (x+1)):=by
  conv=>lhs; rw [← List.take_append_drop x A,List.drop_eq_getElem_cons hx]
  simp [List.getD_eq_getElem?_getD,hx]
 have e2 : A.set x a=A.take x++(a::A.drop (x+1)):=by rw [List.set_eq_take_append_cons_drop,if_pos hx]
 have hl : (flat ((A.take x).map f)).length=x*n:=by rw [flat_len (f:=f) (n:=n),List.length_take,Nat.min_eq_left (by omega)]
 rw [e2]
 conv=>lhs; rw [e1]
 rw [List.map_append,List.map_append,flat_app,flat_app,List.map_cons,List.map_cons,flat,flat,← hl];exact wr_app _ _ _ _ (by rw [h.len,h.len])
theorem rd_elN {id x off fr : Nat} {A : List α} (o : Owns H0 H ((id,.cells n (flat (A.map f)) fr)::l)) (hx : x<A.length) (ho : off<n) (hk : K ((f (A.getD x default)).cells.getD off nv) H) : rd1 (H.get id) none (x*n+off) K H:=by
 refine rd_cells o ?_ ?_
 ·have:=flat_bound (f:=f) (n:=n) hx (show off+1≤n by omega); omega
 ·rw [flat_get hx ho]; exact hk
theorem rd_elA {id x fr : Nat} {A : List α} (o : Owns H0 H ((id,.cells n (flat (A.map f)) fr)::l)) (hx : x<A.length) (hk : K (f (A.getD x default)) H) : rd1 (H.get id) (some n) (x*n) K H:=by
 refine rd_celln o ?_ ?_
 ·have:=flat_bound (f:=f) (n:=n) hx (show 0+n≤n by omega); omega
 ·rw [flat_slice hx,← h.agg]; exact hk
theorem st_elN {id x : Nat} {A : List α} (o : Owns H0 H ((id,.cells n (flat (A.map f)) 0)::l)) (hx : x<A.length) (a : α) {cs : List AV} (hc : cs=(f a).cells) (hk : ∀ H',Owns H0 H' ((id,.cells n (flat ((A.set x a).map f)) 0)::l)→K nv H') : st1 (H.get id) id (x*n) n cs K H:=by
 subst hc;refine st_cells o ?_ (h.len a) (h.one a) fun H' o'=>hk H' ?_
 ·have:=flat_bound (f:=f) (n:=n) hx (show 0+n≤n by omega); omega
 ·rw [flat_wr hx] at o'; exact o'
theorem app_rawN {id m : Nat} {A : List α} {cs : List AV} (o : Owns H0 H ((id,.cells n (flat (A.map f)) 0)::l)) (hn : m=A.length) (h1 : cs.length=n) (h2 : ∀ c,c∈cs→c.one=true) (hm : (A.length+1)*n≤maxL)
  (hk : ∀ id' H',Owns H0 H' ((id',.cells n (flat (A.map f)++cs) 0)::l)→K (.buf id' (A.length+1)) H') : appW n (some (.buf id m)) (some (.sl [.agg cs])) K H:=by
 subst hn
 have h0:=o.h0;simp only at h0
 have h3:=h.two;simp only [appW,h0,srcOf,app2]
 have hle : A.length+1≤maxL:=Nat.le_trans (Nat.le_mul_of_pos_right _ (by omega)) hm;refine ⟨⟨trivial,flat_len A,hle,hm,fun e he=>?_⟩,fun id' hn=>?_⟩
 ·simp only [List.mem_singleton] at he; subst he; exact ⟨h1,h2⟩
 ·have hfl : flat [AV.agg cs]=cs:=by simp [flat,AV.cells]
  rw [hfl];exact hk id' _ (o.mv hn _)
end
structure Pt where
 frm : Int
 to : Int
 edges : List Int
 deriving Inhabited
@[go_sem] def ptE (p : Pt) : AV:=.agg [iI p.frm,iI p.to,iL p.edges]
instance : AggN 3 ptE:=⟨by omega,fun _=>rfl,fun _=>rfl,fun a c hc=>by
 simp only [ptE,AV.cells,List.mem_cons,List.not_mem_nil,or_false] at hc
 rcases hc with rfl | rfl | rfl <;> rfl⟩
@[go_sem] theorem idxE_pt (l : List Pt) (k : IntKind) (i : Int) {d : Option Nat} {F : Env→Heap→Prop} {σ : Env} {H : Heap} :
  pE d F σ H (idxE 3 (some (mL ptE l)) (some (.int k i)))=((0≤i∧i.toNat<l.length)∧putK d F σ (.ptr [iI (ix l i).frm,iI (ix l i).to,iL (ix l i).edges]) H):=idxE_mLN (f:=ptE) l k i
@[go_sem] theorem lenE_pt (l : List Pt) : lenE (some (mL ptE l))=some (True,.int .i64 l.length):=by simp [mL,lenE]
end Go.AW
namespace Go.Proofs.Shf
open Go.AW Go.Proofs Go.Shf
theorem l03Before_ok (B : Nat) (p q : Pt) : PureF Tryz.prog B 297 [ptE p,ptE q] (.bool (dec (p.frm<q.frm∨p.frm=q.frm∧(p.to<q.to∨p.to=q.to∧cmp p.edges q.edges<0)))):=by
 intro H0;refine c297 (by simp) fun hf=>?_;unfold s297;refine tt ?_;apply bk <;> intro h1
 ·refine tt ?_
  have h1p : p.frm≠q.frm:=by simpa using h1
  refine pure_ret ?_ (.refl _)
  congr 1; rw [decide_dec]
  exact dec_congr ⟨fun h=>.inl h,fun h=>h.elim id fun h=>absurd h.1 h1p⟩
 ·have h1p : p.frm=q.frm:=by simpa using h1
  refine tt ?_;apply bk <;> intro h2
  ·refine tt ?_
   have h2p : p.to≠q.to:=by simpa using h2
   refine pure_ret ?_ (.refl _)
   congr 1; rw [decide_dec]
   exact dec_congr ⟨fun h=>.inr ⟨h1p,.inl h⟩,fun h=>h.elim (fun h=>by omega) fun h=>h.2.elim id fun h=>absurd h.1 h2p⟩
  ·have h2p : p.to=q.to:=by simpa using h2
   refine tt ?_;refine (l01Less_ok ..).go fun _=>tt ?_;refine pure_ret ?_ (.refl _)
   congr 1
   exact dec_congr ⟨fun h=>.inr ⟨h1p,.inr ⟨h2p,h⟩⟩,fun h=>h.elim (fun h=>by omega) fun h=>h.2.elim (fun h=>by omega) fun h=>h.2⟩
end Go.Proofs.Shf
namespace Go.Shf
open Go.AW
structure Gr (n : Nat) (F T : List Int) : Prop where
 n3 : n≤3
 l3 : F.length≤3
 tl : T.length=F.length
 up : ∀ e,e<F.length→0≤F.getD e default∧F.getD e default<T.getD e default∧T.getD e default<n
def pW3 (v : Int) : Nat:=if v=0 then 13 else if v=1 then 4 else 1
def pU3 (v : Int) : Nat:=if v=0 then 4 else if v=1 then 1 else 0
theorem pW3_pos (v : Int) : 1≤pW3 v:=by unfold pW3; split <;> (try split) <;> omega
theorem pW3_U (v : Int) : 1+3*pU3 v≤pW3 v:=by unfold pW3 pU3; split <;> (try split) <;> omega
theorem pW3_lt {v t : Int} (h0 : 0≤v) (h1 : v<t) (h2 : t<3) : pW3 t≤pU3 v:=by
 unfold pW3 pU3
 by_cases e0 : v=0
 ·rw [if_pos e0]; split <;> (try split) <;> omega
 ·by_cases e1 : v=1
  ·rw [if_neg e0,if_pos e1,if_neg (by omega),if_neg (by omega)]; omega
  ·omega
def wsum (P : List Pt) : Nat:=(P.map fun p=>pW3 p.to).sum
theorem wsum_app (P Q : List Pt) : wsum (P++Q)=wsum P+wsum Q:=by simp [wsum]
theorem wsum_len : ∀ (P : List Pt),P.length≤wsum P
 | []=>by simp [wsum]
 | p::P=>by
  have:=wsum_len P
  have:=pW3_pos p.to;simp only [wsum,List.map_cons,List.sum_cons,List.length_cons] at *;omega
def _root_.Go.AW.Pt.Ok (n : Nat) (p : Pt) : Prop:=(0≤p.frm∧p.frm<n)∧0≤p.to∧p.to<n
def PtQ (n : Nat) (r : AV) : Prop:=∃ P : List Pt,r=mL ptE P∧P.length≤18∧∀ p,p∈P→p.Ok n∧p.edges.length≤18
def PsOk (n : Nat) (P : List Pt) : Prop:=∀ p,p∈P→p.Ok n∧p.edges.length≤P.length
theorem PsOk.snoc {n : Nat} {P : List Pt} (h : PsOk n P) {p : Pt} (hp : p.Ok n) (hl : p.edges.length≤P.length+1) : PsOk n (P++[p]):=fun q hq=>by
 rw [List.length_append,List.length_singleton]
 rcases List.mem_append.mp hq with h1 | h1
 ·exact ⟨(h q h1).1,by have:=(h q h1).2; omega⟩
 ·rw [List.mem_singleton] at h1; subst h1; exact ⟨hp,hl⟩
theorem PsOk.set {n : Nat} {P : List Pt} (h : PsOk n P) {x y : Nat} (hy : y<P.length) : PsOk n (P.set x (P.getD y default)):=fun q hq=>by
 rw [List.length_set]
 rcases List.mem_or_eq_of_mem_set hq with h1 | h1
 ·exact h q h1
 ·subst h1; exact h _ (mem_getD.mpr ⟨y,hy,rfl⟩)
theorem PsOk.set' {n : Nat} {P Q : List Pt} (h : PsOk n P) (hq : PsOk n Q) (hl : P.length=Q.length) {x y : Nat} (hy : y<P.length) : PsOk n (Q.set x (P.getD y default)):=fun q hm=>by
 rw [List.length_set]
 rcases List.mem_or_eq_of_mem_set hm with h1 | h1
 ·exact hq q h1
 ·subst h1; rw [← hl]; exact h _ (mem_getD.mpr ⟨y,hy,rfl⟩)
theorem flat_snoc (P : List Pt) (a b : Int) (E : List Int) : flat (P.map ptE)++[iI a,iI b,iL E]=flat ((P++[(⟨a,b,E⟩ : Pt)]).map ptE):=by
 rw [List.map_append,flat_app]; rfl
end Go.Shf
namespace Go.Proofs.Shf
open Go.AW Go.Proofs Go.Shf
theorem l03All_ok (B n : Nat) (F T : List Int) (g : Gr n F T) : Rets B 282 [iI n,iL F,iL T] (PtQ n):=by
 intro H0;refine c282p (by simp) fun _=>?_
 obtain ⟨gn,gl,gt,gu⟩:=g;unfold s282p;refine tt ?_;refine newBuf_own (.nil _) fun idL H o=>tt ?_
 refine awp_for [0,1,2] (G:=Nat × List Pt) (fun k g=>[(7,some (.buf g.1 g.2.length)),(8,some (.int .i64 (k : Int)))])
  (fun k g H=>g.2.length=k∧PsOk n g.2∧wsum g.2≤(if k=0 then 0 else if k=1 then 13 else if k=2 then 17 else 18)∧Owns H0 H [(g.1,MObj.cells 3 (flat (g.2.map ptE)) 0)]) n (idL,[]) ⟨rfl,fun p hp=>by simp at hp,by simp [wsum],o⟩ rfl ?_
 clear o
 rintro k ⟨idL,P⟩ H hk ⟨hP,hok,hw,o⟩;dsimp only at hP hok hw o;refine tt ?_;refine ⟨fun h1=>At.mk ?_,fun h1=>At.mk ?_⟩
 ·have h1p:=of_decide h1
  have w:=wsucc (k:=k) (by omega);refine tt ?_;refine app_ownN (f:=ptE) (n:=3) ⟨(k : Int),(k : Int),[]⟩ o rfl rfl (by simp only [maxL]; omega) fun idL H o=>?_;refine tw w ?_;refine for_next (idL,P++[⟨(k : Int),(k : Int),[]⟩]) h1p ⟨by simp [hP], ?_, ?_,o⟩ rfl
  ·exact hok.snoc ⟨⟨by show (0 : Int)≤(k : Int); omega,by show (k : Int)<n; omega⟩,by show (0 : Int)≤(k : Int); omega,by show (k : Int)<n; omega⟩ (Nat.zero_le _)
  ·show wsum (P++[⟨(k : Int),(k : Int),[]⟩])≤_
   rw [wsum_app]
   have e : wsum [(⟨(k : Int),(k : Int),[]⟩ : Pt)]=pW3 k:=by simp [wsum]
   rw [e]
   have : k=0∨k=1∨k=2:=by omega
   rcases this with rfl | rfl | rfl
   ·simp [pW3] at hw ⊢; omega
   ·simp [pW3] at hw ⊢; omega
   ·simp [pW3] at hw ⊢; omega
 ·have h1p:=of_ndecide h1
  obtain rfl : k=n:=by omega
  have hw18 : wsum P≤18:=by
   refine Nat.le_trans hw ?_
   split <;> (try split) <;> (try split) <;> omega
  clear hw h1 h1p hk;refine tt ?_
  refine awp_for [1,2] (G:=Nat × List Pt) (fun k g=>[(7,some (.buf g.1 g.2.length)),(9,some (.int .i64 (k : Int)))])
   (fun j g H=>PsOk k g.2∧j≤g.2.length∧wsum (g.2.drop j)+j≤18∧Owns H0 H [(g.1,MObj.cells 3 (flat (g.2.map ptE)) 0)]) 18 (idL,P) ⟨hok,by simp,by simpa using hw18,o⟩ rfl ?_
  clear o hok hw18 hP
  rintro j ⟨idL,P⟩ H hj ⟨hok,hjl,hw,o⟩;dsimp only at hok hjl hw o
  have hlen : P.length≤18:=by
   have:=wsum_len (P.drop j);rw [List.length_drop] at this; omega
  refine tt ?_;refine ⟨fun h1=>At.mk ?_,fun h1=>At.mk ?_⟩
  case' refine_1 =>
   have h1p:=of_decide h1
   have h2p : decide ((P.length : Int)≤40)=true:=decide_eq_true (by omega);try simp only [go_sem,↓reduceIte,reduceEqDiff,reduceAdd,reduceMul,reduceLeDiff,reduceLT,h1,h2p]
   obtain ⟨pk,hpk⟩ : ∃ pk,P.getD j default=pk:=⟨_,rfl⟩
   have hw1 : wsum (P.drop (j+1))+(j+1)+F.length*pU3 pk.to≤18:=by
    have e1 : P.drop j=[pk]++P.drop (j+1):=by
     rw [List.drop_eq_getElem_cons (by omega),← hpk]
     simp [List.getD_eq_getElem?_getD,show j<P.length by omega]
    rw [e1,wsum_app] at hw
    have e2 : wsum [pk]=pW3 pk.to:=by simp [wsum]
    have e3:=pW3_U pk.to
    have e4 : F.length*pU3 pk.to≤3*pU3 pk.to:=Nat.mul_le_mul_right _ gl;omega
   have hjl1 : j<P.length:=by omega
   refine awp_for [1,2,9] (G:=Nat × List Pt) (fun k g=>[(7,some (.buf g.1 g.2.length)),(10,some (.int .i64 (k : Int)))])
    (fun e g H=>PsOk k g.2∧j<g.2.length∧g.2.getD j default=pk∧wsum (g.2.drop (j+1))+(j+1)+(F.length - e)*pU3 pk.to≤18∧Owns H0 H [(g.1,MObj.cells 3 (flat (g.2.map ptE)) 0)]) F.length (idL,P) ⟨hok,hjl1,hpk,hw1,o⟩ rfl ?_
   clear o hok hjl hw hlen hpk hw1 hjl1 h1 h2p h1p
   rintro e ⟨idL,P⟩ H he ⟨hok,hjl,hpk,hw,o⟩;dsimp only at hok hjl hpk hw o
   have hlen : P.length≤18:=by
    have:=wsum_len (P.drop (j+1));rw [List.length_drop] at this; omega
   refine tt ?_;refine ⟨fun h2=>At.mk ?_,fun h2=>At.mk ?_⟩
   ·have h2p:=of_decide h2
    have gue:=gu e h2p
    have we:=wsucc (k:=e) (by omega)
    have hsub : (F.length - e)*pU3 pk.to=(F.length - (e+1))*pU3 pk.to+pU3 pk.to:=by
     rw [show F.length - e=(F.length - (e+1))+1 by omega,Nat.succ_mul]
    refine tt ?_;refine ⟨by omega,by omega,rd_elN (f:=ptE) (n:=3) o hjl (by omega) ?_⟩;rw [hpk];refine tt ?_;refine ⟨fun h3=>At.mk ?_,fun h3=>At.mk ?_⟩
    ·have h3p:=of_decide h3;refine tt ?_
     have hpo:=hok pk (by rw [← hpk]; exact mem_getD.mpr ⟨j,hjl,rfl⟩)
     have hpo2:=hpo.2;refine ⟨hjl,⟨_,_,o.h0⟩,rd_elN (f:=ptE) (n:=3) o hjl (by omega) ?_⟩;rw [hpk];refine tt ?_;refine ⟨by omega,hjl,⟨_,_,o.h0⟩,rd_elN (f:=ptE) (n:=3) o hjl (by omega) ?_⟩;rw [hpk];refine tt ?_;refine New.go' (l01Own_new B pk.edges) o fun X1 p1 H ⟨ide,e1,e2⟩ o hs=>⟨hs, ?_⟩;subst e1 e2;refine tt ?_;refine app_own' _ o rfl rfl (by simp only [maxL]; omega) fun ide H E _ hE o=>tt ?_;refine app_rawN (f:=ptE) (n:=3) o.swap rfl rfl (by first | (simp only [go_sem]; done) | ((try simp only [go_sem]); simp [AV.one,one_mL])) (by simp only [maxL]; omega) fun idL H o=>tt ?_;refine wk_cell (f:=iI) ((flat (P.map ptE)).length+2) o (by rw [List.getElem?_append_right (by omega)]; simp) rfl fun H o=>wkW_done ?_;rw [List.set_append_right _ _ (by omega),show (flat (P.map ptE)).length+2 - (flat (P.map ptE)).length=2 by omega] at o;simp only [List.set_cons_zero,List.set_cons_succ] at o
     have o : Owns H0 H [(idL,MObj.cells 3 (flat ((P++[(⟨pk.frm,T.getD e default,E⟩ : Pt)]).map ptE)) 0)]:=by rw [← flat_snoc]; exact o
     refine tw we ?_
     have hlt:=pW3_lt gue.1 gue.2.1 (by omega);rw [h3p] at hlt;refine for_next (idL,P++[(⟨pk.frm,T.getD e default,E⟩ : Pt)]) h2p ⟨?_,by simp; omega, ?_, ?_,o⟩ (by simp)
     ·exact hok.snoc ⟨hpo.1.1,by show 0≤T.getD e default; omega,by show T.getD e default<k; omega⟩ (by show E.length≤_; omega)
     ·show (P++[_]).getD j default=pk
      rw [List.getD_eq_getElem?_getD,List.getElem?_append_left hjl,← List.getD_eq_getElem?_getD]; exact hpk
     ·show wsum ((P++[_]).drop (j+1))+(j+1)+(F.length - (e+1))*pU3 pk.to≤18
      rw [List.drop_append_of_le_length (by omega),wsum_app]
      have e2 : wsum [(⟨pk.frm,T.getD e default,E⟩ : Pt)]=pW3 (T.getD e default):=by simp [wsum]
      rw [e2]; omega
    ·refine tt ?_;refine wkW_done ?_;refine tw we ?_;exact for_next (idL,P) h2p ⟨hok,hjl,hpk,by show wsum (P.drop (j+1))+(j+1)+_≤18; omega,o⟩ rfl
   ·have wj:=wsucc (k:=j) (by omega);refine tw wj ?_;exact for_next (idL,P) (by omega) ⟨hok,hjl,by show wsum (P.drop (j+1))+(j+1)≤18; omega,o⟩ rfl
  case' refine_2 =>
   refine tw h1 ?_;clear hw hj hjl h1
   generalize hL : P.length=L at *;refine awp_for [7] (G:=List Pt) (fun x _=>[(11,some (.int .i64 ((1+x : Nat) : Int)))]) (fun x P H=>P.length=L∧PsOk k P∧Owns H0 H [(idL,MObj.cells 3 (flat (P.map ptE)) 0)]) L P ⟨hL,hok,o⟩ rfl ?_;clear o hok hL
   rintro x P H hx ⟨hL,hok,o⟩
   replace hL : P.length=L:=hL
   replace hok : PsOk k P:=hok
   replace o : Owns H0 H [(idL,MObj.cells 3 (flat (P.map ptE)) 0)]:=o;refine tt ?_;refine ⟨fun h1=>At.mk ?_,fun h1=>At.mk ?_⟩
   ·have h1p:=of_decide h1
    have wx:=wsucc (k:=1+x) (by omega);refine tt ?_;refine awp_while [7,11] (G:=Nat × List Pt) (fun g=>[(12,some (.int .i64 (g.1 : Int)))]) (fun m g H=>m=g.1∧g.1<L∧g.2.length=L∧PsOk k g.2∧Owns H0 H [(idL,MObj.cells 3 (flat (g.2.map ptE)) 0)]) (1+x) (1+x,P) ⟨rfl,by simp only; omega,hL,hok,o⟩ rfl ?_;clear o hok hL
    rintro m ⟨y,P⟩ H ⟨hm,hy,hL,hok,o⟩;dsimp only at hm;subst hm;dsimp only at hy hL hok o;refine tt ?_;refine ⟨fun h2=>At.mk ?_,fun h2=>At.mk ?_⟩
    case' refine_1 =>
     have h2p:=of_decide h2
     have wp : IntKind.i64.wrap ((m : Int) - 1)=((m - 1 : Nat) : Int):=wpred (by omega) (by omega);refine tw h2 ?_;refine ⟨by omega,rd_elA (f:=ptE) (n:=3) o (by omega) ?_⟩;refine tw wp ?_;refine ⟨by omega,rd_elA (f:=ptE) (n:=3) o (by omega) ?_⟩;refine tt ?_;refine ⟨_,l03Before_ok B _ _,tt ?_⟩;refine ⟨fun h3=>At.mk ?_,fun h3=>At.mk ?_⟩
     case' refine_1 =>
      refine tt ?_;refine ⟨by omega,rd_elA (f:=ptE) (n:=3) o (by omega) ?_⟩;refine tt ?_;refine newRef_own o fun id13 H o=>tt ?_;refine sw o fun H o=>?_;refine tw wp ?_;refine ⟨by omega,rd_elA (f:=ptE) (n:=3) o.tl (by omega) ?_⟩;refine tt ?_;refine ⟨by omega, ?_⟩;refine st_elN (f:=ptE) (n:=3) o.swap (by omega) (P.getD (m - 1) default) rfl fun H o=>?_;refine tw wp ?_
      have hr2:=o.tl.rc 3 0 (by simp);refine rd_celln o.tl (by simp) ?_;refine tt ?_;refine ⟨by omega, ?_⟩;refine st_elN (f:=ptE) (n:=3) o (by simp; omega) (P.getD m default) rfl fun H o=>?_;refine tw wp ?_
      have hp1 : PsOk k (P.set m (P.getD (m - 1) default)):=hok.set (by omega);exact while_next (m - 1) (m - 1,(P.set m (P.getD (m - 1) default)).set (m - 1) (P.getD m default)) (by omega) ⟨rfl,by show m - 1<L; omega,by simp [hL],hok.set' hp1 (by simp) (by omega),o.swap.tl⟩ rfl
    all_goals
     try (try simp only [go_sem,↓reduceIte,reduceEqDiff,reduceAdd,reduceMul,reduceLeDiff,reduceLT,h2])
     refine tw wx ?_;exact for_next P (by omega) ⟨hL,hok,o⟩ rfl
   ·refine tt ?_;refine fz_ownN (f:=ptE) (n:=3) o hL.symm fun H o=>tt ?_;exact rets_ret ⟨P,rfl,by omega,fun p hp=>⟨(hok p hp).1,by have:=(hok p hp).2; omega⟩⟩ o.sub
theorem l03Paths_ok (B n : Nat) (F T : List Int) (g : Gr n F T) : Rets B 243 [iI n,iL F,iL T] (CatQ 18):=by
 intro H0;refine c243p (by simp) fun _=>?_
 have gn:=g.n3;unfold s243p;refine tt ?_;refine newRef_own (.nil _) fun id6 H o=>tt ?_;refine (l03All_ok B n F T g).go fun r _ ⟨P,e,hP18,hPok⟩=>?_;subst e;refine tt ?_;refine newBuf_own o fun a H o=>tt ?_;refine newBuf_own o fun b H o=>tt ?_;refine ⟨by simp only [maxL]; omega, ?_⟩;refine mks_list iI 0 rfl o fun i H o=>tt ?_;refine newBuf_own o fun d H o=>tt ?_;refine newRef_own o fun id8 H o=>tt ?_;refine sw o fun H o=>tt ?_
 refine awp_for [6,7,8] (G:=(Nat × List Int) × (Nat × List Int) × List Int) (fun k _=>[(9,some (.int .i64 (k : Int)))])
  (fun k g H=>g.1.2.length=k∧g.2.1.2.length=k∧g.2.2.length=n∧Owns H0 H (prodO id8 id6 n g.1.1 g.1.2 g.2.1.1 g.2.1.2 i g.2.2 d [])) P.length ((a,[]),(b,[]),List.replicate n 0) ⟨rfl,rfl,by simp,by unfold prodO; simp only [List.length_replicate]; exact o.pm⟩ rfl ?_
 clear o
 rintro k ⟨⟨a,A⟩,⟨b,C⟩,I⟩ H hk ⟨hA,hC,hI,o⟩;dsimp only at hA hC hI o;refine tt ?_;refine ⟨fun h1=>At.mk ?_,fun h1=>At.mk ?_⟩
 ·have h1p:=of_decide h1
  have w:=wsucc (k:=k) (by omega)
  have hpk:=hPok (P.getD k default) (mem_getD.mpr ⟨k,h1p,rfl⟩)
  have hpf:=hpk.1.1;unfold prodO at o;refine tt ?_;refine rd_cells o (by simp) ?_;refine tt ?_;refine ⟨h1p,app_own' _ o.swap rfl rfl (by simp only [maxL]; omega) fun a H A2 _ hA2 o=>?_⟩;refine tt ?_;refine sw o.swap fun H o=>tt ?_;refine rd_cells o (by simp) ?_;refine tt ?_;refine ⟨h1p,app_own' _ (o.pull [_,_]) rfl rfl (by simp only [maxL]; omega) fun b H C2 _ hC2 o=>?_⟩;refine tt ?_;refine sw o.swap fun H o=>tt ?_;refine ⟨h1p, ?_⟩
  have o : Owns H0 H (prodO id8 id6 n a A2 b C2 i I d []):=by
   try unfold prodO
   exact o.pm
  refine ⟨fun h2=>At.mk ?_,fun h2=>At.mk ?_⟩
  ·unfold prodO at o;refine tt ?_;refine rd_cells o (by simp) ?_;refine tt ?_;refine ⟨h1p,by omega, ?_⟩;refine set_own (k : Int) (o.pull [_,_,_]) rfl (by omega) fun H o=>?_;refine tw w ?_;refine for_next ((a,A2),(b,C2),I.set (P.getD k default).frm.toNat k) h1p ⟨by show A2.length=_; omega,by show C2.length=_; omega,by simp [hI], ?_⟩ rfl
   try unfold prodO
   simp only [List.length_set];exact o.pm
  ·refine tw w ?_;exact for_next ((a,A2),(b,C2),I) h1p ⟨by show A2.length=_; omega,by show C2.length=_; omega,hI,o⟩ rfl
 ·have h1p:=of_ndecide h1
  obtain rfl : k=P.length:=by omega
  clear h1 h1p hk;unfold prodO at o;refine tt ?_;refine wk_cell 1 o rfl rfl fun H o=>?_;simp only [List.set_cons_zero,List.set_cons_succ] at o;refine wk_cell 2 o rfl rfl fun H o=>?_;simp only [List.set_cons_zero,List.set_cons_succ] at o;refine wk_cell 3 o rfl rfl fun H o=>wkW_done ?_;simp only [List.set_cons_zero,List.set_cons_succ] at o
  have o : Owns H0 H [(id8,MObj.cells 5 [iI n,iL A,iL C,iL I,.buf d 0] 0),(d,MObj.cells 1 [] 0),(id6,MObj.cells 5 [iI 0,.nilsl,.nilsl,.nilsl,.nilsl] 0)]:=o;refine tt ?_;refine rd_celln o (by simp) ?_;refine tt ?_;refine CallH.lentPure (es:=[.agg (Cat.cells ⟨n,A,C,I,[]⟩)]) (.bool _) rfl (fun j hj=>?_) (l02Fits_ok B ⟨n,A,C,I,[]⟩).run ?_
  ·have : j=0:=by simp at hj; omega
   subst this;refine Tr.arg (.agg _ _ rfl fun q hq=>?_)
   match q,hq with
   | 0,_=>exact .val _
   | 1,_=>exact .val _
   | 2,_=>exact .val _
   | 3,_=>exact .val _
   | 4,_=>exact .buf d 0 [] [] o.tl.h0 rfl (by simp) (by simp)
  rw [dec_t (show (n : Int)≤8∧A.length≤40 from ⟨by omega,by omega⟩)];refine tt ?_
  refine awp_for [6,7,8] (G:=Nat × List (List Int)) (fun k _=>[(10,some (.int .i64 (k : Int)))])
   (fun k g H=>g.2.length=k∧(∀ r,r∈g.2→r.length=P.length)∧Owns H0 H [(id8,MObj.cells 5 [iI n,iL A,iL C,iL I,.buf g.1 g.2.length] 0),(g.1,MObj.cells 1 (g.2.map iL) 0),(id6,MObj.cells 5 [iI 0,.nilsl,.nilsl,.nilsl,.nilsl] 0)]) P.length (d,[]) ⟨rfl,by simp,o⟩ rfl ?_
  clear o
  rintro x ⟨d,D⟩ H hx ⟨hD,hDr,o⟩;dsimp only at hD hDr o;refine tt ?_;refine ⟨fun h1=>At.mk ?_,fun h1=>At.mk ?_⟩
  ·have h1p:=of_decide h1
   have hpx:=hPok (P.getD x default) (mem_getD.mpr ⟨x,h1p,rfl⟩);refine tt ?_;refine newBuf_own o fun idr H o=>tt ?_
   refine awp_for [6,7,8,10] (G:=Nat × List Int) (fun y g=>[(11,some (.buf g.1 g.2.length)),(12,some (.int .i64 (y : Int)))])
    (fun y g H=>g.2.length=y∧Owns H0 H [(g.1,MObj.cells 1 (g.2.map iI) 0),(id8,MObj.cells 5 [iI n,iL A,iL C,iL I,.buf d D.length] 0),(d,MObj.cells 1 (D.map iL) 0),(id6,MObj.cells 5 [iI 0,.nilsl,.nilsl,.nilsl,.nilsl] 0)]) P.length (idr,[]) ⟨rfl,o⟩ rfl ?_
   clear o
   rintro y ⟨idr,row⟩ H hy ⟨hr,o⟩;dsimp only at hr o;refine tt ?_;refine ⟨fun h2=>At.mk ?_,fun h2=>At.mk ?_⟩
   ·have h2p:=of_decide h2
    have w:=wsucc (k:=y) (by omega)
    have hpy:=hPok (P.getD y default) (mem_getD.mpr ⟨y,h2p,rfl⟩);refine tt ?_;refine ⟨h1p,h2p, ?_⟩;refine ⟨fun h3=>At.mk ?_,fun h3=>At.mk ?_⟩
    ·refine tt ?_;refine ⟨h1p,h2p, ?_⟩;refine New.go' (l01Own_new B (P.getD x default).edges) o fun X1 p1 H ⟨ide,e1,e2⟩ o hs=>⟨hs, ?_⟩;subst e1 e2;refine tt ?_;refine app_list (f:=iI) (r:=(P.getD y default).edges) o rfl (by simp only [maxL]; omega) fun ide H o=>tt ?_;refine fz_own o rfl fun H o=>tt ?_
     generalize (P.getD x default).edges++(P.getD y default).edges=both
     refine awp_for [6,7,8,10,11,12,14] (G:=Int) (fun z h=>[(13,some (.int .i64 h)),(15,some (.int .i64 (z : Int)))])
      (fun z h H=>Owns H0 H [(idr,MObj.cells 1 (row.map iI) 0),(id8,MObj.cells 5 [iI n,iL A,iL C,iL I,.buf d D.length] 0),(d,MObj.cells 1 (D.map iL) 0),(id6,MObj.cells 5 [iI 0,.nilsl,.nilsl,.nilsl,.nilsl] 0)]) P.length (-1) o rfl ?_
     clear o
     rintro z h H hz o;refine tt ?_;refine ⟨fun h4=>At.mk ?_,fun h4=>At.mk ?_⟩
     ·have h4p:=of_decide h4
      have wz:=wsucc (k:=z) (by omega);refine tt ?_;refine ⟨h4p,h1p, ?_⟩;refine ⟨fun h5=>At.mk ?_,fun h5=>At.mk ?_⟩
      case' refine_1 =>
       refine tw h5 ?_;refine ⟨h4p,_,(l01Same_ok ..).run,tt ?_⟩;refine ⟨fun h6=>At.mk ?_,fun h6=>At.mk ?_⟩
       case' refine_1 =>
        refine tt ?_
      all_goals
       try (try simp only [go_sem,↓reduceIte,reduceEqDiff,reduceAdd,reduceMul,reduceLeDiff,reduceLT,h5])
       try (try simp only [go_sem,↓reduceIte,reduceEqDiff,reduceAdd,reduceMul,reduceLeDiff,reduceLT,wz])
       exact for_next _ h4p o rfl
     ·refine tt ?_;refine app_own' _ o rfl rfl (by simp only [maxL]; omega) fun idr H row2 _ hrow2 o=>?_;refine tw w ?_;exact for_next (idr,row2) h2p ⟨by show row2.length=_; omega,o⟩ rfl
    ·refine tt ?_;refine app_own' _ o rfl rfl (by simp only [maxL]; omega) fun idr H row2 _ hrow2 o=>?_;refine tw w ?_;exact for_next (idr,row2) h2p ⟨by show row2.length=_; omega,o⟩ rfl
   ·have h2p:=of_ndecide h2
    have w:=wsucc (k:=x) (by omega);refine tt ?_;refine fz_own o rfl fun H o=>tt ?_;refine rd_cells o (by simp) ?_;refine tt ?_;refine app_own' row o.swap rfl rfl (by simp only [maxL]; omega) fun d H D2 eD hD2 o=>tt ?_;refine sw o.swap fun H o=>?_;refine tw w ?_;refine for_next (d,D2) h1p ⟨by show D2.length=_; omega,fun r hr2=>?_,o⟩ rfl;dsimp only at hr2;rw [eD] at hr2
    rcases List.mem_append.mp hr2 with h | h
    ·exact hDr r h
    ·rw [List.mem_singleton] at h; subst h; omega
  ·have h1p:=of_ndecide h1;refine tt ?_;refine wk_cell 4 o rfl rfl fun H o=>wkW_done ?_;simp only [List.set_cons_zero,List.set_cons_succ] at o;refine tt ?_;refine rd_celln o (by simp) ?_;refine tt ?_;refine sw o.swap fun H o=>tt ?_
   have hr2:=o.rc 5 0 (by simp);simp only [List.drop_zero] at hr2;rw [hr2];refine tt ?_
   have hDA : D.length=A.length:=by omega
   refine rets_ret ⟨⟨n,A,C,I,D⟩,rfl,⟨by show (0 : Int)≤(n : Int); omega,by show (n : Int)≤((18 : Nat) : Int); omega⟩,by show (I.length : Int)=n; omega,by show A.length≤18; omega,by show C.length=A.length; omega,hDA,fun q hq=>?_⟩ o.sub;rw [hDr _ (mem_getD.mpr ⟨q,by rw [hDA]; exact hq,rfl⟩)]; exact hA.symm
theorem sq1 : SqT 4 [[1]]:=⟨by decide,by decide⟩
theorem l02Family_ok (B : Nat) : Rd B 159 [] (CatQ 100):=by
 intro id s H0 H hs o;refine c159p (by simp) fun _=>?_;unfold s159p;refine tt ?_;refine newRef_own o fun id2 H o=>tt ?_;refine (l01Next_ok B 12).go hs o.swap fun r s H _ ⟨k,e,hk0,hk1,_⟩ hs o=>?_;subst e
 have hk1:=hk1 (by omega);refine tt ?_;apply bk <;> intro q0
 ·refine tt ?_;refine (l01Next_ok B 5).go hs o fun r s H _ ⟨v,e,hv0,hv1,_⟩ hs o=>?_;subst e
  have hv1:=hv1 (by omega);refine tt ?_
  obtain ⟨v,rfl⟩:=Int.eq_ofNat_of_zero_le hv0;refine (l02Relation_ok B v (by omega)).go hs o fun r s H _ ⟨T,e,hT⟩ hs o=>?_;subst e;refine tt ?_;refine (l03Poset_ok B T hT).go fun r _ ⟨c,e,hc⟩=>?_;subst e;refine tt ?_;refine sw o.swap fun H o=>tt ?_
  have hr2:=o.rc 5 0 (by simp);simp only [List.drop_zero] at hr2;rw [hr2];refine tt ?_;exact src_ret ⟨c,rfl,hc.mono (by omega)⟩ hs o.swap
 refine tt ?_;apply bk <;> intro q1
 ·refine tt ?_;refine (l03Poset_ok B [[1,1],[0,1]] ⟨by decide,by decide⟩).go fun r _ ⟨c,e,hc⟩=>?_;subst e;refine tt ?_;refine sw o.swap fun H o=>tt ?_
  have hr2:=o.rc 5 0 (by simp);simp only [List.drop_zero] at hr2;rw [hr2];refine tt ?_;exact src_ret ⟨c,rfl,hc.mono (by omega)⟩ hs o.swap
 refine tt ?_;apply bk <;> intro q2
 ·refine tt ?_;refine (l03Poset_ok B [[1,1,1],[0,1,0],[0,0,1]] ⟨by decide,by decide⟩).go fun r _ ⟨c,e,hc⟩=>?_;subst e;refine tt ?_;refine sw o.swap fun H o=>tt ?_
  have hr2:=o.rc 5 0 (by simp);simp only [List.drop_zero] at hr2;rw [hr2];refine tt ?_;exact src_ret ⟨c,rfl,hc.mono (by omega)⟩ hs o.swap
 refine tt ?_;apply bk <;> intro q3
 ·refine tt ?_;refine (l03Paths_ok B 2 [0,0] [1,1] ⟨by decide,by decide,by decide,by decide⟩).go fun r _ ⟨c,e,hc⟩=>?_;subst e;refine tt ?_;refine sw o.swap fun H o=>tt ?_
  have hr2:=o.rc 5 0 (by simp);simp only [List.drop_zero] at hr2;rw [hr2];refine tt ?_;exact src_ret ⟨c,rfl,hc.mono (by omega)⟩ hs o.swap
 refine tt ?_;apply bk <;> intro q4
 ·refine tt ?_;refine (l02Monoid_ok B).go hs o fun r s H _ ⟨T,e,hT⟩ hs o=>?_;subst e;refine tt ?_;refine (l03Monoid_ok B T hT).go fun r _ ⟨c,e,hc⟩=>?_;subst e;refine tt ?_;refine sw o.swap fun H o=>tt ?_
  have hr2:=o.rc 5 0 (by simp);simp only [List.drop_zero] at hr2;rw [hr2];refine tt ?_;exact src_ret ⟨c,rfl,hc.mono (by omega)⟩ hs o.swap
 refine tt ?_;apply bk <;> intro q5
 ·refine tt ?_;refine (l01Next_ok B 3).go hs o fun r s H _ ⟨v,e,hv0,hv1,_⟩ hs o=>?_;subst e
  have hv1:=hv1 (by omega)
  obtain ⟨v,rfl⟩:=Int.eq_ofNat_of_zero_le hv0
  have wv : IntKind.i64.wrap (1+(v : Int))=((1+v : Nat) : Int):=by rw [wrap_i64 (by omega) (by omega)]; omega
  generalize hm : 1+v=m at *;refine tw wv ?_;refine newBuf_own o fun idr H o=>tt ?_;refine awp_for [2,3] (G:=Nat × List (List Int)) (fun i g=>[(4,some (.buf g.1 g.2.length)),(5,some (.int .i64 (i : Int)))]) (fun i g H=>g.2.length=i∧(∀ r,r∈g.2→r.length=m)∧Owns H0 H [(g.1,MObj.cells 1 (g.2.map iL) 0),(id,s.obj),(id2,MObj.cells 5 [.int .i64 0,.nilsl,.nilsl,.nilsl,.nilsl] 0)]) m (idr,[]) ⟨rfl,by simp,o⟩ rfl ?_;clear o
  rintro i ⟨idr,T⟩ H hi ⟨hT,hTr,o⟩;dsimp only at hT hTr o;refine tt ?_;apply bk <;> intro h1
  ·have h1p:=of_decide h1
   have wi:=wsucc (k:=i) (by omega);refine tt ?_;refine newBuf_own o fun ida H o=>tt ?_;refine awp_for [2,3,4,5] (G:=Nat × List Int) (fun j g=>[(6,some (.buf g.1 g.2.length)),(7,some (.int .i64 (j : Int)))]) (fun j g H=>g.2.length=j∧Owns H0 H [(g.1,MObj.cells 1 (g.2.map iI) 0),(idr,MObj.cells 1 (T.map iL) 0),(id,s.obj),(id2,MObj.cells 5 [.int .i64 0,.nilsl,.nilsl,.nilsl,.nilsl] 0)]) m (ida,[]) ⟨rfl,o⟩ rfl ?_;clear o
   rintro j ⟨ida,row⟩ H hj ⟨hr,o⟩;dsimp only at hr o;refine tt ?_;apply bk <;> intro h2
   ·have h2p:=of_decide h2
    have wj:=wsucc (k:=j) (by omega);refine tt ?_;refine app_own' _ o rfl rfl (by simp only [maxL]; omega) fun ida H row2 _ hrow2 o=>?_;refine tw wj ?_;exact for_next (ida,row2) h2p ⟨by show row2.length=_; omega,o⟩ rfl
   ·have h2p:=of_ndecide h2;refine tt ?_;refine fz_own o rfl fun H o=>tt ?_;refine app_own' row o rfl rfl (by simp only [maxL]; omega) fun idr H T2 eT hT2 o=>?_;refine tw wi ?_;refine for_next (idr,T2) h1p ⟨by show T2.length=_; omega,fun r hr2=>?_,o⟩ rfl;dsimp only at hr2;rw [eT] at hr2
    rcases List.mem_append.mp hr2 with h | h
    ·exact hTr r h
    ·rw [List.mem_singleton] at h; subst h; omega
  have h1p:=of_ndecide h1;refine tt ?_;refine fz_own o rfl fun H o=>tt ?_;refine (l03Poset_ok B T ⟨by omega,fun x hx=>by rw [hTr _ (mem_getD.mpr ⟨x,hx,rfl⟩)]; omega⟩).go fun r _ ⟨c,e,hc⟩=>?_;subst e;refine tt ?_;refine sw o.swap fun H o=>tt ?_
  have hr2:=o.rc 5 0 (by simp);simp only [List.drop_zero] at hr2;rw [hr2];refine tt ?_;exact src_ret ⟨c,rfl,hc.mono (by omega)⟩ hs o.swap
 refine tt ?_;apply bk <;> intro q6
 ·refine tt ?_;refine (l03Paths_ok B 3 [0,1,0] [1,2,2] ⟨by decide,by decide,by decide,by decide⟩).go fun r _ ⟨c,e,hc⟩=>?_;subst e;refine tt ?_;refine sw o.swap fun H o=>tt ?_
  have hr2:=o.rc 5 0 (by simp);simp only [List.drop_zero] at hr2;rw [hr2];refine tt ?_;exact src_ret ⟨c,rfl,hc.mono (by omega)⟩ hs o.swap
 refine tt ?_;apply bk <;> intro q7
 ·refine tt ?_;refine (l02Split_ok B).go fun r _ ⟨c,e,hc⟩=>?_;subst e;refine tt ?_;refine sw o.swap fun H o=>tt ?_
  have hr2:=o.rc 5 0 (by simp);simp only [List.drop_zero] at hr2;rw [hr2];refine tt ?_;exact src_ret ⟨c,rfl,hc.mono (by omega)⟩ hs o.swap
 refine tt ?_;apply bk <;> intro q8
 ·refine tt ?_;refine (l02Monoid_ok B).go hs o fun r s H _ ⟨T,e,hT⟩ hs o=>?_;subst e;refine tt ?_;refine (l03Monoid_ok B T hT).go fun r _ ⟨c,e,hc⟩=>?_;subst e;refine tt ?_;refine (l03Poset_ok B [[1]] sq1).go fun r _ ⟨d,e,hd⟩=>?_;subst e;refine tt ?_;refine (l03Join_ok B 4 16 (by omega) (by omega) c d hc hd).go fun r _ ⟨c,e,hc⟩=>?_;subst e;refine tt ?_;refine (l03Op_ok B (4+16+4*16) (by omega) c hc).go fun r _ ⟨c,e,hc⟩=>?_;subst e;refine tt ?_;refine sw o.swap fun H o=>tt ?_
  have hr2:=o.rc 5 0 (by simp);simp only [List.drop_zero] at hr2;rw [hr2];refine tt ?_;exact src_ret ⟨c,rfl,hc.mono (by omega)⟩ hs o.swap
 refine tt ?_;apply bk <;> intro q9
 ·refine tt ?_;refine (l02Monoid_ok B).go hs o fun r s H _ ⟨T,e,hT⟩ hs o=>?_;subst e;refine tt ?_;refine (l03Monoid_ok B T hT).go fun r _ ⟨c,e,hc⟩=>?_;subst e;refine tt ?_;refine (l03Poset_ok B [[1]] sq1).go fun r _ ⟨d,e,hd⟩=>?_;subst e;refine tt ?_;refine (l03Join_ok B 4 16 (by omega) (by omega) c d hc hd).go fun r _ ⟨c,e,hc⟩=>?_;subst e;refine tt ?_;refine sw o.swap fun H o=>tt ?_
  have hr2:=o.rc 5 0 (by simp);simp only [List.drop_zero] at hr2;rw [hr2];refine tt ?_;exact src_ret ⟨c,rfl,hc.mono (by omega)⟩ hs o.swap
 refine tt ?_;apply bk <;> intro q10
 ·refine tt ?_;refine (l01Next_ok B 2).go hs o fun r s H _ ⟨v,e,hv0,hv1,_⟩ hs o=>?_;subst e
  have hv1:=hv1 (by omega)
  obtain ⟨v,rfl⟩:=Int.eq_ofNat_of_zero_le hv0
  have wv : IntKind.i64.wrap (2+(v : Int))=((2+v : Nat) : Int):=by rw [wrap_i64 (by omega) (by omega)]; omega
  refine tw wv ?_;refine (l02Relation_ok B (2+v) (by omega)).go hs o fun r s H _ ⟨T,e,hT⟩ hs o=>?_;subst e;refine tt ?_;refine (l03Poset_ok B T hT).go fun r _ ⟨c,e,hc⟩=>?_;subst e;refine tt ?_;refine sw o.swap fun H o=>tt ?_
  have hr2:=o.rc 5 0 (by simp);simp only [List.drop_zero] at hr2;rw [hr2];refine tt ?_;exact src_ret ⟨c,rfl,hc.mono (by omega)⟩ hs o.swap
 refine tt ?_;refine (l01Next_ok B 2).go hs o fun r s H _ ⟨v,e,hv0,hv1,_⟩ hs o=>?_;subst e
 have hv1:=hv1 (by omega)
 obtain ⟨v,rfl⟩:=Int.eq_ofNat_of_zero_le hv0
 have wv : IntKind.i64.wrap (2+(v : Int))=((2+v : Nat) : Int):=by rw [wrap_i64 (by omega) (by omega)]; omega
 obtain ⟨n,hn⟩ : ∃ n,2+v=n:=⟨_,rfl⟩;rw [hn] at wv
 have hn23 : n=2∨n=3:=by omega
 clear hv0 hv1 hn;refine tw wv ?_;refine newBuf_own o fun f H o=>tt ?_;refine newBuf_own o fun t H o=>tt ?_;refine (l01Next_ok B 4).go hs (o.pull [_,_]) fun r s H _ ⟨q,e,hq0,hq1,_⟩ hs o=>?_;subst e
 have hq1:=hq1 (by omega)
 obtain ⟨q,rfl⟩:=Int.eq_ofNat_of_zero_le hq0;refine tt ?_
 refine awp_while [0,2,8] (G:=Src × (Nat × List Int) × (Nat × List Int) × Nat) (fun g=>[(9,some (.buf g.2.1.1 g.2.1.2.length)),(10,some (.buf g.2.2.1.1 g.2.2.1.2.length)),(11,some (.int .i64 (g.2.2.2 : Int)))])
  (fun m g H=>m=g.2.2.2∧g.1.Ok∧g.2.1.2.length+g.2.2.2≤3∧g.2.2.1.2.length=g.2.1.2.length∧(∀ e,e<g.2.1.2.length→0≤g.2.1.2.getD e default∧g.2.1.2.getD e default<g.2.2.1.2.getD e default∧g.2.2.1.2.getD e default<n) ∧
   Owns H0 H [(id,g.1.obj),(g.2.2.1.1,MObj.cells 1 (g.2.2.1.2.map iI) 0),(g.2.1.1,MObj.cells 1 (g.2.1.2.map iI) 0),(id2,MObj.cells 5 [.int .i64 0,.nilsl,.nilsl,.nilsl,.nilsl] 0)]) q (s,(f,[]),(t,[]),q) ⟨rfl,hs,by simp only [List.length_nil]; omega,rfl,fun e he=>by simp at he,o⟩ rfl ?_
 clear o hs hq0 hq1
 rintro m ⟨s,⟨f,F⟩,⟨t,T⟩,q⟩ H ⟨hm,hs,hF,hT,hE,o⟩;dsimp only at hm;subst hm;dsimp only at hs hF hT hE o
 have wn : IntKind.i64.wrap ((n : Int) - 1)=((n - 1 : Nat) : Int):=wpred (by omega) (by omega);refine tt ?_;apply bk <;> intro h1
 ·have h1p:=of_decide h1
  have wm : IntKind.i64.wrap ((m : Int) - 1)=((m - 1 : Nat) : Int):=wpred (by omega) (by omega);refine tw wn ?_;refine (l01Next_ok B ((n - 1 : Nat) : Int)).go hs o fun r s H _ ⟨x,e,hx0,hx1,_⟩ hs o=>?_;subst e
  have hx1:=hx1 (by omega)
  obtain ⟨x,rfl⟩:=Int.eq_ofNat_of_zero_le hx0;refine tt ?_;refine app_own' _ (o.pull [_,_]) rfl rfl (by simp only [maxL]; omega) fun f H F2 eF hF2 o=>?_
  have w1 : IntKind.i64.wrap ((x : Int)+1)=((x+1 : Nat) : Int):=wsucc (by omega)
  have w2 : IntKind.i64.wrap (((n - 1 : Nat) : Int) - (x : Int))=((n - 1 - x : Nat) : Int):=by rw [wrap_i64 (by omega) (by omega)]; omega
  try simp only [go_sem,↓reduceIte,reduceEqDiff,reduceAdd,reduceMul,reduceLeDiff,reduceLT,wn,w1,w2]
  refine (l01Next_ok B ((n - 1 - x : Nat) : Int)).go hs o.swap fun r s H _ ⟨y,e,hy0,hy1,_⟩ hs o=>?_;subst e
  have hy1:=hy1 (by omega)
  obtain ⟨y,rfl⟩:=Int.eq_ofNat_of_zero_le hy0
  have w3 : IntKind.i64.wrap (((x+1 : Nat) : Int)+(y : Int))=((x+1+y : Nat) : Int):=by rw [wrap_i64 (by omega) (by omega)]; omega
  refine tw w3 ?_;refine app_own' _ (o.pull [_,_]) rfl rfl (by simp only [maxL]; omega) fun t H T2 eT hT2 o=>?_;refine tw wm ?_;refine while_next (m - 1) (s,(f,F2),(t,T2),m - 1) (by omega) ⟨rfl,hs,by show F2.length+(m - 1)≤3; omega,by show T2.length=F2.length; omega,fun e he=>?_, ?_⟩ rfl
  ·show 0≤F2.getD e default∧F2.getD e default<T2.getD e default∧T2.getD e default<n
   dsimp only at he
   by_cases h2 : e<F.length
   ·have e1 : F2.getD e default=F.getD e default:=by rw [eF,List.getD_eq_getElem?_getD,List.getElem?_append_left h2,← List.getD_eq_getElem?_getD]
    have e2 : T2.getD e default=T.getD e default:=by rw [eT,List.getD_eq_getElem?_getD,List.getElem?_append_left (by omega),← List.getD_eq_getElem?_getD]
    rw [e1,e2]; exact hE e h2
   ·have e0 : e=F.length:=by omega
    have e1 : F2.getD e default=(x : Int):=by rw [eF,e0]; simp
    have e2 : T2.getD e default=((x+1+y : Nat) : Int):=by rw [eT,e0,← hT]; simp
    rw [e1,e2]; omega
  ·exact o.pm
 ·have h1p:=of_ndecide h1;refine tt ?_;refine fz_own o.swap rfl fun H o=>tt ?_;refine fz_own o.swap rfl fun H o=>tt ?_;refine (l03Paths_ok B n F T ⟨by omega,by omega,hT,hE⟩).go fun r _ ⟨c,e,hc⟩=>?_;subst e;refine tt ?_;refine sw o.swap fun H o=>tt ?_
  have hr2:=o.rc 5 0 (by simp);simp only [List.drop_zero] at hr2;rw [hr2];refine tt ?_;exact src_ret ⟨c,rfl,hc.mono (by omega)⟩ hs o.swap
end Go.Proofs.Shf
