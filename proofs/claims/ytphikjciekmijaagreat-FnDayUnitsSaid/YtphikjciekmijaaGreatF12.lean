/- A part of a proof. -/
import Derived.Test.YtphikjciekmijaaGreatF11
import Derived.Deep.Slices
import Derived.SizedLaws
set_option linter.unusedVariables false
set_option linter.unusedSimpArgs false
set_option linter.unusedSectionVars false
set_option maxRecDepth 100000
open Nat (reduceEqDiff reduceAdd reduceMul reduceLeDiff reduceLT)
namespace Go.Proofs.Shf
open Go.AW Go.Proofs Go.Shf
def FoundOk1 (B : Nat) (f g : SF) (F : FuncId) (ca : List AV) (Fs : Ob→Prop) (Es : List (List Int)→Ob→Prop) : Prop :=
 ∀ (p : List (List Int)) (X : AV) (q w l : Ob) (H0 H : Heap),MapL f g p→OLL q X p→Fs w→Owns H0 H (q++(w++l)) →
  CallH Tryz.prog B F ([X]++ca) H fun r H'=>∃ w' : Ob,r=.bool false∧Es p w'∧Owns H0 H' (q++(w'++l))
theorem run1_ok (B : Nat) {f g : SF} (hf : f.Is) (hg : g.Is) (sh : f.shape=g.shape) {F : FuncId} {ca : List AV} {Fs : Ob→Prop} {Es : List (List Int)→Ob→Prop} (hF : FoundOk1 B f g F ca Fs Es) (idS : Nat) (X : AV) :
  ∀ (n : Nat) (p : List (List Int)),unsetT f p=n→PT f g p→∀ (q w l : Ob) (H0 H : Heap),OLL q X p→Fs w→Owns H0 H ((idS,srO1 f g X (.fn (.func F) ca))::(q++(w++l))) →
   CallH Tryz.prog B 254 [.ref idS 0] H fun r H'=>∃ (b : Bool) (q' w' : Ob),r=.bool b∧OLL q' X p∧Owns H0 H' ((idS,srO1 f g X (.fn (.func F) ca))::(q'++(w'++l))) ∧
    (b=true→Fs w'∧∀ t,ExtT f g p t→¬ InjT f t)∧(b=false→∃ M,MapL f g M∧Es M w'):=by
 intro n
 induction n using Nat.strongRecOn with
 | _ n ih =>
 intro p hn hP q w l H0 H hX hFs o;refine c254p.go fun _=>?_
 have hm:=hf.1.is.1.m
 have hob:=hf.1.is.1.o
 have hsl:=hf.1.sl
 have hpl:=hP.len
 have hz0 : ∀ x,x<f.sizes.length→0≤f.sizes.getD x default∧f.sizes.getD x default<17:=fun x hx=>hf.1.sz _ (mem_getD.mpr ⟨x,hx,rfl⟩)
 have hlenX:=hX.lenT;refine tt ?_;refine rd_cells o (by simp) ?_;refine tw hlenX ?_
 refine awp_for [0,15] (G:=Unit) (fun k _=>[(16,some (.int .i64 (k : Int)))])
  (fun k _ H=>(∀ y : Nat,y<k→indexOf (p.getD y default) (-1)<0)∧Owns H0 H ((idS,srO1 f g X (.fn (.func F) ca))::(q++(w++l)))) p.length () ⟨by simp,o⟩ rfl ?_
 clear o
 rintro k _ H hk ⟨hno,o⟩
 have hgS : H.get idS=some (srO1 f g X (.fn (.func F) ca)):=o.h0;refine tt ?_;apply bk <;> intro h1
 rotate_left 1
 ·have h1p:=of_ndecide h1
  obtain rfl : k=p.length:=by omega
  refine tt ?_;refine rd_get hgS (by simp) ?_;refine tt ?_;refine rd_get hgS (by simp) ?_;refine tt ?_
  have o2 : Owns H0 H (q++(w++((idS,srO1 f g X (.fn (.func F) ca))::l))):=o.pm
  have hfull:=lists_full hf hP fun y i hy hi=>noneLeft (hno y.toNat (by omega)) (hP.inT hf.1 hy hi).2
  have hMp : MapL f g p:=((hfull.mem p).mp (by simp)).1;refine (hF p X q w _ H0 H hMp hX hFs o2).mono ?_
  rintro r H' ⟨w',rfl,hEs',o⟩;refine tt ?_;exact ⟨H',.refl _,false,q,w',rfl,hX,(by simp only [srO1,SF.cells] at o ⊢; exact o.pm),(fun h=>by cases h),fun _=>⟨p,hMp,hEs'⟩⟩
 have h1p:=of_decide h1
 have w1:=wsucc (k:=k) (by omega)
 have hkl : k<f.sizes.length:=by omega
 obtain ⟨idX,Xs,rfl,hXl,hgX,pr,hpr,hprg⟩:=tab_row hX (show Owns H0 H (q++((idS,srO1 f g X (.fn (.func F) ca))::(w++l))) from o.pm) h1p;refine tt ?_;refine rd_get hgS (by simp) ?_;refine tt ?_;refine ⟨by omega,rd_get hgX (by omega) ?_⟩;refine tt ?_;refine CallH.lentPure (es:=[iL (p.getD k default),.int .i64 (-1)]) (.int _ _) rfl (fun i hi=>?_) (index_ok B (p.getD k default) (-1)).run ?_
 ·obtain rfl | rfl : i=0∨i=1:=by simp only [List.length_cons,List.length_nil] at hi; omega
  ·intro gg ww v hW hv;exact owL.ln pr _ _ hpr gg B H ww v hW hprg hv
  ·exact val_arg _
 have hib:=indexOf_bd (p.getD k default) (-1);refine tt ?_;apply bk <;> intro h2
 ·have h2p:=of_decide h2;refine tw w1 ?_;exact for_next () (by omega) ⟨lt_succ_all hno h2p,o⟩ rfl
 have h2p:=of_ndecide h2
 obtain ⟨f1,f2,f3⟩:=indexOf_first (l:=p.getD k default) (a:=-1) (by omega)
 generalize hix : indexOf (p.getD k default) (-1)=e at *
 have hrow:=hP.row k hkl
 have hzk:=hz0 k hkl
 have hx : 0≤(k : Int)∧(k : Int)<f.shape.objs:=by omega
 have he : 0≤e∧e<ix f.sizes (k : Int):=by rw [ix_nat]; omega
 have hpe : ix (ix p (k : Int)) e=-1:=by rw [ix_nat]; exact f2
 have hv : ∀ y i : Int,0≤y∧y<f.shape.objs→0≤i∧i<ix f.sizes y→ix (ix p y) i=-1∨0≤ix (ix p y) i:=fun y i hy hi=>(hP.val y i hy hi).imp id fun h=>h.1
 have hfst : ∀ y i : Int,0≤y∧y<f.shape.objs→0≤i∧i<ix f.sizes y→(y<(k : Int)∨(y=(k : Int)∧i<e))→ix (ix p y) i≠-1:=by
  intro y i hy hi h
  rcases h with h | ⟨rfl,h⟩
  ·exact noneLeft (hno y.toNat (by omega)) (hP.inT hf.1 hy hi).2
  ·rw [ix_nat]; exact f3 i.toNat (by omega)
 have hFT : FstT f p k e:=⟨hx,he,hpe,hfst⟩
 have hgsl:=hg.1.sl;rw [← sh] at hgsl
 have hgz : 0≤ix g.sizes (k : Int)∧ix g.sizes (k : Int)<17:=by rw [ix_nat]; exact hg.1.sz _ (mem_getD.mpr ⟨k,by omega,rfl⟩)
 have hgz2:=hgz;rw [ix_nat] at hgz2;refine tt ?_
 refine awp_for [0,3,4] (G:=Ob × Ob) (fun d _=>[(5,some (.int .i64 (d : Int)))])
  (fun d G H=>NoT f g p k e d∧OLL G.1 (.buf idX Xs.length) p∧Fs G.2∧Owns H0 H ((idS,srO1 f g (.buf idX Xs.length) (.fn (.func F) ca))::(G.1++(G.2++l)))) (g.sizes.getD k default).toNat (q,w) ⟨.zero hx he,hX,hFs,o⟩ rfl ?_
 clear o hX hFs hgS hgX hpr hprg hXl
 rintro d ⟨q,w⟩ H hd ⟨hM,hX,hFs,o⟩;dsimp only at hM hX hFs o;refine tt ?_;refine rd_cells o (by simp) ?_;refine tt ?_;refine ⟨by omega, ?_⟩;apply bk <;> intro h3
 rotate_left 1
 ·have h3p:=of_ndecide h3;refine tt ?_
  have hdd : (d : Int)=ix g.sizes (k : Int):=by rw [ix_nat]; omega
  rw [hdd] at hM;exact ⟨H,.refl _,true,q,w,rfl,hX,o,fun _=>⟨hFs,hM.done hx he⟩,fun h=>by cases h⟩
 have h3p:=of_decide h3
 have w2:=wsucc (k:=d) (by omega)
 have hat : At3 f g k e d:=⟨hf,hg,sh,hx,he,by rw [ix_nat]; omega⟩;refine tt ?_;refine newBuf_own o fun idB H o=>tt ?_;refine newRef_own o fun idN H o=>tt ?_;refine sw o fun H o=>tt ?_
 have o2 : Owns H0 H ((idS,srO1 f g (.buf idX Xs.length) (.fn (.func F) ca))::(idN,.cells 1 [.buf idB 0] 0)::(idB,.cells 2 [] 0)::(q++(w++l))):=o.pm;refine (set1_ok B hat hP hX o2).mono ?_;clear o o2 hX
 rintro r H ⟨ok,kk,p',N,q,idB,rfl,hX,o,hS,hkk,hok,hbad⟩;refine tt ?_
 have o : Owns H0 H ((idS,srO1 f g (.buf idX Xs.length) (.fn (.func F) ca))::(q++(w++((idN,.cells 1 [.buf idB N.length] 0)::(idB,.cells 2 (flat (N.map prE)) 0)::l)))):=o.pm
 have hun:=hS.undo
 have hNr : ∀ j,j<N.length→(0≤(N.getD j default).1∧(N.getD j default).1.toNat<p.length)∧(0≤(N.getD j default).2∧(N.getD j default).2.toNat<(ix p (N.getD j default).1).length):=fun j hj=>by
  have:=hS.old (N.getD j default).1 (N.getD j default).2 (mem_getD.mpr ⟨j,hj,rfl⟩);exact ⟨this.1,this.2.1⟩
 have hNl : N.length≤40:=by
  have h1:=hS.nl
  have h2 : (outs f.shape (k : Int)).length≤40:=by
   rw [outs,List.length_map];refine Nat.le_trans (List.length_filter_le _ _) ?_;rw [List.length_range]; omega
  omega
 have hpl':=hS.len
 have hrow':=hS.row
 cases ok
 case' true =>
  obtain rfl:=hok rfl;refine tt ?_;refine (ih (unsetT f p') (by rw [← hn]; exact hS.less hat hP hpe) p' rfl (hS.pt hat hP) q w _ H0 H hX hFs o).mono ?_;clear o hX hFs
  rintro r H ⟨b,q,w,rfl,hX,o,hb1,hb2⟩
  have hres : (b=true→Fs w∧NoT f g p k e ((d : Int)+1))∧(b=false→∃ M,MapL f g M∧Es M w):=⟨fun h=>by
   obtain ⟨h1,h2⟩:=hb1 h;exact ⟨h1,hM.next fun t ht hi ed=>h2 t ((hS.ext hat hP t).mpr ⟨ht,ed⟩) hi⟩,hb2⟩
  clear hb1 hb2;refine tt ?_
 case' false =>
  have hres0 : Fs w∧NoT f g p k e ((d : Int)+1):=⟨hFs,hM.next (hbad rfl)⟩;clear hFs;refine tt ?_
  obtain ⟨b,hb1,hb2⟩ : ∃ b : Bool,some (AV.bool true)=some (AV.bool b)∧b=true:=⟨true,rfl,rfl⟩
  have hres : (b=true→Fs w∧NoT f g p k e ((d : Int)+1))∧(b=false→∃ M,MapL f g M∧Es M w):=⟨fun _=>hres0,fun h=>by rw [hb2] at h; cases h⟩;rw [hb1];clear hb1 hb2 hres0
 all_goals
  have hgN : H.get idN=some (.cells 1 [.buf idB N.length] 0):=o.get (idN,.cells 1 [.buf idB N.length] 0) (by simp);refine rd_get hgN (by simp) ?_;refine tt ?_
  refine awp_for [0,3,4,5,8,55,56] (G:=Ob) (fun j _=>[(57,some (.int .i64 (j : Int)))])
   (fun j q H=>OLL q (.buf idX Xs.length) (undoT p' (N.take j))∧Owns H0 H ((idS,srO1 f g (.buf idX Xs.length) (.fn (.func F) ca))::(q++(w++((idN,MObj.cells 1 [.buf idB N.length] 0)::(idB,MObj.cells 2 (flat (N.map prE)) 0)::l))))) N.length q ⟨hX,o⟩ rfl ?_
  clear o hX hgN
  rintro j q H hj ⟨hX,o⟩
  replace hX : OLL q (.buf idX Xs.length) (undoT p' (N.take j)):=hX
  replace o : Owns H0 H ((idS,srO1 f g (.buf idX Xs.length) (.fn (.func F) ca))::(q++(w++((idN,.cells 1 [.buf idB N.length] 0)::(idB,.cells 2 (flat (N.map prE)) 0)::l)))):=o;refine tt ?_;apply bk <;> intro h4
  ·have h4p:=of_decide h4
   have wj:=wsucc (k:=j) (by omega)
   have hr:=hNr j h4p
   have hus:=undoT_succ p' h4p
   have oB : Owns H0 H ((idB,.cells 2 (flat (N.map prE)) 0)::((idS,srO1 f g (.buf idX Xs.length) (.fn (.func F) ca))::(idN,.cells 1 [.buf idB N.length] 0)::(q++(w++l)))):=o.pm;refine tt ?_;refine ⟨h4p,rd_elA (f:=prE) oB h4p ?_⟩
   generalize N.getD j default=yy at *
   obtain ⟨y,i⟩:=yy;refine tt ?_;refine newRef_own o fun id10 H o=>tt ?_;refine sw o fun H o=>?_
   have hpl2 : (undoT p' (N.take j)).length=p.length:=by rw [undoT_len,hpl']
   have hrw : ((undoT p' (N.take j)).getD y.toNat default).length=(p.getD y.toNat default).length:=by rw [undoT_row,hrow']
   have oc : Owns H0 H (q++((id10,.cells 2 [iI y,iI i] 0)::(idB,.cells 2 (flat (N.map prE)) 0)::(idS,srO1 f g (.buf idX Xs.length) (.fn (.func F) ca))::(idN,.cells 1 [.buf idB N.length] 0)::(w++l))):=o.pm
   obtain ⟨idX',Xs',idR,hXe,hXl,hgX,hXr,hgR,hset⟩:=tab_cell hX oc (y:=y.toNat) (i:=i.toNat) (by have:=hr.1.2; omega) (by rw [hrw]; exact hr.2.2)
   obtain ⟨rfl,hXX⟩:=AV.buf.inj hXe
   have hgS : H.get idS=some (srO1 f g (.buf idX Xs.length) (.fn (.func F) ca)):=oc.get (idS,srO1 f g (.buf idX Xs.length) (.fn (.func F) ca)) (by simp)
   have hy2:=hr.1.2;refine tt ?_;refine rd_get hgS (by simp) ?_;refine tt ?_;refine rd_cells o (by simp) ?_;refine tt ?_;refine ⟨⟨hr.1.1,by omega⟩,rd_get hgX (by omega) ?_⟩;rw [hXr];refine tt ?_;refine rd_cells o (by simp) ?_;refine tt ?_;refine ⟨⟨hr.2.1,by rw [hrw]; exact hr.2.2⟩,hset _ _ fun q' H hX' o=>?_⟩;refine tw wj ?_;refine for_next q' (by omega) ⟨by rw [hus]; exact hX', ?_⟩ rfl
   have o:=o.perm (show _ from List.perm_middle)
   have o3:=o.tl;simp only [srO1,SF.cells] at o3 ⊢;exact o3.pm
  ·have h4p:=of_ndecide h4
   obtain rfl : j=N.length:=by omega
   rw [List.take_length,hun] at hX
   have o:=o.subl (l':=(idS,srO1 f g (.buf idX Xs.length) (.fn (.func F) ca))::(q++(w++l))) (.cons_cons _ (List.Sublist.append_left (List.Sublist.append_left ((List.sublist_cons_self _ _).trans (List.sublist_cons_self _ _)) _) _));refine tt ?_
   cases b
   ·have h1:=hres.2 rfl;refine tt ?_;exact ⟨H,.refl _,false,q,w,rfl,hX,(by simp only [srO1,SF.cells] at o ⊢; exact o),(fun h=>by cases h),fun _=>h1⟩
   ·obtain ⟨hFs,hM'⟩:=hres.1 rfl;refine tw w2 ?_;exact for_next (q,w) (by omega) ⟨by rw [Int.natCast_succ]; exact hM',hX,hFs,(by simp only [srO1,SF.cells] at o ⊢; exact o)⟩ rfl
theorem cloneN (B : Nat) (l : List Int) : New Tryz.prog B 73 [iL l] fun p X=>OL p X l :=
 ⟨fun H=>(clone_own B l H H [] (.nil H)).mono fun r H' ⟨id,A,e,o,q⟩=>by
  subst e q;exact ⟨_,.inr ⟨id,_,[],rfl,by simp,rowsIT _⟩,o⟩⟩
theorem clonesN (B : Nat) (l : List (List Int)) : New Tryz.prog B 177 [iLL l] fun p X=>OLL p X l:=by
 refine ⟨fun H0=>c177p.go fun ⟨hf,_⟩=>?_⟩
 have hl:=fine_mL_le hf;simp only [maxL] at hl;refine tt ?_;refine ⟨by simp only [maxL]; omega,newBuf_own (.nil _) fun id H o=>?_⟩;refine tt ?_
 refine awp_for [9,10] (G:=AV × Ob) (fun k g=>[(3,some g.1),(11,some (.int .i64 (k : Int)))])
  (fun k g H=>OLL g.2 g.1 (l.take k)∧Owns H0 H (g.2++[])) l.length (.buf id 0,[(id,.cells 1 [] 0)]) ⟨.inr ⟨id,[],[],rfl,rfl,.nil⟩,o⟩ rfl ?_
 clear o
 rintro k ⟨X,q⟩ H hk ⟨hX,o⟩;dsimp only at hX o;refine tt ?_;apply bk <;> intro h1
 ·have h1p:=of_decide h1
  have w:=wsucc (k:=k) (by omega);refine tt ?_;refine ⟨h1p, ?_⟩;refine (cloneN B (l.getD k default)).call o fun Y p H hY o=>?_
  have hY1:=hY.one;refine tt ?_;refine ⟨by simp [okEls,AV.cells_one hY1,hY1], ?_⟩;refine hX.appT hY ⟨AV.cells_one hY1,hY1⟩ o (by rw [List.length_take]; simp only [maxL]; omega) fun X' q' H hX1 hX' o=>?_;refine tw w ?_;refine for_next (X',q') h1p ⟨?_,o⟩ rfl
  simp only;rw [take_succ_getD l h1p]; exact hX'
 ·have h1p:=of_ndecide h1
  obtain rfl : k=l.length:=by omega
  rw [List.take_length] at hX;rw [List.append_nil] at o;refine tt ?_;exact ⟨H,.refl H,q,hX,o⟩
theorem blank_take (f : SF) {k : Nat} (hk : k<f.sizes.length) {n : Nat} (hn : f.sizes.getD k default=n) : (blankT f).take (k+1)=(blankT f).take k++[List.replicate n (-1)]:=by
 rw [take_one _ (by simpa [blankT] using hk)]
 congr 2
 rw [blankT,map_getD _ hk,hn,Int.toNat_natCast]
theorem setsCode_ok (B : Nat) {f g : SF} (hf : f.Is) (hg : g.Is) (sh : f.shape=g.shape) : Pur Tryz.prog B 77 [.ptr f.cells,.ptr g.cells] (iI 0):=by
 refine ⟨fun H0=>c77.go fun _=>?_⟩;refine tt ?_;refine (show Pur Tryz.prog B _ [.sl [.ptr f.cells,.ptr g.cells]] _ from areSetFunctors_ok B [f,g]).go fun _=>?_;rw [dec_t (by simp [hf,hg])];refine tt ?_;refine ⟨_,(sameCategory_ok B f.shape g.shape).run, ?_⟩;rw [dec_t sh];refine tt ?_;exact pure_ret rfl (.refl _)
theorem setMaps1_ok (B : Nat) {f g : SF} (hf : f.Is) (hg : g.Is) (sh : f.shape=g.shape) {F : FuncId} {ca : List AV} {Fs : Ob→Prop} {Es : List (List Int)→Ob→Prop} (hF : FoundOk1 B f g F ca Fs Es) (w l : Ob) (H0 H : Heap) (hFs : Fs w) (o : Owns H0 H (w++l)) :
  CallH Tryz.prog B 175 [.ptr f.cells,.ptr g.cells,.bool true,.fn (.func F) ca] H fun r H'=>∃ (b : Bool) (w' : Ob),r=.bool b∧Owns H0 H' (w'++l) ∧
   (b=true→Fs w'∧∀ t,ExtT f g (blankT f) t→¬ InjT f t)∧(b=false→∃ M,MapL f g M∧Es M w'):=by
 refine c175p.go fun _=>?_
 have hob:=hf.1.is.1.o
 have hsl:=hf.1.sl
 have hz0 : ∀ x,x<f.sizes.length→0≤f.sizes.getD x default∧f.sizes.getD x default<17:=fun x hx=>hf.1.sz _ (mem_getD.mpr ⟨x,hx,rfl⟩)
 have hfc : (AV.fn (.func F) ca).cells=[.fn (.func F) ca]:=rfl;try simp only [go_sem,↓reduceIte,reduceEqDiff,reduceAdd,reduceMul,reduceLeDiff,reduceLT,hfc,wr_cons,wr_nil,List.set_cons_zero,List.set_cons_succ]
 refine newRef_own o fun idS H o=>tt ?_
 refine awp_for [9,21,22] (G:=AV × Ob) (fun k _=>[(23,some (.int .i64 (k : Int)))])
  (fun k G H=>OLL G.2 G.1 ((blankT f).take k)∧Owns H0 H ((idS,srO1 f g G.1 (.fn (.func F) ca))::(G.2++(w++l)))) f.sizes.length (.nilsl,[]) ⟨.inl ⟨rfl,rfl,rfl⟩,o⟩ rfl ?_
 clear o
 rintro k ⟨X,q⟩ H hk ⟨hX,o⟩;dsimp only at hX o;refine tt ?_;apply bk <;> intro h1
 ·have h1p:=of_decide h1
  have w1:=wsucc (k:=k) (by omega)
  have hzk:=hz0 k h1p
  obtain ⟨n,hn⟩ : ∃ n : Nat,f.sizes.getD k default=n:=⟨_,(Int.toNat_of_nonneg hzk.1).symm⟩;rw [hn] at hzk;refine tt ?_;refine ⟨h1p, ?_⟩;refine rd_cells o (by simp) ?_;rw [hn];refine tt ?_;refine (repeated_own B (-1) n (by omega) H H [] (.nil H)).mono ?_
  rintro r H2 ⟨idr,R,rfl,or,rfl⟩;refine ⟨or.sub, ?_⟩
  have o:=o.trans or
  have o2 : Owns H0 H2 ([(idr,.cells 1 ((List.replicate n (-1 : Int)).map iI) 0)]++(q++((idS,srO1 f g X (.fn (.func F) ca))::(w++l)))):=o.pm;refine tt ?_;refine hX.appT (O:=OL) (p:=[(idr,.cells 1 ((List.replicate n (-1 : Int)).map iI) 0)]) (a:=List.replicate n (-1)) (.inr ⟨idr,_,[],rfl,by simp,rowsIT _⟩) ⟨rfl,rfl⟩ o2 (by rw [List.length_take]; simp only [maxL]; omega) fun X' q' H hX1 hX' o=>?_
  have o3 : Owns H0 H ((idS,srO1 f g X (.fn (.func F) ca))::(q'++(w++l))):=o.pm;rw [← blank_take f h1p hn] at hX';try simp only [go_sem,↓reduceIte,reduceEqDiff,reduceAdd,reduceMul,reduceLeDiff,reduceLT,AV.cells_one hX1]
  refine st_cells o3 (by simp) rfl (by simp only [memcons,memnil]; exact ⟨hX1,trivial⟩) fun H o=>?_;simp only [wr_cons,wr_nil,List.set_cons_zero,List.set_cons_succ] at o;refine tw w1 ?_;exact for_next (X',q') (by omega) ⟨hX',o⟩ rfl
 ·have h1p:=of_ndecide h1
  have hkk : k=f.sizes.length:=by omega
  rw [hkk,List.take_of_length_le (by simp [blankT])] at hX;refine tt ?_;refine (run1_ok B hf hg sh hF idS X _ (blankT f) rfl (blank_pt hf.1) q w l H0 H hX hFs o).mono ?_
  rintro r H' ⟨b,q',w',rfl,hX',o,hb⟩;refine tt ?_;exact ⟨H',.refl _,b,w',rfl,o.subl ((List.sublist_append_right _ _).trans (List.sublist_cons_self _ _)),hb⟩
def IsoF (idO : Nat) (w : Ob) : Prop:=∃ idE,w=[(idO,.cells 1 [.buf idE 0] 0),(idE,.cells 1 [] 0)]
def IsoE (idO : Nat) (p : List (List Int)) (w : Ob) : Prop:=∃ q,w=(idO,.cells 1 [iLL p] 0)::q
theorem foundIso_ok (B : Nat) (f g : SF) (idO : Nat) : FoundOk1 B f g 209 [.ref idO 0] (IsoF idO) (IsoE idO):=by
 intro p X q w l H0 H hP hX hFs o
 obtain ⟨idE,rfl⟩:=hFs;refine c209.go fun _=>?_;refine tt ?_;refine New.lentQ owLL (clonesN B p) rfl (fun i hi=>?_) fun H' hs=>?_
 ·obtain rfl : i=0:=by simp only [List.length_cons,List.length_nil] at hi; omega
  exact owLL.arg hX o fun x hx=>List.mem_append_left _ hx
 have o:=o.ext hs
 have o : Owns H0 H' ((idO,.cells 1 [.buf idE 0] 0)::(q++((idE,.cells 1 [] 0)::l))):=o.pm;refine tt ?_;refine st_cells o (by simp) rfl (fun c hc=>by obtain rfl:=List.mem_singleton.mp hc; rfl) fun H o=>?_
 have o : Owns H0 H ((idO,.cells 1 [iLL p] 0)::(q++((idE,.cells 1 [] 0)::l))):=o;refine tt ?_;exact ⟨H,.refl H,[(idO,.cells 1 [iLL p] 0),(idE,.cells 1 [] 0)],rfl,⟨_,rfl⟩,o.pm⟩
def IsoQ (f g : SF) (r : AV) : Prop:=∃ M,MapL f g M∧r=.tup [iLL M,.bool true]
theorem setIso_ok (B : Nat) {f g : SF} (hf : f.Is) (hg : g.Is) (sh : f.shape=g.shape) (sz : f.sizes=g.sizes) (hi : ∃ t,MapL f g t∧InjT f t) : Rets B 104 [.ptr f.cells,.ptr g.cells] (IsoQ f g):=by
 intro H0;refine c104.go fun _=>?_
 have o : Owns H0 H0 []:=.nil _;refine tt ?_;refine ⟨_,(same_ok B f.sizes g.sizes).run, ?_⟩;rw [dec_t sz];refine tt ?_;refine newBuf_own o fun idE H o=>tt ?_;refine newRef_own o fun idO H o=>tt ?_;refine sw o fun H o=>tt ?_;refine (setMaps1_ok B hf hg sh (foundIso_ok B f g idO) _ [] H0 H ⟨idE,rfl⟩ o).mono ?_;clear o
 rintro r H ⟨b,w,rfl,o,hb1,hb2⟩
 cases b;rotate_left
 ·obtain ⟨t,h1,h2⟩:=hi
  exact absurd h2 ((hb1 rfl).2 t ⟨h1,fun y i hy hi h=>by
   rw [blank_ix hf.1 hy hi] at h;omega⟩)
 obtain ⟨M,hM,q,rfl⟩:=hb2 rfl;clear hb1 hb2;refine tt ?_;refine rd_cells (show Owns H0 H ((idO,.cells 1 [iLL M] 0)::(q++[])) from o) (by simp) ?_;refine tt ?_;exact rets_ret ⟨M,hM,rfl⟩ o.sub
def FindQ (f g : SF) (r : AV) : Prop:=(∃ X,r=.tup [X,iI 3])∨∃ M,MapL f g M∧r=.tup [iLL M,iI 0]
theorem findSetIso_ok (B : Nat) {f g : SF} (hf : f.Is) (hg : g.Is) (sh : f.shape=g.shape) (sz : f.sizes=g.sizes) (hi : ∃ t,MapL f g t∧InjT f t) : Rets B 30 [.agg f.cells,.agg g.cells] (FindQ f g):=by
 intro H0;refine c30.go fun _=>?_
 have hob:=hf.1.is.1.o
 have hsl:=hf.1.sl;refine tt ?_;refine (setsCode_ok B hf hg sh).go fun _=>?_;refine td ?_
 obtain ⟨n,hn⟩:=elements_ok B f (by omega) fun y hy=>hf.1.sz y hy;refine hn.go fun _=>tt ?_;apply bk <;> intro h1
 ·refine tt ?_;exact rets_ret (.inl ⟨_,rfl⟩) (.refl _)
 refine tt ?_;refine (setIso_ok B hf hg sh sz hi).go fun r _ ⟨M,hM,e⟩=>?_;subst e;refine tt ?_;exact rets_ret (.inr ⟨M,hM,rfl⟩) (.refl _)
end Go.Proofs.Shf
namespace Go.AW
def WN (P : AV→Prop) (a : AV) : Prop:=(∃ al : List AV,a=.sl al∧∀ x,x∈al→P x)∨∃ n,1048576<n∧n≤140737488355328∧a=.big n
def WB (a : AV) : Prop:=(∃ l : List UInt8,a=mL iB l)∨∃ n,1048576<n∧n≤140737488355328∧a=.big n
end Go.AW
namespace Go.Proofs.Shf
open Go.AW Go.Proofs Go.Shf
open Go.Deep
def gh0 (W : World) : Gh:=⟨fun b o=>W.cell? ⟨b,o,none⟩,fun _=>none,fun _=>none⟩
theorem wrel0 (W : World) : WRel (gh0 W) W.heap.size [] W where
 fz b o v h:=h
 fm b es h:=by cases h
 ob i o h:=by simp [Heap.get] at h
 inj i j b c c' n h:=by simp [Heap.get] at h
 injm i j b n h:=by simp [Heap.get] at h
 base:=Nat.le_refl _
 fin:=⟨0,fun i _=>rfl⟩
section
variable {H : Type} {enc : TypeId × Value→H} {W : World}
def RdV (enc : TypeId × Value→H) (W : World) (t : TypeId) (Q : AV→Prop) : Prop :=
 ∀ fuel v d ps,DataW.trod enc Tryz.prog W 0 (fun _=>true) true fuel t [v]=some (d,ps)→(∀ n,n∈d.weights Tryz.prog t→n≤reachBytes)→∃ a,Q a∧VRel (gh0 W) a v
theorem rd_byte : RdV enc W 5 fun a=>∃ b : UInt8,a=Go.AW.iB b:=by
 intro fuel v d ps h _
 cases fuel with
 | zero=>simp [DataW.trod] at h
 | succ fuel =>
  cases v <;> simp only [DataW.trod,Tryz.underlying5] at h <;> try (cases h; done)
  rename_i k n
  split at h
  ·rename_i hk
   obtain ⟨rfl,hf⟩:=hk
   have hr : 0≤n∧n≤255:=by
    simp only [Lit.wf,Bool.and_eq_true,decide_eq_true_eq] at hf;exact ⟨hf.1,hf.2⟩
   refine ⟨_,⟨UInt8.ofNat n.toNat,rfl⟩, ?_⟩
   have e : Go.AW.iB (UInt8.ofNat n.toNat)=.int .u8 n:=by
    have h1 : (UInt8.ofNat n.toNat).toNat=n.toNat:=by rw [UInt8.toNat_ofNat']; omega
    rw [Go.AW.iB,h1,Int.toNat_of_nonneg hr.1]
   rw [e];exact .int _ n
  ·cases h
theorem weightsAll_mem {P : Program} {e : TypeId} {l : List (DataW H)} {x : DataW H} (hx : x∈l) {n : Nat} (hn : n∈x.weights P e) : n∈DataW.weightsAll P e l:=by
 induction l with
 | nil=>simp at hx
 | cons y r ih =>
  simp only [DataW.weightsAll,List.mem_append]
  rcases List.mem_cons.mp hx with rfl | hx
  ·exact .inl hn
  ·exact .inr (ih hx)
theorem rd_slice {t e : TypeId} {Q : AV→Prop} (ht : Tryz.prog.underlying t=some (.slice e)) (hc : Tryz.prog.cellsOf e=1) (hb : 1≤Tryz.prog.bytesOf e) (hQ : ∀ a,Q a→a.cells=[a]) (h : RdV enc W e Q) : RdV enc W t (WN Q):=by
 intro fuel v d ps htr hw
 rcases open_slice1 ht hc htr with ⟨hv,hx⟩ | ⟨a,len,cap,m,n,V,D,Pl,hv,_,hl,hm,hmm,hx,hel⟩
 ·injection hv with hv
  subst hv;exact ⟨.sl [],.inl ⟨[],rfl,by simp⟩,.slnil none 0⟩
 ·injection hv with hv
  subst hv;simp only [if_true] at hmm;subst hmm;simp only [Prod.mk.injEq] at hx
  obtain ⟨rfl,rfl⟩:=hx
  have hw0 : (((List.range len).map D).length+((List.range (m - len)).map fun j=>D (len+j)).length)*Tryz.prog.bytesOf e≤reachBytes:=hw _ (by simp [DataW.weights,ht])
  have hlen : len≤140737488355328:=by
   simp only [List.length_map,List.length_range] at hw0
   have h1 : len*1≤(len+(m - len))*Tryz.prog.bytesOf e:=Nat.mul_le_mul (by omega) hb
   have h2 : reachBytes≤140737488355328:=by decide
   omega
  by_cases hbig : 1099511627776<len
  ·exact ⟨.big len,.inr ⟨len,by omega,hlen,rfl⟩,.big _ _ _ hlen⟩
  ·have hall : ∀ i,∃ x,i<len→Q x∧VRel (gh0 W) x (V i):=by
    intro i
    by_cases hi : i<len
    ·obtain ⟨x,q1,q2⟩:=h n (V i) (D i) (Pl i) (hel i (by omega)).2 fun k hk=>hw k (by
      simp only [DataW.weights,ht,List.mem_cons,List.mem_append];exact .inr (.inl (weightsAll_mem (List.mem_map.mpr ⟨i,List.mem_range.mpr hi,rfl⟩) hk)))
     exact ⟨x,fun _=>⟨q1,q2⟩⟩
    ·exact ⟨.nilp,fun h=>absurd h hi⟩
   obtain ⟨A,hA⟩:=Classical.axiomOfChoice hall
   have hget : ∀ i,i<len→((List.range len).map A).getD i nv=A i:=fun i hi=>getD_map_range A nv hi;refine ⟨.sl ((List.range len).map A),.inl ⟨_,rfl,fun x hx=>?_⟩, ?_⟩
   ·obtain ⟨i,hi,rfl⟩:=List.mem_map.mp hx;exact (hA i (List.mem_range.mp hi)).1
   ·by_cases h0 : len=0
    ·subst h0; exact .slnil _ _
    ·have hsp : a=⟨a.block,a.off,none⟩:=by
      have:=(hel 0 (by omega)).1
      obtain ⟨b,o,s⟩:=a
      cases s with
      | none=>rfl
      | some s=>exfalso; simp [Addr.add,World.cell?] at this; split at this <;> simp at this
     have hadd : ∀ i,a.add i=⟨a.block,a.off+i,none⟩:=by
      intro i;rw [hsp];unfold Addr.add
      split
      ·rename_i e; simp [e]
      ·rfl
     have key : VRel (gh0 W) (.sl ((List.range len).map A)) (.slice (some ⟨a.block,a.off,none⟩) ((List.range len).map A).length m):=by
      refine .sl _ a.block a.off 1 m V (by simp [maxL]; omega) (by simp; omega) (fun i hi=>?_) (fun i j hi hj=>?_) (fun i j hi hj=>?_)
      ·rw [hget i (by simpa using hi),hQ _ (hA i (by simpa using hi)).1]; rfl
      ·have hi' : i<len:=by simpa using hi
       have:=(hel i (by omega)).1;rw [hadd] at this
       have e : i*1+j=i:=by omega
       rw [e]; exact this
      ·have hi' : i<len:=by simpa using hi
       have e : i*1+j=i:=by omega
       obtain rfl : j=0:=by omega
       rw [e,hget i hi',hQ _ (hA i hi').1];exact (hA i hi').2
     rw [List.length_map,List.length_range,← hsp] at key;exact key
theorem WB.of {a : AV} (h : WN (fun a=>∃ b : UInt8,a=Go.AW.iB b) a) : WB a:=by
 rcases h with ⟨l,rfl,hl⟩ | h
 ·refine .inl ⟨l.map fun x=>match x with | .int _ n=>UInt8.ofNat n.toNat | _=>0, ?_⟩
  rw [mL,List.map_map]
  congr 1
  have : ∀ x,x∈l→(Go.AW.iB ∘ fun x : AV=>match x with | .int _ n=>UInt8.ofNat n.toNat | _=>0) x=x:=fun x hx=>by
   obtain ⟨n,rfl⟩:=hl x hx
   simp [Go.AW.iB]
  exact ((List.map_congr_left this).trans (by simp)).symm
 ·exact .inr h
theorem rd_bytes : ∀ fuel v d ps,DataW.trod enc Tryz.prog W 0 (fun _=>true) true fuel 22 [v]=some (d,ps)→(∀ n,n∈d.weights Tryz.prog 22→n≤reachBytes)→∃ a,WB a∧VRel (gh0 W) a v:=fun fuel v d ps k w=>by
 obtain ⟨a,q1,q2⟩:=rd_slice Tryz.underlying22 (by kernel_rfl) (of_decide_eq_true (by kernel_rfl)) (fun a ⟨n,e⟩=>by rw [e]; rfl) rd_byte fuel v d ps k w;exact ⟨a,WB.of q1,q2⟩
end
theorem big_big (B n : Nat) (hn : 1048576<n) : Pur Tryz.prog B 7 [.big n] (.bool true):=by
 refine ⟨fun H0=>c7.go fun hf=>?_⟩;refine tt ?_;exact pure_ret (by congr 1; simp; omega) (.refl _)
end Go.Proofs.Shf
namespace Go.Proofs.Shf
open Go.AW Go.Proofs Go.Shf
theorem lkRowsG_ok (B : Nat) (a b : List (List Int)) : Pur Tryz.prog B 14 [iLL a,iLL b] (.bool (dec (a=b))):=by
 refine ⟨fun H0=>c14.go fun ⟨hf,hf2,_⟩=>?_⟩
 have hl:=fine_mL_le hf
 have hl2:=fine_mL_le hf2;simp only [maxL] at hl hl2;refine tt ?_
 by_cases hlen : a.length=b.length
 rotate_left
 ·apply bk <;> intro h0
  ·refine tt ?_;exact pure_ret (by rw [dec_f fun h=>hlen (by rw [h])]) (.refl _)
  ·exact absurd (by simpa using h0) hlen
 refine ⟨fun e=>absurd hlen (by simpa using e),fun _=>At.mk ?_⟩;refine tt ?_;refine awp_for [0,1] (G:=Unit) (fun k _=>[(5,some (.int .i64 (k : Int)))]) (fun k _ H=>H=H0∧∀ i,i<k→a.getD i default=b.getD i default) a.length () ⟨rfl,by simp⟩ rfl ?_
 rintro k _ H hk ⟨rfl,he⟩
 replace he : ∀ i,i<k→a.getD i default=b.getD i default:=he;refine tt ?_;apply bk <;> intro h1
 ·have h1p : k<a.length:=of_decide h1
  have w:=wsucc (k:=k) (by omega);refine tt ?_;refine ⟨h1p,by omega,tt ?_⟩;refine ⟨_,(likeInts_ok B _ _).run, ?_⟩
  by_cases e : a.getD k default=b.getD k default
  ·rw [dec_t e];refine tw w ?_;exact for_next () (by omega) ⟨rfl,lt_succ_all he e⟩ rfl
  ·rw [dec_f e];refine tt ?_;exact pure_ret (by rw [dec_f fun h=>e (by rw [h])]) (.refl _)
 ·have h1p:=of_ndecide h1
  obtain rfl : k=a.length:=by omega
  refine tt ?_;refine pure_ret ?_ (.refl _);rw [dec_t];refine List.ext_getElem hlen fun i h1 h2=>?_
  have:=he i h1
  simpa [List.getD_eq_getElem?_getD,h1,h2] using this
theorem likeCatG_ok (B : Nat) (a b : Cat) : Pur Tryz.prog B 26 [.agg a.cells,.agg b.cells] (.bool (dec (a=b))):=by
 refine ⟨fun H0=>c26.go fun _=>?_⟩;refine tt ?_
 by_cases e0 : a.objs=b.objs
 rotate_left
 ·rw [decide_eq_false e0];refine tt ?_;exact pure_ret (by rw [dec_f (p:=a=b) fun h=>e0 (by rw [h])]) (.refl _)
 rw [decide_eq_true e0];refine td ?_;refine (likeInts_ok B _ _).go fun _=>?_
 by_cases e1 : a.frm=b.frm
 rotate_left
 ·rw [dec_f e1];refine td ?_;exact pure_ret (by rw [dec_f (p:=a=b) fun h=>e1 (by rw [h])]) (.refl _)
 rw [dec_t e1];refine td ?_;refine (likeInts_ok B _ _).go fun _=>?_
 by_cases e2 : a.to=b.to
 rotate_left
 ·rw [dec_f e2];refine td ?_;exact pure_ret (by rw [dec_f (p:=a=b) fun h=>e2 (by rw [h])]) (.refl _)
 rw [dec_t e2];refine td ?_;refine (likeInts_ok B _ _).go fun _=>?_
 by_cases e3 : a.idn=b.idn
 rotate_left
 ·rw [dec_f e3];refine td ?_;exact pure_ret (by rw [dec_f (p:=a=b) fun h=>e3 (by rw [h])]) (.refl _)
 rw [dec_t e3];refine td ?_;refine (lkRowsG_ok B _ _).go fun _=>?_
 by_cases e4 : a.comp=b.comp
 rotate_left
 ·rw [dec_f e4];refine td ?_;exact pure_ret (by rw [dec_f (p:=a=b) fun h=>e4 (by rw [h])]) (.refl _)
 rw [dec_t e4];refine td ?_;refine pure_ret ?_ (.refl _);rw [dec_t]
 obtain ⟨_,_,_,_,_⟩:=a
 obtain ⟨_,_,_,_,_⟩:=b;simp only at e0 e1 e2 e3 e4;rw [e0,e1,e2,e3,e4]
theorem likeSets5_ok (B : Nat) (f : SF) : Pur Tryz.prog B 22 [.agg f.cells,.agg f.cells] (.bool true):=by
 refine ⟨fun H0=>c22.go fun _=>?_⟩;refine td ?_;refine (likeCat5_ok B f.shape).go fun _=>?_;refine td ?_;refine (likeInts_ok B _ _).go fun _=>?_;rw [dec_t rfl];refine td ?_;refine (lkRows5_ok B _).go fun _=>?_;refine td ?_;exact pure_ret rfl (.refl _)
theorem isSetFunctorI_ok (B : Nat) (f : SF) : Pur Tryz.prog B 23 [.agg f.cells] (.bool (dec f.Is)):=by
 refine ⟨fun H0=>c23.go fun _=>?_⟩;refine tt ?_;refine (isSetFunctor_ok B f).go fun _=>tt ?_;exact pure_ret rfl (.refl _)
theorem isSetFunctorS_ok (B : Nat) (f : SF) : Pur Tryz.prog B 25 [.agg f.cells] (.bool (dec f.Is)):=by
 refine ⟨fun H0=>c25.go fun _=>?_⟩;refine tt ?_;refine (l19Is_ok B f).go fun _=>tt ?_;exact pure_ret rfl (.refl _)
end Go.Proofs.Shf
namespace Go.Shf
open Go.AW
noncomputable def dSF (m : Mo) (f g : SF) : SF:=open Classical in if codeDay m f g=0 then dayF m f g else zSF'
theorem dayRes_eq (m : Mo) (f g : SF) : dayRes m f g=.tup [.agg (dSF m f g).cells,iI (codeDay m f g)]:=by
 unfold dayRes dSF
 by_cases h : codeDay m f g=0
 ·rw [if_pos h,if_pos h]
 ·rw [if_neg h,if_neg h]
theorem dSF_0 {m : Mo} {f g : SF} (h : codeDay m f g=0) : dSF m f g=dayF m f g:=by unfold dSF; rw [if_pos h]
theorem few17 {m : Mo} {f g : SF} (h : FewD m f g) (z : Int) (hz : m.on.ObR z) : szD m f g z<17:=by
 have h1:=hz.1; have h2:=hz.2
 have:=(h z.toNat (by omega)).2;rw [Int.toNat_of_nonneg h1] at this;omega
theorem codeDay_3 {m : Mo} {f g : SF} (D : DayO m f g) : codeDay m f g=0∨codeDay m f g=3:=by
 unfold codeDay;rw [if_pos ⟨D.mI,D.fI,D.gI⟩,if_pos ⟨D.fs,D.gs⟩]
 by_cases h : FewD m f g
 ·rw [if_pos h]; exact .inl rfl
 ·rw [if_neg h]; exact .inr rfl
theorem dayU_sz {m : Mo} {f : SF} (D : DayO m (unF m) f) : (dayF m (unF m) f).sizes=f.sizes:=by
 have hl:=D.gI.1.sl;rw [D.gs] at hl
 have ho:=D.mI.on.1.o;refine List.ext_getElem (by simp [dayF]; omega) fun z h1 h2=>?_
 have hz : m.on.ObR (z : Int):=⟨by omega,by simp [dayF] at h1; omega⟩
 have e1:=dayF_sz (m:=m) (f:=unF m) (g:=f) hz;rw [szU D hz,ix_nat,ix_nat] at e1
 simpa [List.getD_eq_getElem?_getD,h1,h2] using e1
theorem dayU_inj {m : Mo} {f : SF} (D : DayO m (unF m) f) : ∃ t,MapL (dayF m (unF m) f) f t∧InjT (dayF m (unF m) f) t :=
 ⟨mpU m f,mpU_map D,fun y i j hy hi hj e=>by
  have hy : m.on.ObR y:=hy;rw [dayF_sz hy] at hi hj;exact mpU_inj D hy hi hj e⟩
end Go.Shf
namespace Go.Proofs.Shf
open Go.AW Go.Proofs Go.Shf
theorem rdn_get {H : Heap} {K : Kont} {id sz off fr n : Nat} {cs : List AV} (h : H.get id=some (.cells sz cs fr)) (h1 : off+n≤cs.length) (hk : K (.agg ((cs.drop off).take n)) H) : rd1 (H.get id) (some n) off K H:=by
 rw [h,rd1_n]; exact ⟨h1,hk⟩
def DayR (r : AV) : Prop:=∃ (m : Mo) (f g : SF),r=.tup [.agg m.cells,.agg f.cells,.agg g.cells]
theorem fnDayUnits_of (B : Nat) (code : List UInt8) (hd : Rets B 19 [mL Go.AW.iB code] DayR) : Pur Tryz.prog B 4 [mL Go.AW.iB code] (.bool true):=by
 refine ⟨fun H0=>c4p.go fun _=>?_⟩
 have o : Owns H0 H0 []:=.nil _;refine tt ?_;refine (big_ok B code).go fun _=>tt ?_;refine ⟨fun g0=>At.mk ?_,fun g0=>At.mk ?_⟩
 ·refine tt ?_;exact pure_ret rfl (.refl _)
 refine tt ?_;refine (hd).go fun r _ ⟨m,f,g,e⟩=>?_;subst e;refine tt ?_;refine nb o fun id3 H o=>tt ?_;refine nb o fun id4 H o=>tt ?_;refine nb o fun id5 H o=>tt ?_;refine stc (o.pull [_,_]) fun H o=>?_
 have o : Owns H0 H ((id3,.cells 8 m.cells 0)::_):=o;refine tt ?_;refine stc (o.pull [_,_]) fun H o=>?_
 have o : Owns H0 H ((id4,.cells 7 f.cells 0)::_):=o;refine tt ?_;refine stc (o.pull [_,_]) fun H o=>?_
 have o : Owns H0 H [(id5,.cells 7 g.cells 0),(id4,.cells 7 f.cells 0),(id3,.cells 8 m.cells 0)]:=o;refine tt ?_;refine rdn_get (o.get (id3,.cells 8 m.cells 0) (by simp)) (by simp [SF.cells,Mo.cells]) ?_;refine tt ?_;refine rdn_get (o.get (id4,.cells 7 f.cells 0) (by simp)) (by simp [SF.cells,Mo.cells]) ?_;refine tt ?_;refine rdn_get (o.get (id5,.cells 7 g.cells 0) (by simp)) (by simp [SF.cells,Mo.cells]) ?_;refine tt ?_;refine (dayI_ok B m f g).go fun _=>?_;rw [dayRes_eq];refine tt ?_
 obtain ⟨S,hS⟩ : ∃ S,dSF m f g=S:=⟨_,rfl⟩
 obtain ⟨k,hk⟩ : ∃ k,codeDay m f g=k:=⟨_,rfl⟩;rw [hS,hk];refine tt ?_;refine nb o fun id6 H o=>tt ?_;refine stc o fun H o=>?_
 have o : Owns H0 H ((id6,.cells 7 S.cells 0)::[(id5,.cells 7 g.cells 0),(id4,.cells 7 f.cells 0),(id3,.cells 8 m.cells 0)]):=o;refine tt ?_;refine rdn_get (o.get (id3,.cells 8 m.cells 0) (by simp)) (by simp [SF.cells,Mo.cells]) ?_;refine tt ?_;refine rdn_get (o.get (id4,.cells 7 f.cells 0) (by simp)) (by simp [SF.cells,Mo.cells]) ?_;refine tt ?_;refine rdn_get (o.get (id5,.cells 7 g.cells 0) (by simp)) (by simp [SF.cells,Mo.cells]) ?_;refine tt ?_;refine (dayS_ok B m f g).go fun _=>?_;rw [dayRes_eq,hS,hk];refine tt ?_;refine nb o fun id8 H o=>tt ?_;refine stc o fun H o=>?_
 have o : Owns H0 H ((id8,.cells 7 S.cells 0)::[(id6,.cells 7 S.cells 0),(id5,.cells 7 g.cells 0),(id4,.cells 7 f.cells 0),(id3,.cells 8 m.cells 0)]):=o;refine tt ?_;refine td ?_;refine rdn_get (o.get (id6,.cells 7 S.cells 0) (by simp)) (by simp [SF.cells,Mo.cells]) ?_;refine tt ?_;refine rdn_get (o.get (id8,.cells 7 S.cells 0) (by simp)) (by simp [SF.cells,Mo.cells]) ?_;refine tt ?_;refine (likeSets5_ok B S).go fun _=>tt ?_;refine cut_mp (fun σ H'=>σ=[(3,some (.ref id3 0)),(4,some (.ref id4 0))]∧Owns H0 H' [(id8,.cells 7 S.cells 0),(id6,.cells 7 S.cells 0),(id5,.cells 7 g.cells 0),(id4,.cells 7 f.cells 0),(id3,.cells 8 m.cells 0)]) ?_ ?_
 ·refine tt ?_
  by_cases k0 : k=0
  ·have hc : codeDay m f g=0:=hk.trans k0
   have Sis : S.Is:=by
    obtain ⟨D,few⟩:=codeDay_z hc;rw [← hS,dSF_0 hc];exact dayF_is D (few17 few)
   rw [decide_eq_true k0];refine tt ?_;refine rdn_get (o.get (id8,.cells 7 S.cells 0) (by simp)) (by simp [SF.cells,Mo.cells]) ?_;refine tt ?_;refine (isSetFunctorI_ok B S).go fun _=>?_;rw [dec_t Sis];refine tt ?_;exact wkW_done ⟨rfl,o⟩
  ·rw [decide_eq_false k0];refine tt ?_;exact wkW_done ⟨rfl,o⟩
 clear o
 rintro σ H ⟨rfl,o⟩;refine tt ?_;refine rdn_get (o.get (id3,.cells 8 m.cells 0) (by simp)) (by simp [SF.cells,Mo.cells]) ?_;refine tt ?_;refine (isMonoidalS_ok B m).go fun _=>?_
 by_cases hm : m.Is
 rotate_left
 ·rw [dec_f hm];refine tt ?_;exact pure_ret rfl o.sub
 rw [dec_t hm];refine tt ?_;refine rdn_get (o.get (id4,.cells 7 f.cells 0) (by simp)) (by simp [SF.cells,Mo.cells]) ?_;refine tt ?_;refine (isSetFunctorS_ok B f).go fun _=>?_
 by_cases hf : f.Is
 rotate_left
 ·rw [dec_f hf];refine tt ?_;exact pure_ret rfl o.sub
 rw [dec_t hf];refine tt ?_;refine rdn_get (o.get (id4,.cells 7 f.cells 0) (by simp)) (by simp [SF.cells,Mo.cells]) ?_;refine tt ?_;refine rdn_get (o.get (id3,.cells 8 m.cells 0) (by simp)) (by simp [SF.cells,Mo.cells]) ?_;refine tt ?_;refine (likeCatG_ok B f.shape m.on).go fun _=>?_
 by_cases hs : f.shape=m.on
 rotate_left
 ·rw [dec_f hs];refine tt ?_;exact pure_ret rfl o.sub
 rw [dec_t hs];refine tt ?_;refine rdn_get (o.get (id3,.cells 8 m.cells 0) (by simp)) (by simp [SF.cells,Mo.cells]) ?_;refine tt ?_;refine rd_get (o.get (id3,.cells 8 m.cells 0) (by simp)) (by simp [Mo.cells]) ?_;refine tt ?_
 have ux : 0≤m.unit∧m.unit<m.on.objs:=hm.toPre.un;refine (representableG_ok B m.on hm.on m.unit ux).go fun r _ hr=>?_
 by_cases few : RepFew m.on m.unit
 rotate_left
 ·obtain rfl : r=.tup [.agg zSF'.cells,iI 3]:=by
   rcases hr with ⟨h,_⟩ | ⟨_,h⟩
   ·exact absurd h few
   ·exact h
  refine tt ?_;refine nb o fun id10 H o=>tt ?_;refine stc o fun H o=>?_
  have o : Owns H0 H ((id10,.cells 7 zSF'.cells 0)::[(id8,.cells 7 S.cells 0),(id6,.cells 7 S.cells 0),(id5,.cells 7 g.cells 0),(id4,.cells 7 f.cells 0),(id3,.cells 8 m.cells 0)]):=o;refine tt ?_;refine rdn_get (o.get (id3,.cells 8 m.cells 0) (by simp)) (by simp [SF.cells,Mo.cells]) ?_;refine tt ?_;refine rd_get (o.get (id3,.cells 8 m.cells 0) (by simp)) (by simp [Mo.cells]) ?_;refine tt ?_;refine (representableS_ok B m.on hm.on m.unit ux).go fun _=>?_;rw [repRes,dec_f few,cond_false];refine tt ?_;refine nb o fun id12 H o=>tt ?_;refine stc o fun H o=>?_
  have o : Owns H0 H ((id12,.cells 7 zSF'.cells 0)::_):=o;refine tt ?_;refine td ?_;refine rdn_get (o.get (id10,.cells 7 zSF'.cells 0) (by simp)) (by simp [SF.cells]) ?_;refine tt ?_;refine rdn_get (o.get (id12,.cells 7 zSF'.cells 0) (by simp)) (by simp [SF.cells]) ?_;refine tt ?_;refine (likeSets5_ok B zSF').go fun _=>?_
  have e3 : (!decide ((3 : Int)=0))=true:=rfl;refine tt ?_;rw [e3];refine tt ?_;exact pure_ret rfl o.sub
 obtain rfl : r=.tup [.agg (repF m.on m.unit).cells,iI 0]:=by
  rcases hr with ⟨_,h⟩ | ⟨h,_⟩
  ·exact h
  ·exact absurd few h
 refine tt ?_;refine nb o fun id10 H o=>tt ?_;refine stc o fun H o=>?_
 have o : Owns H0 H ((id10,.cells 7 (repF m.on m.unit).cells 0)::[(id8,.cells 7 S.cells 0),(id6,.cells 7 S.cells 0),(id5,.cells 7 g.cells 0),(id4,.cells 7 f.cells 0),(id3,.cells 8 m.cells 0)]):=o;refine tt ?_;refine rdn_get (o.get (id3,.cells 8 m.cells 0) (by simp)) (by simp [SF.cells,Mo.cells]) ?_;refine tt ?_;refine rd_get (o.get (id3,.cells 8 m.cells 0) (by simp)) (by simp [Mo.cells]) ?_;refine tt ?_;refine (representableS_ok B m.on hm.on m.unit ux).go fun _=>?_;rw [repRes,dec_t few,cond_true];refine tt ?_;refine nb o fun id12 H o=>tt ?_;refine stc o fun H o=>?_
 have o : Owns H0 H ((id12,.cells 7 (repF m.on m.unit).cells 0)::_):=o;refine tt ?_;refine td ?_;refine rdn_get (o.get (id10,.cells 7 (repF m.on m.unit).cells 0) (by simp)) (by simp [SF.cells,Mo.cells]) ?_;refine tt ?_;refine rdn_get (o.get (id12,.cells 7 (repF m.on m.unit).cells 0) (by simp)) (by simp [SF.cells,Mo.cells]) ?_;refine tt ?_;refine (likeSets5_ok B (repF m.on m.unit)).go fun _=>?_;refine td ?_
 have D : DayO m (unF m) f:=⟨hm,rep_is hm.on few,hf,rfl,hs⟩;refine rdn_get (o.get (id3,.cells 8 m.cells 0) (by simp)) (by simp [SF.cells,Mo.cells]) ?_;refine tt ?_;refine rdn_get (o.get (id12,.cells 7 (repF m.on m.unit).cells 0) (by simp)) (by simp [SF.cells,Mo.cells]) ?_;refine tt ?_;refine rdn_get (o.get (id4,.cells 7 f.cells 0) (by simp)) (by simp [SF.cells,Mo.cells]) ?_;refine tt ?_;refine (dayI_ok B m (repF m.on m.unit) f).go fun _=>?_;rw [dayRes_eq]
 obtain ⟨T,hT⟩ : ∃ T,dSF m (repF m.on m.unit) f=T:=⟨_,rfl⟩
 obtain ⟨j,hj⟩ : ∃ j,codeDay m (repF m.on m.unit) f=j:=⟨_,rfl⟩;rw [hT,hj];refine tt ?_;refine nb o fun id14 H o=>tt ?_;refine stc o fun H o=>?_
 have o : Owns H0 H ((id14,.cells 7 T.cells 0)::[(id12,.cells 7 (repF m.on m.unit).cells 0),(id10,.cells 7 (repF m.on m.unit).cells 0),(id8,.cells 7 S.cells 0),(id6,.cells 7 S.cells 0),(id5,.cells 7 g.cells 0),(id4,.cells 7 f.cells 0),(id3,.cells 8 m.cells 0)]):=o;refine tt ?_;refine rdn_get (o.get (id3,.cells 8 m.cells 0) (by simp)) (by simp [SF.cells,Mo.cells]) ?_;refine tt ?_;refine rdn_get (o.get (id12,.cells 7 (repF m.on m.unit).cells 0) (by simp)) (by simp [SF.cells,Mo.cells]) ?_;refine tt ?_;refine rdn_get (o.get (id4,.cells 7 f.cells 0) (by simp)) (by simp [SF.cells,Mo.cells]) ?_;refine tt ?_;refine (dayS_ok B m (repF m.on m.unit) f).go fun _=>?_;rw [dayRes_eq,hT,hj];refine tt ?_;refine nb o fun id16 H o=>tt ?_;refine stc o fun H o=>?_
 have o : Owns H0 H ((id16,.cells 7 T.cells 0)::[(id14,.cells 7 T.cells 0),(id12,.cells 7 (repF m.on m.unit).cells 0),(id10,.cells 7 (repF m.on m.unit).cells 0),(id8,.cells 7 S.cells 0),(id6,.cells 7 S.cells 0),(id5,.cells 7 g.cells 0),(id4,.cells 7 f.cells 0),(id3,.cells 8 m.cells 0)]):=o;refine tt ?_;refine td ?_;refine rdn_get (o.get (id14,.cells 7 T.cells 0) (by simp)) (by simp [SF.cells,Mo.cells]) ?_;refine tt ?_;refine rdn_get (o.get (id16,.cells 7 T.cells 0) (by simp)) (by simp [SF.cells,Mo.cells]) ?_;refine tt ?_;refine (likeSets5_ok B T).go fun _=>tt ?_
 rcases codeDay_3 D with h0 | h3
 rotate_left
 ·obtain rfl : j=3:=by rw [← hj]; exact h3
  have e3 : (!decide ((3 : Int)=0))=true:=rfl;rw [e3];refine td ?_;exact pure_ret rfl o.sub
 obtain rfl : j=0:=by rw [← hj]; exact h0
 have hT' : T=dayF m (unF m) f:=by rw [← hT]; exact dSF_0 hj
 have few2:=(codeDay_z h0).2
 have Tis : T.Is:=by rw [hT']; exact dayF_is D (few17 few2)
 have Tsz : T.sizes=f.sizes:=by rw [hT']; exact dayU_sz D
 have Tsh : T.shape=f.shape:=by rw [hT',hs]; rfl
 have Tin : ∃ t,MapL T f t∧InjT T t:=by rw [hT']; exact dayU_inj D
 refine td ?_;refine rd_get (o.get (id16,.cells 7 T.cells 0) (by simp)) (by simp [SF.cells]) ?_;refine tt ?_;refine rd_get (o.get (id4,.cells 7 f.cells 0) (by simp)) (by simp [SF.cells]) ?_;refine tt ?_;refine (likeInts_ok B T.sizes f.sizes).go fun _=>?_;rw [dec_t Tsz];refine tt ?_;refine rdn_get (o.get (id16,.cells 7 T.cells 0) (by simp)) (by simp [SF.cells,Mo.cells]) ?_;refine tt ?_;refine rdn_get (o.get (id4,.cells 7 f.cells 0) (by simp)) (by simp [SF.cells,Mo.cells]) ?_;refine tt ?_;refine (findSetIso_ok B Tis hf Tsh Tsz Tin).go fun r _ hr=>?_
 rcases hr with ⟨X,rfl⟩ | ⟨M,hM,rfl⟩
 ·refine td ?_;exact pure_ret rfl o.sub
 have e3 : decide ((0 : Int)=3)=false:=rfl;refine td ?_;rw [e3];refine td ?_;refine rdn_get (o.get (id16,.cells 7 T.cells 0) (by simp)) (by simp [SF.cells,Mo.cells]) ?_;refine tt ?_;refine rdn_get (o.get (id4,.cells 7 f.cells 0) (by simp)) (by simp [SF.cells,Mo.cells]) ?_;refine tt ?_;refine (isSetMap_ok B ⟨T,f,M⟩).go fun _=>?_;rw [dec_t (mapL_is Tis hf Tsh hM)];refine tt ?_;exact pure_ret rfl o.sub
def MoR (r : AV) : Prop:=∃ m : Mo,r=.agg m.cells
theorem l35Draw_ok (B : Nat) : Rd B 82 [] MoR:=by
 intro id s H0 H hs o;refine c82p.go fun _=>?_;refine tt ?_;refine nb o fun id2 H o=>?_
 have o : Owns H0 H [(id2,.cells 8 zM 0),(id,s.obj)]:=o;refine tt ?_;refine (l35Some_ok B id s _ H0 H hs o.swap).mono ?_;clear o hs
 rintro r H ⟨s,p,hs,⟨c,u,O,As,d,Xs,ob,rfl,rfl,hR,h0,hO⟩,o⟩;refine tt ?_;refine nb o fun id3 H o=>?_
 have o : Owns H0 H ((id3,.cells 8 zM 0)::(id,s.obj)::((d,.cells 1 Xs 0)::ob++[(id2,.cells 8 zM 0)])):=o;refine tt ?_;refine st_cells o (by simp [zM,moB]) (by simp [moB]) (moB_one (one_mL _ _) rfl) fun H o=>?_
 have o : Owns H0 H ((id3,.cells 8 (moB c u (iLL O) (.buf d Xs.length)) 0)::(id,s.obj)::((d,.cells 1 Xs 0)::ob++[(id2,.cells 8 zM 0)])):=o
 have o : Owns H0 H ((id,s.obj)::(id3,.cells 8 (moB c u (iLL O) (.buf d Xs.length)) 0)::(id2,.cells 8 zM 0)::(d,.cells 1 Xs 0)::ob):=o.pm;refine tt ?_;refine cut_mp (fun σ H=>∃ (s : Src) (u : Int) (O As : List (List Int)) (ob : Ob),σ=[(2,some (.ref id2 0)),(3,some (.ref id3 0))]∧s.Ok∧LsR iI Xs As ob∧Owns H0 H ((id,s.obj)::(id3,.cells 8 (moB c u (iLL O) (.buf d Xs.length)) 0)::(id2,.cells 8 zM 0)::(d,.cells 1 Xs 0)::ob)) ?_ ?_;rotate_left
 ·clear o hs hR
  rintro σ H ⟨s,u,O,As,ob,rfl,hs,hR,o⟩
  have hl:=hR.len
  have od : Owns H0 H ((d,.cells 1 Xs 0)::(ob++[(id3,.cells 8 (moB c u (iLL O) (.buf d Xs.length)) 0),(id2,.cells 8 zM 0),(id,s.obj)])):=o.pm;refine tt ?_;refine wk_rows hR [] H od fun H o=>?_;simp only [List.nil_append] at o;rw [hl] at o
  have o : Owns H0 H ((id3,.cells 8 (moB c u (iLL O) (.buf d As.length)) 0)::(d,.cells 1 (As.map iL) 0)::[(id2,.cells 8 zM 0),(id,s.obj)]):=o.swap;refine wk_cell (f:=iL) 7 o rfl rfl fun H o=>wkW_done ?_
  have o : Owns H0 H [(id3,.cells 8 (Mo.cells ⟨c,u,O,As⟩) 0),(id2,.cells 8 zM 0),(id,s.obj)]:=o;refine tt ?_;refine rd_celln o (by simp [Mo.cells]) ?_;refine tt ?_;refine st_cells o.swap (by simp [zM]) (by (try simp only [go_sem]); (try simp)) (by first | (simp only [go_sem]; done) | ((try simp only [go_sem]); simp [AV.one,one_mL])) fun H o=>?_
  have o : Owns H0 H [(id2,.cells 8 (Mo.cells ⟨c,u,O,As⟩) 0),(id3,.cells 8 (Mo.cells ⟨c,u,O,As⟩) 0),(id,s.obj)]:=o;refine tt ?_;rw [o.rc 8 0 (by simp [Mo.cells])];refine tt ?_;exact src_ret ⟨⟨c,u,O,As⟩,rfl⟩ hs (o.pull [_,_])
 refine tt ?_;refine (l01Next_ok B 24).go hs o fun r s H _ ⟨v,e,_⟩ hs o=>?_;subst e;refine tt ?_;apply bk <;> intro g0
 ·have hXl:=hR.len
  have hX0 : 0<Xs.length:=by omega
  obtain ⟨idr,er,hgr⟩:=hR.rdrow (i:=0) hX0 h0.2
  obtain ⟨idr2,er2,hst⟩:=hR.row (i:=0) hX0 h0.2
  obtain rfl : idr=idr2:=by rw [er] at er2; injection er2
  have gM : H.get id3=some (.cells 8 (moB c u (iLL O) (.buf d Xs.length)) 0):=o.tl.h0
  have gS : H.get d=some (.cells 1 Xs 0):=o.get (d,.cells 1 Xs 0) (.tail _ (.tail _ (.tail _ (.head _))))
  have gR:=hgr o (fun x hx=>by simp [hx])
  have e7 : (moB c u (iLL O) (.buf d Xs.length)).getD 7 nv=.buf d Xs.length:=rfl
  have e1 : (moB c u (iLL O) (.buf d Xs.length)).getD 1 nv=iL c.frm:=rfl;refine tt ?_;refine ⟨⟨_,_,gM⟩,rd_get gM (by simp [moB]) ?_⟩;refine tw e7 ?_;refine ⟨⟨by omega,hX0⟩,⟨_,_,gS⟩,rd_get gS hX0 ?_⟩;rw [show Xs.getD (Int.toNat 0) nv=_ from er];refine tt ?_;refine ⟨⟨_,_,gM⟩,rd_get gM (by simp [moB]) ?_⟩;refine tw e1 ?_;refine (l02Number_ok B _).goZ hs o fun r s H _ ⟨w,e⟩ hs o hz=>⟨hz, ?_⟩;subst e;refine tt ?_
  have o : Owns H0 H ((d,.cells 1 Xs 0)::(ob++[(id,s.obj),(id3,.cells 8 (moB c u (iLL O) (.buf d Xs.length)) 0),(id2,.cells 8 zM 0)])):=o.pm;refine ⟨⟨by omega,h0.2⟩,hst o 0 h0.2 w rfl fun H ob2 hR2 o=>?_⟩
  have o : Owns H0 H ((id,s.obj)::(id3,.cells 8 (moB c u (iLL O) (.buf d Xs.length)) 0)::(id2,.cells 8 zM 0)::(d,.cells 1 Xs 0)::ob2):=o.pm;refine tt ?_;exact wkW_done ⟨s,u,O,_,ob2,rfl,hs,hR2,o⟩
 ·refine tt ?_;apply bk <;> intro g1
  ·refine tt ?_;refine rd_get (o.tl.h0 : H.get id3=some (.cells 8 (moB c u (iLL O) (.buf d Xs.length)) 0)) (by simp [moB]) ?_
   have e0 : (moB c u (iLL O) (.buf d Xs.length)).getD 0 nv=iI c.objs:=rfl;refine tw e0 ?_;refine (l02Number_ok B _).go hs o fun r s H _ ⟨w,e⟩ hs o=>?_;subst e;refine tt ?_;refine st_cells o.swap (by simp [moB]) (by (try simp only [go_sem]); (try simp)) (by first | (simp only [go_sem]; done) | ((try simp only [go_sem]); simp [AV.one,one_mL])) fun H o=>?_
   have o : Owns H0 H ((id3,.cells 8 (moB c w (iLL O) (.buf d Xs.length)) 0)::(id,s.obj)::(id2,.cells 8 zM 0)::(d,.cells 1 Xs 0)::ob):=o;refine tt ?_;exact wkW_done ⟨s,w,O,As,ob,rfl,hs,hR,o.swap⟩
  ·refine tt ?_;apply bk <;> intro g2
   ·refine tt ?_;refine rd_get (o.tl.h0 : H.get id3=some (.cells 8 (moB c u (iLL O) (.buf d Xs.length)) 0)) (by simp [moB]) ?_
    have e6 : (moB c u (iLL O) (.buf d Xs.length)).getD 6 nv=iLL O:=rfl;refine tw e6 ?_;refine ⟨⟨by omega,by omega⟩, ?_⟩;refine st_cells o.swap (by simp [moB]) (by (try simp only [go_sem]); (try simp)) (by first | (simp only [go_sem]; done) | ((try simp only [go_sem]); simp [AV.one,one_mL])) fun H o=>?_
    have o : Owns H0 H ((id3,.cells 8 (moB c u (iLL (O.drop 1)) (.buf d Xs.length)) 0)::(id,s.obj)::(id2,.cells 8 zM 0)::(d,.cells 1 Xs 0)::ob):=o;refine tt ?_;exact wkW_done ⟨s,u,O.drop 1,As,ob,rfl,hs,hR,o.swap⟩
   ·refine tt ?_;exact wkW_done ⟨s,u,O,As,ob,rfl,hs,hR,o⟩
theorem c19q : Go.AW.Z.Cd 19 37 (.seq (.reg [⟨(some 2),none,.alc [(.int .i64 0),.nilsl,.nilsl,.nilsl,.nilsl,(.int .i64 0),.nilsl,.nilsl]⟩,⟨(some 3),none,.alc [(.int .i64 0),.nilsl,.nilsl,.nilsl,.nilsl,.nilsl,.nilsl]⟩,⟨(some 4),none,.alc [(.int .i64 0),.nilsl,.nilsl,.nilsl,.nilsl,.nilsl,.nilsl]⟩]) (.keep [0,2,3,4] (.seq (.reg [⟨(some 9),none,.mv (.t 0)⟩,⟨(some 10),none,.call (.c (.fn (.func 50) [])) [(.t 9)]⟩,⟨(some 5),none,.mv (.t 10)⟩]) (.keep [2,3,4,5] (.seq (.reg [⟨(some 11),none,.mv (.t 5)⟩,⟨(some 12),none,.call (.c (.fn (.func 82) [])) [(.t 11)]⟩,⟨(some 6),none,.alc [(.int .i64 0),.nilsl,.nilsl,.nilsl,.nilsl,(.int .i64 0),.nilsl,.nilsl]⟩,⟨none,none,.st 8 (.t 6) (.t 12)⟩]) (.keep [2,3,4,5,6] (.seq (.reg [⟨(some 13),none,.fld 0 5 (.t 6)⟩,⟨(some 14),none,.ld (some 5) (.t 13)⟩,⟨(some 7),none,.alc [(.int .i64 0),.nilsl,.nilsl,.nilsl,.nilsl]⟩,⟨none,none,.st 5 (.t 7) (.t 14)⟩]) (.keep [2,3,4,5,6,7] (.cut [2,3,4,5,6,7] (.seq (.reg [⟨(some 15),none,.mv (.t 5)⟩,⟨(some 16),none,.call (.c (.fn (.func 53) [])) [(.t 15),(.c (.int .i64 16))]⟩,⟨(some 17),none,.ar .eql .i64 (.t 16) (.c (.int .i64 0))⟩,⟨(some 18),none,.mv (.t 17)⟩,⟨(some 19),some (18,false),.ld (some 5) (.t 7)⟩,⟨(some 20),some (18,false),.call (.c (.fn (.func 83) [])) [(.t 19)]⟩,⟨(some 21),some (18,false),.nt (.t 20)⟩,⟨(some 22),none,.pick (.t 18) (.c (.bool true)) (.t 21)⟩]) (.keep [2,3,4,5,6,7,22] (.cond (.t 22) (.reg [⟨(some 23),none,.mv (.t 5)⟩,⟨(some 24),none,.call (.c (.fn (.func 51) [])) [(.t 23),(.c (.int .i64 3)),(.c (.int .i64 5))]⟩,⟨none,none,.st 5 (.t 7) (.t 24)⟩]) .skip))) (.seq (.reg [⟨(some 8),none,.mv (.c (.int .i64 2))⟩]) (.keep [2,3,4,5,6,7,8] (.cut [2,3,4,5,6,7,8] (.seq (.reg [⟨(some 25),none,.mv (.t 5)⟩,⟨(some 26),none,.call (.c (.fn (.func 53) [])) [(.t 25),(.c (.int .i64 8))]⟩,⟨(some 27),none,.ar .eql .i64 (.t 26) (.c (.int .i64 0))⟩]) (.keep [2,3,4,5,6,7,8,27] (.cond (.t 27) (.reg [⟨(some 8),none,.mv (.c (.int .i64 5))⟩]) .skip))) (.seq (.reg [⟨(some 28),none,.ldZ 8 (some 8) (.t 6)⟩,⟨(some 29),none,.mv (.t 5)⟩,⟨(some 30),none,.ldZ 5 (some 5) (.t 7)⟩,⟨(some 31),none,.mv (.t 8)⟩,⟨(some 33),none,.mv (.t 5)⟩,⟨(some 34),none,.fld 0 5 (.t 6)⟩,⟨(some 35),none,.ldZ 8 (some 5) (.t 34)⟩,⟨(some 32),none,.callZ 3 (.c (.fn (.func 52) [])) [(.t 29),(.t 30),(.t 31)]⟩,⟨(some 36),none,.callZ 3 (.c (.fn (.func 52) [])) [(.t 33),(.t 35),(.c (.int .i64 2))]⟩,⟨none,none,.st 8 (.t 2) (.t 28)⟩,⟨none,none,.st 7 (.t 3) (.t 32)⟩,⟨none,none,.st 7 (.t 4) (.t 36)⟩]) .ret))))))))))))) [.cell 2 (some 8), .cell 3 (some 7), .cell 4 (some 7)] := ⟨fun hk ha => CallH.of_awp' (hs := [(9, [0, 1, 2, 3, 5, 6, 7, 4, 8, 9, 10, 11], [18, 0, 15, 0, 13, 0, 0, 18, 13, 0, 0, 0])]) Tryz.func19 rfl (by kernel_rfl) (by kernel_rfl) (by kernel_rfl) ha hk⟩
theorem drawDay_ok (B : Nat) (code : List UInt8) : Rets B 19 [mL Go.AW.iB code] DayR:=by
 intro H0;refine c19q.go fun _=>?_
 have o : Owns H0 H0 []:=.nil _;refine tt ?_;refine nb o fun id2 H o=>tt ?_;refine nb o fun id3 H o=>tt ?_;refine nb o fun id4 H o=>?_
 have o : Owns H0 H [(id4,.cells 7 z7c 0),(id3,.cells 7 z7c 0),(id2,.cells 8 zM 0)]:=o;refine tt ?_;refine (l01From_ok B code _).mono' fun r H1 _ ⟨id,s,e,hs,o2⟩=>?_;subst e
 have o:=o.trans o2;clear o2
 have o : Owns H0 H1 [(id,s.obj),(id4,.cells 7 z7c 0),(id3,.cells 7 z7c 0),(id2,.cells 8 zM 0)]:=o;refine tt ?_;refine (l35Draw_ok B).go hs o fun r s H _ ⟨m,e⟩ hs o=>?_;subst e;refine tt ?_;refine nb o fun id6 H o=>tt ?_;refine stc o fun H o=>?_
 have o : Owns H0 H [(id6,.cells 8 m.cells 0),(id,s.obj),(id4,.cells 7 z7c 0),(id3,.cells 7 z7c 0),(id2,.cells 8 zM 0)]:=o;refine tt ?_;refine rd_celln o (by simp [Mo.cells]) ?_;refine tt ?_;refine newRef_own o fun id7 H o=>tt ?_;refine stc o fun H o=>?_
 have o : Owns H0 H [(id7,.cells 5 m.on.cells 0),(id6,.cells 8 m.cells 0),(id,s.obj),(id4,.cells 7 z7c 0),(id3,.cells 7 z7c 0),(id2,.cells 8 zM 0)]:=o
 obtain ⟨c,hc⟩ : ∃ c,m.on=c:=⟨_,rfl⟩;rw [hc] at o
 have o : Owns H0 H [(id,s.obj),(id7,.cells 5 c.cells 0),(id6,.cells 8 m.cells 0),(id4,.cells 7 z7c 0),(id3,.cells 7 z7c 0),(id2,.cells 8 zM 0)]:=o.pm;refine tt ?_;refine cut_mp (fun σ H=>∃ (s : Src) (c : Cat),σ=[(2,some (.ref id2 0)),(3,some (.ref id3 0)),(4,some (.ref id4 0)),(5,some (.ref id 0)),(6,some (.ref id6 0)),(7,some (.ref id7 0))]∧s.Ok∧Owns H0 H [(id,s.obj),(id7,.cells 5 c.cells 0),(id6,.cells 8 m.cells 0),(id4,.cells 7 z7c 0),(id3,.cells 7 z7c 0),(id2,.cells 8 zM 0)]) ?_ ?_
 ·refine tt ?_;refine (l01Next_ok B 16).go hs o fun r s H _ ⟨v,e,_⟩ hs o=>?_;subst e;refine tt ?_
  by_cases v0 : v=0
  ·rw [decide_eq_true v0];refine tt ?_;refine (l02Some_ok B 3 5).go hs o fun r s H _ ⟨c2,e,_⟩ hs o=>?_;subst e;refine tt ?_;refine st_cells o.swap (show 0+5≤c.cells.length from Nat.le_refl 5) (by (try simp only [go_sem]); (try simp)) (by first | (simp only [go_sem]; done) | ((try simp only [go_sem]); simp [AV.one,one_mL])) fun H o=>?_
   have o : Owns H0 H ((id7,.cells 5 c2.cells 0)::(id,s.obj)::[(id6,.cells 8 m.cells 0),(id4,.cells 7 z7c 0),(id3,.cells 7 z7c 0),(id2,.cells 8 zM 0)]):=o;refine tt ?_;exact wkW_done ⟨s,c2,rfl,hs,o.swap⟩
  rw [decide_eq_false v0];refine tt ?_;refine rdn_get (o.get (id7,.cells 5 c.cells 0) (by simp)) (show 0+5≤c.cells.length from Nat.le_refl 5) ?_;refine tt ?_;refine (l02Is_ok B c).go fun _=>?_
  by_cases hc : c.Is
  ·rw [dec_t hc];refine tt ?_;exact wkW_done ⟨s,c,rfl,hs,o⟩
  rw [dec_f hc];refine tt ?_;refine (l02Some_ok B 3 5).go hs o fun r s H _ ⟨c2,e,_⟩ hs o=>?_;subst e;refine tt ?_;refine st_cells o.swap (show 0+5≤c.cells.length from Nat.le_refl 5) (by (try simp only [go_sem]); (try simp)) (by first | (simp only [go_sem]; done) | ((try simp only [go_sem]); simp [AV.one,one_mL])) fun H o=>?_
  have o : Owns H0 H ((id7,.cells 5 c2.cells 0)::(id,s.obj)::[(id6,.cells 8 m.cells 0),(id4,.cells 7 z7c 0),(id3,.cells 7 z7c 0),(id2,.cells 8 zM 0)]):=o;refine tt ?_;exact wkW_done ⟨s,c2,rfl,hs,o.swap⟩
 clear o hs
 rintro σ H ⟨s,c,rfl,hs,o⟩;refine tt ?_;refine cut_mp (fun σ H=>∃ (s : Src) (z : Int),σ=[(2,some (.ref id2 0)),(3,some (.ref id3 0)),(4,some (.ref id4 0)),(5,some (.ref id 0)),(6,some (.ref id6 0)),(7,some (.ref id7 0)),(8,some (iI z))]∧(0≤z∧z≤1000)∧s.Ok∧Owns H0 H [(id,s.obj),(id7,.cells 5 c.cells 0),(id6,.cells 8 m.cells 0),(id4,.cells 7 z7c 0),(id3,.cells 7 z7c 0),(id2,.cells 8 zM 0)]) ?_ ?_
 ·refine tt ?_;refine (l01Next_ok B 8).go hs o fun r s H _ ⟨v,e,_⟩ hs o=>?_;subst e;refine tt ?_;apply bk <;> intro g0
  ·refine tt ?_;exact wkW_done ⟨s,5,rfl,by omega,hs,o⟩
  ·refine tt ?_;exact wkW_done ⟨s,2,rfl,by omega,hs,o⟩
 clear o hs
 rintro σ H ⟨s,z,rfl,hz,hs,o⟩;refine tt ?_
 have g6 : ∀ {s : Src} {H : Heap},Owns H0 H [(id,s.obj),(id7,.cells 5 c.cells 0),(id6,.cells 8 m.cells 0),(id4,.cells 7 z7c 0),(id3,.cells 7 z7c 0),(id2,.cells 8 zM 0)]→H.get id6=some (.cells 8 m.cells 0):=fun o=>o.get (id6,.cells 8 m.cells 0) (by simp)
 have g7 : ∀ {s : Src} {H : Heap},Owns H0 H [(id,s.obj),(id7,.cells 5 c.cells 0),(id6,.cells 8 m.cells 0),(id4,.cells 7 z7c 0),(id3,.cells 7 z7c 0),(id2,.cells 8 zM 0)]→H.get id7=some (.cells 5 c.cells 0):=fun o=>o.get (id7,.cells 5 c.cells 0) (by simp);refine ⟨⟨_,_,g6 o⟩,rdn_get (g6 o) (by simp [Mo.cells]) ?_⟩;refine tt ?_;refine ⟨⟨_,_,g7 o⟩,rdn_get (g7 o) (show 0+5≤c.cells.length from Nat.le_refl 5) ?_⟩;refine tt ?_;refine ⟨⟨_,_,g6 o⟩,rdn_get (g6 o) (by simp [Mo.cells]) ?_⟩;refine tt ?_;refine (l19Draw_ok B c z hz).goZ hs o fun r s H _ ⟨f,e⟩ hs o hzz=>⟨hzz, ?_⟩;subst e;refine tt ?_;refine (l19Draw_ok B m.on 2 (by omega)).goZ hs o fun r s H _ ⟨g,e⟩ hs o hzz=>⟨hzz, ?_⟩;subst e
 have o : Owns H0 H [(id2,.cells 8 zM 0),(id,s.obj),(id7,.cells 5 c.cells 0),(id6,.cells 8 m.cells 0),(id4,.cells 7 z7c 0),(id3,.cells 7 z7c 0)]:=o.pm;refine tt ?_;refine st_cells o (by simp [zM]) (by (try simp only [go_sem]); (try simp)) (by first | (simp only [go_sem]; done) | ((try simp only [go_sem]); simp [AV.one,one_mL])) fun H o=>?_
 have o : Owns H0 H [(id3,.cells 7 z7c 0),(id2,.cells 8 m.cells 0),(id,s.obj),(id7,.cells 5 c.cells 0),(id6,.cells 8 m.cells 0),(id4,.cells 7 z7c 0)]:=(show Owns H0 H [(id2,.cells 8 m.cells 0),(id,s.obj),(id7,.cells 5 c.cells 0),(id6,.cells 8 m.cells 0),(id4,.cells 7 z7c 0),(id3,.cells 7 z7c 0)] from o).pm;refine tt ?_;refine st_cells o (by simp [z7c]) (by (try simp only [go_sem]); (try simp)) (by first | (simp only [go_sem]; done) | ((try simp only [go_sem]); simp [AV.one,one_mL])) fun H o=>?_
 have o : Owns H0 H [(id4,.cells 7 z7c 0),(id3,.cells 7 f.cells 0),(id2,.cells 8 m.cells 0),(id,s.obj),(id7,.cells 5 c.cells 0),(id6,.cells 8 m.cells 0)]:=(show Owns H0 H [(id3,.cells 7 f.cells 0),(id2,.cells 8 m.cells 0),(id,s.obj),(id7,.cells 5 c.cells 0),(id6,.cells 8 m.cells 0),(id4,.cells 7 z7c 0)] from o).pm;refine tt ?_;refine st_cells o (by simp [z7c]) (by (try simp only [go_sem]); (try simp)) (by first | (simp only [go_sem]; done) | ((try simp only [go_sem]); simp [AV.one,one_mL])) fun H o=>?_
 have o : Owns H0 H [(id4,.cells 7 g.cells 0),(id3,.cells 7 f.cells 0),(id2,.cells 8 m.cells 0),(id,s.obj),(id7,.cells 5 c.cells 0),(id6,.cells 8 m.cells 0)]:=o
 have q2:=(o.pull [_,_]).rc 8 0 (by simp [Mo.cells])
 have q3:=o.tl.rc 7 0 (by simp [SF.cells])
 have q4:=o.rc 7 0 (by simp [SF.cells]);refine tt ?_;rw [q2,q3,q4];refine tt ?_;exact rets_ret ⟨m,f,g,rfl⟩ o.sub
theorem fnDayUnits_ok (B : Nat) (code : List UInt8) : Pur Tryz.prog B 4 [mL Go.AW.iB code] (.bool true):=fnDayUnits_of B code (drawDay_ok B code)
theorem fnDayUnits_all (B : Nat) (a : AV) (h : WB a) : Pur Tryz.prog B 4 [a] (.bool true):=by
 rcases h with ⟨l,rfl⟩ | ⟨n,hn,_,rfl⟩
 ·exact fnDayUnits_ok B l
 ·refine ⟨fun H0=>c4p.go fun _=>?_⟩;refine tt ?_;refine (big_big B n hn).go fun _=>tt ?_;exact pure_ret rfl (.refl _)
end Go.Proofs.Shf
