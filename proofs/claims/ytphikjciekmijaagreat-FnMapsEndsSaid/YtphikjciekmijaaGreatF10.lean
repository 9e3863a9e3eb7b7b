/- A part of a proof. -/
import Derived.Test.YtphikjciekmijaaGreatF9
import Derived.WalkSmall
set_option linter.unusedVariables false
set_option linter.unusedSimpArgs false
set_option linter.unusedSectionVars false
set_option maxRecDepth 100000
open Nat (reduceEqDiff reduceAdd reduceMul reduceLeDiff reduceLT)
namespace Go.AW
theorem LsR.rows {Xs : List AV} {T : List (List Int)} {ob : Ob} (h : LsR iI Xs T ob) : RowsG OL Xs T ob:=by
 induction h with
 | nil=>exact .nil
 | @cons p o X Xs A As h t ih =>
  refine .cons ?_ ih
  rcases h with ⟨rfl,rfl,rfl⟩ | ⟨id,rfl,rfl⟩
  ·exact .inl ⟨rfl,rfl,rfl⟩
  ·exact .inr ⟨id,_,[],rfl,by simp,rowsIT _⟩
theorem RowsG.lsr {Xs : List AV} {T : List (List Int)} {ob : Ob} (h : RowsG OL Xs T ob) : LsR iI Xs T ob:=by
 induction h with
 | nil=>exact .nil
 | @cons p o X Xs A As h t ih =>
  refine LsR.cons ?_ ih
  rcases h with ⟨rfl,rfl,rfl⟩ | ⟨id,Ys,r,rfl,rfl,hr⟩
  ·exact .inl ⟨rfl,rfl,rfl⟩
  ·obtain ⟨rfl,rfl⟩:=hr.intsT;exact .inr ⟨id,rfl,by simp⟩
theorem wk_tab {F : Env→Heap→Prop} {σ : Env} {H0 H : Heap} {l q : Ob} {id n : Nat} {T : List (List Int)} (h : OLL q (.buf id n) T) (o : Owns H0 H (q++l))
  (hk : ∀ H',n=T.length→Owns H0 H' ((id,.cells 1 (T.map iL) 0)::l)→wkW F σ H') : wkW F σ H:=by
 rcases h with ⟨_,h,_⟩ | ⟨id2,Xs,ob,rfl,hX,hr⟩
 ·cases h
 ·obtain ⟨rfl,rfl⟩:=AV.buf.inj hX;exact wk_rows hr.lsr [] H o fun H' o'=>hk H' hr.len o'
end Go.AW
namespace Go.Shf
theorem set_getD_any {α : Type} [Inhabited α] (A : List α) (i : Nat) : A.set i (A.getD i default)=A:=by
 apply List.ext_getElem?
 intro j
 by_cases e : i=j
 ·subst e
  by_cases h : i<A.length
  ·simp [List.getD_eq_getElem?_getD,h]
  ·rw [List.getElem?_eq_none (by simp; omega),List.getElem?_eq_none (by omega)]
 ·rw [List.getElem?_set_ne e]
theorem setT_same {p : List (List Int)} {y i v : Int} (h : Go.AW.ix (Go.AW.ix p y) i=v) : setT p y i v=p:=by
 have e : (Go.AW.ix p y).set i.toNat v=Go.AW.ix p y:=by rw [← h]; exact set_getD_any _ _
 rw [setT,e]; exact set_getD_any _ _
end Go.Shf
namespace Go.Proofs.Shf
open Go.AW Go.Proofs Go.Shf
@[go_sem] def sgO (f g : SF) (m : Int) (X : AV) : MObj:=.cells 17 [iI f.shape.objs,iL f.shape.frm,iL f.shape.to,iL f.shape.idn,iLL f.shape.comp,iL f.sizes,iLL f.acts,
 iI g.shape.objs,iL g.shape.frm,iL g.shape.to,iL g.shape.idn,iLL g.shape.comp,iL g.sizes,iLL g.acts,.bool false,iI m,X] 0
def SetQ (f g : SF) (p : List (List Int)) (x e d : Int) (r : AV) : Prop:=∃ (ok : Bool) (p' : List (List Int)),r=.tup [iLL p',.bool ok]∧(ok=true→∃ N,SetM f g p x e d (outs f.shape x).length p' N)∧(ok=false→¬ okS f g p x e d)
theorem gset_ok (B : Nat) {f g : SF} {x e d m : Int} (w : At3 f g x e d) {p : List (List Int)} (hP : PT f g p) {idS : Nat} {X : AV} {l : Ob} {H0 H : Heap}
  (o : Owns H0 H ((idS,sgO f g m X)::l)) :
  CallH Tryz.prog B 256 [.ref idS 0,iLL p,iI x,iI e,iI d] H fun r H'=>SetQ f g p x e d r∧Owns H0 H' ((idS,sgO f g m X)::l):=by
 refine c256p (by simp) fun _=>?_
 have hm:=w.hf.1.is.1.m
 have hob:=w.hf.1.is.1.o
 have htl:=w.hf.1.is.1.tol
 have hal:=w.hf.1.al
 have hgal : g.acts.length=f.shape.frm.length:=by have:=w.hg.1.al; rw [← w.sh] at this; exact this
 unfold s256p;refine tt ?_;refine (l01Own2_own B p H0 H _ o).mono ?_;clear o
 rintro r H ⟨idX,Xs,ob,rfl,hob2,o⟩
 have hX0 : OLL ((idX,.cells 1 Xs 0)::ob) (.buf idX Xs.length) p:=.inr ⟨idX,Xs,ob,rfl,rfl,hob2.rows⟩
 have hlX:=hob2.len
 generalize hn0 : Xs.length=nX at *;clear hob2;refine tt ?_
 refine awp_for [0,2,3,4,12] (G:=List (List Int) × List (Int × Int) × Ob) (fun a _=>[(13,some (.int .i64 (a : Int)))])
  (fun a G H=>OLL G.2.2 (.buf idX nX) G.1∧SetM f g p x e d (outK f.shape x a) G.1 G.2.1∧Owns H0 H ((idS,sgO f g m X)::(G.2.2++l))) f.shape.frm.length (p,[],(idX,.cells 1 Xs 0)::ob) ⟨hX0,.zero f g p x e d,o.pm⟩ rfl ?_
 clear o hX0
 rintro a ⟨p',N,q⟩ H ha ⟨hX,hS,o⟩;dsimp only at hX hS o
 have hgS : H.get idS=some (sgO f g m X):=o.h0;refine tt ?_;refine rd_get hgS (by simp) ?_;refine tt ?_;apply bk <;> intro h1
 ·have h1p : a<f.shape.frm.length:=by have:=of_decide h1; omega
  have w1:=wsucc (k:=a) (by omega);refine tt ?_;refine rd_get hgS (by simp) ?_;refine tt ?_;refine ⟨by omega, ?_⟩;apply bk <;> intro h2
  ·have h2p:=dd h2
   have hsu : outK f.shape x (a+1)=outK f.shape x a:=by rw [outK_succ,if_neg (by simpa using h2p)]
   refine tw w1 ?_;exact for_next (p',N,q) (by omega) ⟨hX,by rw [hsu]; exact hS,o⟩ rfl
  ·have h2p:=dd h2
   have h2q : f.shape.frm.getD a default=x:=by simpa using h2p
   have hsu : outK f.shape x (a+1)=outK f.shape x a+1:=by rw [outK_succ,if_pos h2q]
   have hfa:=filt_at (P:=fun i=>decide (f.shape.frm.getD i default=x)) h1p (decide_eq_true h2q)
   have hkl : outK f.shape x a<(outs f.shape x).length:=by rw [outs,List.length_map]; exact hfa.2
   have ea : (outs f.shape x).getD (outK f.shape x a) default=(a : Int):=by
    rw [outs,show outK f.shape x a=((List.range a).filter fun i=>decide (f.shape.frm.getD i default=x)).length from rfl,map_getD _ hfa.2]; exact congrArg Int.ofNat hfa.1
   have hA:=w.arr (b:=(a : Int)) (mem_getD.mpr ⟨_,hkl,ea⟩)
   have hin:=hP.inT w.hf.1 hA.2.2.1 hA.2.2.2.1
   have hfin:=w.hf.1.inAct hA.1 (e:=e) (by rw [hA.2.1]; exact w.he)
   have hgin:=w.hg.1.inAct (a:=(a : Int)) (e:=d) (by rw [← w.sh]; exact hA.1) (by rw [← w.sh,hA.2.1]; exact w.hd);simp only [ix_nat] at hA hin hfin hgin
   have hto:=hA.2.2.1
   have hac:=hA.2.2.2.1
   have hgc:=hA.2.2.2.2
   have hp1 : (f.shape.to.getD a default).toNat<p'.length:=by rw [hS.len]; exact hin.1.2
   have hp2 : (ix (f.acts.getD a default) e).toNat<(p'.getD (f.shape.to.getD a default).toNat default).length:=by rw [hS.row]; exact hin.2.2
   have o1 : Owns H0 H (q++((idS,sgO f g m X)::l)):=o.pm
   obtain ⟨idX',Xs',idR,hXe,hXl,hgX,hXr,hgR,hset⟩:=tab_cell hX o1 hp1 hp2
   obtain ⟨rfl,hnX⟩:=AV.buf.inj hXe
   have hfin2:=hfin.2
   have hgin2:=hgin.2;refine tt ?_;refine rd_get hgS (by simp) ?_;refine tt ?_;refine ⟨by omega,rd_get hgS (by simp) ?_⟩;refine tt ?_;refine ⟨by omega,tt ?_⟩;refine ⟨hfin,rd_get hgS (by simp) ?_⟩;refine tt ?_;refine ⟨by omega,tt ?_⟩;refine ⟨hgin, ?_⟩
   have eT : ix f.shape.to (a : Int)=f.shape.to.getD a default:=by rw [ix_nat]
   have eA : ix f.acts (a : Int)=f.acts.getD a default:=by rw [ix_nat]
   have eG : ix g.acts (a : Int)=g.acts.getD a default:=by rw [ix_nat]
   have hfr:=fun h=>hS.fresh w hP hkl ea h
   have hsm:=fun h=>hS.same hkl ea h
   have hbd:=fun h h2=>hS.bad3 w hkl ea h h2;rw [eT,eA,eG] at hfr hsm hbd
   generalize f.shape.to.getD a default=y at *
   generalize ix (f.acts.getD a default) e=i at *
   generalize ix (g.acts.getD a default) d=v at *
   have eV : (p'.getD y.toNat default).getD i.toNat default=ix (ix p' y) i:=rfl;refine tt ?_;refine ⟨⟨hto.1,by omega⟩,rd_get hgX (by omega) ?_⟩;rw [hXr];refine tt ?_;refine ⟨⟨hac.1,hp2⟩,rd_inner (f:=iI) hgR hp2 ?_⟩;rw [eV];refine tt ?_
   have hst : ∀ (K : Kont),(∀ q' H',OLL q' (.buf idX nX) (setT p' y i v)→Owns H0 H' (q'++((idS,sgO f g m X)::l))→K nv H')→st1 (H.get idR) idR i.toNat 1 [iI v] K H:=fun K hk=>hset v K hk
   by_cases h3 : 0≤ix (ix p' y) i
   ·rw [decide_eq_true h3];refine tt ?_;refine ⟨⟨hto.1,by omega⟩,rd_get hgX (by omega) ?_⟩;rw [hXr];refine tt ?_;refine ⟨⟨hac.1,hp2⟩,rd_inner (f:=iI) hgR hp2 ?_⟩;rw [eV];refine tt ?_
    by_cases h4 : ix (ix p' y) i=v
    ·rw [decide_eq_true h4];refine tt ?_;refine rd_get hgS (by simp) ?_;refine tt ?_;refine ⟨⟨hto.1,by omega⟩,rd_get hgX (by omega) ?_⟩;rw [hXr];refine tt ?_;refine ⟨⟨hac.1,hp2⟩,hst _ fun q' H hX' o=>?_⟩;rw [setT_same h4] at hX';refine tw w1 ?_;exact for_next (p',N,q') (by omega) ⟨hX',by rw [hsu]; exact hsm h4,(by simp only [sgO] at o ⊢; exact o.pm)⟩ rfl
    ·rw [decide_eq_false h4];refine tt ?_;exact ⟨H,.refl H,⟨false,[],rfl,(fun h=>by cases h),fun _=>hbd h3 h4⟩,(show Owns H0 H ((idS,sgO f g m X)::l) from o.subl (List.Sublist.cons_cons _ (List.sublist_append_right _ _)))⟩
   ·rw [decide_eq_false h3];refine tt ?_;refine rd_get hgS (by simp) ?_;refine tt ?_;refine ⟨⟨hto.1,by omega⟩,rd_get hgX (by omega) ?_⟩;rw [hXr];refine tt ?_;refine ⟨⟨hac.1,hp2⟩,hst _ fun q' H hX' o=>?_⟩;refine tw w1 ?_;exact for_next (_,N++[(y,i)],q') (by omega) ⟨hX',by rw [hsu]; exact hfr h3,(by simp only [sgO] at o ⊢; exact o.pm)⟩ rfl
 ·have h1p:=of_ndecide h1
  have eL : f.shape.frm.length=(f.acts.length):=by omega
  have h2p : a=f.shape.frm.length:=by omega
  have hfull : outK f.shape x a=(outs f.shape x).length:=by rw [h2p,outs,List.length_map]; rfl
  rw [hfull] at hS;refine tt ?_;refine wk_tab hX (o.pm : Owns H0 H (q++((idS,sgO f g m X)::l))) fun H hl o=>wkW_done ?_;refine tt ?_;refine fz_own o hl fun H o=>tt ?_;exact ⟨H,.refl H,⟨true,p',rfl,fun _=>⟨N,hS⟩,fun h=>by cases h⟩,o⟩
theorem gcho_ok (B : Nat) {f g : SF} {x e m : Int} (hf : f.Is) (hg : g.Is) (sh : f.shape=g.shape) (hx : 0≤x∧x<f.shape.objs) (he : 0≤e∧e<ix f.sizes x) {p : List (List Int)} (hP : PT f g p) {idS : Nat} {X : AV} {l : Ob} {H0 H : Heap}
  (o : Owns H0 H ((idS,sgO f g m X)::l)) :
  CallH Tryz.prog B 255 [.ref idS 0,iLL p,iI x,iI e] H fun r H'=>r=iL (choT f g p x e (ix g.sizes x).toNat)∧Owns H0 H' ((idS,sgO f g m X)::l):=by
 refine c255 (by simp) fun _=>?_
 have hX:=hg.1.inX (x:=x) (by rw [← sh]; exact hx)
 have h0:=hg.1.sz _ (ix_mem hX.2)
 obtain ⟨n,hn⟩ : ∃ n : Nat,ix g.sizes x=n:=⟨_,(Int.toNat_of_nonneg h0.1).symm⟩;rw [hn] at h0;rw [hn,Int.toNat_natCast];unfold s255;refine tt ?_;refine new_list iI o fun id H o=>tt ?_
 refine awp_for [0,1,2,3] (G:=Nat × List Int) (fun k g=>[(9,some (.buf g.1 g.2.length)),(10,some (.int .i64 (k : Int)))])
  (fun k G H=>G.2=choT f g p x e k∧Owns H0 H ((G.1,.cells 1 (G.2.map iI) 0)::(idS,sgO f g m X)::l)) n (id,[]) ⟨by simp [choT],o⟩ rfl ?_
 clear o
 rintro k ⟨id,out⟩ H hk ⟨hout,o⟩;dsimp only at hout o
 have hgS : H.get idS=some (sgO f g m X):=o.tl.h0
 have hol:=choT_len (f:=f) (g:=g) (p:=p) (x:=x) (e:=e) k;rw [← hout] at hol;refine tt ?_;refine rd_get hgS (by simp) ?_;refine tt ?_;refine ⟨hX, ?_⟩;rw [hn];refine tt ?_;apply bk <;> intro h1
 ·have h1p : k<n:=by have:=of_decide h1; omega
  have w1:=wsucc (k:=k) (by omega);refine tt ?_;refine (gset_ok B (d:=(k : Int)) ⟨hf,hg,sh,hx,he,by omega,by omega⟩ hP o.swap).mono ?_;clear o
  rintro r H ⟨⟨ok,p',rfl,ht,hno⟩,o⟩;refine tt ?_
  cases ok with
  | true =>
   obtain ⟨N,hS⟩:=ht rfl;refine tt ?_;refine app_own (k : Int) o.swap rfl rfl (by simp only [maxL]; omega) fun z H o=>?_;refine tw w1 ?_;exact for_next (z,out++[(k : Int)]) h1p ⟨by rw [hout,choT_t ⟨p',N,hS⟩],o⟩ rfl
  | false =>
   refine tw w1 ?_;exact for_next (id,out) h1p ⟨by rw [hout,choT_f (hno rfl)],o.swap⟩ rfl
 ·have h1p : ¬ k<n:=by have:=of_ndecide h1; omega
  obtain rfl : k=n:=by omega
  refine tt ?_;refine fz_own o rfl fun H o=>tt ?_;exact ⟨H,.refl H,by rw [hout],o⟩
def GoK (f g : SF) (most : Nat) (idS : Nat) (L : List (List (List Int))) (H0 : Heap) (l : Ob) : Kont:=fun r H'=>∃ (X : AV) (w : Ob),r=.tup []∧LsP iLL w X (L.take most)∧Owns H0 H' ((idS,sgO f g most X)::(w++l))
theorem ggo_ok (B : Nat) {f g : SF} (hf : f.Is) (hg : g.Is) (sh : f.shape=g.shape) (most : Nat) (hmost : most≤1000) (idS : Nat) :
  ∀ (n : Nat) (p : List (List Int)),unsetT f p=n→PT f g p→∀ (A : List (List (List Int))) (X : AV) (w l : Ob) (H0 H : Heap),A.length<most→LsP iLL w X A→Owns H0 H ((idS,sgO f g most X)::(w++l)) →
   CallH Tryz.prog B 179 [.ref idS 0,iLL p] H (GoK f g most idS (A++allMp f g p) H0 l):=by
 intro n
 induction n using Nat.strongRecOn with
 | _ n ih =>
 intro p hn hP A X w l H0 H hA hX o;refine c179 (by simp) fun _=>?_
 have hob:=hf.1.is.1.o
 have hsl:=hf.1.sl
 have hpl:=hP.len
 have hz0 : ∀ x,x<f.sizes.length→0≤f.sizes.getD x default∧f.sizes.getD x default<17:=fun x hx=>hf.1.sz _ (mem_getD.mpr ⟨x,hx,rfl⟩)
 have htk : (A++([] : List (List (List Int)))).take most=A:=by rw [List.append_nil]; exact List.take_of_length_le (by omega)
 unfold s179
 have w0 : IntKind.i64.wrap ((p.length : Int) - 1)=(p.length : Int) - 1 - ((0 : Nat) : Int):=by rw [wrap_i64 (by omega) (by omega)]; omega
 refine tw w0 ?_
 refine awp_for [0,1] (G:=Int × Int) (fun k g=>[(4,some (iI g.1)),(5,some (iI g.2)),(6,some (.int .i64 ((p.length : Int) - 1 - (k : Int))))])
  (fun k G H=>ScanT f p ((p.length : Int) - k) 0 G.1 G.2∧Owns H0 H ((idS,sgO f g most X)::(w++l))) p.length (-1,-1) ⟨.start (by omega),o⟩ rfl ?_
 clear o
 rintro k ⟨x,e⟩ H hk ⟨hS,o⟩;dsimp only at hS o;refine tt ?_;apply bk <;> intro h1
 ·have h1p : k<p.length:=by have:=of_decide h1; omega
  have w1 : IntKind.i64.wrap ((p.length : Int) - 1 - (k : Int) - 1)=(p.length : Int) - 1 - ((k+1 : Nat) : Int):=by rw [wrap_i64 (by omega) (by omega)]; omega
  obtain ⟨y,hy⟩ : ∃ y : Nat,(p.length : Int) - 1 - (k : Int)=y:=⟨p.length - 1 - k,by omega⟩
  have hyl : y<p.length:=by omega
  have hzy:=hz0 y (by omega)
  have hrow:=hP.row y (by omega)
  have w2 : IntKind.i64.wrap (((p.getD y default).length : Int) - 1)=((p.getD y default).length : Int) - 1 - ((0 : Nat) : Int):=by rw [wrap_i64 (by omega) (by omega)]; omega
  have hS1 : ScanT f p y (((p.getD y default).length : Int) - ((0 : Nat) : Int)) x e:=by
   have e1 : (p.length : Int) - k=(y : Int)+1:=by omega
   rw [e1] at hS;exact hS.row (by rw [ix_nat]; omega)
  rw [hy];refine tt ?_;refine ⟨by omega, ?_⟩;refine tw w2 ?_
  refine awp_for [0,1,6] (G:=Int × Int) (fun j g=>[(4,some (iI g.1)),(5,some (iI g.2)),(7,some (.int .i64 (((p.getD y default).length : Int) - 1 - (j : Int))))])
   (fun j G H=>ScanT f p y (((p.getD y default).length : Int) - j) G.1 G.2∧Owns H0 H ((idS,sgO f g most X)::(w++l))) (p.getD y default).length (x,e) ⟨hS1,o⟩ rfl ?_
  clear o hS hS1
  rintro j ⟨x,e⟩ H hj ⟨hS,o⟩;dsimp only at hS o;refine tt ?_;apply bk <;> intro h2
  ·have h2p : j<(p.getD y default).length:=by have:=of_decide h2; omega
   obtain ⟨d,hd⟩ : ∃ d : Nat,((p.getD y default).length : Int) - 1 - (j : Int)=d:=⟨(p.getD y default).length - 1 - j,by omega⟩
   have hdl : d<(p.getD y default).length:=by omega
   have w3 : IntKind.i64.wrap ((d : Int) - 1)=((p.getD y default).length : Int) - 1 - ((j+1 : Nat) : Int):=by rw [wrap_i64 (by omega) (by omega)]; omega
   have e1 : ((p.getD y default).length : Int) - j=(d : Int)+1:=by omega
   have e2 : ((p.getD y default).length : Int) - ((j+1 : Nat) : Int)=(d : Int):=by omega
   have hY : (0 : Int)≤(y : Int)∧(y : Int)<f.shape.objs:=by omega
   have hD : (0 : Int)≤(d : Int)∧(d : Int)<ix f.sizes (y : Int):=by rw [ix_nat]; omega
   have hv:=hP.val y d hY hD
   have eV : (p.getD y default).getD d default=ix (ix p (y : Int)) (d : Int):=by rw [ix_nat,ix_nat]
   rw [e1] at hS;rw [hd];refine tt ?_;refine ⟨by omega,hdl, ?_⟩;rw [eV];refine tt ?_;apply bk <;> intro h3
   ·have h3p : ix (ix p (y : Int)) (d : Int)=-1:=by have:=of_decide h3; omega
    refine tt ?_;refine (gcho_ok B hf hg sh hY hD hP o).mono ?_;clear o
    rintro r H ⟨rfl,o⟩;refine tt ?_;apply bk <;> intro h4
    ·have h4p : choT f g p y d (ix g.sizes (y : Int)).toNat=[]:=List.length_eq_zero_iff.mp (by rw [ix_nat]; have:=of_decide h4; omega)
     have hno:=allMp_eq hf hg sh hP (cho_none hf hg sh hP hY hD h4p);refine tt ?_;refine ⟨H,.refl H,X,w,rfl, ?_,o⟩;rw [← hno,htk]; exact hX
    ·refine tw w3 ?_;exact for_next ((y : Int),(d : Int)) (by omega) ⟨by rw [e2]; exact hS.hit hY hD h3p,o⟩ rfl
   ·have h3p : ix (ix p (y : Int)) (d : Int)≠-1:=by have:=of_ndecide h3; omega
    refine tw w3 ?_;exact for_next (x,e) (by omega) ⟨by rw [e2]; exact hS.keep h3p,o⟩ rfl
  ·have h2p : j=(p.getD y default).length:=by have:=of_ndecide h2; omega
   rw [← hy] at *;refine tw w1 ?_
   exact for_next (x,e) (by omega) ⟨by
    have e1 : (p.length : Int) - ((k+1 : Nat) : Int)=(p.length : Int) - 1 - k:=by omega
    rw [h2p,Int.sub_self] at hS;rw [e1]; exact hS,o⟩ rfl
 ·have h1p : k=p.length:=by have:=of_ndecide h1; omega
  rw [h1p,Int.sub_self] at hS;refine tt ?_
  have oX : Owns H0 H (w++((idS,sgO f g most X)::l)):=o.pm;apply bk <;> intro h2
  ·have h2p:=of_decide h2
   have hfull:=allMp_eq hf hg sh hP (lists_full hf hP (hS.none h2p))
   have hgS : H.get idS=some (sgO f g most X):=o.h0;refine tt ?_;refine rd_get hgS (by simp) ?_;refine tt ?_;refine (LsO.mk oX hX).app p rfl (by simp only [maxL]; omega) fun idn H o=>tt ?_;refine sw o.swap fun H o=>tt ?_;refine ⟨H,.refl H,.buf idn (A++[p]).length,[(idn,.cells 1 ((A++[p]).map iLL) 0)],rfl, ?_,o⟩;rw [← hfull,List.take_of_length_le (by simp; omega)];exact .inr ⟨idn,rfl,rfl⟩
  ·have h2p:=of_ndecide h2
   have hF:=hS.fst h2p
   obtain ⟨hx,he⟩ : _∧_:=⟨hF.hx,hF.he⟩
   have hgX:=hg.1.inX (x:=x) (by rw [← sh]; exact hx)
   have h0:=hg.1.sz _ (ix_mem hgX.2)
   obtain ⟨n,hn2⟩ : ∃ n : Nat,ix g.sizes x=n:=⟨_,(Int.toNat_of_nonneg h0.1).symm⟩
   have hat : ∀ d,0≤d→d<ix g.sizes x→At3 f g x e d:=fun d h1 h2=>⟨hf,hg,sh,hx,he,h1,h2⟩
   have hcl:=choT_len (f:=f) (g:=g) (p:=p) (x:=x) (e:=e) n;refine tt ?_;refine (gcho_ok B hf hg sh hx he hP o).mono ?_;clear o oX
   rintro r H ⟨rfl,o⟩;rw [hn2,Int.toNat_natCast];refine tt ?_
   refine awp_for [0,1,4,5,8] (G:=List (List (List Int)) × AV × Ob × Int) (fun i _=>[(9,some (.int .i64 (i : Int)))])
    (fun i G H=>ChoI f g p x e n i G.2.2.2 G.1∧LsP iLL G.2.2.1 G.2.1 ((A++G.1).take most)∧Owns H0 H ((idS,sgO f g most G.2.1)::(G.2.2.1++l))) (choT f g p x e n).length ([],X,w,0) ⟨.start hx he n,by rw [htk]; exact hX,o⟩ rfl ?_
   clear o hX
   rintro i ⟨M,X,w,b⟩ H hi ⟨hC,hX,o⟩;dsimp only at hC hX o
   have hgS : H.get idS=some (sgO f g most X):=o.h0
   have hlX:=hX.lenE;refine tt ?_
   by_cases h3 : i<(choT f g p x e n).length
   rotate_left 1
   ·rw [decide_eq_false (by omega)]
    obtain rfl : i=(choT f g p x e n).length:=by omega
    refine tt ?_;refine ⟨H,.refl H,X,w,rfl, ?_,o⟩;rw [← allMp_eq hf hg sh hP (hC.done hat hF hP hn2.symm)]; exact hX
   ·rw [decide_eq_true (by omega)];refine tt ?_;refine rd_get hgS (by simp) ?_;refine tw hlX ?_;refine rd_get hgS (by simp) ?_;refine tt ?_;apply bk <;> intro h4
    rotate_left 1
    ·have h4p:=of_ndecide h4
     have hle : most≤(A++M).length:=by rw [List.length_take] at h4p; omega
     refine tt ?_;refine ⟨H,.refl H,X,w,rfl, ?_,o⟩
     obtain ⟨R,hR⟩:=hC.acc.pre hF hP hsl (allMp_is hf hg sh hP);rw [← hR,← List.append_assoc,List.take_append_of_le_length hle]; exact hX
    ·have h4p:=of_decide h4
     have hlt : (A++M).length<most:=by rw [List.length_take] at h4p; omega
     have etk : (A++M).take most=A++M:=List.take_of_length_le (by omega);rw [etk] at hX
     have w1:=wsucc (k:=i) (by omega)
     obtain ⟨c,hc⟩ : ∃ c,(choT f g p x e n).getD i default=c:=⟨_,rfl⟩
     have hmc:=mem_choT.mp (mem_getD.mpr ⟨i,h3,hc⟩)
     have hatc:=hat c hmc.1.1 (by omega);refine tt ?_;refine ⟨h3, ?_⟩;rw [hc];refine (gset_ok B hatc hP o).mono ?_;clear o
     rintro r H ⟨⟨ok,p',rfl,ht,hno⟩,o⟩
     cases ok with
     | false=>exact absurd hmc.2 (hno rfl)
     | true =>
     obtain ⟨N,hSM⟩:=ht rfl;refine tt ?_;refine (ih (unsetT f p') (by rw [← hn]; exact hSM.less hatc hP hF.un) p' rfl (hSM.pt hatc hP) (A++M) X w l H0 H hlt hX o).mono ?_;clear o hX
     rintro r H ⟨X,w,rfl,hX,o⟩;refine tw w1 ?_;refine for_next (M++allMp f g p',X,w,c+1) (by omega) ⟨?_, ?_,o⟩ rfl
     ·exact hC.step hat hF hP hsl hn2.symm h3 hc (allMp_is hf hg sh (hSM.pt hatc hP)) fun t=>hSM.ext hatc hP t
     ·rw [← List.append_assoc]; exact hX
theorem blank_takeS (f : SF) {k : Nat} (hk : k<f.sizes.length) {n : Nat} (hn : f.sizes.getD k default=n) : (blankT f).take (k+1)=(blankT f).take k++[List.replicate n (-1)]:=by
 rw [take_one _ (by simpa [blankT] using hk)]
 congr 2
 rw [blankT,map_getD _ hk,hn,Int.toNat_natCast]
theorem gopen_ok (B : Nat) {f : SF} (hf : f.Shape) : Pur Tryz.prog B 180 [.agg f.cells] (iLL (blankT f)):=by
 refine ⟨fun H0=>c180p (by simp) fun _=>?_⟩
 have hob:=hf.is.1.o
 have hsl:=hf.sl
 have hz0 : ∀ x,x<f.sizes.length→0≤f.sizes.getD x default∧f.sizes.getD x default<17:=fun x hx=>hf.sz _ (mem_getD.mpr ⟨x,hx,rfl⟩);unfold s180p
 have o : Owns H0 H0 []:=.nil _;refine tt ?_;refine new_list iL o fun id H o=>tt ?_
 refine awp_for [1] (G:=Nat × List (List Int)) (fun k g=>[(3,some (.buf g.1 g.2.length)),(4,some (.int .i64 (k : Int)))])
  (fun k G H=>G.2=(blankT f).take k∧Owns H0 H [(G.1,.cells 1 (G.2.map iL) 0)]) f.sizes.length (id,[]) ⟨by simp,o⟩ rfl ?_
 clear o
 rintro k ⟨id,out⟩ H hk ⟨hout,o⟩;dsimp only at hout o
 have hol : out.length≤k:=by rw [hout,List.length_take]; omega
 refine tt ?_;apply bk <;> intro h1
 ·have h1p : k<f.sizes.length:=by have:=of_decide h1; omega
  have w1:=wsucc (k:=k) (by omega)
  have hzk:=hz0 k h1p
  obtain ⟨n,hn⟩ : ∃ n : Nat,f.sizes.getD k default=n:=⟨_,(Int.toNat_of_nonneg hzk.1).symm⟩;rw [hn] at hzk;refine tt ?_;refine new_list iI o fun idr H o=>tt ?_
  refine awp_for [1,3,4] (G:=Nat × List Int) (fun e g=>[(5,some (.buf g.1 g.2.length)),(6,some (.int .i64 (e : Int)))])
   (fun e G H=>G.2=List.replicate e (-1)∧Owns H0 H ((G.1,.cells 1 (G.2.map iI) 0)::[(id,.cells 1 (out.map iL) 0)])) n (idr,[]) ⟨by simp,o⟩ rfl ?_
  clear o
  rintro e ⟨idr,row⟩ H he ⟨hrow,o⟩;dsimp only at hrow o
  have hrl : row.length=e:=by rw [hrow]; simp
  refine tt ?_;refine ⟨h1p, ?_⟩;rw [hn];apply bk <;> intro h2
  ·have h2p : e<n:=by have:=of_decide h2; omega
   have w2:=wsucc (k:=e) (by omega);refine tt ?_;refine app_own (-1 : Int) o rfl rfl (by simp only [maxL]; omega) fun idr H o=>?_;refine tw w2 ?_;exact for_next (_,_) (by omega) ⟨by rw [hrow,← rep_succ],o⟩ rfl
  ·have h2p : e=n:=by have:=of_ndecide h2; omega
   refine tt ?_;refine fz_own o rfl fun H o=>tt ?_;refine app_own (f:=iL) row o rfl rfl (by simp only [maxL]; omega) fun id H o=>?_;refine tw w1 ?_;exact for_next (_,_) (by omega) ⟨by rw [hout,hrow,h2p,blank_takeS f h1p hn],o⟩ rfl
 ·have h1p : k=f.sizes.length:=by have:=of_ndecide h1; omega
  refine tt ?_;refine fz_own o rfl fun H o=>tt ?_;exact pure_ret (by rw [hout,h1p,List.take_of_length_le (by simp [blankT])]) o.sub
theorem gmaps_ok (B : Nat) {f g : SF} (hf : f.Is) (hg : g.Is) (sh : f.shape=g.shape) (most : Nat) (h0 : 0<most) (hmost : most≤1000) : Pur Tryz.prog B 81 [.agg f.cells,.agg g.cells,.bool false,iI most] (iLLL ((allMp f g (blankT f)).take most)):=by
 refine ⟨fun H0=>c81p (by simp) fun _=>?_⟩;unfold s81p
 have o : Owns H0 H0 []:=.nil _;refine tt ?_;refine nb o fun idS H o=>tt ?_;refine (gopen_ok B hf.1).go fun _=>tt ?_;refine (ggo_ok B hf hg sh most hmost idS _ (blankT f) rfl (blank_pt hf.1) [] .nilsl [] [] H0 H h0 (.inl ⟨rfl,rfl,rfl⟩) o).mono ?_;clear o
 rintro r H ⟨X,w,rfl,hX,o⟩;rw [List.nil_append] at hX;refine tt ?_;refine rd_cells o (by simp) ?_;refine tt ?_
 have o : Owns H0 H (w++[(idS,sgO f g most X)]):=o.pm
 rcases hX with ⟨rfl,rfl,hM⟩ | ⟨idn,rfl,rfl⟩
 ·refine tt ?_;exact pure_ret (by rw [hM]; rfl) o.sub
 ·refine fz_own (f:=iLL) o rfl fun H o=>tt ?_;exact pure_ret rfl o.sub
theorem l19Count_ok (B : Nat) (f : SF) (hl : f.sizes.length≤8) (hz : ∀ y,y∈f.sizes→0≤y∧y<17) : Pur Tryz.prog B 178 [.agg f.cells] (iI f.sizes.sum):=by
 refine ⟨fun H0=>c178 (by simp) fun _=>?_⟩;unfold s178;refine tt ?_;refine awp_for [1] (G:=Unit) (fun k _=>[(3,some (.int .i64 (f.sizes.take k).sum)),(4,some (.int .i64 (k : Int)))]) (fun k _ H=>H=H0∧0≤(f.sizes.take k).sum∧(f.sizes.take k).sum≤17*k) f.sizes.length () ⟨rfl,by simp,by simp⟩ rfl ?_
 rintro k _ H hk ⟨rfl,hs⟩;refine tt ?_;apply bk <;> intro h1
 ·have h1:=of_decide h1
  have w1:=wsucc (k:=k) (by omega)
  have hsz:=hz _ (mem_getD.mpr ⟨k,h1,rfl⟩)
  have e : (f.sizes.take (k+1)).sum=(f.sizes.take k).sum+f.sizes.getD k default:=by rw [take_succ' _ h1]; simp
  have w2 : IntKind.i64.wrap ((f.sizes.take k).sum+f.sizes.getD k default)=(f.sizes.take (k+1)).sum:=by rw [wrap_i64 (by omega) (by omega),e]
  refine tt ?_;refine ⟨h1, ?_⟩;try simp only [go_sem,↓reduceIte,reduceEqDiff,reduceAdd,reduceMul,reduceLeDiff,reduceLT,w1,w2]
  exact for_next () (by omega) ⟨rfl,by omega,by omega⟩ rfl
 ·have h1:=of_ndecide h1
  obtain rfl : k=f.sizes.length:=by omega
  refine tt ?_;exact pure_ret (by rw [List.take_length]) (.refl _)
noncomputable def AllMR (f g : SF) : AV:=if 12<f.sizes.sum∨200<(allMp f g (blankT f)).length then .tup [iLLL [],iI 3] else .tup [iLLL (allMp f g (blankT f)),iI 0]
theorem implMaps_ok (B : Nat) {f g : SF} (hf : f.Is) (hg : g.Is) (sh : f.shape=g.shape) : Rets B 16 [.agg f.cells,.agg g.cells] (fun r=>r=AllMR f g):=by
 intro H0;refine (allSetMaps2_ok B hf hg sh H0).mono ?_
 rintro r H ⟨⟨L,k,e,hk⟩,rfl⟩;refine ⟨?_,rfl⟩;subst e
 rcases hk with ⟨rfl,rfl,h2,h3⟩ | ⟨rfl,rfl,h2⟩
 ·rw [AllMR,if_neg (by omega)]
 ·rw [AllMR,if_pos h2]
theorem l19CodeE_ok (B : Nat) {f g : SF} (hf : f.Is) (hg : g.Is) : Pur Tryz.prog B 80 [.agg f.cells,.agg g.cells] (iI (if dec (f.shape=g.shape) then (if 12<f.sizes.sum then 3 else 0) else 5)):=by
 have hob:=hf.1.is.1.o
 have hsl:=hf.1.sl;refine ⟨fun H0=>c80 (by simp) fun _=>?_⟩;unfold s80;refine tt ?_;refine (l19Is_ok B f).go fun _=>?_;rw [dec_t hf];refine tt ?_;refine (l19Is_ok B g).go fun _=>?_;rw [dec_t hg];refine tt ?_;refine (l02Same_ok B f.shape g.shape).go fun _=>?_
 by_cases sh : f.shape=g.shape
 ·rw [dec_t sh,if_pos rfl];refine tt ?_;refine (l19Count_ok B f (by omega) fun y hy=>hf.1.sz y hy).go fun _=>tt ?_;apply bk <;> intro h1
  ·have h1p:=of_decide h1;refine tt ?_;exact pure_ret (by rw [if_pos h1p]) (.refl _)
  ·have h1p:=of_ndecide h1;refine tt ?_;exact pure_ret (by rw [if_neg h1p]) (.refl _)
 ·rw [dec_f sh];refine tt ?_;exact pure_ret rfl (.refl _)
theorem setsCodeE_ok (B : Nat) {f g : SF} (hf : f.Is) (hg : g.Is) (sh : ¬ f.shape=g.shape) : Pur Tryz.prog B 77 [.ptr f.cells,.ptr g.cells] (iI 5):=by
 refine ⟨fun H0=>c77 (by simp) fun _=>?_⟩;unfold s77;refine tt ?_;refine (show Pur Tryz.prog B _ [.sl [.ptr f.cells,.ptr g.cells]] _ from areSetFunctors_ok B [f,g]).go fun _=>?_;rw [dec_t (by simp [hf,hg])];refine tt ?_;refine ⟨_,(sameCategory_ok B f.shape g.shape).run, ?_⟩;rw [dec_f sh];refine tt ?_;exact pure_ret rfl (.refl _)
open Classical in
noncomputable def AllME (f g : SF) : AV:=if f.shape=g.shape then AllMR f g else .tup [iLLL [],iI 5]
theorem specMapsE_ok (B : Nat) {f g : SF} (hf : f.Is) (hg : g.Is) : Pur Tryz.prog B 17 [.agg f.cells,.agg g.cells] (AllME f g):=by
 refine ⟨fun H0=>c17 (by simp) fun _=>?_⟩;unfold s17;refine tt ?_;refine (l19CodeE_ok B hf hg).go fun _=>?_
 by_cases sh : f.shape=g.shape
 rotate_left
 ·have h5 : decide ((5 : Int)=0)=false:=rfl
  have hr : AllME f g=.tup [iLLL [],iI 5]:=by rw [AllME,if_neg sh]
  rw [dec_f sh,show (if (false : Bool)=true then (if 12<f.sizes.sum then (3 : Int) else 0) else 5)=5 from rfl]
  refine tw h5 ?_;rw [hr];exact pure_ret rfl (.refl _)
 rw [dec_t sh,show (if (true : Bool)=true then (if 12<f.sizes.sum then (3 : Int) else 0) else 5)=(if 12<f.sizes.sum then (3 : Int) else 0) from rfl]
 have hr : AllME f g=AllMR f g:=by rw [AllME,if_pos sh]
 rw [hr]
 by_cases h1 : 12<f.sizes.sum
 ·rw [if_pos h1]
  have hd : decide ((3 : Int)=0)=false:=rfl;refine tw hd ?_;exact pure_ret (by rw [AllMR,if_pos (.inl h1)]; rfl) (.refl _)
 rw [if_neg h1];refine td ?_;refine (gmaps_ok B hf hg sh 201 (by omega) (by omega)).go fun _=>?_
 obtain ⟨n,hn⟩ : ∃ n,((allMp f g (blankT f)).take 201).length=n:=⟨_,rfl⟩
 have hn2:=hn;rw [List.length_take] at hn2;refine tw hn ?_;apply bk <;> intro h2
 ·have h2p : 200<n:=by have:=of_decide h2; omega
  refine tt ?_;exact pure_ret (by rw [AllMR,if_pos (.inr (by omega))]; rfl) (.refl _)
 ·have h2p : ¬ 200<n:=by have:=of_ndecide h2; omega
  refine tt ?_;exact pure_ret (by rw [AllMR,if_neg (by omega),List.take_of_length_le (by omega)]) (.refl _)
theorem implMapsE_ok (B : Nat) {f g : SF} (hf : f.Is) (hg : g.Is) : Rets B 16 [.agg f.cells,.agg g.cells] (fun r=>r=AllME f g):=by
 by_cases sh : f.shape=g.shape
 ·have hr : AllME f g=AllMR f g:=by rw [AllME,if_pos sh]
  rw [hr]; exact implMaps_ok B hf hg sh
 ·intro H0
  have hr : AllME f g=.tup [iLLL [],iI 5]:=by rw [AllME,if_neg sh]
  rw [hr];refine c16 (by simp) fun _=>?_;unfold s16
  have h5 : decide ((5 : Int)=0)=false:=rfl;refine tt ?_;refine (setsCodeE_ok B hf hg sh).go fun _=>?_;refine tw h5 ?_;exact rets_ret rfl (.refl _)
end Go.Proofs.Shf
namespace Go.AW
end Go.AW
namespace Go.Proofs.Shf
open Go.AW Go.Proofs Go.Shf
end Go.Proofs.Shf
namespace Go.Shf
open Go.AW Go.Proofs.Shf
end Go.Shf
namespace Go.AW
end Go.AW
namespace Go.Proofs.Shf
open Go.AW Go.Proofs Go.Shf
end Go.Proofs.Shf
namespace Go.Shf
open Go.AW
end Go.Shf
namespace Go.Proofs.Shf
open Go.AW Go.Proofs Go.Shf
end Go.Proofs.Shf
namespace Go.Shf
open Go.AW Go.Proofs.Shf
end Go.Shf
namespace Go.Proofs.Shf
open Go.AW Go.Proofs Go.Shf
end Go.Proofs.Shf
namespace Go.AW
open Go.RowKit
def FinP (g : Gh) (B : Nat) (w : World) (X : Heap→Prop) (w' : World) : Prop:=∃ g' H',g.le g'∧X H'∧WRel g' B H' w'∧Below B w w'
def Chn (ch : List PanicEntry) : Prop:=∃ t v,ch=[{ v:=.iface t v,recovered:=false }]
def CallX (P : Program) (B : Nat) (f : FuncId) (args : List AV) (H : Heap) (K : Kont) (X : Heap→Prop) : Prop :=
 Enters P f∧∀ g w vs,WRel g B H w→VRels g args vs→Calls P f vs w fun e w'=>(∃ v,e=.returned v∧FinV g B w K v w')∨∃ ch,e=.panicked ch∧Chn ch∧FinP g B w X w'
def callXW (P : Program) (B : Nat) : Option AV→Option (List AV)→Kont→(Heap→Prop)→Heap→Prop
 | some (.fn (.func f) ca),some ais,K,X,H=>CallX P B f (ais++ca) H K X
 | _,_,_,_,_=>False
@[go_sem] theorem callXW_fn {P : Program} {B : Nat} {H : Heap} (f : FuncId) (ca ais : List AV) (K : Kont) (X : Heap→Prop) : callXW P B (some (.fn (.func f) ca)) (some ais) K X H=CallX P B f (ais++ca) H K X:=rfl
inductive XC where
 | sc (s : SC)
 | seq (a b : XC)
 | cond (x : X) (a b : XC)
 | block (id : Nat) (c : XC)
 | loop (l : List Nat) (c : XC)
 | keep (l : List Nat) (c : XC)
 | callx (pre : List SOp) (d : Option Nat) (f : X) (xs : List X)
 | pnc (pre : List SOp) (x : X)
def isI : Option AV→Prop
 | some (.ifc _ _)=>True
 | _=>False
@[go_sem] theorem isI_ifc (t : TypeId) (v : AV) : isI (some (.ifc t v))=True:=rfl
def pncW (x : X) (X0 : Heap→Prop) (σ : Env) (H : Heap) : Prop:=isI (val σ x)∧X0 H
def clxW (P : Program) (B : Nat) (d : Option Nat) (f : X) (xs : List X) (F : Env→Heap→Prop) (X0 : Heap→Prop) (σ : Env) (H : Heap) : Prop :=
 callXW P B (val σ f) (vals σ xs) (putK d F σ) X0 H
def xwp (P : Program) (B : Nat) : XC→AQ→(Heap→Prop)→Env→Heap→Prop
 | .sc s,Q,_,σ,H=>awp P B s Q σ H
 | .seq a b,Q,X0,σ,H=>xwp P B a (seqQ (xwp P B b Q X0) Q) X0 σ H
 | .cond x a b,Q,X0,σ,H=>cndW (val σ x) (xwp P B a Q X0) (xwp P B b Q X0) σ H
 | .block id c,Q,X0,σ,H=>xwp P B c (blkQ id Q) X0 σ H
 | .loop l c,Q,X0,σ,H=>loopW l (fun Q=>xwp P B c Q X0) Q (Env.keep l σ) H
 | .keep l c,Q,X0,σ,H=>xwp P B c Q X0 (Env.keep l σ) H
 | .callx pre d f xs,Q,X0,σ,H=>opsW P B pre (clxW P B d f xs (Q .norm) X0) σ H
 | .pnc pre x,_,X0,σ,H=>opsW P B pre (pncW x X0) σ H
section
variable {P : Program} {B : Nat} {Q : AQ} {X0 : Heap→Prop} {σ : Env} {H : Heap}
@[go_sem] theorem xwp_sc (s : SC) : xwp P B (.sc s) Q X0 σ H=awp P B s Q σ H:=rfl
@[go_sem] theorem xwp_seq (a b : XC) : xwp P B (.seq a b) Q X0 σ H=xwp P B a (seqQ (xwp P B b Q X0) Q) X0 σ H:=rfl
@[go_sem] theorem xwp_cond (x : X) (a b : XC) : xwp P B (.cond x a b) Q X0 σ H=cndW (val σ x) (xwp P B a Q X0) (xwp P B b Q X0) σ H:=rfl
@[go_sem] theorem xwp_block (id : Nat) (c : XC) : xwp P B (.block id c) Q X0 σ H=xwp P B c (blkQ id Q) X0 σ H:=rfl
@[go_sem] theorem xwp_keep (l : List Nat) (c : XC) : xwp P B (.keep l c) Q X0 σ H=xwp P B c Q X0 (Env.keep l σ) H:=rfl
@[go_sem] theorem xwp_callx (pre : List SOp) (d : Option Nat) (f : X) (xs : List X) : xwp P B (.callx pre d f xs) Q X0 σ H=opsW P B pre (clxW P B d f xs (Q .norm) X0) σ H:=rfl
@[go_sem] theorem xwp_pnc (pre : List SOp) (x : X) : xwp P B (.pnc pre x) Q X0 σ H=opsW P B pre (pncW x X0) σ H:=rfl
@[go_sem] theorem clxW_eq (d : Option Nat) (f : X) (xs : List X) (F : Env→Heap→Prop) : clxW P B d f xs F X0 σ H=callXW P B (val σ f) (vals σ xs) (putK d F σ) X0 H:=rfl
@[go_sem] theorem pncW_eq (x : X) : pncW x X0 σ H=(isI (val σ x)∧X0 H):=rfl
end
end Go.AW
namespace Go.AW
open Go.RowKit
end Go.AW
namespace Go.AW
open Go.RowKit
end Go.AW
