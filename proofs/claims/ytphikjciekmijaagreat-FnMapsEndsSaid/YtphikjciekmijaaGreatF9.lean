/- A part of a proof. -/
import Derived.Test.YtphikjciekmijaaGreatF8
set_option linter.unusedVariables false
set_option linter.unusedSimpArgs false
set_option linter.unusedSectionVars false
set_option maxRecDepth 100000
open Nat (reduceEqDiff reduceAdd reduceMul reduceLeDiff reduceLT)
namespace Go.Shf
open Go.AW
end Go.Shf
namespace Go.Proofs.Shf
open Go.AW Go.Proofs Go.Shf
end Go.Proofs.Shf
namespace Go.AW
end Go.AW
namespace Go.Shf
open Go.AW Go.Proofs.Shf
end Go.Shf
namespace Go.Proofs.Shf
open Go.AW Go.Proofs Go.Shf
end Go.Proofs.Shf
namespace Go.AW
theorem set_selfT {l : List AV} {i : Nat} (h : i<l.length) : l.set i (l.getD i nv)=l:=by
 apply List.ext_getElem?
 intro j
 by_cases e : j=i
 ·subst e; simp [List.getD_eq_getElem?_getD,h]
 ·rw [List.getElem?_set_ne (by omega)]
theorem LsG.lenT {α : Type} {O : Ob→AV→α→Prop} {p : Ob} {X : AV} {A : List α} (h : LsG O p X A) : lenE (some X)=some (True,.int .i64 A.length):=by
 rcases h with ⟨_,rfl,rfl⟩ | ⟨id,Xs,o,_,rfl,hr⟩
 ·rfl
 ·simp [Go.AW.lenE,hr.len]
theorem LsG.posT {α : Type} {O : Ob→AV→α→Prop} {p : Ob} {X : AV} {A : List α} (h : LsG O p X A) {i : Nat} (hi : i<A.length) : ∃ id Xs o,p=(id,.cells 1 Xs 0)::o∧X=.buf id Xs.length∧RowsG O Xs A o:=by
 rcases h with ⟨_,_,rfl⟩ | h
 ·simp at hi
 ·exact h
theorem Owns.rowT {α : Type} [Inhabited α] {O : Ob→AV→α→Prop} {H0 H : Heap} {l q : Ob} {id : Nat} {Xs : List AV} {A : List α} (o : Owns H0 H (((id,.cells 1 Xs 0)::q)++l)) (hr : RowsG O Xs A q) {i : Nat} (hi : i<Xs.length) :
  ∃ p r,Owns H0 H (p++((id,.cells 1 Xs 0)::(r++l)))∧O p (Xs.getD i nv) (A.getD i default) ∧
   ∀ a' p' H',O p' (Xs.getD i nv) a'→Owns H0 H' (p'++((id,.cells 1 Xs 0)::(r++l)))→∃ q',RowsG O Xs (A.set i a') q'∧Owns H0 H' (((id,.cells 1 Xs 0)::q')++l):=by
 obtain ⟨p,r,h1,h2,h3⟩:=hr.split i hi;refine ⟨p,r,o.perm ?_,h2,fun a' p' H' hO o'=>?_⟩
 ·refine List.Perm.trans ?_ (List.perm_middle (a:=(id,MObj.cells 1 Xs 0)) (l₁:=p) (l₂:=r++l)).symm;refine List.Perm.cons _ ?_;rw [← List.append_assoc];exact List.Perm.append_right l h1
 ·obtain ⟨q',k1,k2⟩:=h3 _ _ _ hO;rw [set_selfT hi] at k1;refine ⟨q',k1,o'.perm ?_⟩;refine List.Perm.trans (List.perm_middle (a:=(id,MObj.cells 1 Xs 0)) (l₁:=p') (l₂:=r++l)) ?_;refine List.Perm.cons _ ?_;rw [← List.append_assoc];exact List.Perm.append_right l k2.symm
theorem RowsG.intsT {Xs : List AV} {l : List Int} {o : Ob} (h : RowsG OI Xs l o) : o=[]∧Xs=l.map iI:=by
 induction h with
 | nil=>exact ⟨rfl,rfl⟩
 | cons h _ ih=>exact ⟨by rw [h.1,ih.1]; rfl,by rw [h.2,ih.2]; rfl⟩
theorem rowsIT : ∀ (l : List Int),RowsG OI (l.map iI) l []
 | []=>.nil
 | a::r=>.cons (p:=[]) ⟨rfl,rfl⟩ (rowsIT r)
theorem LsG.appT {α : Type} {O : Ob→AV→α→Prop} {p q l : Ob} {X Y : AV} {A : List α} {a : α} {H0 H : Heap} {K : Kont} (h : LsG O q X A) (hy : O p Y a) (h1 : Y.cells=[Y]∧Y.one=true) (o : Owns H0 H (p++(q++l))) (hm : A.length+1≤maxL)
  (hk : ∀ X' q' H',X'.one=true→LsG O q' X' (A++[a])→Owns H0 H' (q'++l)→K X' H') : appW 1 (some X) (some (.sl [Y])) K H:=by
 have hok : okEls 1 [Y]:=by
  intro e he;rw [List.mem_singleton] at he; subst he;rw [h1.1];exact ⟨rfl,fun c hc=>by rw [List.mem_singleton] at hc; subst hc; exact h1.2⟩
 have hfl : flat [Y]=[Y]:=by simp [flat,h1.1]
 rcases h with ⟨rfl,rfl,rfl⟩ | ⟨id,Xs,r,rfl,rfl,hr⟩
 ·simp only [appW,srcOf,app1];refine ⟨⟨by simp [maxL],by simp [maxL],hok⟩,fun id hn=>?_⟩;rw [hfl];refine hk (.buf id 1) ((id,.cells 1 [Y] 0)::p) _ rfl (.inr ⟨id,[Y],p,rfl,rfl, ?_⟩) ?_
  ·have:=RowsG.cons hy RowsG.nil;rw [List.append_nil] at this; exact this
  ·have:=o.new hn (.cells 1 [Y] 0)
   simpa using this
 ·have o2 : Owns H0 H ((id,.cells 1 Xs 0)::(p++(r++l))):=by
   refine o.perm ?_
   simp
  have h0:=o2.h0;simp only at h0
  have hl:=hr.len;simp only [appW,h0,srcOf,app2];refine ⟨⟨trivial,by simp,by simp; omega,by simp; omega,hok⟩,fun id' hn=>?_⟩;rw [hfl];refine hk (.buf id' (Xs.length+1)) ((id',.cells 1 (Xs++[Y]) 0)::(r++p)) _ rfl (.inr ⟨id',Xs++[Y],r++p,rfl,by simp, ?_⟩) ?_
  ·refine hr.app ?_
   have:=RowsG.cons hy RowsG.nil;rw [List.append_nil] at this; exact this
  ·have:=o2.mv hn (.cells 1 (Xs++[Y]) 0);refine this.perm (List.Perm.cons _ ?_);rw [← List.append_assoc];exact List.Perm.append_right l List.perm_append_comm
theorem tab_row {H0 H : Heap} {q l : Ob} {X : AV} {p : List (List Int)} (hX : OLL q X p) (o : Owns H0 H (q++l)) {y : Nat} (hy : y<p.length) :
  ∃ idX Xs,X=.buf idX Xs.length∧Xs.length=p.length∧H.get idX=some (.cells 1 Xs 0)∧∃ pr,OL pr (Xs.getD y nv) (p.getD y default)∧∀ x,x∈pr→H.get x.1=some x.2:=by
 obtain ⟨idX,Xs,r,rfl,rfl,hr⟩:=hX.posT hy
 have hl:=hr.len
 obtain ⟨pr,r2,o2,hO,_⟩:=o.rowT hr (i:=y) (by omega);exact ⟨idX,Xs,rfl,hl,o.h0,pr,hO,fun x hx=>o2.get x (List.mem_append_left _ hx)⟩
theorem tab_cell {H0 H : Heap} {q l : Ob} {X : AV} {p : List (List Int)} (hX : OLL q X p) (o : Owns H0 H (q++l)) {y i : Nat} (hy : y<p.length) (hi : i<(p.getD y default).length) :
  ∃ idX Xs idR,X=.buf idX Xs.length∧Xs.length=p.length∧H.get idX=some (.cells 1 Xs 0)∧Xs.getD y nv=.buf idR (p.getD y default).length∧H.get idR=some (.cells 1 ((p.getD y default).map iI) 0) ∧
   ∀ (k : Int) (K : Kont),(∀ q' H',OLL q' X (p.set y ((p.getD y default).set i k))→Owns H0 H' (q'++l)→K nv H')→st1 (H.get idR) idR i 1 [iI k] K H:=by
 obtain ⟨idX,Xs,r,rfl,rfl,hr⟩:=hX.posT hy
 have hl:=hr.len
 obtain ⟨pr,r2,o2,hO,back⟩:=o.rowT hr (i:=y) (by omega)
 obtain ⟨idR,Ys,rr,rfl,hY,hrr⟩:=hO.posT hi
 obtain ⟨rfl,rfl⟩:=hrr.intsT;rw [List.length_map] at hY;refine ⟨idX,Xs,idR,rfl,hl,o.h0,hY,o2.h0,fun k K hk=>?_⟩;refine set_own (f:=iI) k o2 rfl hi fun H' o3=>?_
 obtain ⟨q',hr',o4⟩:=back ((p.getD y default).set i k) [(idR,.cells 1 (((p.getD y default).set i k).map iI) 0)] H' (by rw [hY]; exact .inr ⟨idR,_,[],rfl,by simp,rowsIT _⟩) o3;exact hk _ H' (.inr ⟨idX,Xs,q',rfl,rfl,hr'⟩) o4
theorem New.lentQ {α : Type} {O : Ob→AV→α→Prop} {f : α→AV} {a : α} {P : Program} {B : Nat} {fn : FuncId} {args es : List AV} {H : Heap} {K : Kont} (hO : Ow O f) (h : New P B fn es fun p X=>O p X a) (hl : es.length=args.length)
  (ht : ∀ i,i<args.length→∀ g w v,WRel g B H w→VRel g (args.getD i nv) v→VRel (g.lend H w) (es.getD i nv) v)
  (hk : ∀ H',H.sub H'→K (f a) H') : CallH P B fn args H K:=by
 have h1 : CallH P B fn args H fun r H'=>∃ p,O p r a∧Owns H H' (p++[]):=New.lent hO h (Owns.nil H) hl ht fun r p H' q o=>⟨p,q,o⟩;refine ⟨h1.1,fun g w vs hW hv=>?_⟩;refine (h1.2 g w vs hW hv).mono fun e w' ⟨v,he,g',r,H',q1,⟨p,q2,q3⟩,q4,q5,q6⟩=>?_
 obtain ⟨g2,H2,r1,r2,r3,r4⟩:=hO.fz p r a q2 g' B H H' [] w' q5 q3;exact ⟨v,he,g2,f a,H2,q1.trans r1,hk H2 r3.sub,r4 v q4,r2,q6⟩
end Go.AW
namespace Go.AW
@[go_sem] def prE (q : Int × Int) : AV:=.agg [iI q.1,iI q.2]
instance : AggN 2 prE:=⟨by omega,fun _=>rfl,fun _=>rfl,fun a c hc=>by
 simp only [prE,AV.cells,List.mem_cons,List.not_mem_nil,or_false] at hc
 rcases hc with rfl | rfl <;> rfl⟩
end Go.AW
namespace Go.Proofs.Shf
open Go.AW Go.Proofs Go.Shf
@[go_sem] def srO (f g : SF) (X fv : AV) : MObj:=.cells 5 [.ptr f.cells,.ptr g.cells,.bool false,X,fv] 0
theorem set_ok (B : Nat) {f g : SF} {x e d : Int} (w : At3 f g x e d) {p : List (List Int)} (hP : PT f g p) {idS idN idB : Nat} {fv X : AV} {q l : Ob} {H0 H : Heap} (hX : OLL q X p)
  (o : Owns H0 H ((idS,srO f g X fv)::(idN,.cells 1 [.buf idB 0] 0)::(idB,.cells 2 [] 0)::(q++l))) :
  CallH Tryz.prog B 285 [.ref idS 0,iI x,iI e,iI d,.ref idN 0] H fun r H'=>∃ (ok : Bool) (k : Nat) (p' : List (List Int)) (N : List (Int × Int)) (q' : Ob) (idB' : Nat),r=.bool ok∧OLL q' X p' ∧
   Owns H0 H' ((idS,srO f g X fv)::(idN,.cells 1 [.buf idB' N.length] 0)::(idB',.cells 2 (flat (N.map prE)) 0)::(q'++l))∧SetM f g p x e d k p' N∧k≤(outs f.shape x).length ∧
   (ok=true→k=(outs f.shape x).length)∧(ok=false→∀ t,ExtT f g p t→ix (ix t x) e≠d):=by
 refine c285p (by simp) fun _=>?_
 have hm:=w.hf.1.is.1.m
 have hob:=w.hf.1.is.1.o
 have htl:=w.hf.1.is.1.tol
 have hol : (outs f.shape x).length≤40:=by
  rw [outs,List.length_map];refine Nat.le_trans (List.length_filter_le _ _) ?_;rw [List.length_range]; omega
 have hgal : g.acts.length=f.shape.frm.length:=by have:=w.hg.1.al; rw [← w.sh] at this; exact this
 unfold s285p;refine tt ?_;refine rd_cells o (by simp) ?_;refine tt ?_;refine (outOf_ok B f.shape x).go fun _=>tt ?_
 refine awp_for [0,2,3,4,11,25,26] (G:=List (List Int) × List (Int × Int) × Ob × Nat) (fun k _=>[(27,some (.int .i64 (k : Int)))])
  (fun k G H=>OLL G.2.2.1 X G.1∧SetM f g p x e d k G.1 G.2.1∧Owns H0 H ((idS,srO f g X fv)::(idN,MObj.cells 1 [.buf G.2.2.2 G.2.1.length] 0)::(G.2.2.2,MObj.cells 2 (flat (G.2.1.map prE)) 0)::(G.2.2.1++l))) (outs f.shape x).length (p,[],q,idB) ⟨hX,.zero f g p x e d,o⟩ rfl ?_
 clear o hX
 rintro k ⟨p',N,q,idB⟩ H hk ⟨hX,hS,o⟩;dsimp only at hX hS o;refine tt ?_;apply bk <;> intro h1
 ·have h1p:=of_decide h1
  have w1:=wsucc (k:=k) (by omega)
  obtain ⟨a,ea⟩ : ∃ a,(outs f.shape x).getD k default=a:=⟨_,rfl⟩
  have hA:=w.arr (b:=a) (mem_getD.mpr ⟨k,h1p,ea⟩)
  have hin:=hP.inT w.hf.1 hA.2.2.1 hA.2.2.2.1
  have hfin:=w.hf.1.inAct hA.1 (e:=e) (by rw [hA.2.1]; exact w.he)
  have hgin:=w.hg.1.inAct (a:=a) (e:=d) (by rw [← w.sh]; exact hA.1) (by rw [← w.sh,hA.2.1]; exact w.hd)
  have hal:=w.hf.1.al
  have hp1 : (ix f.shape.to a).toNat<p'.length:=by rw [hS.len]; exact hin.1.2
  have hp2 : (ix (ix f.acts a) e).toNat<(p'.getD (ix f.shape.to a).toNat default).length:=by rw [hS.row]; exact hin.2.2
  have o1 : Owns H0 H (q++((idS,srO f g X fv)::(idN,.cells 1 [.buf idB N.length] 0)::(idB,.cells 2 (flat (N.map prE)) 0)::l)):=o.pm
  obtain ⟨idX,Xs,idR,rfl,hXl,hgX,hXr,hgR,hset⟩:=tab_cell hX o1 hp1 hp2
  have hgS : H.get idS=some (srO f g (.buf idX Xs.length) fv):=o.h0;refine tt ?_;refine ⟨h1p, ?_⟩;rw [ea];refine tt ?_;refine ⟨⟨hA.1.1,by omega⟩, ?_⟩;refine rd_get hgS (by simp) ?_;refine tt ?_;refine ⟨⟨hA.1.1,by omega⟩,hfin,rd_get hgS (by simp) ?_⟩;refine tt ?_;refine ⟨⟨hA.1.1,by omega⟩,hgin, ?_⟩;refine rd_get hgS (by simp) ?_;refine tt ?_;refine ⟨⟨hA.2.2.1.1,by omega⟩,rd_get hgX (by omega) ?_⟩;rw [hXr];refine tt ?_;refine ⟨⟨hA.2.2.2.1.1,hp2⟩,rd_inner (f:=iI) hgR hp2 ?_⟩
  have eV : (p'.getD (ix f.shape.to a).toNat default).getD (ix (ix f.acts a) e).toNat default=ix (ix p' (ix f.shape.to a)) (ix (ix f.acts a) e):=rfl;rw [eV];refine tt ?_;apply bk <;> intro h2
  ·have h2p : 0≤ix (ix p' (ix f.shape.to a)) (ix (ix f.acts a) e):=of_decide h2;refine tt ?_;refine rd_get hgS (by simp) ?_;refine tt ?_;refine ⟨⟨hA.2.2.1.1,by omega⟩,rd_get hgX (by omega) ?_⟩;rw [hXr];refine tt ?_;refine ⟨⟨hA.2.2.2.1.1,hp2⟩,rd_inner (f:=iI) hgR hp2 ?_⟩;rw [eV];refine tt ?_;apply bk <;> intro h3
   ·have h3p:=dd h3;refine tt ?_;exact ⟨H,.refl H,false,k,p',N,q,idB,rfl,hX,o,hS,hk,(fun h=>by cases h),fun _ t ht=>hS.bad w h1p ea h2p h3p t ht⟩
   ·have h3p:=dd h3;refine tw w1 ?_;exact for_next (p',N,q,idB) (by omega) ⟨hX,hS.same h1p ea h3p,o⟩ rfl
  ·have h2p : ¬ 0≤ix (ix p' (ix f.shape.to a)) (ix (ix f.acts a) e):=of_ndecide h2
   have hNl:=hS.nl
   have hfr:=hS.fresh w hP h1p ea h2p;refine tt ?_;refine rd_get hgS (by simp) ?_;refine tt ?_;refine rd_get hgS (by simp) ?_;refine tt ?_;refine ⟨⟨hA.2.2.1.1,by omega⟩,rd_get hgX (by omega) ?_⟩;rw [hXr];refine tt ?_;refine ⟨⟨hA.2.2.2.1.1,hp2⟩, ?_⟩;refine hset _ _ fun q' H hX' o=>tt ?_
   have o : Owns H0 H ((idB,.cells 2 (flat (N.map prE)) 0)::(idN,.cells 1 [.buf idB N.length] 0)::(idS,srO f g (.buf idX Xs.length) fv)::(q'++l)):=o.pm
   have hgN : H.get idN=some (.cells 1 [.buf idB N.length] 0):=o.tl.h0;refine rd_get hgN (by simp) ?_;refine tt ?_;refine app_ownN (f:=prE) (ix f.shape.to a,ix (ix f.acts a) e) o rfl rfl (by simp only [maxL]; omega) fun idB H o=>tt ?_;refine sw o.swap fun H o=>?_;refine tw w1 ?_;exact for_next (_,N++[(ix f.shape.to a,ix (ix f.acts a) e)],q',idB) (by omega) ⟨hX',hfr,(by simp only [srO,SF.cells] at o ⊢; exact o.pm)⟩ rfl
 ·have h1p:=of_ndecide h1
  obtain rfl : k=(outs f.shape x).length:=by omega
  refine tt ?_;exact ⟨H,.refl H,true,_,p',N,q,idB,rfl,hX,o,hS,Nat.le_refl _,fun _=>rfl,fun h=>by cases h⟩
theorem noneLeft {p : List Int} (h : indexOf p (-1)<0) {i : Int} (hi : 0≤i∧i.toNat<p.length) : ix p i≠-1:=fun e=>by
 have:=(indexOf_mem p (-1)).mpr (by rw [← e]; exact ix_mem hi.2);omega
def FoundOk2 (B : Nat) (f g : SF) (F : FuncId) (ca : List AV) (Fs Es : List (List (List Int))→Ob→Prop) : Prop :=
 ∀ (p : List (List Int)) (A : List (List (List Int))) (X : AV) (q w l : Ob) (H0 H : Heap),PT f g p→OLL q X p→Fs A w→Owns H0 H (q++(w++l)) →
  CallH Tryz.prog B F ([X]++ca) H fun r H'=>∃ (b : Bool) (w' : Ob),r=.bool b∧(b=true→Fs (A++[p]) w')∧(b=false→Es (A++[p]) w')∧Owns H0 H' (q++(w'++l))
theorem run2_ok (B : Nat) {f g : SF} (hf : f.Is) (hg : g.Is) (sh : f.shape=g.shape) {F : FuncId} {ca : List AV} {Fs Es : List (List (List Int))→Ob→Prop} (hF : FoundOk2 B f g F ca Fs Es) (idS : Nat) (X : AV) :
  ∀ (n : Nat) (p : List (List Int)),unsetT f p=n→PT f g p→∀ (A : List (List (List Int))) (q w l : Ob) (H0 H : Heap),OLL q X p→Fs A w→Owns H0 H ((idS,srO f g X (.fn (.func F) ca))::(q++(w++l))) →
   CallH Tryz.prog B 254 [.ref idS 0] H fun r H'=>∃ (b : Bool) (q' w' : Ob) (M : List (List (List Int))),r=.bool b∧OLL q' X p∧Owns H0 H' ((idS,srO f g X (.fn (.func F) ca))::(q'++(w'++l)))∧M <+: allMp f g p ∧
    (b=true→Fs (A++M) w'∧M=allMp f g p)∧(b=false→Es (A++M) w'):=by
 intro n
 induction n using Nat.strongRecOn with
 | _ n ih =>
 intro p hn hP A q w l H0 H hX hFs o;refine c254p (by simp) fun _=>?_
 have hm:=hf.1.is.1.m
 have hob:=hf.1.is.1.o
 have hsl:=hf.1.sl
 have hpl:=hP.len
 have hz0 : ∀ x,x<f.sizes.length→0≤f.sizes.getD x default∧f.sizes.getD x default<17:=fun x hx=>hf.1.sz _ (mem_getD.mpr ⟨x,hx,rfl⟩)
 have hlenX:=hX.lenT;unfold s254p;refine tt ?_;refine rd_cells o (by simp) ?_;refine tw hlenX ?_
 refine awp_for [0,15] (G:=Unit) (fun k _=>[(16,some (.int .i64 (k : Int)))])
  (fun k _ H=>(∀ y : Nat,y<k→indexOf (p.getD y default) (-1)<0)∧Owns H0 H ((idS,srO f g X (.fn (.func F) ca))::(q++(w++l)))) p.length () ⟨by simp,o⟩ rfl ?_
 clear o
 rintro k _ H hk ⟨hno,o⟩
 have hgS : H.get idS=some (srO f g X (.fn (.func F) ca)):=o.h0;refine tt ?_;apply bk <;> intro h1
 rotate_left 1
 ·have h1p:=of_ndecide h1
  obtain rfl : k=p.length:=by omega
  refine tt ?_;refine rd_get hgS (by simp) ?_;refine tt ?_;refine rd_get hgS (by simp) ?_;refine tt ?_
  have o2 : Owns H0 H (q++(w++((idS,srO f g X (.fn (.func F) ca))::l))):=o.pm;refine (hF p A X q w _ H0 H hP hX hFs o2).mono ?_
  rintro r H' ⟨b,w',rfl,hFs',hEs',o⟩;refine tt ?_
  have hfull:=lists_full hf hP fun y i hy hi=>noneLeft (hno y.toNat (by omega)) (hP.inT hf.1 hy hi).2
  have hfe:=allMp_eq hf hg sh hP hfull;exact ⟨H',.refl _,b,q,w',[p],rfl,hX,(by simp only [srO,SF.cells] at o ⊢; exact o.pm),by rw [← hfe]; exact List.prefix_refl _,fun h=>⟨hFs' h,hfe⟩,hEs'⟩
 have h1p:=of_decide h1
 have w1:=wsucc (k:=k) (by omega)
 have hkl : k<f.sizes.length:=by omega
 obtain ⟨idX,Xs,rfl,hXl,hgX,pr,hpr,hprg⟩:=tab_row hX (show Owns H0 H (q++((idS,srO f g X (.fn (.func F) ca))::(w++l))) from o.pm) h1p;refine tt ?_;refine rd_get hgS (by simp) ?_;refine tt ?_;refine ⟨by omega,rd_get hgX (by omega) ?_⟩;refine tt ?_;refine CallH.lentPure (es:=[iL (p.getD k default),.int .i64 (-1)]) (.int _ _) rfl (fun i hi=>?_) (index_ok B (p.getD k default) (-1)).run ?_
 ·obtain rfl | rfl : i=0∨i=1:=by simp only [List.length_cons,List.length_nil] at hi; omega
  ·intro gg ww v hW hv;exact owL.ln pr _ _ hpr gg B H ww v hW hprg hv
  ·exact val_arg _
 have hib:=indexOf_bd (p.getD k default) (-1);refine tt ?_;apply bk <;> intro h2
 ·have h2p:=of_decide h2;refine tw w1 ?_;exact for_next () (by omega) ⟨lt_succ_all hno h2p,o⟩ rfl
 have h2p:=of_ndecide h2
 obtain ⟨f1,f2,f3⟩:=indexOf_first (l:=p.getD k default) (a:=-1) (by omega)
 generalize hix : indexOf (p.getD k default) (-1)=e at *
 have hrow:=hP.row k hkl
 have hzk:=hz0 k hkl
 have hx : 0≤(k : Int)∧(k : Int)<f.shape.objs:=by omega
 have he : 0≤e∧e<ix f.sizes (k : Int):=by rw [ix_nat]; omega
 have hpe : ix (ix p (k : Int)) e=-1:=by rw [ix_nat]; exact f2
 have hv : ∀ y i : Int,0≤y∧y<f.shape.objs→0≤i∧i<ix f.sizes y→ix (ix p y) i=-1∨0≤ix (ix p y) i:=fun y i hy hi=>(hP.val y i hy hi).imp id fun h=>h.1
 have hfst : ∀ y i : Int,0≤y∧y<f.shape.objs→0≤i∧i<ix f.sizes y→(y<(k : Int)∨(y=(k : Int)∧i<e))→ix (ix p y) i≠-1:=by
  intro y i hy hi h
  rcases h with h | ⟨rfl,h⟩
  ·exact noneLeft (hno y.toNat (by omega)) (hP.inT hf.1 hy hi).2
  ·rw [ix_nat]; exact f3 i.toNat (by omega)
 have hFT : FstT f p k e:=⟨hx,he,hpe,hfst⟩
 have hgsl:=hg.1.sl;rw [← sh] at hgsl
 have hgz : 0≤ix g.sizes (k : Int)∧ix g.sizes (k : Int)<17:=by rw [ix_nat]; exact hg.1.sz _ (mem_getD.mpr ⟨k,by omega,rfl⟩)
 have hgz2:=hgz;rw [ix_nat] at hgz2;refine tt ?_
 refine awp_for [0,3,4] (G:=List (List (List Int)) × Ob × Ob) (fun d _=>[(5,some (.int .i64 (d : Int)))])
  (fun d G H=>AccT f g p k e d G.1∧OLL G.2.1 (.buf idX Xs.length) p∧Fs (A++G.1) G.2.2∧Owns H0 H ((idS,srO f g (.buf idX Xs.length) (.fn (.func F) ca))::(G.2.1++(G.2.2++l)))) (g.sizes.getD k default).toNat ([],q,w) ⟨.zero hx he,hX,by rw [List.append_nil]; exact hFs,o⟩ rfl ?_
 clear o hX hFs hgS hgX hpr hprg hXl
 rintro d ⟨M,q,w⟩ H hd ⟨hM,hX,hFs,o⟩;dsimp only at hM hX hFs o;refine tt ?_;refine rd_cells o (by simp) ?_;refine tt ?_;refine ⟨by omega, ?_⟩;apply bk <;> intro h3
 rotate_left 1
 ·have h3p:=of_ndecide h3;refine tt ?_
  have hdd : (d : Int)=ix g.sizes (k : Int):=by rw [ix_nat]; omega
  rw [hdd] at hM
  have hfe:=allMp_eq hf hg sh hP (hM.done hx he);exact ⟨H,.refl _,true,q,w,M,rfl,hX,o,by rw [← hfe]; exact List.prefix_refl _,fun _=>⟨hFs,hfe⟩,fun h=>by cases h⟩
 have h3p:=of_decide h3
 have w2:=wsucc (k:=d) (by omega)
 have hat : At3 f g k e d:=⟨hf,hg,sh,hx,he,by rw [ix_nat]; omega⟩;refine tt ?_;refine newBuf_own o fun idB H o=>tt ?_;refine newRef_own o fun idN H o=>tt ?_;refine sw o fun H o=>tt ?_
 have o2 : Owns H0 H ((idS,srO f g (.buf idX Xs.length) (.fn (.func F) ca))::(idN,.cells 1 [.buf idB 0] 0)::(idB,.cells 2 [] 0)::(q++(w++l))):=o.pm;refine (set_ok B hat hP hX o2).mono ?_;clear o o2 hX
 rintro r H ⟨ok,kk,p',N,q,idB,rfl,hX,o,hS,hkk,hok,hbad⟩;refine tt ?_
 have o : Owns H0 H ((idS,srO f g (.buf idX Xs.length) (.fn (.func F) ca))::(q++(w++((idN,.cells 1 [.buf idB N.length] 0)::(idB,.cells 2 (flat (N.map prE)) 0)::l)))):=o.pm
 have hun:=hS.undo
 have hNr : ∀ j,j<N.length→(0≤(N.getD j default).1∧(N.getD j default).1.toNat<p.length)∧(0≤(N.getD j default).2∧(N.getD j default).2.toNat<(ix p (N.getD j default).1).length):=fun j hj=>by
  have:=hS.old (N.getD j default).1 (N.getD j default).2 (mem_getD.mpr ⟨j,hj,rfl⟩);exact ⟨this.1,this.2.1⟩
 have hNl : N.length≤40:=by
  have h1:=hS.nl
  have h2 : (outs f.shape (k : Int)).length≤40:=by
   rw [outs,List.length_map];refine Nat.le_trans (List.length_filter_le _ _) ?_;rw [List.length_range]; omega
  omega
 have hpl':=hS.len
 have hrow':=hS.row
 cases ok
 case' true =>
  obtain rfl:=hok rfl;refine tt ?_;refine (ih (unsetT f p') (by rw [← hn]; exact hS.less hat hP hpe) p' rfl (hS.pt hat hP) (A++M) q w _ H0 H hX hFs o).mono ?_;clear o hX hFs
  rintro r H ⟨b,q,w,M2,rfl,hX,o,hpre,hb1,hb2⟩
  have hLp:=allMp_is hf hg sh (hS.pt hat hP)
  have hMn:=hM.next hFT hP hsl hLp fun t=>hS.ext hat hP t
  have hres : (b=true→∃ M',Fs (A++M') w∧AccT f g p k e ((d : Int)+1) M')∧(b=false→∃ M',Es (A++M') w∧M' <+: allMp f g p):=⟨fun h=>by
   obtain ⟨h1,h2⟩:=hb1 h;rw [h2] at h1;exact ⟨M++allMp f g p',by rw [← List.append_assoc]; exact h1,hMn⟩,fun h=>by
   have h1:=hb2 h;exact ⟨M++M2,by rw [← List.append_assoc]; exact h1,List.IsPrefix.trans ((List.prefix_append_right_inj M).mpr hpre) (hMn.pre hFT hP hsl (allMp_is hf hg sh hP))⟩⟩
  clear hb1 hb2 hpre hMn hLp;refine tt ?_
 case' false =>
  have hres0 : Fs (A++M) w∧AccT f g p k e ((d : Int)+1) M:=⟨hFs,hM.none (hbad rfl)⟩;clear hFs;refine tt ?_
  obtain ⟨b,hb1,hb2⟩ : ∃ b : Bool,AV.bool true=AV.bool b∧b=true:=⟨true,rfl,rfl⟩
  have hres : (b=true→∃ M',Fs (A++M') w∧AccT f g p k e ((d : Int)+1) M')∧(b=false→∃ M',Es (A++M') w∧M' <+: allMp f g p):=⟨fun _=>⟨M,hres0⟩,fun h=>by rw [hb2] at h; cases h⟩;rw [hb1];clear hb1 hb2 hres0
 all_goals
  have hgN : H.get idN=some (.cells 1 [.buf idB N.length] 0):=o.get (idN,.cells 1 [.buf idB N.length] 0) (by simp);refine rd_get hgN (by simp) ?_;refine tt ?_
  refine awp_for [0,3,4,5,8,55,56] (G:=Ob) (fun j _=>[(57,some (.int .i64 (j : Int)))])
   (fun j q H=>OLL q (.buf idX Xs.length) (undoT p' (N.take j))∧Owns H0 H ((idS,srO f g (.buf idX Xs.length) (.fn (.func F) ca))::(q++(w++((idN,MObj.cells 1 [.buf idB N.length] 0)::(idB,MObj.cells 2 (flat (N.map prE)) 0)::l))))) N.length q ⟨hX,o⟩ rfl ?_
  clear o hX hgN
  rintro j q H hj ⟨hX,o⟩
  replace hX : OLL q (.buf idX Xs.length) (undoT p' (N.take j)):=hX
  replace o : Owns H0 H ((idS,srO f g (.buf idX Xs.length) (.fn (.func F) ca))::(q++(w++((idN,.cells 1 [.buf idB N.length] 0)::(idB,.cells 2 (flat (N.map prE)) 0)::l)))):=o;refine tt ?_;apply bk <;> intro h4
  ·have h4p:=of_decide h4
   have wj:=wsucc (k:=j) (by omega)
   have hr:=hNr j h4p
   have hus:=undoT_succ p' h4p
   have oB : Owns H0 H ((idB,.cells 2 (flat (N.map prE)) 0)::((idS,srO f g (.buf idX Xs.length) (.fn (.func F) ca))::(idN,.cells 1 [.buf idB N.length] 0)::(q++(w++l)))):=o.pm;refine tt ?_;refine ⟨h4p,rd_elA (f:=prE) oB h4p ?_⟩
   generalize N.getD j default=yy at *
   obtain ⟨y,i⟩:=yy;refine tt ?_;refine newRef_own o fun id10 H o=>tt ?_;refine sw o fun H o=>?_
   have hpl2 : (undoT p' (N.take j)).length=p.length:=by rw [undoT_len,hpl']
   have hrw : ((undoT p' (N.take j)).getD y.toNat default).length=(p.getD y.toNat default).length:=by rw [undoT_row,hrow']
   have oc : Owns H0 H (q++((id10,.cells 2 [iI y,iI i] 0)::(idB,.cells 2 (flat (N.map prE)) 0)::(idS,srO f g (.buf idX Xs.length) (.fn (.func F) ca))::(idN,.cells 1 [.buf idB N.length] 0)::(w++l))):=o.pm
   obtain ⟨idX',Xs',idR,hXe,hXl,hgX,hXr,hgR,hset⟩:=tab_cell hX oc (y:=y.toNat) (i:=i.toNat) (by have:=hr.1.2; omega) (by rw [hrw]; exact hr.2.2)
   obtain ⟨rfl,hXX⟩:=AV.buf.inj hXe
   have hgS : H.get idS=some (srO f g (.buf idX Xs.length) (.fn (.func F) ca)):=oc.get (idS,srO f g (.buf idX Xs.length) (.fn (.func F) ca)) (by simp)
   have hy2:=hr.1.2;refine tt ?_;refine rd_get hgS (by simp) ?_;refine tt ?_;refine rd_cells o (by simp) ?_;refine tt ?_;refine ⟨⟨hr.1.1,by omega⟩,rd_get hgX (by omega) ?_⟩;rw [hXr];refine tt ?_;refine rd_cells o (by simp) ?_;refine tt ?_;refine ⟨⟨hr.2.1,by rw [hrw]; exact hr.2.2⟩,hset _ _ fun q' H hX' o=>?_⟩;refine tw wj ?_;refine for_next q' (by omega) ⟨by rw [hus]; exact hX', ?_⟩ rfl
   have o:=o.perm (show _ from List.perm_middle)
   have o3:=o.tl;simp only [srO,SF.cells] at o3 ⊢;exact o3.pm
  ·have h4p:=of_ndecide h4
   obtain rfl : j=N.length:=by omega
   rw [List.take_length,hun] at hX
   have o:=o.subl (l':=(idS,srO f g (.buf idX Xs.length) (.fn (.func F) ca))::(q++(w++l))) (.cons_cons _ (List.Sublist.append_left (List.Sublist.append_left ((List.sublist_cons_self _ _).trans (List.sublist_cons_self _ _)) _) _));refine tt ?_
   cases b
   ·obtain ⟨M',h1,h2⟩:=hres.2 rfl;refine tt ?_;exact ⟨H,.refl _,false,q,w,M',rfl,hX,o,h2,(fun h=>by cases h),fun _=>h1⟩
   ·obtain ⟨M',hFs,hM'⟩:=hres.1 rfl;refine tw w2 ?_;exact for_next (M',q,w) (by omega) ⟨by rw [Int.natCast_succ]; exact hM',hX,hFs,o⟩ rfl
end Go.Proofs.Shf
namespace Go.Shf
open Go.AW
end Go.Shf
namespace Go.Proofs.Shf
open Go.AW Go.Proofs Go.Shf
theorem cloneN (B : Nat) (l : List Int) : New Tryz.prog B 73 [iL l] fun p X=>OL p X l :=
 ⟨fun H=>(clone_own B l H H [] (.nil H)).mono fun r H' ⟨id,A,e,o,q⟩=>by
  subst e q;exact ⟨_,.inr ⟨id,_,[],rfl,by simp,rowsIT _⟩,o⟩⟩
theorem clonesN (B : Nat) (l : List (List Int)) : New Tryz.prog B 177 [iLL l] fun p X=>OLL p X l:=by
 refine ⟨fun H0=>c177p (by simp) fun ⟨hf,_⟩=>?_⟩
 have hl:=fine_mL_le hf;simp only [maxL] at hl;unfold s177p;refine tt ?_;refine ⟨by simp only [maxL]; omega,newBuf_own (.nil _) fun id H o=>?_⟩;refine tt ?_
 refine awp_for [9,10] (G:=AV × Ob) (fun k g=>[(3,some g.1),(11,some (.int .i64 (k : Int)))])
  (fun k g H=>OLL g.2 g.1 (l.take k)∧Owns H0 H (g.2++[])) l.length (.buf id 0,[(id,.cells 1 [] 0)]) ⟨.inr ⟨id,[],[],rfl,rfl,.nil⟩,o⟩ rfl ?_
 clear o
 rintro k ⟨X,q⟩ H hk ⟨hX,o⟩;dsimp only at hX o;refine tt ?_;apply bk <;> intro h1
 ·have h1p:=of_decide h1
  have w:=wsucc (k:=k) (by omega);refine tt ?_;refine ⟨h1p, ?_⟩;refine (cloneN B (l.getD k default)).call o fun Y p H hY o=>?_
  have hY1:=hY.one;refine tt ?_;refine ⟨by simp [okEls,AV.cells_one hY1,hY1], ?_⟩;refine hX.appT hY ⟨AV.cells_one hY1,hY1⟩ o (by rw [List.length_take]; simp only [maxL]; omega) fun X' q' H hX1 hX' o=>?_;refine tw w ?_;refine for_next (X',q') h1p ⟨?_,o⟩ rfl
  simp only;rw [take_succ_getD l h1p]; exact hX'
 ·have h1p:=of_ndecide h1
  obtain rfl : k=l.length:=by omega
  rw [List.take_length] at hX;rw [List.append_nil] at o;refine tt ?_;exact ⟨H,.refl H,q,hX,o⟩
def OutG (idO : Nat) (A : List (List (List Int))) (w : Ob) : Prop:=∃ (Y : AV) (p : Ob),w=(idO,.cells 1 [Y] 0)::p∧LsP iLL p Y A
def OutF (most idO : Nat) (A : List (List (List Int))) (w : Ob) : Prop:=OutG idO A w∧A.length≤most
theorem blank_take (f : SF) {k : Nat} (hk : k<f.sizes.length) {n : Nat} (hn : f.sizes.getD k default=n) : (blankT f).take (k+1)=(blankT f).take k++[List.replicate n (-1)]:=by
 rw [take_one _ (by simpa [blankT] using hk)]
 congr 2
 rw [blankT,map_getD _ hk,hn,Int.toNat_natCast]
theorem setsCode_ok (B : Nat) {f g : SF} (hf : f.Is) (hg : g.Is) (sh : f.shape=g.shape) : Pur Tryz.prog B 77 [.ptr f.cells,.ptr g.cells] (iI 0):=by
 refine ⟨fun H0=>c77 (by simp) fun _=>?_⟩;unfold s77;refine tt ?_;refine (show Pur Tryz.prog B _ [.sl [.ptr f.cells,.ptr g.cells]] _ from areSetFunctors_ok B [f,g]).go fun _=>?_;rw [dec_t (by simp [hf,hg])];refine tt ?_;refine ⟨_,(sameCategory_ok B f.shape g.shape).run, ?_⟩;rw [dec_t sh];refine tt ?_;exact pure_ret rfl (.refl _)
theorem elems_ok (B : Nat) (f : SF) (hl : f.sizes.length≤8) (hz : ∀ y,y∈f.sizes→0≤y∧y<17) : Pur Tryz.prog B 78 [.ptr f.cells] (iI f.sizes.sum):=by
 refine ⟨fun H0=>c78p (by simp) fun _=>?_⟩;unfold s78p;refine tt ?_;refine awp_for [9,10] (G:=Unit) (fun k _=>[(3,some (.int .i64 (f.sizes.take k).sum)),(11,some (.int .i64 (k : Int)))]) (fun k _ H=>H=H0∧0≤(f.sizes.take k).sum∧(f.sizes.take k).sum≤17*k) f.sizes.length () ⟨rfl,by simp,by simp⟩ rfl ?_
 rintro k _ H hk ⟨rfl,hs⟩;refine tt ?_;apply bk <;> intro h1
 ·have h1:=of_decide h1
  have w1:=wsucc (k:=k) (by omega)
  have hsz:=hz _ (mem_getD.mpr ⟨k,h1,rfl⟩)
  have e : (f.sizes.take (k+1)).sum=(f.sizes.take k).sum+f.sizes.getD k default:=by rw [take_succ' _ h1]; simp
  have w2 : IntKind.i64.wrap ((f.sizes.take k).sum+f.sizes.getD k default)=(f.sizes.take (k+1)).sum:=by rw [wrap_i64 (by omega) (by omega),e]
  refine tt ?_;refine ⟨h1, ?_⟩;try simp only [go_sem,↓reduceIte,reduceEqDiff,reduceAdd,reduceMul,reduceLeDiff,reduceLT,w1,w2]
  exact for_next () (by omega) ⟨rfl,by omega,by omega⟩ rfl
 ·have h1:=of_ndecide h1
  obtain rfl : k=f.sizes.length:=by omega
  refine tt ?_;exact pure_ret (by rw [List.take_length]) (.refl _)
def OutE (most idO : Nat) (A : List (List (List Int))) (w : Ob) : Prop:=OutG idO A w∧most<A.length
theorem foundAll2_ok (B : Nat) (f g : SF) (most : Nat) (hmost : most≤1048576) (idO : Nat) : FoundOk2 B f g 176 [.ref idO 0,.ptr [.int .i64 most]] (OutF most idO) (OutE most idO):=by
 intro p A X q w l H0 H hP hX hFs o
 obtain ⟨⟨Y,pw,rfl,hY⟩,hA⟩:=hFs;refine c176p (by simp) fun _=>?_;unfold s176p;refine tt ?_
 have hgO : H.get idO=some (.cells 1 [Y] 0):=o.get (idO,.cells 1 [Y] 0) (by simp);refine rd_get hgO (by simp) ?_;refine tt ?_;refine New.lentQ owLL (clonesN B p) rfl (fun i hi=>?_) fun H' hs=>⟨hs, ?_⟩
 ·obtain rfl : i=0:=by simp only [List.length_cons,List.length_nil] at hi; omega
  exact owLL.arg hX o fun x hx=>List.mem_append_left _ hx
 have o:=o.ext hs
 have oY : Owns H0 H' (pw++((idO,.cells 1 [Y] 0)::(q++l))):=o.pm;refine tt ?_;refine (LsO.mk oY hY).app p rfl (by simp only [maxL]; omega) fun idn H o=>tt ?_;refine sw o.swap fun H o=>tt ?_;refine rd_cells o (by simp) ?_;refine tt ?_
 have hg : OutG idO (A++[p]) [(idO,.cells 1 [.buf idn (A++[p]).length] 0),(idn,.cells 1 ((A++[p]).map iLL) 0)]:=⟨_,_,rfl,.inr ⟨idn,rfl,rfl⟩⟩;refine ⟨H,.refl H,_,_,rfl,fun hb=>⟨hg, ?_⟩,fun hb=>⟨hg, ?_⟩,o.pm⟩
 ·exact of_decide_eq_true hb
 ·exact Nat.lt_of_not_le (of_decide_eq_false hb)
theorem setMaps2_ok (B : Nat) {f g : SF} (hf : f.Is) (hg : g.Is) (sh : f.shape=g.shape) {F : FuncId} {ca : List AV} {Fs Es : List (List (List Int))→Ob→Prop} (hF : FoundOk2 B f g F ca Fs Es) (A : List (List (List Int))) (w l : Ob) (H0 H : Heap) (hFs : Fs A w) (o : Owns H0 H (w++l)) :
  CallH Tryz.prog B 175 [.ptr f.cells,.ptr g.cells,.bool false,.fn (.func F) ca] H fun r H'=>∃ (b : Bool) (w' : Ob) (M : List (List (List Int))),r=.bool b∧Owns H0 H' (w'++l)∧M <+: allMp f g (blankT f) ∧
   (b=true→Fs (A++M) w'∧M=allMp f g (blankT f))∧(b=false→Es (A++M) w'):=by
 refine c175p (by simp) fun _=>?_
 have hob:=hf.1.is.1.o
 have hsl:=hf.1.sl
 have hz0 : ∀ x,x<f.sizes.length→0≤f.sizes.getD x default∧f.sizes.getD x default<17:=fun x hx=>hf.1.sz _ (mem_getD.mpr ⟨x,hx,rfl⟩);unfold s175p
 have hfc : (AV.fn (.func F) ca).cells=[.fn (.func F) ca]:=rfl;try simp only [go_sem,↓reduceIte,reduceEqDiff,reduceAdd,reduceMul,reduceLeDiff,reduceLT,hfc,wr_cons,wr_nil,List.set_cons_zero,List.set_cons_succ]
 refine newRef_own o fun idS H o=>tt ?_
 refine awp_for [9,21,22] (G:=AV × Ob) (fun k _=>[(23,some (.int .i64 (k : Int)))])
  (fun k G H=>OLL G.2 G.1 ((blankT f).take k)∧Owns H0 H ((idS,srO f g G.1 (.fn (.func F) ca))::(G.2++(w++l)))) f.sizes.length (.nilsl,[]) ⟨.inl ⟨rfl,rfl,rfl⟩,o⟩ rfl ?_
 clear o
 rintro k ⟨X,q⟩ H hk ⟨hX,o⟩;dsimp only at hX o;refine tt ?_;apply bk <;> intro h1
 ·have h1p:=of_decide h1
  have w1:=wsucc (k:=k) (by omega)
  have hzk:=hz0 k h1p
  obtain ⟨n,hn⟩ : ∃ n : Nat,f.sizes.getD k default=n:=⟨_,(Int.toNat_of_nonneg hzk.1).symm⟩;rw [hn] at hzk;refine tt ?_;refine ⟨h1p, ?_⟩;refine rd_cells o (by simp) ?_;rw [hn];refine tt ?_;refine (repeated_own B (-1) n (by omega) H H [] (.nil H)).mono ?_
  rintro r H2 ⟨idr,R,rfl,or,rfl⟩;refine ⟨or.sub, ?_⟩
  have o:=o.trans or
  have o2 : Owns H0 H2 ([(idr,.cells 1 ((List.replicate n (-1 : Int)).map iI) 0)]++(q++((idS,srO f g X (.fn (.func F) ca))::(w++l)))):=o.pm;refine tt ?_;refine hX.appT (O:=OL) (p:=[(idr,.cells 1 ((List.replicate n (-1 : Int)).map iI) 0)]) (a:=List.replicate n (-1)) (.inr ⟨idr,_,[],rfl,by simp,rowsIT _⟩) ⟨rfl,rfl⟩ o2 (by rw [List.length_take]; simp only [maxL]; omega) fun X' q' H hX1 hX' o=>?_
  have o3 : Owns H0 H ((idS,srO f g X (.fn (.func F) ca))::(q'++(w++l))):=o.pm;rw [← blank_take f h1p hn] at hX';try simp only [go_sem,↓reduceIte,reduceEqDiff,reduceAdd,reduceMul,reduceLeDiff,reduceLT,AV.cells_one hX1]
  refine st_cells o3 (by simp) rfl (by simp only [memcons,memnil]; exact ⟨hX1,trivial⟩) fun H o=>?_;simp only [wr_cons,wr_nil,List.set_cons_zero,List.set_cons_succ] at o;refine tw w1 ?_;exact for_next (X',q') (by omega) ⟨hX',o⟩ rfl
 ·have h1p:=of_ndecide h1
  have hkk : k=f.sizes.length:=by omega
  rw [hkk,List.take_of_length_le (by simp [blankT])] at hX;refine tt ?_;refine (run2_ok B hf hg sh hF idS X _ (blankT f) rfl (blank_pt hf.1) A q w l H0 H hX hFs o).mono ?_
  rintro r H' ⟨b,q',w',M,rfl,hX',o,hpre,hb⟩;refine tt ?_;exact ⟨H',.refl _,b,w',M,rfl,o.subl ((List.sublist_append_right _ _).trans (List.sublist_cons_self _ _)),hpre,hb⟩
def Maps2Q (f g : SF) (most : Nat) (r : AV) : Prop:=∃ (L : List (List (List Int))) (b : Bool),r=.tup [iLLL L,.bool b]∧(b=true→L=allMp f g (blankT f)∧L.length≤most)∧(b=false→most<(allMp f g (blankT f)).length)
theorem allSetMaps2P_ok (B : Nat) {f g : SF} (hf : f.Is) (hg : g.Is) (sh : f.shape=g.shape) (most : Nat) (hmost : most≤1048576) : Rets B 79 [.ptr f.cells,.ptr g.cells,.int .i64 most] (Maps2Q f g most):=by
 intro H0;refine c79p (by simp) fun _=>?_;unfold s79p
 have o : Owns H0 H0 []:=.nil _;refine tt ?_;refine newBuf_own o fun idE H o=>tt ?_;refine newRef_own o fun idO H o=>tt ?_;refine sw o fun H o=>tt ?_
 have hFs : OutF most idO [] [(idO,.cells 1 [.buf idE 0] 0),(idE,.cells 1 [] 0)]:=⟨⟨.buf idE 0,[(idE,.cells 1 [] 0)],rfl,.inr ⟨idE,rfl,rfl⟩⟩,Nat.zero_le _⟩;refine (setMaps2_ok B hf hg sh (foundAll2_ok B f g most hmost idO) [] _ [] H0 H hFs o).mono ?_;clear o hFs
 rintro r H ⟨b,w,L,rfl,o,hpre,hb1,hb2⟩;rw [List.nil_append] at hb1 hb2
 have hq : (b=true→L=allMp f g (blankT f)∧L.length≤most)∧(b=false→most<(allMp f g (blankT f)).length):=⟨fun h=>⟨(hb1 h).2,(hb1 h).1.2⟩,fun h=>Nat.lt_of_lt_of_le (hb2 h).2 hpre.length_le⟩
 obtain ⟨Y,p,rfl,hY⟩ : OutG idO L w:=by
  cases b
  ·exact (hb2 rfl).1
  ·exact (hb1 rfl).1.1
 clear hb1 hb2;refine tt ?_;refine rd_cells (show Owns H0 H ((idO,.cells 1 [Y] 0)::(p++[])) from o) (by simp) ?_;refine tt ?_
 have ob:=o.sub
 rcases hY with ⟨rfl,rfl,rfl⟩ | ⟨idn,rfl,rfl⟩
 ·refine tt ?_;exact rets_ret ⟨[],b,rfl,hq⟩ ob
 ·refine fz_own (f:=iLL) (show Owns H0 H ((idn,.cells 1 (L.map iLL) 0)::[(idO,.cells 1 [.buf idn L.length] 0)]) from o.swap) rfl fun H o=>tt ?_;exact rets_ret ⟨L,b,rfl,hq⟩ o.sub
def AllM2Q (f g : SF) (r : AV) : Prop:=∃ (L : List (List (List Int))) (k : Int),r=.tup [iLLL L,iI k]∧((k=0∧L=allMp f g (blankT f)∧L.length≤200∧f.sizes.sum≤12)∨(k=3∧L=[]∧(12<f.sizes.sum∨200<(allMp f g (blankT f)).length)))
theorem allSetMaps2_ok (B : Nat) {f g : SF} (hf : f.Is) (hg : g.Is) (sh : f.shape=g.shape) : Rets B 16 [.agg f.cells,.agg g.cells] (AllM2Q f g):=by
 intro H0;refine c16 (by simp) fun _=>?_
 have hob:=hf.1.is.1.o
 have hsl:=hf.1.sl;unfold s16;refine tt ?_;refine (setsCode_ok B hf hg sh).go fun _=>?_;refine td ?_;refine (elems_ok B f (by omega) fun y hy=>hf.1.sz y hy).go fun _=>tt ?_;apply bk <;> intro h1
 ·have h1p:=of_decide h1;refine tt ?_;exact rets_ret ⟨[],3,rfl,.inr ⟨rfl,rfl,.inl (by omega)⟩⟩ (.refl _)
 have hsum : f.sizes.sum≤12:=by have:=of_ndecide h1; omega
 refine tt ?_;refine (allSetMaps2P_ok B hf hg sh 200 (by omega)).go fun r _ ⟨L,b,e,hb1,hb2⟩=>?_;subst e;refine tt ?_
 cases b
 ·refine tt ?_;exact rets_ret ⟨[],3,rfl,.inr ⟨rfl,rfl,.inr (hb2 rfl)⟩⟩ (.refl _)
 ·refine tt ?_;exact rets_ret ⟨L,0,rfl,.inl ⟨rfl,(hb1 rfl).1,(hb1 rfl).2,hsum⟩⟩ (.refl _)
end Go.Proofs.Shf
