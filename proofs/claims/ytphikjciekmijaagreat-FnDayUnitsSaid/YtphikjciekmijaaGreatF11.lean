/- A part of a proof. -/
import Derived.Test.YtphikjciekmijaaGreatF10
set_option linter.unusedVariables false
set_option linter.unusedSimpArgs false
set_option linter.unusedSectionVars false
set_option maxRecDepth 100000
open Nat (reduceEqDiff reduceAdd reduceMul reduceLeDiff reduceLT)
namespace Go.AW
end Go.AW
namespace Go.Proofs.Shf
open Go.AW Go.Proofs Go.Shf
end Go.Proofs.Shf
namespace Go.Shf
open Go.AW
end Go.Shf
namespace Go.Proofs.Shf
open Go.AW Go.Proofs Go.Shf
end Go.Proofs.Shf
namespace Go.Shf
open Go.AW
def PartAt (f g : SF) (p : List (List Int)) (x : Nat) : Prop:=((p.getD x default).length : Int)=f.sizes.getD x default∧∀ y,y∈p.getD x default→0≤y∧y<g.sizes.getD x default
def PartsOk (f g : SF) (p : List (List Int)) : Prop:=p.length=f.sizes.length∧∀ x,x<p.length→PartAt f g p x
def NatAt (f g : SF) (p : List (List Int)) (a e : Nat) : Prop:=ix (ix p (f.shape.to.getD a default)) ((f.acts.getD a default).getD e default)=ix (g.acts.getD a default) ((ix p (f.shape.frm.getD a default)).getD e default)
def NatOk (f g : SF) (p : List (List Int)) : Prop:=∀ a,a<f.acts.length→∀ e : Nat,e<(f.acts.getD a default).length→NatAt f g p a e
structure SM.Is (m : SM) : Prop where
 s : m.src.Is
 t : m.tgt.Is
 eq : m.src.shape=m.tgt.shape
 p : PartsOk m.src m.tgt m.parts
 n : NatOk m.src m.tgt m.parts
structure MapD (f g : SF) (p : List (List Int)) : Prop where
 sf : f.Shape
 sg : g.Shape
 eq : f.shape=g.shape
 po : PartsOk f g p
structure SM.Shape (m : SM) : Prop where
 s : m.src.Is
 t : m.tgt.Is
 eq : m.src.shape=m.tgt.shape
 p : PartsOk m.src m.tgt m.parts
theorem SF.Shape.sl' {f g : SF} (hf : f.Shape) (hg : g.Shape) (e : f.shape=g.shape) : g.sizes.length=f.sizes.length:=by
 have:=hf.sl; have:=hg.sl; rw [← e] at this; omega
theorem SM.Shape.d {m : SM} (h : m.Shape) : MapD m.src m.tgt m.parts:=⟨h.s.1,h.t.1,h.eq,h.p⟩
theorem SM.is_iff {m : SM} : m.Is↔m.Shape∧NatOk m.src m.tgt m.parts:=⟨fun h=>⟨⟨h.s,h.t,h.eq,h.p⟩,h.n⟩,fun ⟨h,n⟩=>⟨h.s,h.t,h.eq,h.p,n⟩⟩
theorem MapD.at {f g : SF} {p : List (List Int)} (h : MapD f g p) {a e : Nat} (ha : a<f.acts.length) (he : e<(f.acts.getD a default).length) :
  (0≤f.shape.frm.getD a default∧(f.shape.frm.getD a default).toNat<p.length)∧(0≤f.shape.to.getD a default∧(f.shape.to.getD a default).toNat<p.length)∧a<g.acts.length ∧
  e<(ix p (f.shape.frm.getD a default)).length∧(0≤(f.acts.getD a default).getD e default∧((f.acts.getD a default).getD e default).toNat<(ix p (f.shape.to.getD a default)).length) ∧
  (0≤(ix p (f.shape.frm.getD a default)).getD e default∧((ix p (f.shape.frm.getD a default)).getD e default).toNat<(g.acts.getD a default).length):=by
 have hal:=h.sf.al
 have hag:=h.sg.al
 have f1:=h.sf.is.1.frm' (f:=a) (by omega)
 have f2:=h.sf.is.1.to' (f:=a) (by omega)
 have hil:=h.sf.is.1.il
 have hsl:=h.sf.sl
 have hp:=h.po.1
 have p1:=h.po.2 _ (show (f.shape.frm.getD a default).toNat<p.length by omega)
 have p2:=h.po.2 _ (show (f.shape.to.getD a default).toNat<p.length by omega)
 have a1:=h.sf.act a ha
 have a2:=h.sg.act a (by rw [hag,← h.eq]; omega)
 have a3:=a1.2 _ (mem_getD.mpr ⟨e,he,rfl⟩);rw [← h.eq] at a2;simp only [PartAt] at p1 p2;simp only [ix] at *
 have p3:=p1.2 ((p.getD (f.shape.frm.getD a default).toNat default).getD e default) (mem_getD.mpr ⟨e,by omega,rfl⟩);refine ⟨⟨f1.1,by omega⟩,⟨f2.1,by omega⟩,by rw [hag,← h.eq]; omega,by omega,⟨a3.1,by omega⟩,p3.1,by omega⟩
end Go.Shf
namespace Go.Proofs.Shf
open Go.AW Go.Proofs Go.Shf
theorem fits_ok (B : Nat) (m : SM) (hg : m.tgt.sizes.length=m.src.sizes.length) (hz : ∀ y,y∈m.tgt.sizes→0≤y∧y<17) : Pur Tryz.prog B 269 [.ptr m.cells] (.bool (dec (PartsOk m.src m.tgt m.parts))):=by
 refine ⟨fun H0=>c269.go fun ⟨hp,_⟩=>?_⟩
 have hl:=fine_mL_le (hp.ptr (c:=iLL m.parts) (by simp [SM.cells]));simp only [maxL] at hl;refine tt ?_;apply bk <;> intro h0
 ·refine tt ?_
  have h0p:=dd h0;exact pure_ret (by rw [dec_f]; intro h; exact h0p (by rw [h.1])) (.refl _)
 have h0p:=dd h0
 have h0q : m.parts.length=m.src.sizes.length:=by omega
 refine tt ?_;refine awp_for [0,20,21] (fun k _=>[(22,some (.int .i64 (k : Int)))]) (fun k _ H=>H=H0∧∀ i,i<k→PartAt m.src m.tgt m.parts i) m.parts.length () ⟨rfl,by simp⟩ rfl ?_
 rintro k _ H hk ⟨rfl,hall⟩;refine tt ?_;apply bk <;> intro h1
 ·have h1p:=dd h1
  have w1:=wsucc (k:=k) (by omega);refine tt ?_
  have hzk:=hz _ (mem_getD.mpr ⟨k,by omega,rfl⟩);refine ⟨h1p,by omega,by omega,_,(isMapOf_ok B (m.parts.getD k default) (m.src.sizes.getD k default) (m.tgt.sizes.getD k default) (by omega)).run,tt ?_⟩;apply bk <;> intro h3
  ·refine tt ?_
   have h3p:=dd h3;exact pure_ret (by rw [dec_f]; intro h; exact h3p (h.2 k h1p)) (.refl _)
  ·refine tw w1 ?_
   have h3p:=dd h3;exact for_next () (by omega) ⟨rfl,lt_succ_all hall h3p⟩ rfl
 ·refine tt ?_
  have h1p:=dd h1;exact pure_ret (by rw [dec_t]; exact ⟨h0q,fun x hx=>hall x (by omega)⟩) (.refl _)
def natK (P : Prop) (H0 : Heap) : Kont:=fun r H'=>H'=H0∧∃ a e : Int,r=.tup [.int .i64 a,.int .i64 e]∧(a<0↔P)
theorem nat_ret {P : Prop} {H0 H : Heap} {a e : Int} (h : a<0↔P) (hs : H0.sub H) : subW (natK P H0) (.tup [.int .i64 a,.int .i64 e]) H:=⟨H0,hs,rfl,a,e,rfl,h⟩
theorem unnatural_ok (B : Nat) (m : SM) (h : MapD m.src m.tgt m.parts) (H0 : Heap) : CallH Tryz.prog B 211 [.ptr m.cells] H0 (natK (NatOk m.src m.tgt m.parts) H0):=by
 refine c211.go fun ⟨hp,_⟩=>?_
 have hl:=fine_mL_le (hp.ptr (c:=iLL m.parts) (by simp [SM.cells]));simp only [maxL] at hl
 have hm:=h.sf.is.1.m
 have hal:=h.sf.al
 have htl:=h.sf.is.1.tol;refine tt ?_;refine awp_for [0,4,16] (fun k _=>[(17,some (.int .i64 (k : Int)))]) (fun k _ H=>H=H0∧∀ a,a<k→∀ e : Nat,e<(m.src.acts.getD a default).length→NatAt m.src m.tgt m.parts a e) m.src.acts.length () ⟨rfl,by simp⟩ rfl ?_
 rintro a _ H ha ⟨rfl,hall⟩;refine tt ?_;apply bk <;> intro h1
 ·have h1p:=dd h1
  have w1:=wsucc (k:=a) (by omega)
  have a1:=(h.sf.act a (by omega)).1
  have f1:=h.sf.is.1.frm' (f:=a) (by omega)
  have hil:=h.sf.is.1.il
  have hsl:=h.sf.sl
  have hz:=h.sf.sz _ (ix_mem (l:=m.src.sizes) (i:=m.src.shape.frm.getD a default) (by omega));refine tt ?_;refine ⟨by omega, ?_⟩;refine awp_for [0,4,5,16,17,27,28] (fun k _=>[(29,some (.int .i64 (k : Int)))]) (fun k _ H'=>H'=H∧∀ e : Nat,e<k→NatAt m.src m.tgt m.parts a e) (m.src.acts.getD a default).length () ⟨rfl,by simp⟩ rfl ?_
  rintro e _ H he ⟨rfl,hall2⟩;refine tt ?_;apply bk <;> intro h2
  ·have h2p:=dd h2
   have w2:=wsucc (k:=e) (by omega)
   have hat:=h.at (a:=a) (e:=e) (by omega) (by omega);refine tt ?_;refine ⟨by omega, ?_⟩;refine ⟨by omega,by omega,by omega,by omega,by omega,by omega,by omega,by omega, ?_⟩;apply bk <;> intro h3
   ·refine tt ?_
    have h3p:=dd h3;exact nat_ret ⟨fun e=>by omega,fun hn=>absurd (hn a (by omega) e (by omega)) h3p⟩ (.refl _)
   ·refine tw w2 ?_
    have h3p:=dd h3;exact for_next () (by omega) ⟨rfl,lt_succ_all hall2 h3p⟩ rfl
  ·refine tw w1 ?_
   have h2p:=dd h2;exact for_next () (by omega) ⟨rfl,lt_succ_all hall fun e he=>hall2 e (by omega)⟩ rfl
 ·refine tt ?_
  have h1p:=dd h1;exact nat_ret ⟨fun _ a ha e he=>hall a (by omega) e he,fun _=>by omega⟩ (.refl _)
theorem isShapeM_ok (B : Nat) (m : SM) : Pur Tryz.prog B 210 [.ptr m.cells] (.bool (dec m.Shape)):=by
 refine ⟨fun H0=>c210.go fun _=>?_⟩;refine tt ?_;refine ⟨_,(areSetFunctors_ok B [m.src,m.tgt]).run, ?_⟩
 by_cases hf : m.src.Is∧m.tgt.Is
 ·rw [dec_t (by simpa using hf)];refine tt ?_;refine ⟨_,(sameCategory_ok B m.src.shape m.tgt.shape).run, ?_⟩
  by_cases he : m.src.shape=m.tgt.shape
  ·rw [dec_t he];refine tt ?_;refine ⟨_,(fits_ok B m (hf.1.1.sl' hf.2.1 he) hf.2.1.sz).run,tt ?_⟩;exact pure_ret (by congr 1; exact dec_congr ⟨fun h=>⟨hf.1,hf.2,he,h⟩,fun h=>h.p⟩) (.refl _)
  ·rw [dec_f he];refine tt ?_;exact pure_ret (by rw [dec_f]; exact fun h=>he h.eq) (.refl _)
 ·rw [dec_f (by simpa using hf)];refine tt ?_;exact pure_ret (by rw [dec_f]; exact fun h=>hf ⟨h.s,h.t⟩) (.refl _)
theorem isNatural_ok (B : Nat) (m : SM) : Pur Tryz.prog B 105 [.ptr m.cells] (.bool (dec m.Is)):=by
 refine ⟨fun H0=>c105.go fun _=>?_⟩;refine tt ?_;refine (isShapeM_ok B m).go fun _=>?_
 by_cases h : m.Shape
 ·rw [dec_t h];try simp only [go_sem,↓reduceIte,reduceEqDiff,reduceAdd,reduceMul,reduceLeDiff,reduceLT,Bool.not_true]
  refine (unnatural_ok B m h.d H0).mono' ?_
  rintro _ _ _ ⟨rfl,a,e,rfl,hk⟩;refine tt ?_;exact pure_ret (by rw [decide_dec]; congr 1; exact dec_congr ⟨fun q=>SM.is_iff.mpr ⟨h,hk.mp q⟩,fun q=>hk.mpr q.n⟩) (.refl _)
 ·rw [dec_f h];try simp only [go_sem,↓reduceIte,reduceEqDiff,reduceAdd,reduceMul,reduceLeDiff,reduceLT,Bool.not_false]
  exact pure_ret (by rw [dec_f]; exact fun q=>h (SM.is_iff.mp q).1) (.refl _)
end Go.Proofs.Shf
namespace Go.AW
end Go.AW
namespace Go.Shf
open Go.AW Go.Proofs.Shf
theorem mapL_is {f g : SF} {p : List (List Int)} (hf : f.Is) (hg : g.Is) (e : f.shape=g.shape) (h : MapL f g p) : SM.Is ⟨f,g,p⟩:=by
 have hsl:=hf.1.sl
 have hl:=h.len;refine ⟨hf,hg,e,⟨by show p.length=f.sizes.length; omega,fun x hx=>?_⟩,fun a ha e he=>?_⟩
 ·have hx' : x<p.length:=hx
  have:=h.pl x (by omega);simp only [ix_nat] at this;refine ⟨this.1,fun y hy=>?_⟩
  obtain ⟨i,hi,rfl⟩:=mem_getD.mp hy
  have h2:=this.2 i (by have : i<(p.getD x default).length:=hi; omega);rw [ix_nat] at h2;exact h2
 ·have ha' : a<f.acts.length:=ha
  have he' : e<(f.acts.getD a default).length:=he
  have hal:=hf.1.al
  have hac:=hf.1.actLen (a:=(a : Int)) (by simp; omega)
  have:=h.nl a ⟨by omega,by simp; omega⟩ e (by rw [ix_nat] at hac; omega);simp only [ix_nat] at this;exact this
end Go.Shf
namespace Go.Proofs.Shf
open Go.AW Go.Proofs Go.Shf
theorem isSetMap_ok (B : Nat) (m : SM) : Pur Tryz.prog B 31 [.agg m.cells] (.bool (dec m.Is)):=by
 refine ⟨fun H0=>c31.go fun _=>?_⟩;refine tt ?_;refine (isNatural_ok B m).go fun _=>tt ?_;exact pure_ret rfl (.refl _)
end Go.Proofs.Shf
namespace Go.AW
theorem set_selfT {l : List AV} {i : Nat} (h : i<l.length) : l.set i (l.getD i nv)=l:=by
 apply List.ext_getElem?
 intro j
 by_cases e : j=i
 ·subst e; simp [List.getD_eq_getElem?_getD,h]
 ·rw [List.getElem?_set_ne (by omega)]
theorem LsG.lenT {α : Type} {O : Ob→AV→α→Prop} {p : Ob} {X : AV} {A : List α} (h : LsG O p X A) : lenE (some X)=some (True,.int .i64 A.length):=by
 rcases h with ⟨_,rfl,rfl⟩ | ⟨id,Xs,o,_,rfl,hr⟩
 ·rfl
 ·simp [Go.AW.lenE,hr.len]
theorem LsG.posT {α : Type} {O : Ob→AV→α→Prop} {p : Ob} {X : AV} {A : List α} (h : LsG O p X A) {i : Nat} (hi : i<A.length) : ∃ id Xs o,p=(id,.cells 1 Xs 0)::o∧X=.buf id Xs.length∧RowsG O Xs A o:=by
 rcases h with ⟨_,_,rfl⟩ | h
 ·simp at hi
 ·exact h
theorem Owns.rowT {α : Type} [Inhabited α] {O : Ob→AV→α→Prop} {H0 H : Heap} {l q : Ob} {id : Nat} {Xs : List AV} {A : List α} (o : Owns H0 H (((id,.cells 1 Xs 0)::q)++l)) (hr : RowsG O Xs A q) {i : Nat} (hi : i<Xs.length) :
  ∃ p r,Owns H0 H (p++((id,.cells 1 Xs 0)::(r++l)))∧O p (Xs.getD i nv) (A.getD i default) ∧
   ∀ a' p' H',O p' (Xs.getD i nv) a'→Owns H0 H' (p'++((id,.cells 1 Xs 0)::(r++l)))→∃ q',RowsG O Xs (A.set i a') q'∧Owns H0 H' (((id,.cells 1 Xs 0)::q')++l):=by
 obtain ⟨p,r,h1,h2,h3⟩:=hr.split i hi;refine ⟨p,r,o.perm ?_,h2,fun a' p' H' hO o'=>?_⟩
 ·refine List.Perm.trans ?_ (List.perm_middle (a:=(id,MObj.cells 1 Xs 0)) (l₁:=p) (l₂:=r++l)).symm;refine List.Perm.cons _ ?_;rw [← List.append_assoc];exact List.Perm.append_right l h1
 ·obtain ⟨q',k1,k2⟩:=h3 _ _ _ hO;rw [set_selfT hi] at k1;refine ⟨q',k1,o'.perm ?_⟩;refine List.Perm.trans (List.perm_middle (a:=(id,MObj.cells 1 Xs 0)) (l₁:=p') (l₂:=r++l)) ?_;refine List.Perm.cons _ ?_;rw [← List.append_assoc];exact List.Perm.append_right l k2.symm
theorem RowsG.intsT {Xs : List AV} {l : List Int} {o : Ob} (h : RowsG OI Xs l o) : o=[]∧Xs=l.map iI:=by
 induction h with
 | nil=>exact ⟨rfl,rfl⟩
 | cons h _ ih=>exact ⟨by rw [h.1,ih.1]; rfl,by rw [h.2,ih.2]; rfl⟩
theorem rowsIT : ∀ (l : List Int),RowsG OI (l.map iI) l []
 | []=>.nil
 | a::r=>.cons (p:=[]) ⟨rfl,rfl⟩ (rowsIT r)
theorem LsG.appT {α : Type} {O : Ob→AV→α→Prop} {p q l : Ob} {X Y : AV} {A : List α} {a : α} {H0 H : Heap} {K : Kont} (h : LsG O q X A) (hy : O p Y a) (h1 : Y.cells=[Y]∧Y.one=true) (o : Owns H0 H (p++(q++l))) (hm : A.length+1≤maxL)
  (hk : ∀ X' q' H',X'.one=true→LsG O q' X' (A++[a])→Owns H0 H' (q'++l)→K X' H') : appW 1 (some X) (some (.sl [Y])) K H:=by
 have hok : okEls 1 [Y]:=by
  intro e he;rw [List.mem_singleton] at he; subst he;rw [h1.1];exact ⟨rfl,fun c hc=>by rw [List.mem_singleton] at hc; subst hc; exact h1.2⟩
 have hfl : flat [Y]=[Y]:=by simp [flat,h1.1]
 rcases h with ⟨rfl,rfl,rfl⟩ | ⟨id,Xs,r,rfl,rfl,hr⟩
 ·simp only [appW,srcOf,app1];refine ⟨⟨by simp [maxL],by simp [maxL],hok⟩,fun id hn=>?_⟩;rw [hfl];refine hk (.buf id 1) ((id,.cells 1 [Y] 0)::p) _ rfl (.inr ⟨id,[Y],p,rfl,rfl, ?_⟩) ?_
  ·have:=RowsG.cons hy RowsG.nil;rw [List.append_nil] at this; exact this
  ·have:=o.new hn (.cells 1 [Y] 0)
   simpa using this
 ·have o2 : Owns H0 H ((id,.cells 1 Xs 0)::(p++(r++l))):=by
   refine o.perm ?_
   simp
  have h0:=o2.h0;simp only at h0
  have hl:=hr.len;simp only [appW,h0,srcOf,app2];refine ⟨⟨trivial,by simp,by simp; omega,by simp; omega,hok⟩,fun id' hn=>?_⟩;rw [hfl];refine hk (.buf id' (Xs.length+1)) ((id',.cells 1 (Xs++[Y]) 0)::(r++p)) _ rfl (.inr ⟨id',Xs++[Y],r++p,rfl,by simp, ?_⟩) ?_
  ·refine hr.app ?_
   have:=RowsG.cons hy RowsG.nil;rw [List.append_nil] at this; exact this
  ·have:=o2.mv hn (.cells 1 (Xs++[Y]) 0);refine this.perm (List.Perm.cons _ ?_);rw [← List.append_assoc];exact List.Perm.append_right l List.perm_append_comm
theorem tab_row {H0 H : Heap} {q l : Ob} {X : AV} {p : List (List Int)} (hX : OLL q X p) (o : Owns H0 H (q++l)) {y : Nat} (hy : y<p.length) :
  ∃ idX Xs,X=.buf idX Xs.length∧Xs.length=p.length∧H.get idX=some (.cells 1 Xs 0)∧∃ pr,OL pr (Xs.getD y nv) (p.getD y default)∧∀ x,x∈pr→H.get x.1=some x.2:=by
 obtain ⟨idX,Xs,r,rfl,rfl,hr⟩:=hX.posT hy
 have hl:=hr.len
 obtain ⟨pr,r2,o2,hO,_⟩:=o.rowT hr (i:=y) (by omega);exact ⟨idX,Xs,rfl,hl,o.h0,pr,hO,fun x hx=>o2.get x (List.mem_append_left _ hx)⟩
theorem tab_cell {H0 H : Heap} {q l : Ob} {X : AV} {p : List (List Int)} (hX : OLL q X p) (o : Owns H0 H (q++l)) {y i : Nat} (hy : y<p.length) (hi : i<(p.getD y default).length) :
  ∃ idX Xs idR,X=.buf idX Xs.length∧Xs.length=p.length∧H.get idX=some (.cells 1 Xs 0)∧Xs.getD y nv=.buf idR (p.getD y default).length∧H.get idR=some (.cells 1 ((p.getD y default).map iI) 0) ∧
   ∀ (k : Int) (K : Kont),(∀ q' H',OLL q' X (p.set y ((p.getD y default).set i k))→Owns H0 H' (q'++l)→K nv H')→st1 (H.get idR) idR i 1 [iI k] K H:=by
 obtain ⟨idX,Xs,r,rfl,rfl,hr⟩:=hX.posT hy
 have hl:=hr.len
 obtain ⟨pr,r2,o2,hO,back⟩:=o.rowT hr (i:=y) (by omega)
 obtain ⟨idR,Ys,rr,rfl,hY,hrr⟩:=hO.posT hi
 obtain ⟨rfl,rfl⟩:=hrr.intsT;rw [List.length_map] at hY;refine ⟨idX,Xs,idR,rfl,hl,o.h0,hY,o2.h0,fun k K hk=>?_⟩;refine set_own (f:=iI) k o2 rfl hi fun H' o3=>?_
 obtain ⟨q',hr',o4⟩:=back ((p.getD y default).set i k) [(idR,.cells 1 (((p.getD y default).set i k).map iI) 0)] H' (by rw [hY]; exact .inr ⟨idR,_,[],rfl,by simp,rowsIT _⟩) o3;exact hk _ H' (.inr ⟨idX,Xs,q',rfl,rfl,hr'⟩) o4
theorem New.lentQ {α : Type} {O : Ob→AV→α→Prop} {f : α→AV} {a : α} {P : Program} {B : Nat} {fn : FuncId} {args es : List AV} {H : Heap} {K : Kont} (hO : Ow O f) (h : New P B fn es fun p X=>O p X a) (hl : es.length=args.length)
  (ht : ∀ i,i<args.length→∀ g w v,WRel g B H w→VRel g (args.getD i nv) v→VRel (g.lend H w) (es.getD i nv) v)
  (hk : ∀ H',H.sub H'→K (f a) H') : CallH P B fn args H K:=by
 have h1 : CallH P B fn args H fun r H'=>∃ p,O p r a∧Owns H H' (p++[]):=New.lent hO h (Owns.nil H) hl ht fun r p H' q o=>⟨p,q,o⟩;refine ⟨h1.1,fun g w vs hW hv=>?_⟩;refine (h1.2 g w vs hW hv).mono fun e w' ⟨v,he,g',r,H',q1,⟨p,q2,q3⟩,q4,q5,q6⟩=>?_
 obtain ⟨g2,H2,r1,r2,r3,r4⟩:=hO.fz p r a q2 g' B H H' [] w' q5 q3;exact ⟨v,he,g2,f a,H2,q1.trans r1,hk H2 r3.sub,r4 v q4,r2,q6⟩
end Go.AW
namespace Go.AW
@[go_sem] def prE (q : Int × Int) : AV:=.agg [iI q.1,iI q.2]
instance : AggN 2 prE:=⟨by omega,fun _=>rfl,fun _=>rfl,fun a c hc=>by
 simp only [prE,AV.cells,List.mem_cons,List.not_mem_nil,or_false] at hc
 rcases hc with rfl | rfl <;> rfl⟩
end Go.AW
namespace Go.Proofs.Shf
open Go.AW Go.Proofs Go.Shf
@[go_sem] def srO (f g : SF) (X fv : AV) : MObj:=.cells 5 [.ptr f.cells,.ptr g.cells,.bool false,X,fv] 0
theorem noneLeft {p : List Int} (h : indexOf p (-1)<0) {i : Int} (hi : 0≤i∧i.toNat<p.length) : ix p i≠-1:=fun e=>by
 have:=(indexOf_mem p (-1)).mpr (by rw [← e]; exact ix_mem hi.2);omega
end Go.Proofs.Shf
namespace Go.Shf
open Go.AW
def InjT (f : SF) (t : List (List Int)) : Prop:=∀ y i j : Int,(0≤y∧y<f.shape.objs)→(0≤i∧i<ix f.sizes y)→(0≤j∧j<ix f.sizes y)→ix (ix t y) i=ix (ix t y) j→i=j
section
variable {f g : SF} {p p' : List (List Int)} {x e d : Int} {k : Nat} {N : List (Int × Int)}
theorem SetM.bad1 (w : At3 f g x e d) (hP : PT f g p) (s : SetM f g p x e d k p' N) (hk : k<(outs f.shape x).length) {a : Int} (ea : (outs f.shape x).getD k default=a)
  (h : ¬ 0≤ix (ix p' (ix f.shape.to a)) (ix (ix f.acts a) e)) (hm : ix (ix g.acts a) d∈ix p' (ix f.shape.to a)) (t : List (List Int)) (ht : ExtT f g p t) (hi : InjT f t) : ix (ix t x) e≠d:=by
 intro ed
 have key : ∀ b,b∈outs f.shape x→ix (ix t (ix f.shape.to b)) (ix (ix f.acts b) e)=ix (ix g.acts b) d:=fun b hb=>by
  have hB:=w.arr hb;rw [ht.1.nl b hB.1 e (by rw [hB.2.1]; exact w.he),hB.2.1,ed]
 have hA:=w.arr (b:=a) (mem_getD.mpr ⟨k,hk,ea⟩)
 have h1:=key a (mem_getD.mpr ⟨k,hk,ea⟩)
 obtain ⟨j,hj,ej⟩:=mem_getD.mp hm
 have hin:=hP.inT w.hf.1 hA.2.2.1 hA.2.2.2.1
 have hrow:=hP.row (ix f.shape.to a).toNat (by have:=hP.len; have:=hin.1.2; omega)
 have hj' : 0≤(j : Int)∧(j : Int)<ix f.sizes (ix f.shape.to a):=by
  have e1 : (ix p' (ix f.shape.to a)).length=(p.getD (ix f.shape.to a).toNat default).length:=s.rowI _
  have e2 : ix f.sizes (ix f.shape.to a)=f.sizes.getD (ix f.shape.to a).toNat default:=rfl;omega
 have ej' : ix (ix p' (ix f.shape.to a)) (j : Int)=ix (ix g.acts a) d:=by rw [ix_nat]; exact ej
 have v0 : 0≤ix (ix g.acts a) d:=hA.2.2.2.2.1
 have tj : ix (ix t (ix f.shape.to a)) (j : Int)=ix (ix g.acts a) d:=by
  rcases s.new (ix f.shape.to a) (j : Int) hA.2.2.1.1 hj'.1 with q | ⟨_,b,hb,q3,q4,q5⟩
  ·rw [q] at ej';rw [ht.2 _ _ hA.2.2.1 hj' (by omega),ej']
  ·have h2:=key b (List.mem_of_mem_take hb);rw [q3,q4] at h2;rw [h2,← q5,ej']
 have:=hi _ _ _ hA.2.2.1 hA.2.2.2.1 hj' (h1.trans tj.symm);rw [this,ej'] at h;exact h v0
def NoT (f g : SF) (p : List (List Int)) (x e d : Int) : Prop:=∀ t,ExtT f g p t→InjT f t→¬ ix (ix t x) e<d
theorem NoT.zero (hx : 0≤x∧x<f.shape.objs) (he : 0≤e∧e<ix f.sizes x) : NoT f g p x e 0:=fun t ht _ h=>by
 have:=((ht.1.pl x hx).2 e he).1;omega
theorem NoT.done (h : NoT f g p x e (ix g.sizes x)) (hx : 0≤x∧x<f.shape.objs) (he : 0≤e∧e<ix f.sizes x) : ∀ t,ExtT f g p t→¬ InjT f t:=fun t ht hi =>
 h t ht hi ((ht.1.pl x hx).2 e he).2
theorem NoT.next (h : NoT f g p x e d) (hn : ∀ t,ExtT f g p t→InjT f t→ix (ix t x) e≠d) : NoT f g p x e (d+1):=fun t ht hi hl=>by
 have h1:=h t ht hi
 have h2:=hn t ht hi;omega
end
end Go.Shf
namespace Go.Proofs.Shf
open Go.AW Go.Proofs Go.Shf
@[go_sem] def srO1 (f g : SF) (X fv : AV) : MObj:=.cells 5 [.ptr f.cells,.ptr g.cells,.bool true,X,fv] 0
theorem set1_ok (B : Nat) {f g : SF} {x e d : Int} (w : At3 f g x e d) {p : List (List Int)} (hP : PT f g p) {idS idN idB : Nat} {fv X : AV} {q l : Ob} {H0 H : Heap} (hX : OLL q X p)
  (o : Owns H0 H ((idS,srO1 f g X fv)::(idN,.cells 1 [.buf idB 0] 0)::(idB,.cells 2 [] 0)::(q++l))) :
  CallH Tryz.prog B 285 [.ref idS 0,iI x,iI e,iI d,.ref idN 0] H fun r H'=>∃ (ok : Bool) (k : Nat) (p' : List (List Int)) (N : List (Int × Int)) (q' : Ob) (idB' : Nat),r=.bool ok∧OLL q' X p' ∧
   Owns H0 H' ((idS,srO1 f g X fv)::(idN,.cells 1 [.buf idB' N.length] 0)::(idB',.cells 2 (flat (N.map prE)) 0)::(q'++l))∧SetM f g p x e d k p' N∧k≤(outs f.shape x).length ∧
   (ok=true→k=(outs f.shape x).length)∧(ok=false→∀ t,ExtT f g p t→InjT f t→ix (ix t x) e≠d):=by
 refine c285p.go fun _=>?_
 have hm:=w.hf.1.is.1.m
 have hob:=w.hf.1.is.1.o
 have htl:=w.hf.1.is.1.tol
 have hol : (outs f.shape x).length≤40:=by
  rw [outs,List.length_map];refine Nat.le_trans (List.length_filter_le _ _) ?_;rw [List.length_range]; omega
 have hgal : g.acts.length=f.shape.frm.length:=by have:=w.hg.1.al; rw [← w.sh] at this; exact this
 refine tt ?_;refine rd_cells o (by simp) ?_;refine tt ?_;refine (outOf_ok B f.shape x).go fun _=>tt ?_
 refine awp_for [0,2,3,4,11,25,26] (G:=List (List Int) × List (Int × Int) × Ob × Nat) (fun k _=>[(27,some (.int .i64 (k : Int)))])
  (fun k G H=>OLL G.2.2.1 X G.1∧SetM f g p x e d k G.1 G.2.1∧Owns H0 H ((idS,srO1 f g X fv)::(idN,MObj.cells 1 [.buf G.2.2.2 G.2.1.length] 0)::(G.2.2.2,MObj.cells 2 (flat (G.2.1.map prE)) 0)::(G.2.2.1++l))) (outs f.shape x).length (p,[],q,idB) ⟨hX,.zero f g p x e d,o⟩ rfl ?_
 clear o hX
 rintro k ⟨p',N,q,idB⟩ H hk ⟨hX,hS,o⟩;dsimp only at hX hS o;refine tt ?_;apply bk <;> intro h1
 ·have h1p:=of_decide h1
  have w1:=wsucc (k:=k) (by omega)
  obtain ⟨a,ea⟩ : ∃ a,(outs f.shape x).getD k default=a:=⟨_,rfl⟩
  have hA:=w.arr (b:=a) (mem_getD.mpr ⟨k,h1p,ea⟩)
  have hin:=hP.inT w.hf.1 hA.2.2.1 hA.2.2.2.1
  have hfin:=w.hf.1.inAct hA.1 (e:=e) (by rw [hA.2.1]; exact w.he)
  have hgin:=w.hg.1.inAct (a:=a) (e:=d) (by rw [← w.sh]; exact hA.1) (by rw [← w.sh,hA.2.1]; exact w.hd)
  have hal:=w.hf.1.al
  have hp1 : (ix f.shape.to a).toNat<p'.length:=by rw [hS.len]; exact hin.1.2
  have hp2 : (ix (ix f.acts a) e).toNat<(p'.getD (ix f.shape.to a).toNat default).length:=by rw [hS.row]; exact hin.2.2
  have o1 : Owns H0 H (q++((idS,srO1 f g X fv)::(idN,.cells 1 [.buf idB N.length] 0)::(idB,.cells 2 (flat (N.map prE)) 0)::l)):=o.pm
  obtain ⟨idX0,Xs0,hXe,_,hgX0,pr,hpr,hprg⟩:=tab_row hX o1 hp1
  obtain ⟨idX,Xs,idR,rfl,hXl,hgX,hXr,hgR,hset⟩:=tab_cell hX o1 hp1 hp2
  obtain ⟨rfl,hXl2⟩:=AV.buf.inj hXe
  have eXs : Xs=Xs0:=by simpa using hgX.symm.trans hgX0
  rw [← eXs] at hpr
  have hgS : H.get idS=some (srO1 f g (.buf idX Xs.length) fv):=o.h0;refine tt ?_;refine ⟨h1p, ?_⟩;rw [ea];refine tt ?_;refine ⟨⟨hA.1.1,by omega⟩, ?_⟩;refine rd_get hgS (by simp) ?_;refine tt ?_;refine ⟨⟨hA.1.1,by omega⟩,hfin,rd_get hgS (by simp) ?_⟩;refine tt ?_;refine ⟨⟨hA.1.1,by omega⟩,hgin, ?_⟩;refine rd_get hgS (by simp) ?_;refine tt ?_;refine ⟨⟨hA.2.2.1.1,by omega⟩,rd_get hgX (by omega) ?_⟩;rw [hXr];refine tt ?_;refine ⟨⟨hA.2.2.2.1.1,hp2⟩,rd_inner (f:=iI) hgR hp2 ?_⟩
  have eV : (p'.getD (ix f.shape.to a).toNat default).getD (ix (ix f.acts a) e).toNat default=ix (ix p' (ix f.shape.to a)) (ix (ix f.acts a) e):=rfl;rw [eV];refine tt ?_;apply bk <;> intro h2
  ·have h2p : 0≤ix (ix p' (ix f.shape.to a)) (ix (ix f.acts a) e):=of_decide h2;refine tt ?_;refine rd_get hgS (by simp) ?_;refine tt ?_;refine ⟨⟨hA.2.2.1.1,by omega⟩,rd_get hgX (by omega) ?_⟩;rw [hXr];refine tt ?_;refine ⟨⟨hA.2.2.2.1.1,hp2⟩,rd_inner (f:=iI) hgR hp2 ?_⟩;rw [eV];refine tt ?_;apply bk <;> intro h3
   ·have h3p:=dd h3;refine tt ?_;exact ⟨H,.refl H,false,k,p',N,q,idB,rfl,hX,o,hS,hk,(fun h=>by cases h),fun _ t ht _=>hS.bad w h1p ea h2p h3p t ht⟩
   ·have h3p:=dd h3;refine tw w1 ?_;exact for_next (p',N,q,idB) (by omega) ⟨hX,hS.same h1p ea h3p,o⟩ rfl
  ·have h2p : ¬ 0≤ix (ix p' (ix f.shape.to a)) (ix (ix f.acts a) e):=of_ndecide h2
   have hNl:=hS.nl
   have hfr:=hS.fresh w hP h1p ea h2p;refine tt ?_;refine rd_get hgS (by simp) ?_;refine tt ?_;refine rd_get hgS (by simp) ?_;refine tt ?_;refine ⟨⟨hA.2.2.1.1,by omega⟩,rd_get hgX (by omega) ?_⟩;refine tt ?_;refine CallH.lentPure (es:=[iL (p'.getD (ix f.shape.to a).toNat default),iI (ix (ix g.acts a) d)]) (.bool _) rfl (fun i hi=>?_) (has_ok B (p'.getD (ix f.shape.to a).toNat default) (ix (ix g.acts a) d)).run ?_
   ·obtain rfl | rfl : i=0∨i=1:=by simp only [List.length_cons,List.length_nil] at hi; omega
    ·intro gg ww v hW hv;exact owL.ln pr _ _ hpr gg B H ww v hW hprg hv
    ·exact val_arg _
   by_cases hm' : ix (ix g.acts a) d∈p'.getD (ix f.shape.to a).toNat default
   ·rw [dec_t hm'];refine tt ?_;exact ⟨H,.refl H,false,k,p',N,q,idB,rfl,hX,o,hS,hk,(fun h=>by cases h),fun _ t ht hi=>hS.bad1 w hP h1p ea h2p hm' t ht hi⟩
   rw [dec_f hm'];refine tt ?_;refine rd_get hgS (by simp) ?_;refine tt ?_;refine ⟨⟨hA.2.2.1.1,by omega⟩,rd_get hgX (by omega) ?_⟩;rw [hXr];refine tt ?_;refine ⟨⟨hA.2.2.2.1.1,hp2⟩, ?_⟩;refine hset _ _ fun q' H hX' o=>tt ?_
   have o : Owns H0 H ((idB,.cells 2 (flat (N.map prE)) 0)::(idN,.cells 1 [.buf idB N.length] 0)::(idS,srO1 f g (.buf idX Xs.length) fv)::(q'++l)):=o.pm
   have hgN : H.get idN=some (.cells 1 [.buf idB N.length] 0):=o.tl.h0;refine rd_get hgN (by simp) ?_;refine tt ?_;refine app_ownN (f:=prE) (ix f.shape.to a,ix (ix f.acts a) e) o rfl rfl (by simp only [maxL]; omega) fun idB H o=>tt ?_;refine sw o.swap fun H o=>?_;refine tw w1 ?_;exact for_next (_,N++[(ix f.shape.to a,ix (ix f.acts a) e)],q',idB) (by omega) ⟨hX',hfr,(by simp only [srO1,SF.cells] at o ⊢; exact o.pm)⟩ rfl
 ·have h1p:=of_ndecide h1
  obtain rfl : k=(outs f.shape x).length:=by omega
  refine tt ?_;exact ⟨H,.refl H,true,_,p',N,q,idB,rfl,hX,o,hS,Nat.le_refl _,fun _=>rfl,fun h=>by cases h⟩
end Go.Proofs.Shf
