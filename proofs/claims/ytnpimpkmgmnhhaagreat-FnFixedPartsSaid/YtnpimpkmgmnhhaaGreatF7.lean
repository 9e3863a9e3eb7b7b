/- A part of a proof. -/
import Derived.Test.YtnpimpkmgmnhhaaGreatF6
set_option linter.unusedVariables false
set_option linter.unusedSimpArgs false
set_option linter.unusedSectionVars false
set_option maxRecDepth 100000
open Nat (reduceEqDiff reduceAdd reduceMul reduceLeDiff reduceLT)
namespace Go.Proofs.Shf
open Go.AW Go.Proofs Go.Shf
theorem two_cats {c d : Cat} : (∀ e,e∈[c,d]→e.Is)↔c.Is∧d.Is:=by simp
theorem isFunctor_ok (B : Nat) (k : FU) : Pur Tryz.prog B 68 [.ptr k.cells] (.bool (dec k.Is)):=by
 refine ⟨fun H0=>c68p (by simp) fun _=>?_⟩;unfold s68p;refine tt ?_;refine ⟨_,(show Pur Tryz.prog B 57 [.sl [.ptr k.src.cells,.ptr k.tgt.cells]] _ from areCategories_ok B [k.src,k.tgt]).run, ?_⟩
 by_cases h : k.src.Is∧k.tgt.Is
 ·rw [dec_t (two_cats.mpr h)];refine tt ?_;refine ⟨_,(fits_ok B k h.1.1 h.2.1).run,tt ?_⟩;exact pure_ret (congrArg AV.bool (dec_congr ⟨fun q=>⟨h.1,h.2,q.1,q.2⟩,fun q=>⟨q.fit,q.laws⟩⟩)) (.refl _)
 ·rw [dec_f fun q=>h (two_cats.mp q)];refine tt ?_;exact pure_ret (congrArg AV.bool (dec_f fun q=>h ⟨q.sI,q.tI⟩).symm) (.refl _)
theorem thenFu_ok (B : Nat) (k l : FU) (h1 : ∀ y,y∈k.ob→0≤y∧y.toNat<l.ob.length) (h2 : ∀ y,y∈k.ar→0≤y∧y.toNat<l.ar.length) :
  Pur Tryz.prog B 72 [.ptr k.cells,.ptr l.cells] (.agg (FU.cells ⟨k.src,l.tgt,thenL k.ob l.ob,thenL k.ar l.ar⟩)):=by
 refine ⟨fun H0=>c72p (by simp) fun _=>?_⟩;unfold s72p
 have o : Owns H0 H0 []:=.nil _;refine tt ?_;refine nb o fun id4 H o=>tt ?_;refine ⟨_,(then_ok B k.ob l.ob h1).run,_,(then_ok B k.ar l.ar h2).run,_,(functor_ok B k.src l.tgt (thenL k.ob l.ob) (thenL k.ar l.ar)).run,tt ?_⟩;refine sw o fun H o=>tt ?_
 have hr:=o.rc 12 0 (by simp);simp only [List.drop_zero] at hr;rw [hr];exact pure_ret rfl o.sub
end Go.Proofs.Shf
namespace Go.Shf
open Go.AW
structure TR where
 s : FU
 t : FU
 c : List Int
 deriving Inhabited
@[go_sem] def TR.cells (m : TR) : List AV:=m.s.cells++(m.t.cells++[iL m.c])
end Go.Shf
namespace Go.Proofs.Shf
open Go.AW Go.Proofs Go.Shf
abbrev fuP (k : FU) : AV:=.ptr k.cells
instance : One fuP:=⟨fun _=>rfl,fun _=>rfl⟩
abbrev trP (k : TR) : AV:=.ptr k.cells
instance : One trP:=⟨fun _=>rfl,fun _=>rfl⟩
theorem numbers_ok (B : Nat) (n : Nat) (hn : n≤1048576) : Pur Tryz.prog B 223 [iI n] (iL ((List.range n).map Int.ofNat)):=by
 refine ⟨fun H0=>c223 (by simp) fun _=>?_⟩;unfold s223
 have o : Owns H0 H0 []:=.nil _;refine tt ?_;refine ⟨⟨by omega,by simp only [maxL]; omega⟩,mks_list iI 0 rfl o fun id H o=>?_⟩;refine tt ?_
 refine awp_for [3,8] (G:=List Int) (fun k _=>[(9,some (.int .i64 (k : Int)))])
  (fun k A H=>A=numK n k∧Owns H0 H [(id,.cells 1 (A.map iI) 0)]) n (List.replicate n 0) ⟨(numK_zero n).symm,o⟩ rfl ?_
 clear o
 rintro k A H hk ⟨hA,o⟩;refine tt ?_;apply bk <;> intro h1
 ·have h1p : k<n:=of_decide h1
  have w1:=wsucc (k:=k) (by omega);refine tt ?_;refine ⟨h1p, ?_⟩;refine set_own (f:=iI) (k : Int) o rfl (by rw [hA]; simpa [numK] using h1p) fun H o=>?_;refine tw w1 ?_;exact for_next (A.set k (k : Int)) h1p ⟨by rw [hA,numK_succ n k h1p],o⟩ rfl
 ·have h1p : ¬ k<n:=of_ndecide h1
  obtain rfl : k=n:=by omega
  refine tt ?_;refine fz_own o (by rw [hA]; simp [numK]) fun H o=>tt ?_;exact pure_ret (by rw [hA,numK_full]) o.sub
theorem areFunctors_ok (B : Nat) (l : List FU) : Pur Tryz.prog B 85 [mL fuP l] (.bool (dec (∀ c,c∈l→c.Is))):=by
 refine ⟨fun H0=>c85 (by simp) fun ⟨hf,_⟩=>?_⟩
 have hl:=fine_mL_le hf;simp only [maxL] at hl;unfold s85;refine tt ?_;refine awp_for [5,6] (fun k _=>[(7,some (.int .i64 (k : Int)))]) (fun k _ H=>H=H0∧∀ i,i<k→(l.getD i default).Is) l.length () ⟨rfl,by simp⟩ rfl ?_
 rintro k _ H hk ⟨rfl,hall⟩;refine tt ?_;apply bk <;> intro h1
 ·have h1:=of_decide h1
  have w1:=wsucc (k:=k) (by omega);refine tt ?_;refine ⟨h1, ?_⟩;refine (isFunctor_ok B (l.getD k default)).go fun _=>?_
  by_cases e : (l.getD k default).Is
  ·rw [dec_t e];refine tw w1 ?_;exact for_next () (by omega) ⟨rfl,lt_succ_all hall e⟩ rfl
  ·rw [dec_f e];refine tt ?_;exact pure_ret (by rw [dec_f fun q=>e (q _ (mem_getD.mpr ⟨k,h1,rfl⟩))]) (.refl _)
 ·refine tt ?_
  have h1:=of_ndecide h1
  have hA : ∀ c,c∈l→c.Is:=fun c hc=>by
   obtain ⟨i,hi,rfl⟩:=mem_getD.mp hc;exact hall i (by omega)
  exact pure_ret (by rw [dec_t hA]) (.refl _)
theorem leadBack_ok (B : Nat) (f g : FU) : Pur Tryz.prog B 126 [.ptr f.cells,.ptr g.cells] (.bool (dec (f.src=g.tgt∧f.tgt=g.src))):=by
 refine ⟨fun H0=>c126 (by simp) fun _=>?_⟩;unfold s126
 have q1:=sameCategory_ok B f.src g.tgt
 have q2:=sameCategory_ok B f.tgt g.src;refine tt ?_;refine ⟨_,q1.run, ?_⟩
 by_cases e1 : f.src=g.tgt
 ·rw [dec_t e1];refine tt ?_;refine ⟨_,q2.run,tt ?_⟩;exact pure_ret (congrArg AV.bool (dec_congr ⟨fun q=>⟨e1,q⟩,fun q=>q.2⟩)) (.refl _)
 ·rw [dec_f e1];refine tt ?_;exact pure_ret (by rw [dec_f fun q=>e1 q.1]) (.refl _)
theorem parallel_ok (B : Nat) (f g : FU) : Pur Tryz.prog B 263 [.ptr f.cells,.ptr g.cells] (.bool (dec (f.src=g.src∧f.tgt=g.tgt))):=by
 refine ⟨fun H0=>c263 (by simp) fun _=>?_⟩;unfold s263
 have q1:=sameCategory_ok B f.src g.src
 have q2:=sameCategory_ok B f.tgt g.tgt;refine tt ?_;refine ⟨_,q1.run, ?_⟩
 by_cases e1 : f.src=g.src
 ·rw [dec_t e1];refine tt ?_;refine ⟨_,q2.run,tt ?_⟩;exact pure_ret (congrArg AV.bool (dec_congr ⟨fun q=>⟨e1,q⟩,fun q=>q.2⟩)) (.refl _)
 ·rw [dec_f e1];refine tt ?_;exact pure_ret (by rw [dec_f fun q=>e1 q.1]) (.refl _)
theorem identity_ok (B : Nat) (c : Cat) (hc : c.Is) : Pur Tryz.prog B 177 [.ptr c.cells] (.agg (idF c).cells):=by
 refine ⟨fun H0=>c177 (by simp) fun _=>?_⟩;unfold s177
 have o : Owns H0 H0 []:=.nil _
 have hob:=hc.1.o
 have hm:=hc.1.m
 have q1:=numbers_ok B c.objs.toNat (by omega);rw [Int.toNat_of_nonneg hob.1] at q1
 have q2:=numbers_ok B c.frm.length (by omega)
 have q3:=functor_ok B c c (idL c.objs.toNat) (idL c.frm.length);refine tt ?_;refine nb o fun id8 H o=>tt ?_;refine q1.go fun _=>tt ?_;refine (arrows_ok B c).go fun _=>tt ?_;refine q2.go fun _=>tt ?_;refine q3.go fun _=>tt ?_;refine sw o fun H o=>tt ?_
 have hr:=o.rc 12 0 (by simp);simp only [List.drop_zero] at hr;rw [hr];exact pure_ret rfl o.sub
theorem dec_of {p q : Prop} [Decidable p] (h : p↔q) : decide p=dec q:=by
 by_cases e : p
 ·rw [decide_eq_true e,dec_t (h.mp e)]
 ·rw [decide_eq_false e,dec_f fun w=>e (h.mpr w)]
theorem first_not {P : Nat→Prop} : ∀ n : Nat,(∀ a,a<n→P a)∨∃ k,k<n∧¬ P k∧∀ i,i<k→P i
 | 0=>.inl fun a h=>by omega
 | n+1=>by
  rcases first_not (P:=P) n with h | ⟨k,h1,h2,h3⟩
  ·by_cases q : P n
   ·exact .inl fun a ha=>by
     by_cases e : a=n
     ·rw [e]; exact q
     ·exact h a (by omega)
   ·exact .inr ⟨n,by omega,q,fun i hi=>h i hi⟩
  ·exact .inr ⟨k,by omega,h2,h3⟩
theorem commutes_ok (B : Nat) {f g : FU} (hf : f.Is) (hg : g.Is) (e1 : f.src=g.src) (e2 : f.tgt=g.tgt) {t : List Int} (h : NatS f g t) {a : Nat} (ha : a<f.src.frm.length) :
  Pur Tryz.prog B 244 [.ptr f.cells,.ptr g.cells,iL t,iI (a : Int)] (.bool (dec (SqA f g t a))):=by
 refine ⟨fun H0=>c244 (by simp) fun _=>?_⟩;unfold s244
 have hfa:=hf.fit.al
 have hga:=hg.fit.al;rw [← e1] at hga
 have htl:=hf.sI.1.tol
 have hl:=h.len
 have hy:=hf.sI.1.to _ (mem_getD.mpr ⟨a,(by omega : a<f.src.to.length),rfl⟩)
 have hx:=hf.sI.1.frm _ (mem_getD.mpr ⟨a,ha,rfl⟩)
 have r1:=hf.fit.arr _ (mem_getD.mpr ⟨a,(by omega : a<f.ar.length),rfl⟩)
 have r2:=hg.fit.arr _ (mem_getD.mpr ⟨a,(by omega : a<g.ar.length),rfl⟩);rw [← e2] at r2
 have r3:=h.ran _ (ix_mem (l:=t) (i:=f.src.to.getD a default) (by omega))
 have r4:=h.ran _ (ix_mem (l:=t) (i:=f.src.frm.getD a default) (by omega))
 have cl:=hf.tI.1.cl
 have row : ∀ z : Int,0≤z∧z<(f.tgt.frm.length : Int)→(ix f.tgt.comp z).length=f.tgt.frm.length:=fun z hz=>hf.tI.1.row' (by omega)
 have q1:=catThen_ok B f.tgt (f.ar.getD a default) (ix t (f.src.to.getD a default)) ⟨r1.1,by omega⟩ ⟨r3.1,by rw [row _ r1]; omega⟩
 have q2:=catThen_ok B f.tgt (ix t (f.src.frm.getD a default)) (g.ar.getD a default) ⟨r4.1,by omega⟩ ⟨r2.1,by rw [row _ r4]; omega⟩;refine tt ?_;refine ⟨by omega,by omega,⟨hy.1,by omega⟩,⟨_,q1.run, ?_⟩⟩;refine tt ?_;refine ⟨ha,⟨hx.1,by omega⟩,by omega,⟨_,q2.run, ?_⟩⟩;refine tt ?_;exact pure_ret (congrArg AV.bool (dec_of Iff.rfl)) (.refl _)
theorem firstFailure_ok (B : Nat) {f g : FU} (hf : f.Is) (hg : g.Is) (e1 : f.src=g.src) (e2 : f.tgt=g.tgt) {t : List Int} (h : NatS f g t) :
  ∃ n : Int,Pur Tryz.prog B 250 [.ptr (TR.cells ⟨f,g,t⟩),.fn (.func 244) []] (iI n)∧(n<0↔∀ a : Nat,a<f.src.frm.length→SqA f g t a):=by
 have hm:=hf.sI.1.m
 have hfa:=hf.fit.al
 rcases first_not (P:=fun a=>SqA f g t a) f.src.frm.length with hall0 | ⟨k0,hk0,hn0,hall0⟩
 ·refine ⟨-1,⟨fun H0=>c250 (by simp) fun _=>?_⟩,⟨fun _=>hall0,fun _=>by omega⟩⟩;unfold s250;refine tt ?_;refine awp_for [0,1,11] (G:=Unit) (fun k _=>[(12,some (.int .i64 (k : Int)))]) (fun k _ H=>H=H0) f.ar.length () rfl rfl ?_
  rintro k _ H hk rfl;refine tt ?_;apply bk <;> intro h1
  ·have h1p : k<f.ar.length:=of_decide h1
   have w1:=wsucc (k:=k) (by omega)
   have q:=commutes_ok B hf hg e1 e2 h (a:=k) (by omega);rw [dec_t (hall0 k (by omega))] at q;refine tt ?_;refine ⟨_,q.run, ?_⟩;refine tw w1 ?_;exact for_next () h1p rfl rfl
  ·refine tt ?_;exact pure_ret rfl (.refl _)
 ·refine ⟨k0,⟨fun H0=>c250 (by simp) fun _=>?_⟩,⟨fun q=>by omega,fun q=>(hn0 (q k0 hk0)).elim⟩⟩;unfold s250;refine tt ?_;refine awp_for [0,1,11] (G:=Unit) (fun k _=>[(12,some (.int .i64 (k : Int)))]) (fun k _ H=>k≤k0∧H=H0) f.ar.length () ⟨Nat.zero_le _,rfl⟩ rfl ?_
  rintro k _ H hk ⟨hkk,rfl⟩;refine tt ?_;apply bk <;> intro h1
  ·have h1p : k<f.ar.length:=of_decide h1
   have w1:=wsucc (k:=k) (by omega)
   have q:=commutes_ok B hf hg e1 e2 h (a:=k) (by omega)
   by_cases e : k=k0
   ·rw [dec_f (e ▸ hn0)] at q;refine tt ?_;refine ⟨_,q.run,tt ?_⟩;exact pure_ret (by rw [e]) (.refl _)
   ·rw [dec_t (hall0 k (by omega))] at q;refine tt ?_;refine ⟨_,q.run, ?_⟩;refine tw w1 ?_;exact for_next () h1p ⟨by omega,rfl⟩ rfl
  ·have:=of_ndecide h1;omega
theorem isShapeT_ok (B : Nat) (m : TR) (hs : m.s.Is) (ht : m.t.Is) : Pur Tryz.prog B 249 [.ptr m.cells] (.bool (dec ((m.s.src=m.t.src∧m.s.tgt=m.t.tgt)∧NatS m.s m.t m.c))):=by
 refine ⟨fun H0=>c249 (by simp) fun _=>?_⟩;unfold s249
 have q1:=areFunctors_ok B [m.s,m.t];rw [dec_t (fun c hc=>by simp at hc; rcases hc with rfl | rfl <;> assumption)] at q1
 have q2:=parallel_ok B m.s m.t
 have q3:=within_ok B m.c m.s.tgt.frm.length (by have:=hs.tI.1.m; omega)
 have q4:=arrows_ok B m.s.tgt;refine tt ?_;refine ⟨_,(show Pur Tryz.prog B 85 [.sl [.ptr m.s.cells,.ptr m.t.cells]] _ from q1).run,tt ?_⟩;refine ⟨_,q2.run, ?_⟩
 by_cases e : m.s.src=m.t.src∧m.s.tgt=m.t.tgt
 rotate_left
 ·rw [dec_f e];refine tt ?_;exact pure_ret (by rw [dec_f fun q=>e q.1]) (.refl _)
 rw [dec_t e];refine tt ?_
 by_cases hl : (m.c.length : Int)=m.s.src.objs
 rotate_left
 ·rw [decide_eq_false hl];refine tt ?_;exact pure_ret (by rw [dec_f fun q=>hl q.2.len]) (.refl _)
 rw [decide_eq_true hl];refine tt ?_;refine ⟨_,q4.run,tt ?_⟩;refine ⟨_,q3.run, ?_⟩
 by_cases hr : ∀ y,y∈m.c→0≤y∧y<(m.s.tgt.frm.length : Int)
 rotate_left
 ·rw [dec_f hr];refine tt ?_;exact pure_ret (by rw [dec_f fun q=>hr q.2.ran]) (.refl _)
 rw [dec_t hr]
 have so:=hs.fit.ol
 have to:=ht.fit.ol;rw [← e.1] at to
 have tl:=hs.tI.1.tol
 have hob:=hs.sI.1.o;refine tt ?_;refine awp_for [3,4,52,53] (fun k _=>[(54,some (.int .i64 (k : Int)))]) (fun k _ H=>H=H0∧∀ i,i<k→ix m.s.tgt.frm (m.c.getD i default)=m.s.ob.getD i default∧ix m.s.tgt.to (m.c.getD i default)=m.t.ob.getD i default) m.c.length () ⟨rfl,by simp⟩ rfl ?_
 rintro k _ H hk ⟨rfl,hall⟩;refine tt ?_;apply bk <;> intro h1
 rotate_left
 ·refine tt ?_
  have h1:=of_ndecide h1;exact pure_ret (by rw [dec_t ⟨e,hl,hr,fun x hx=>hall x (by omega)⟩]) (.refl _)
 have h1:=of_decide h1
 have w1:=wsucc (k:=k) (by omega)
 have r:=hr _ (mem_getD.mpr ⟨k,h1,rfl⟩)
 have q5:=ends_ok B m.s.tgt (m.c.getD k default) ⟨r.1,by omega⟩ (by omega);refine tt ?_;refine ⟨h1,tt ?_⟩;refine ⟨_,q5.run,tt ?_⟩;refine ⟨by omega,by omega,tt ?_⟩
 by_cases q : ix m.s.tgt.frm (m.c.getD k default)=m.s.ob.getD k default∧ix m.s.tgt.to (m.c.getD k default)=m.t.ob.getD k default
 ·rw [dec_t q];refine tw w1 ?_;exact for_next () (by omega) ⟨rfl,lt_succ_all hall q⟩ rfl
 ·rw [dec_f q];refine tt ?_;exact pure_ret (by rw [dec_f fun w=>q (w.2.ends k h1)]) (.refl _)
theorem isNaturalT_ok (B : Nat) (m : TR) (hs : m.s.Is) (ht : m.t.Is) : Pur Tryz.prog B 224 [.ptr m.cells] (.bool (dec ((m.s.src=m.t.src∧m.s.tgt=m.t.tgt)∧NatF m.s m.t m.c))):=by
 refine ⟨fun H0=>c224 (by simp) fun _=>?_⟩;unfold s224
 have q1:=isShapeT_ok B m hs ht;refine tt ?_;refine q1.go fun _=>?_
 by_cases e : (m.s.src=m.t.src∧m.s.tgt=m.t.tgt)∧NatS m.s m.t m.c
 ·obtain ⟨n,q2,hn⟩:=firstFailure_ok B hs ht e.1.1 e.1.2 e.2;rw [dec_t e];refine tt ?_;refine q2.go fun _=>tt ?_;refine pure_ret ?_ (.refl _)
  congr 1
  have:=natF_iff (f:=m.s) (g:=m.t) hs.sI (t:=m.c)
  by_cases q : n<0
  ·rw [decide_eq_true q,dec_t ⟨e.1,this.mpr ⟨e.2,hn.mp q⟩⟩]
  ·rw [decide_eq_false q,dec_f fun w=>q (hn.mpr (this.mp w.2).2)]
 ·rw [dec_f e];refine tt ?_;exact pure_ret (by rw [dec_f fun w=>e ⟨w.1,((natF_iff hs.sI).mp w.2).1⟩]) (.refl _)
theorem areNatural_ok (B : Nat) (l : List TR) (hl : ∀ m,m∈l→m.s.Is∧m.t.Is) : Pur Tryz.prog B 178 [mL trP l] (.bool (dec (∀ m,m∈l→(m.s.src=m.t.src∧m.s.tgt=m.t.tgt)∧NatF m.s m.t m.c))):=by
 refine ⟨fun H0=>c178 (by simp) fun ⟨hf,_⟩=>?_⟩
 have hlm:=fine_mL_le hf;simp only [maxL] at hlm;unfold s178;refine tt ?_;refine awp_for [5,6] (fun k _=>[(7,some (.int .i64 (k : Int)))]) (fun k _ H=>H=H0∧∀ i,i<k→((l.getD i default).s.src=(l.getD i default).t.src∧(l.getD i default).s.tgt=(l.getD i default).t.tgt)∧NatF (l.getD i default).s (l.getD i default).t (l.getD i default).c) l.length () ⟨rfl,by simp⟩ rfl ?_
 rintro k _ H hk ⟨rfl,hall⟩;refine tt ?_;apply bk <;> intro h1
 ·have h1:=of_decide h1
  have w1:=wsucc (k:=k) (by omega)
  have hm:=hl _ (mem_getD.mpr ⟨k,h1,rfl⟩);refine tt ?_;refine ⟨h1, ?_⟩;refine (isNaturalT_ok B (l.getD k default) hm.1 hm.2).go fun _=>?_
  by_cases e : ((l.getD k default).s.src=(l.getD k default).t.src∧(l.getD k default).s.tgt=(l.getD k default).t.tgt)∧NatF (l.getD k default).s (l.getD k default).t (l.getD k default).c
  ·rw [dec_t e];refine tw w1 ?_;exact for_next () (by omega) ⟨rfl,lt_succ_all hall e⟩ rfl
  ·rw [dec_f e];refine tt ?_;exact pure_ret (by rw [dec_f fun q=>e (q _ (mem_getD.mpr ⟨k,h1,rfl⟩))]) (.refl _)
 ·refine tt ?_
  have h1:=of_ndecide h1
  have hA : ∀ c,c∈l→(c.s.src=c.t.src∧c.s.tgt=c.t.tgt)∧NatF c.s c.t c.c:=fun c hc=>by
   obtain ⟨i,hi,rfl⟩:=mem_getD.mp hc;exact hall i (by omega)
  exact pure_ret (by rw [dec_t hA]) (.refl _)
def FullXY (k : FU) (x y : Int) : Prop:=∀ b,b∈hom k.tgt (ix k.ob x) (ix k.ob y)→b∈(hom k.src x y).map (ix k.ar)
theorem full_iff {k : FU} : k.Full↔∀ i : Nat,(i : Int)<k.src.objs→∀ j : Nat,(j : Int)<k.src.objs→FullXY k i j:=by
 constructor
 ·intro h i hi j hj;exact h i j ⟨by omega,hi⟩ ⟨by omega,hj⟩
 ·intro h x y hx hy
  have:=h x.toNat (by omega) y.toNat (by omega);rw [Int.toNat_of_nonneg hx.1,Int.toNat_of_nonneg hy.1] at this;exact this
theorem isFull_ok (B : Nat) (k : FU) (hk : k.Is) : Pur Tryz.prog B 60 [.ptr k.cells] (.bool (dec k.Full)):=by
 refine ⟨fun H0=>c60p (by simp) fun _=>?_⟩;unfold s60p
 have hc:=hk.sI.1
 have hco:=hc.o
 have hcm:=hc.m
 have hol:=hk.fit.ol
 have hal:=hk.fit.al
 have hobj : ∀ x : Nat,(x : Int)<k.src.objs→x<k.ob.length:=fun x hx=>by omega
 refine tt ?_;refine awp_for [0,3] (fun x _=>[(4,some (.int .i64 (x : Int)))]) (fun x _ H=>H=H0∧∀ i,i<x→∀ j : Nat,(j : Int)<k.src.objs→FullXY k (i : Nat) j) k.src.objs.toNat () ⟨rfl,by simp⟩ rfl ?_
 rintro x _ H hx ⟨rfl,hall⟩;refine tt ?_;apply bk <;> intro h1
 ·have h1p:=of_decide h1
  have w1:=wsucc (k:=x) (by omega);refine tt ?_;refine awp_for [0,3,4] (fun y _=>[(5,some (.int .i64 (y : Int)))]) (fun y _ H'=>H'=H∧∀ j,j<y→FullXY k (x : Nat) (j : Nat)) k.src.objs.toNat () ⟨rfl,by simp⟩ rfl ?_
  rintro y _ H hy ⟨rfl,hrow⟩;refine tt ?_;apply bk <;> intro h2
  ·have h2p:=of_decide h2
   have w2:=wsucc (k:=y) (by omega)
   have ex : ix k.ob (x : Int)=k.ob.getD x default:=ix_nat _ _
   have ey : ix k.ob (y : Int)=k.ob.getD y default:=ix_nat _ _;refine tt ?_;refine ⟨_,(hom_ok B k.src hc x y).run,_,(then_ok B (hom k.src x y) k.ar fun f hf=>by have:=(ar_hom.mp hf).r; omega).run,tt ?_⟩;refine ⟨hobj x h1p,hobj y h2p,_,(hom_ok B k.tgt hk.tI.1 _ _).run, ?_⟩
   have hT : ∀ P : Int→Prop,(∀ b,b∈hom k.tgt (ix k.ob x) (ix k.ob y)→P b)↔∀ e,e<(hom k.tgt (k.ob.getD x default) (k.ob.getD y default)).length→P ((hom k.tgt (k.ob.getD x default) (k.ob.getD y default)).getD e default):=fun P=>by
    rw [ex,ey]; exact all_getD
   have hln : (hom k.tgt (k.ob.getD x default) (k.ob.getD y default)).length≤40:=by
    rw [hom_homC]; exact Nat.le_trans (homC_len _ _) hk.tI.1.m
   generalize hI : (hom k.src x y).map (fun f=>ix k.ar f)=I
   have hFx : FullXY k x y↔∀ e,e<(hom k.tgt (k.ob.getD x default) (k.ob.getD y default)).length→(hom k.tgt (k.ob.getD x default) (k.ob.getD y default)).getD e default∈I:=by
    rw [FullXY,hT,← hI]
   generalize hom k.tgt (k.ob.getD x default) (k.ob.getD y default)=T at hFx hln ⊢;refine tt ?_;refine awp_for [0,3,4,5,6,54,55] (fun e _=>[(56,some (.int .i64 (e : Int)))]) (fun e _ H'=>H'=H∧∀ i,i<e→T.getD i default∈I) T.length () ⟨rfl,by simp⟩ rfl ?_
   rintro e _ H he ⟨rfl,hb⟩;refine tt ?_;apply bk <;> intro h3
   ·have h3p : e<T.length:=of_decide h3
    have w3:=wsucc (k:=e) (by omega);refine tt ?_;refine ⟨h3p,(has_ok B I _).go fun _=>?_⟩
    by_cases t : T.getD e default∈I
    ·rw [dec_t t];try simp only [go_sem,↓reduceIte,reduceEqDiff,reduceAdd,reduceMul,reduceLeDiff,reduceLT,Bool.not_true,w3]
     exact for_next () h3p ⟨rfl,lt_succ_all hb t⟩ rfl
    ·rw [dec_f t];try simp only [go_sem,↓reduceIte,reduceEqDiff,reduceAdd,reduceMul,reduceLeDiff,reduceLT,Bool.not_false]
     exact pure_ret (congrArg AV.bool (dec_f fun q=>t (hFx.mp (full_iff.mp q x h1p y h2p) e h3p)).symm) (.refl _)
   have h3p : e=T.length:=by have:=of_ndecide h3; omega
   refine tw w2 ?_;exact for_next () (by omega) ⟨rfl,lt_succ_all hrow (hFx.mpr fun i hi=>hb i (by omega))⟩ rfl
  have h2p:=of_ndecide h2;refine tw w1 ?_;exact for_next () (by omega) ⟨rfl,lt_succ_all hall fun j hj=>hrow j (by omega)⟩ rfl
 have h1p:=of_ndecide h1;refine tt ?_;exact pure_ret (congrArg AV.bool (dec_t (full_iff.mpr fun i hi j hj=>hall i (by omega) j hj)).symm) (.refl _)
def TwinA (k : FU) (a b : Nat) : Prop:=k.ar.getD a default=k.ar.getD b default∧k.src.frm.getD a default=k.src.frm.getD b default∧k.src.to.getD a default=k.src.to.getD b default
theorem faith_iff {k : FU} (hal : k.ar.length=k.src.frm.length) : k.Faith↔∀ a,a<k.ar.length→∀ b,b<a→¬ TwinA k a b:=by
 constructor
 ·intro h a ha b hb t
  have:=h a b ⟨by omega,by simp; omega⟩ ⟨by omega,by simp; omega⟩ (by rw [ix_nat,ix_nat]; exact t.1) (by rw [ix_nat,ix_nat]; exact t.2.1) (by rw [ix_nat,ix_nat]; exact t.2.2);omega
 ·intro h a b ha hb e1 e2 e3
  have key : ∀ a b : Int,(0≤a∧a.toNat<k.src.frm.length)→(0≤b∧b.toNat<k.src.frm.length)→ix k.ar a=ix k.ar b→ix k.src.frm a=ix k.src.frm b→ix k.src.to a=ix k.src.to b→¬ b<a:=fun a b ha hb e1 e2 e3 hlt =>
   h a.toNat (by omega) b.toNat (by omega) ⟨e1,e2,e3⟩
  have h1:=key a b ha hb e1 e2 e3
  have h2:=key b a hb ha e1.symm e2.symm e3.symm;omega
theorem isFaithful_ok (B : Nat) (k : FU) (hk : k.Is) : Pur Tryz.prog B 61 [.ptr k.cells] (.bool (dec k.Faith)):=by
 refine ⟨fun H0=>c61p (by simp) fun _=>?_⟩;unfold s61p
 have hal:=hk.fit.al
 have hcm:=hk.sI.1.m
 have htl:=hk.sI.1.tol;refine tt ?_;refine awp_for [0,9] (fun a _=>[(10,some (.int .i64 (a : Int)))]) (fun a _ H=>H=H0∧∀ i,i<a→∀ j,j<i→¬ TwinA k i j) k.ar.length () ⟨rfl,by simp⟩ rfl ?_
 rintro a _ H ha ⟨rfl,hall⟩;refine tt ?_;apply bk <;> intro h1
 ·have h1p : a<k.ar.length:=of_decide h1
  have w1:=wsucc (k:=a) (by omega);refine tt ?_;refine ⟨by omega, ?_⟩;rw [show (List.take a k.ar).length=a by rw [List.length_take]; omega];refine awp_for [0,3,9,10,19] (fun b _=>[(20,some (.int .i64 (b : Int)))]) (fun b _ H'=>H'=H∧∀ j,j<b→¬ TwinA k a j) a () ⟨rfl,by simp⟩ rfl ?_
  rintro b _ H hb ⟨rfl,hrow⟩;refine tt ?_;apply bk <;> intro h2
  ·have h2p : b<a:=of_decide h2
   have w2:=wsucc (k:=b) (by omega);refine tt ?_;refine ⟨h1p,by omega, ?_⟩
   by_cases t1 : k.ar.getD a default=k.ar.getD b default
   ·have t1':=decide_eq_true t1;try simp only [go_sem,↓reduceIte,reduceEqDiff,reduceAdd,reduceMul,reduceLeDiff,reduceLT,t1']
    refine ⟨_,(ends_ok B k.src a ⟨by omega,by simp; omega⟩ (by simp; omega)).run,_,(ends_ok B k.src b ⟨by omega,by simp; omega⟩ (by simp; omega)).run,tt ?_⟩
    by_cases t2 : k.src.frm.getD a default=k.src.frm.getD b default∧k.src.to.getD a default=k.src.to.getD b default
    ·rw [dec_t t2];refine tt ?_;exact pure_ret (congrArg AV.bool (dec_f fun q=>(faith_iff hal).mp q a h1p b h2p ⟨t1,t2.1,t2.2⟩).symm) (.refl _)
    ·rw [dec_f t2];refine tw w2 ?_;exact for_next () (by omega) ⟨rfl,lt_succ_all hrow fun q=>t2 q.2⟩ rfl
   ·have t1':=decide_eq_false t1;try simp only [go_sem,↓reduceIte,reduceEqDiff,reduceAdd,reduceMul,reduceLeDiff,reduceLT,t1',w2]
    exact for_next () (by omega) ⟨rfl,lt_succ_all hrow fun q=>t1 q.1⟩ rfl
  have h2p : b=a:=by have:=of_ndecide h2; omega
  refine tw w1 ?_;exact for_next () (by omega) ⟨rfl,lt_succ_all hall fun j hj=>hrow j (by omega)⟩ rfl
 have h1p : a=k.ar.length:=by have:=of_ndecide h1; omega
 refine tt ?_;exact pure_ret (congrArg AV.bool (dec_t ((faith_iff hal).mpr fun i hi j hj=>hall i (by omega) j hj)).symm) (.refl _)
theorem dT5 {p : Decidable True} : @decide True p=true:=@decide_eq_true True p trivial
theorem searchable_ok (B : Nat) (c d : Cat) : Pur Tryz.prog B 237 [.ptr c.cells,.ptr d.cells] (.bool (dec (c.frm.length≤16∧d.frm.length≤16))):=by
 refine ⟨fun H0=>c237p (by simp) fun _=>?_⟩;unfold s237p;refine tt ?_;refine (arrows_ok B c).go fun _=>?_
 by_cases h1 : c.frm.length≤16
 rotate_left
 ·have h1' : decide ((c.frm.length : Int)≤16)=false:=decide_eq_false (by omega);try simp only [go_sem,↓reduceIte,reduceEqDiff,reduceAdd,reduceMul,reduceLeDiff,reduceLT,h1']
  exact pure_ret (congrArg AV.bool (dec_f fun q=>h1 q.1).symm) (.refl _)
 have h1' : decide ((c.frm.length : Int)≤16)=true:=decide_eq_true (by omega);try simp only [go_sem,↓reduceIte,reduceEqDiff,reduceAdd,reduceMul,reduceLeDiff,reduceLT,h1']
 refine (arrows_ok B d).go fun _=>?_
 by_cases h2 : d.frm.length≤16
 rotate_left
 ·have h2' : decide ((d.frm.length : Int)≤16)=false:=decide_eq_false (by omega);try simp only [go_sem,↓reduceIte,reduceEqDiff,reduceAdd,reduceMul,reduceLeDiff,reduceLT,h2']
  exact pure_ret (congrArg AV.bool (dec_f fun q=>h2 q.2).symm) (.refl _)
 have h2' : decide ((d.frm.length : Int)≤16)=true:=decide_eq_true (by omega);try simp only [go_sem,↓reduceIte,reduceEqDiff,reduceAdd,reduceMul,reduceLeDiff,reduceLT,h2']
 exact pure_ret (congrArg AV.bool (dec_t ⟨h1,h2⟩).symm) (.refl _)
theorem l06Make_ok (B : Nat) (c d : Cat) (ob ar : List Int) : Pur Tryz.prog B 81 [.agg c.cells,.agg d.cells,iL ob,iL ar] (.agg (FU.cells ⟨c,d,ob,ar⟩)):=by
 refine ⟨fun H0=>c81 (by simp) fun _=>?_⟩;unfold s81
 have o : Owns H0 H0 []:=.nil _;refine tt ?_;refine nb o fun id8 H o=>tt ?_;refine ⟨_,(l02Own_ok B c).run,_,(l02Own_ok B d).run,_,(l01Own_ok B ob).run,_,(l01Own_ok B ar).run,tt ?_⟩;refine sw o fun H o=>tt ?_
 have hr:=o.rc 12 0 (by simp);simp only [List.drop_zero] at hr;rw [hr];exact pure_ret rfl o.sub
end Go.Proofs.Shf
