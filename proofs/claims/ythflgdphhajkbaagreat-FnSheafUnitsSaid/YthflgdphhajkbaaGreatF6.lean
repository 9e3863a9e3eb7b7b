/- Contracts, part 6. -/
import Derived.Test.YthflgdphhajkbaaGreatF5
set_option linter.unusedVariables false
set_option linter.unusedSimpArgs false
set_option linter.unusedSectionVars false
open Nat (reduceEqDiff reduceAdd reduceMul reduceLeDiff reduceLT)
namespace Go.AW
theorem xwp_for {P : Program} {B : Nat} {l : List Nat} {c : XC} {Q : AQ} {X0 : Heap→Prop} {σ : Env} {H : Heap} (lf : List Nat) {G : Type} (E : Nat→G→Env) (J : Nat→G→Heap→Prop) (n : Nat) (g : G)
  (h0 : J 0 g H) (he : Env.keep l σ=E 0 g++Env.keep lf σ)
  (h : ∀ k g H,k≤n→J k g H→xwp P B c (lpQ l (fun m σ' H=>∃ k g,k≤n∧m=n - k∧J k g H∧σ'=E k g++Env.keep lf σ) (n - k) Q) X0 (E k g++Env.keep lf σ) H) :
  xwp P B (.loop l c) Q X0 σ H :=
 ⟨fun m σ' H=>∃ k g,k≤n∧m=n - k∧J k g H∧σ'=E k g++Env.keep lf σ,n,_,_,⟨0,g,by omega,rfl,h0,he⟩,.refl _ _,
  fun m σ H ⟨k,g,h1,h2,h3,h4⟩=>h2 ▸ h4 ▸ h k g H h1 h3⟩
end Go.AW
namespace Go.Proofs.Shf
open Go.AW Go.Proofs Go.Shf
theorem doGlue_x (B : Nat) (f : SF) (h : f.Shape) (v : Cov) (cnt : AV) (x s : Nat) (L : List (List Int)) (H : Heap) (i9 i5 i7 : Nat) (h9 : H.get i9=some (.cells 1 [iLL L] 0)) (h5 : H.get i5=some (.cells 1 [.int .i64 x] 0)) (h7 : H.get i7=some (.cells 1 [.int .i64 s] 0))
  (hx : x<f.sizes.length) (hvx : x<v.sieves.length) (hvs : s<(v.sieves.getD x default).length) (hsv : f.shape.Sieve x ((v.sieves.getD x default).getD s default)) (hL : L.length≤1000) :
  CallX Tryz.prog B 186 [.ref i9 0,.ptr [.ptr f.cells],.ref i5 0,.ptr [.ptr (v.cells cnt)],.ref i7 0] H (fun _ H'=>H.sub H'∧dec (∀ t,t∈L→UniqG f x ((v.sieves.getD x default).getD s default) t)=true)
   (fun H'=>H.sub H'∧dec (∀ t,t∈L→UniqG f x ((v.sieves.getD x default).getD s default) t)=false):=by
 have hal:=h.al
 have hsl:=h.sl
 have hz:=h.sizeAt (y:=(x : Int)) ⟨by omega,by omega⟩
 have hgl:=fun t=>glue_x B f x ((v.sieves.getD x default).getD s default) t ⟨by omega,by simpa using hx⟩ (by omega) (fun a ha=>by have:=hsv.arr ha; omega) (fun a ha=>by
  have hv:=hsv.arr ha
  have h1:=h.actLen hv.1.2;rw [hv.2] at h1;exact h1)
 generalize hS : (v.sieves.getD x default).getD s default=S at *;refine CallX.of_xwp (hs:=h91x) (s:=s186x) (rvs:=[]) Tryz.func186 rfl (by kernel_rfl) fits186 (by kernel_rfl) (by rw [Tryz.ntmps186]; simp) fun _=>?_;unfold s186x;refine tw h9 ?_;refine xwp_for [1,2,3,4,7,8] (G:=Unit) (fun k _=>[(9,some (.int .i64 (k : Int)))]) (fun k _ H'=>H'=H∧∀ i,i<k→UniqG f x S (L.getD i default)) L.length () ⟨rfl,by simp⟩ rfl ?_
 rintro k _ H' hk ⟨rfl,hall⟩;refine tt ?_;apply bk <;> intro h1
 ·have h1p:=dd h1
  have w:=wsucc (k:=k) (by omega);try simp only [go_sem,↓reduceIte,reduceEqDiff,reduceAdd,reduceMul,reduceLeDiff,reduceLT,h9,h5,h7]
  refine ⟨h1p,hvx,hvs, ?_⟩;rw [hS];refine (hgl (L.getD k default) H').mono ?_ ?_
  ·rintro r H ⟨⟨rfl,hu⟩,rfl⟩;refine tw w ?_;exact for_next () h1p ⟨rfl,lt_succ_all hall hu⟩ rfl
  ·rintro H ⟨hu,rfl⟩;exact ⟨.refl _,dec_f fun q=>hu (q _ (mem_getD.mpr ⟨k,h1p,rfl⟩))⟩
 ·refine tt ?_
  have h1p:=dd h1;exact ⟨H',.refl _,.refl _,dec_t (all_getD.mpr fun i hi=>hall i (by omega))⟩
def MarkGood (f : SF) (v : Cov) (x s : Nat) : Prop:=(v.marks.getD x default).getD s default=true→CovGood f x ((v.sieves.getD x default).getD s default)
def SheafM (f : SF) (v : Cov) : Prop:=∀ x,x<v.marks.length→∀ s,s<(v.marks.getD x default).length→MarkGood f v x s
theorem isSheaf_ok (B : Nat) (v : Cov) (cnt : AV) (f : SF) (h : f.Shape) (hml : (v.marks.length : Int)=f.shape.objs) (hsl : v.sieves.length=v.marks.length)
  (hms : ∀ x,x<v.marks.length→(v.marks.getD x default).length≤(v.sieves.getD x default).length∧(v.marks.getD x default).length≤1000000)
  (hsv : ∀ x,x<v.marks.length→∀ s,s<(v.sieves.getD x default).length→f.shape.Sieve x ((v.sieves.getD x default).getD s default)) :
  Pur Tryz.prog B 104 [.ptr (v.cells cnt),.ptr f.cells] (.bool (dec (SheafM f v))):=by
 refine ⟨fun H0=>c104p.go fun hfi=>?_⟩
 have hob:=h.is.1.o
 have hfl:=h.sl
 have hdo:=doGlue_x B f h v cnt;refine tt ?_;refine awp_for [2,3,15,16] (G:=Unit) (fun k _=>[(17,some (.int .i64 (k : Int)))]) (fun k _ H=>H0.sub H∧∀ x,x<k→∀ s,s<(v.marks.getD x default).length→MarkGood f v x s) v.marks.length () ⟨.refl _,by simp⟩ rfl ?_
 rintro x _ H hk ⟨hsub,hall⟩
 replace hsub : H0.sub H:=hsub
 have o : Owns H0 H []:=⟨hsub,by simp,by simp,by simp⟩;refine tt ?_;apply bk <;> intro h1
 ·have h1p:=dd h1
  have w:=wsucc (k:=x) (by omega)
  have hm1:=hms x h1p;refine tt ?_;refine ⟨h1p, ?_⟩;refine newRef_own o fun id5 H o=>tt ?_;refine sw o fun H o=>tt ?_;refine awp_for [2,3,5,15,16,17,22,23] (G:=Unit) (fun k _=>[(24,some (.int .i64 (k : Int)))]) (fun k _ H=>Owns H0 H [(id5,.cells 1 [.int .i64 (x : Int)] 0)]∧∀ s,s<k→MarkGood f v x s) (v.marks.getD x default).length () ⟨o,by simp⟩ rfl ?_;clear o
  rintro s _ H hk2 ⟨o,hall2⟩
  replace o : Owns H0 H [(id5,.cells 1 [.int .i64 (x : Int)] 0)]:=o;refine tt ?_;apply bk <;> intro h2
  ·have h2p:=dd h2
   have w2:=wsucc (k:=s) (by omega);refine tt ?_;refine ⟨h2p, ?_⟩;refine newRef_own o fun id7 H o=>tt ?_;refine sw o fun H o=>tt ?_;apply bk <;> intro h3
   ·refine tw w2 ?_
    have h3p : (v.marks.getD x default).getD s default=false:=by simpa using h3
    exact for_next () (by omega) ⟨o.tl,lt_succ_all hall2 fun e=>by rw [h3p] at e; cases e⟩ rfl
   ·have h3p : (v.marks.getD x default).getD s default=true:=by simpa using h3
    have hS:=hsv x h1p s (by omega)
    have hq:=fun L hL H i9 h9 h5 h7=>hdo x s L H i9 id5 id7 h9 h5 h7 (by omega) (by omega) (by omega) hS hL;refine tt ?_;refine rd_get o.tl.h0 (by simp) ?_;refine tt ?_;refine ⟨by omega, ?_⟩;refine rd_get o.h0 (by simp) ?_;refine tt ?_;refine ⟨by omega,_,(families_ok B f h x ((v.sieves.getD x default).getD s default) hS 16 (by omega)).run, ?_⟩
    generalize hFa : famS f ((v.sieves.getD x default).getD s default)=Fa at *;refine tt ?_;refine newRef_own o fun id9 H o=>tt ?_;refine sw o fun H o=>tt ?_
    by_cases h4p : Fa.length≤16
    ·have htk : Fa.take 17=Fa:=List.take_of_length_le (by omega);rw [htk] at o;rw [decide_eq_true h4p];refine tt ?_;refine glued_ok (b:=dec (∀ t,t∈Fa→UniqG f x ((v.sieves.getD x default).getD s default) t)) (fun H1 hs1=>?_) ?_
     ·exact hq Fa (by omega) H1 id9 (hs1 _ _ o.h0) (hs1 _ _ o.tl.tl.h0) (hs1 _ _ o.tl.h0)
     by_cases hu : ∀ t,t∈Fa→UniqG f x ((v.sieves.getD x default).getD s default) t
     ·rw [dec_t hu];try simp only [go_sem,↓reduceIte,reduceEqDiff,reduceAdd,reduceMul,reduceLeDiff,reduceLT,Bool.not_true,w2]
      refine for_next () (by omega) ⟨o.tl.tl,lt_succ_all hall2 fun _=>⟨by rw [hFa]; exact h4p,by rw [hFa]; exact hu⟩⟩ rfl
     ·rw [dec_f hu];try simp only [go_sem,↓reduceIte,reduceEqDiff,reduceAdd,reduceMul,reduceLeDiff,reduceLT,Bool.not_false]
      exact pure_ret (by rw [dec_f]; exact fun q=>hu (by have:=(q x h1p s (by omega) h3p).2; rw [hFa] at this; exact this)) o.sub
    ·rw [decide_eq_false h4p];try simp only [go_sem,↓reduceIte,reduceEqDiff,reduceAdd,reduceMul,reduceLeDiff,reduceLT,Bool.not_false]
     exact pure_ret (by rw [dec_f]; exact fun q=>h4p (by have:=(q x h1p s (by omega) h3p).1; rw [hFa] at this; exact this)) o.sub
  ·refine tw w ?_
   have h2p:=dd h2;exact for_next () (by omega) ⟨o.sub,lt_succ_all hall fun s hs=>hall2 s (by omega)⟩ rfl
 ·refine tt ?_
  have h1p:=dd h1;exact pure_ret (by rw [dec_t]; exact fun x hx=>hall x (by omega)) hsub
def SepAt (f : SF) (V : List (List Int)) (x : Nat) : Prop:=∀ e : Nat,e<(ix f.sizes x).toNat→UniqG f x (V.getD x default) (imgs f (V.getD x default) e)
theorem l28Separated_ok (B : Nat) (f : SF) (h : f.Shape) (V : List (List Int)) (c : CovOk f.shape V) : Pur Tryz.prog B 190 [.agg f.cells,iLL V] (.bool (dec (∀ x,x<V.length→SepAt f V x))):=by
 refine ⟨fun H0=>c190.go fun hfi=>?_⟩
 have hob:=h.is.1.o
 have hfl:=h.sl
 have hal:=h.al
 have hvl:=c.len;refine tt ?_;refine awp_for [1,2] (G:=Unit) (fun k _=>[(5,some (.int .i64 (k : Int)))]) (fun k _ H=>H=H0∧∀ x,x<k→SepAt f V x) V.length () ⟨rfl,by simp⟩ rfl ?_
 rintro x _ H hk ⟨rfl,hall⟩;refine tt ?_;apply bk <;> intro h1
 ·have h1p:=dd h1
  have w:=wsucc (k:=x) (by omega)
  have hz:=h.sizeAt (y:=(x : Int)) ⟨by omega,by omega⟩
  have hixk : ix f.sizes x=f.sizes.getD x default:=by simp only [ix_nat]
  have hsv:=c.sv x (by omega)
  have hs1 : ∀ a,a∈V.getD x default→0≤a∧a.toNat<f.acts.length:=fun a ha=>by have:=hsv.arr ha; omega
  have hs2 : ∀ a,a∈V.getD x default→((ix f.acts a).length : Int)=ix f.sizes x:=fun a ha=>by
   have hv:=hsv.arr ha
   have h1:=h.actLen hv.1.2;rw [hv.2] at h1;exact h1
  refine tt ?_;refine awp_for [1,2,5] (G:=Unit) (fun k _=>[(6,some (.int .i64 (k : Int)))]) (fun k _ H'=>H'=H∧∀ e : Nat,e<k→UniqG f x (V.getD x default) (imgs f (V.getD x default) e)) (ix f.sizes x).toNat () ⟨rfl,by simp⟩ rfl ?_
  rintro e _ H hk2 ⟨rfl,hall2⟩;refine tt ?_;refine ⟨by omega, ?_⟩;apply bk <;> intro h2
  ·have h2p:=dd h2
   have w2:=wsucc (k:=e) (by omega);refine tt ?_;refine ⟨by omega,by omega,_,(l28Images_ok B f (V.getD x default) e hs1 (by omega) (fun a ha=>by have:=hs2 a ha; omega)).run, ?_⟩;refine ⟨_,(l28Glued_ok B f x (V.getD x default) (imgs f (V.getD x default) e) ⟨by omega,by omega⟩ (by omega) hs1 hs2).run,tt ?_⟩;apply bk <;> intro h3
   ·refine tt ?_
    have h3p:=dd h3;exact pure_ret (by rw [dec_f]; intro q; have:=q x (by omega) e (by omega); simp only [UniqG] at this; omega) (.refl _)
   ·refine tw w2 ?_
    have h3p:=dd h3;exact for_next () (by omega) ⟨rfl,lt_succ_all hall2 (by simp only [UniqG]; omega)⟩ rfl
  ·refine tw w ?_
   have h2p:=dd h2;exact for_next () (by omega) ⟨rfl,lt_succ_all hall fun e he=>hall2 e (by omega)⟩ rfl
 ·refine tt ?_
  have h1p:=dd h1;exact pure_ret (by rw [dec_t]; exact fun x hx=>hall x (by omega)) (.refl _)
theorem l28Sheaf_ok (B : Nat) (f : SF) (h : f.Shape) (V : List (List Int)) (c : CovOk f.shape V) : Pur Tryz.prog B 106 [.agg f.cells,iLL V] (.bool (dec (SheafLeast f V))):=by
 refine ⟨fun H0=>c106.go fun hfi=>?_⟩
 have hob:=h.is.1.o
 have hfl:=h.sl
 have hvl:=c.len;refine tt ?_;refine (l28Separated_ok B f h V c).go fun _=>?_
 by_cases hsep : ∀ x,x<V.length→SepAt f V x
 rotate_left
 ·rw [dec_f hsep];try simp only [go_sem,↓reduceIte,reduceEqDiff,reduceAdd,reduceMul,reduceLeDiff,reduceLT,Bool.not_false]
  exact pure_ret (by rw [dec_f]; exact fun q=>hsep fun x hx=>(q x hx).1) (.refl _)
 rw [dec_t hsep];try simp only [go_sem,↓reduceIte,reduceEqDiff,reduceAdd,reduceMul,reduceLeDiff,reduceLT,Bool.not_true]
 refine awp_for [1,2] (G:=Unit) (fun k _=>[(5,some (.int .i64 (k : Int)))]) (fun k _ H=>H=H0∧∀ x : Nat,x<k→((famS f (V.getD x default)).length : Int)=ix f.sizes x) V.length () ⟨rfl,by simp⟩ rfl ?_
 rintro x _ H hk ⟨rfl,hall⟩;refine tt ?_;apply bk <;> intro h1
 ·have h1p:=dd h1
  have w:=wsucc (k:=x) (by omega)
  have hz:=h.sizeAt (y:=(x : Int)) ⟨by omega,by omega⟩
  have hixk : ix f.sizes x=f.sizes.getD x default:=by simp only [ix_nat]
  obtain ⟨n,hn⟩ : ∃ n : Nat,f.sizes.getD x default=(n : Int):=⟨(f.sizes.getD x default).toNat,by omega⟩
  have wn:=wsucc (k:=n) (by omega)
  have hfam:=l28Families_ok B f x (V.getD x default) h (c.sv x (by omega)) (n+1) (by omega) (by omega);refine tt ?_;rw [hn];simp only [wn];refine ⟨by omega,by omega,_,hfam.run,tt ?_⟩
  have hlen : ((famS f (V.getD x default)).take (n+1)).length=min (n+1) (famS f (V.getD x default)).length:=List.length_take;refine ⟨by omega, ?_⟩;apply bk <;> intro h3
  ·refine tt ?_
   have h3p:=dd h3;exact pure_ret (by rw [dec_f]; intro q; have:=(q x (by omega)).2; omega) (.refl _)
  ·refine tw w ?_
   have h3p:=dd h3;exact for_next () (by omega) ⟨rfl,lt_succ_all hall (by omega)⟩ rfl
 ·refine tt ?_
  have h1p:=dd h1;exact pure_ret (by rw [dec_t]; exact fun x hx=>⟨hsep x hx,hall x (by omega)⟩) (.refl _)
def ShB (j : Top) (f : SF) : Prop:=codeF j f=0∧SheafLeast f (leastL j.shape j.covers)
theorem IsSheaf_ok (B : Nat) (j : Top) (f : SF) : Pur Tryz.prog B 41 [.agg j.cells,.agg f.cells] (.tup [.bool (dec (ShB j f)),.int .i64 (codeF j f)]):=by
 refine ⟨fun H0=>c41.go fun hfi=>?_⟩
 have hl:=l27Least_ok B j;refine tt ?_;refine (l28Code_ok B j f).go fun _=>?_
 by_cases h0 : codeF j f=0
 ·obtain ⟨hF,hf,hsh,hcov⟩:=code_cov h0;rw [← hsh] at hcov
  have hq:=fun c=>l28Sheaf_ok B f hf.1 (leastL j.shape j.covers) c;rw [h0];refine tt ?_;refine ⟨fun e=>(by simp at e),fun _=>At.mk ?_⟩;refine tt ?_;refine ⟨_,hl.run, ?_⟩;refine ⟨_,(hq (by rw [← hsh]; exact hcov)).run,tt ?_⟩;exact pure_ret (by congr 3; exact dec_congr ⟨fun q=>⟨h0,q⟩,fun q=>q.2⟩) (.refl _)
 ·refine tt ?_;refine ⟨fun _=>At.mk ?_,fun e=>?_⟩;rotate_left
  ·exact absurd (by simpa using e) h0
  refine tt ?_;exact pure_ret (by rw [dec_f]; exact fun q=>h0 q.1) (.refl _)
theorem isSheaf_at (B : Nat) (j : Top) (f : SF) (cnt : AV) (h0 : codeF j f=0) : Pur Tryz.prog B 104 [.ptr ((covV j).cells cnt),.ptr f.cells] (.bool (dec (SheafLeast f (leastL j.shape j.covers)))):=by
 obtain ⟨hF,hf,hct,hsh⟩:=codeF_z h0
 have haf : AllFew j.shape:=by
  unfold codeT at hct;rw [if_neg (fun e=>e hF)] at hct;apply Classical.byContradiction; intro e;rw [if_pos e] at hct; cases hct
 have htop : TopIs j.shape j.covers:=by
  unfold codeT at hct;rw [if_neg (fun e=>e hF),if_neg (fun e=>e haf)] at hct;apply Classical.byContradiction; intro e;rw [if_neg e] at hct; cases hct
 have tab:=tabOk hF.is haf
 have hml : (covV j).marks.length=(listsOf j.shape).length:=marks_len
 have hmk : MarkOk (listsOf j.shape) (covV j).marks:=markOk
 have hsv : (covV j).sieves=listsOf j.shape:=rfl
 have hLl : (listsOf j.shape).length=j.covers.length:=by have:=tab.len; have:=hF.len; omega
 have hcs : ∀ x : Nat,x<j.covers.length→∀ s,s∈j.covers.getD x default→j.shape.Sieve x s:=fun x hx s hs=>by
  obtain ⟨k,hk,rfl⟩:=mem_getD.mp hs;exact hF.sv x hx k hk
 have hst:=isSheaf_ok B (covV j) cnt f hf.1 (by rw [hml,← hsh]; exact tab.len) hml.symm (fun x hx=>by
  have hx' : x<(listsOf j.shape).length:=by rw [← hml]; exact hx
  have h1:=hmk.row x hx'
  have h2:=tab.few x hx';rw [h1,hsv];exact ⟨Nat.le_refl _,by omega⟩) (fun x hx s hs=>by
  rw [hsv] at hs ⊢;rw [← hsh];exact tab.sv (by rw [← hml]; exact hx) hs)
 have key : SheafM f (covV j)↔SheafLeast f (leastL j.shape j.covers):=by
  have e:=sheaf_iff hf.1 hf.compL (C:=j.covers) (by rw [← hsh]; exact hF.len) (by rw [← hsh]; exact hcs) (by rw [← hsh]; exact htop);rw [← hsh] at e;rw [← e]
  constructor
  ·intro q x hx s hs
   have hx' : x<(listsOf j.shape).length:=by omega
   obtain ⟨k,hk,rfl⟩:=mem_getD.mp (((tab.all x hx').mem s).mpr (hcs x hx s hs))
   have hrow:=hmk.row x hx';refine q x (by omega) k (by rw [hrow]; exact hk) ?_
   show ((marksOf (listsOf j.shape) j.covers).getD x default).getD k default=true
   rw [marks_at hx' hk,decide_eq_true_eq];exact hs
  ·intro q x hx s hs hm
   have hx' : x<(listsOf j.shape).length:=by omega
   have hs' : s<((listsOf j.shape).getD x default).length:=by rw [← hmk.row x hx']; exact hs
   have hm2 : ((marksOf (listsOf j.shape) j.covers).getD x default).getD s default=true:=hm;rw [marks_at hx' hs',decide_eq_true_eq] at hm2;exact q x (by omega) _ hm2
 rw [dec_congr key] at hst;exact hst
theorem implIsSheaf_ok (B : Nat) (j : Top) (f : SF) : Pur Tryz.prog B 40 [.agg j.cells,.agg f.cells] (.tup [.bool (dec (ShB j f)),.int .i64 (codeF j f)]):=by
 refine ⟨fun H0=>c40.go fun _=>?_⟩
 have hsc:=fun H=>sheafCode_ok B j f H;refine tt ?_;refine (hsc H0).mono ?_
 rintro r H ⟨rfl,X,rfl,hX⟩
 by_cases h0 : codeF j f=0
 ·obtain ⟨cnt,rfl⟩:=hX h0
  have hst:=isSheaf_at B j f cnt h0;rw [h0]
  generalize hcc : (covV j).cells cnt=cv at *;refine tt ?_;refine ⟨fun e=>(by simp at e),fun _=>At.mk ?_⟩;refine tt ?_;refine hst.go fun _=>tt ?_;exact pure_ret (by congr 3; exact dec_congr ⟨fun q=>⟨h0,q⟩,fun q=>q.2⟩) (.refl _)
 ·refine tt ?_;refine ⟨fun _=>At.mk ?_,fun e=>?_⟩;rotate_left
  ·exact absurd (by simpa using e) h0
  refine tt ?_;exact pure_ret (by rw [dec_f]; exact fun q=>h0 q.1) (.refl _)
end Go.Proofs.Shf
namespace Go.Shf
open Go.AW
def Onto (n : Int) (l : List Int) : Prop:=(l.length : Int)=n∧∀ i : Nat,(i : Int)<n→(i : Int)∈l
def Fresh (l : List Int) : Prop:=∀ e : Nat,e<l.length→l.getD e default ∉ l.take e
def InjA (n : Int) (l : List Int) : Prop:=∀ e e' : Int,(0≤e∧e<n)→(0≤e'∧e'<n)→ix l e=ix l e'→e=e'
theorem fresh_inj {l : List Int} : Fresh l↔InjA l.length l:=by
 constructor
 ·intro h e e' he he' q
  have key : ∀ a b : Nat,a<b→b<l.length→l.getD a default≠l.getD b default:=fun a b hab hb e=>by
   refine h b hb (List.mem_iff_getElem.mpr ⟨a,by simp; omega, ?_⟩);rw [List.getElem_take,← e]
   simp [List.getD_eq_getElem?_getD,show a<l.length by omega]
  simp only [ix] at q
  rcases Nat.lt_trichotomy e.toNat e'.toNat with h1 | h1 | h1
  ·exact absurd q (key _ _ h1 (by omega))
  ·omega
  ·exact absurd q.symm (key _ _ h1 (by omega))
 ·intro h e he hm
  obtain ⟨k,hk,q⟩:=List.mem_iff_getElem.mp hm;rw [List.getElem_take] at q;simp only [List.length_take] at hk
  have:=h k e ⟨by omega,by omega⟩ ⟨by omega,by omega⟩ (by
   rw [ix_nat,ix_nat,← q]
   simp [List.getD_eq_getElem?_getD,show k<l.length by omega])
  omega
theorem inj_nodup {l : List Int} (h : InjA l.length l) : l.Nodup:=by
 rw [List.Nodup,List.pairwise_iff_getElem]
 intro i j hi hj hij e
 have:=h i j ⟨by omega,by omega⟩ ⟨by omega,by omega⟩ (by
  rw [ix_nat,ix_nat]; simp [List.getD_eq_getElem?_getD,hi,hj,e])
 omega
theorem onto_inj {n : Int} {l : List Int} (h : Onto n l) : InjA n l:=by
 have hn:=h.1
 have key : ∀ a b : Nat,a<b→b<l.length→l.getD a default≠l.getD b default:=fun a b hab hb e=>by
  have:=List.Nodup.length_le_of_subset (l₁:=(List.range l.length).map Int.ofNat) (l₂:=l.eraseIdx b) (elem_nodup _) fun y hy=>by
   obtain ⟨i,hi,rfl⟩:=List.mem_map.mp hy
   have hi:=List.mem_range.mp hi
   obtain ⟨k,hk,q⟩:=mem_getD.mp (h.2 i (by omega));rw [List.mem_eraseIdx_iff_getElem]
   by_cases e1 : k=b
   ·refine ⟨a,⟨by omega,by omega, ?_⟩⟩;subst e1;rw [show Int.ofNat i=(i : Int) from rfl,← q,← e]
    simp [List.getD_eq_getElem?_getD,show a<l.length by omega]
   ·refine ⟨k,⟨by omega,e1, ?_⟩⟩;rw [show Int.ofNat i=(i : Int) from rfl,← q]
    simp [List.getD_eq_getElem?_getD,hk]
  rw [List.length_map,List.length_range,List.length_eraseIdx,if_pos (by omega)] at this;omega
 intro e e' he he' q;simp only [ix] at q
 rcases Nat.lt_trichotomy e.toNat e'.toNat with h1 | h1 | h1
 ·exact absurd q (key _ _ h1 (by omega))
 ·omega
 ·exact absurd q.symm (key _ _ h1 (by omega))
theorem inj_onto {n : Int} {l : List Int} (hl : (l.length : Int)=n) (hr : ∀ y,y∈l→0≤y∧y<n) (hi : InjA n l) : Onto n l:=by
 refine ⟨hl,fun i hi'=>?_⟩;apply Classical.byContradiction; intro hn
 have:=List.Nodup.length_le_of_subset (l₁:=(i : Int)::l) (l₂:=(List.range l.length).map Int.ofNat) (List.nodup_cons.mpr ⟨hn,inj_nodup (hl ▸ hi)⟩) fun y hy=>by
  rcases List.mem_cons.mp hy with rfl | hy
  ·exact List.mem_map.mpr ⟨i,List.mem_range.mpr (by omega),rfl⟩
  ·have:=hr y hy;exact List.mem_map.mpr ⟨y.toNat,List.mem_range.mpr (by omega),Int.toNat_of_nonneg this.1⟩
 simp at this;omega
section
variable {f : SF} {V : List (List Int)}
theorem unit_ix (h : f.Shape) {x : Int} (hx : 0≤x∧x<f.shape.objs) : ix (unitS f V) x=(List.range (ix f.sizes x).toNat).map fun e : Nat=>indexOf (famS f (ix V x)) (imgs f (ix V x) e):=by
 have hl:=h.sl;rw [ix,unitS,getD_map_range _ _ (by omega),unitAt,Int.toNat_of_nonneg hx.1,List.map_map]; rfl
theorem unit_at (h : f.Shape) {x e : Int} (hx : 0≤x∧x<f.shape.objs) (he : 0≤e∧e<ix f.sizes x) : ix (ix (unitS f V) x) e=indexOf (famS f (ix V x)) (imgs f (ix V x) e):=by
 rw [unit_ix h hx,ix,getD_map_range _ _ (by omega),Int.toNat_of_nonneg he.1]
theorem unit_fam (h : f.Shape) (hc : f.CompL) (v : CovOk f.shape V) {x e : Int} (hx : 0≤x∧x<f.shape.objs) (he : 0≤e∧e<ix f.sizes x) :
  (0≤ix (ix (unitS f V) x) e∧ix (ix (unitS f V) x) e<ix (stepSizes f V) x)∧ix (famS f (ix V x)) (ix (ix (unitS f V) x) e)=imgs f (ix V x) e:=by
 have:=idx_fam h v hx (imgs_fam h hc (v.at hx) he);rw [unit_at h hx he,stepSizes_ix v hx];exact ⟨⟨this.1.1,by omega⟩,this.2⟩
theorem unit_map (h : f.Shape) (hc : f.CompL) (v : CovOk f.shape V) : MapL f (stepSF f V) (unitS f V):=by
 have hl:=h.sl;refine ⟨by simp [unitS]; exact hl,fun x hx=>⟨?_,fun e he=>(unit_fam h hc v hx he).1⟩,fun b hb e he=>?_⟩
 ·have:=h.sizeAt hx;rw [unit_ix h hx,List.length_map,List.length_range]; omega
 have hfo:=h.is.1.frmObj hb.2
 have hto:=h.is.1.toObj hb.2
 have hr:=act_ran h hb rfl he
 have u1:=unit_fam h hc v hfo he
 have hlt:=stepSizes_ix v hfo
 show _=ix (ix (stepActs f V) b) _
 rw [unit_at h hto hr,(step_act h v hb (k:=ix (ix (unitS f V) (ix f.shape.frm b)) e) (by omega)).1,u1.2]
 congr 1
 refine fam_ext (v.at hto).nodup (by simp [imgs]) (by simp [movedF]) fun d hd=>?_
 have hdv:=(v.at hto).arr hd;rw [entry_imgs hd,moved_entry hd,entry_imgs (v.st b hb d hd),hc b d hb hdv.1 hdv.2.symm _ (act_len h hb rfl he)]
theorem unit_inj (h : f.Shape) (hc : f.CompL) (v : CovOk f.shape V) {x : Int} (hx : 0≤x∧x<f.shape.objs) : InjA (ix f.sizes x) (ix (unitS f V) x)↔∀ e e' : Int,(0≤e∧e<ix f.sizes x)→(0≤e'∧e'<ix f.sizes x)→imgs f (ix V x) e=imgs f (ix V x) e'→e=e':=by
 constructor
 ·intro q e e' he he' h1;exact q e e' he he' (by rw [unit_at h hx he,unit_at h hx he',h1])
 ·intro q e e' he he' h1;exact q e e' he he' (by rw [← (unit_fam h hc v hx he).2,← (unit_fam h hc v hx he').2,h1])
theorem then_at {p q : List (List Int)} {x e : Int} (hx : 0≤x∧x.toNat<p.length) (he : 0≤e∧e.toNat<(ix p x).length) : ix (ix (thenS p q) x) e=ix (ix q x) (ix (ix p x) e):=by
 have he2 : e.toNat<(p.getD x.toNat default).length:=he.2;rw [ix,ix,thenS,getD_map_range _ _ hx.2,map_getD _ he2]; rfl
theorem MapL.then {g k : SF} {p q : List (List Int)} (m : MapL f g p) (n : MapL g k q) (e : f.shape=g.shape) (hf : f.Shape) : MapL f k (thenS p q):=by
 have hl:=m.len
 have hln : ∀ x : Int,0≤x∧x<f.shape.objs→(ix (thenS p q) x).length=(ix p x).length:=fun x hx=>by rw [ix,thenS,getD_map_range _ _ (by omega),List.length_map]; rfl
 have hat : ∀ x : Int,0≤x∧x<f.shape.objs→∀ y : Int,0≤y∧y<ix f.sizes x→ix (ix (thenS p q) x) y=ix (ix q x) (ix (ix p x) y):=fun x hx y hy=>then_at (by omega) (by have:=(m.pl x hx).1; omega);refine ⟨by simp [thenS]; exact hl,fun x hx=>⟨by rw [hln x hx]; exact (m.pl x hx).1,fun y hy=>?_⟩,fun b hb y hy=>?_⟩
 ·rw [hat x hx y hy];exact (n.pl x (by rw [← e]; exact hx)).2 _ ((m.pl x hx).2 y hy)
 ·have hfo:=hf.is.1.frmObj hb.2
  have hto:=hf.is.1.toObj hb.2
  have hr:=act_ran hf hb rfl hy;rw [hat _ hto _ hr,hat _ hfo _ hy,m.nl b hb y hy]
  have:=n.nl b (by rw [← e]; exact hb) (ix (ix p (ix f.shape.frm b)) y) (by rw [← e]; exact (m.pl _ hfo).2 y hy);rw [← e] at this;exact this
theorem len_eq (v : CovOk f.shape V) (hs : SheafLeast f V) {x : Int} (hx : 0≤x∧x<f.shape.objs) : ix (stepSizes f V) x=ix f.sizes x:=by
 rw [stepSizes_ix v hx]; exact (sheaf_at v hs hx).2
variable (h : f.Shape) (hc : f.CompL) (v : CovOk f.shape V) (hi : CovId f.shape V) (hf : TwoFew f V)
include h hc v hi hf
theorem two_map : MapL f (stepSF (stepSF f V) V) (thenS (unitS f V) (unitS (stepSF f V) V)) :=
 (unit_map h hc v).then (unit_map (step_shape h v hf.1) (step_comp h v hf.1) v) rfl h
theorem two_ix {x : Int} (hx : 0≤x∧x<f.shape.objs) {e : Int} (he : 0≤e∧e<ix f.sizes x) : ix (ix (thenS (unitS f V) (unitS (stepSF f V) V)) x) e=ix (ix (unitS (stepSF f V) V) x) (ix (ix (unitS f V) x) e):=by
 have m:=unit_map h hc v
 have hl:=m.len;exact then_at (by omega) (by have:=(m.pl x hx).1; omega)
theorem two_inj {x : Int} (hx : 0≤x∧x<f.shape.objs) : InjA (ix f.sizes x) (ix (thenS (unitS f V) (unitS (stepSF f V) V)) x)↔InjA (ix f.sizes x) (ix (unitS f V) x):=by
 have hF:=step_shape h v hf.1
 have hFc:=step_comp h v hf.1
 have u2:=(unit_inj (f:=stepSF f V) hF hFc v (x:=x) hx).mpr (step_sep h v hi x hx)
 have m:=unit_map h hc v
 constructor
 ·intro q e e' he he' h1;exact q e e' he he' (by rw [two_ix h hc v hi hf hx he,two_ix h hc v hi hf hx he',h1])
 ·intro q e e' he he' h1;rw [two_ix h hc v hi hf hx he,two_ix h hc v hi hf hx he'] at h1;exact q e e' he he' (u2 _ _ ((m.pl x hx).2 e he) ((m.pl x hx).2 e' he') h1)
theorem two_fresh : (∀ x : Nat,x<f.sizes.length→Fresh ((thenS (unitS f V) (unitS (stepSF f V) V)).getD x default))↔SepL f V:=by
 have hl:=h.sl
 have m:=two_map h hc v hi hf
 constructor
 ·intro q x hx
  have h1 : InjA (ix (thenS (unitS f V) (unitS (stepSF f V) V)) x).length (ix (thenS (unitS f V) (unitS (stepSF f V) V)) x):=fresh_inj.mp (q x.toNat (by omega));rw [(m.pl x hx).1] at h1;exact (unit_inj h hc v hx).mp ((two_inj h hc v hi hf hx).mp h1)
 ·intro q x hx
  have hx' : 0≤(x : Int)∧(x : Int)<f.shape.objs:=by omega
  have h1:=(two_inj h hc v hi hf hx').mpr ((unit_inj h hc v hx').mpr (q x hx'))
  have h2:=(m.pl x hx').1;rw [ix_nat] at h1 h2;rw [fresh_inj,h2]; exact h1
theorem two_onto : (∀ x : Nat,x<f.sizes.length→Onto ((stepSF (stepSF f V) V).sizes.getD x default) ((thenS (unitS f V) (unitS (stepSF f V) V)).getD x default))↔SheafLeast f V:=by
 have hl:=h.sl
 have m:=two_map h hc v hi hf
 have hF:=step_shape h v hf.1
 have hFc:=step_comp h v hf.1
 constructor
 ·intro q
  have hsep : SepL f V:=fun x hx=>by
   have h1:=onto_inj (q x.toNat (by omega));rw [show (stepSF (stepSF f V) V).sizes.getD x.toNat default=ix f.sizes x from by rw [← (q x.toNat (by omega)).1]; exact (m.pl x hx).1] at h1;exact (unit_inj h hc v hx).mp ((two_inj h hc v hi hf hx).mp h1)
  have hFs:=step_sheaf h hc v hi hf.1 hsep;refine sheaf_mk v fun x hx=>?_
  have e1:=len_eq (f:=stepSF f V) v hFs hx
  have e2 : ix (stepSizes (stepSF f V) V) x=ix f.sizes x:=by
   have:=(q x.toNat (by omega)).1;rw [show ((thenS (unitS f V) (unitS (stepSF f V) V)).getD x.toNat default).length=(ix (thenS (unitS f V) (unitS (stepSF f V) V)) x).length from rfl,(m.pl x hx).1] at this;exact this.symm
  have e3 : ix (stepSizes f V) x=ix f.sizes x:=e1.symm.trans e2;rw [stepSizes_ix v hx] at e3
  have hfs:=famS_is h (v.at hx)
  have hz:=h.sizeAt hx;refine least_of h hc (v.at hx) hx (hsep x hx) fun t ht=>?_;apply Classical.byContradiction; intro hn
  have hnd : ((List.range (ix f.sizes x).toNat).map fun e : Nat=>imgs f (ix V x) e).Nodup:=range_nodup fun a b ha hb e=>by
   have:=hsep x hx a b ⟨by omega,by omega⟩ ⟨by omega,by omega⟩ e;omega
  have:=List.Nodup.length_le_of_subset (l₁:=t::(List.range (ix f.sizes x).toNat).map fun e : Nat=>imgs f (ix V x) e) (l₂:=famS f (ix V x)) (List.nodup_cons.mpr ⟨fun hm=>by
   obtain ⟨e,he,rfl⟩:=List.mem_map.mp hm
   have:=List.mem_range.mp he;exact hn ⟨e,⟨by omega,by omega⟩,rfl⟩,hnd⟩) fun u hu=>by
   rcases List.mem_cons.mp hu with rfl | hu
   ·exact (hfs.mem _).mpr ht
   ·obtain ⟨e,he,rfl⟩:=List.mem_map.mp hu
    have:=List.mem_range.mp he;exact (hfs.mem _).mpr (imgs_fam h hc (v.at hx) ⟨by omega,by omega⟩)
  simp only [List.length_cons,List.length_map,List.length_range] at this;omega
 ·intro q x hx
  have hx' : 0≤(x : Int)∧(x : Int)<f.shape.objs:=by omega
  have hsep:=sheaf_sep v q
  have hFs:=step_sheaf h hc v hi hf.1 hsep
  have e1:=len_eq (f:=stepSF f V) v hFs hx'
  have e0:=len_eq v q hx'
  have e2 : (stepSF (stepSF f V) V).sizes.getD x default=ix f.sizes x:=by
   show (stepSizes (stepSF f V) V).getD x default=_
   rw [← ix_nat,e1]; exact e0
  have h1:=(two_inj h hc v hi hf hx').mpr ((unit_inj h hc v hx').mpr (hsep x hx'))
  have h2:=m.pl x hx';rw [e2,← ix_nat (thenS (unitS f V) (unitS (stepSF f V) V))];refine inj_onto h2.1 (fun y hy=>?_) h1
  obtain ⟨k,hk,rfl⟩:=mem_getD.mp hy
  have:=h2.2 k ⟨by omega,by omega⟩;rw [ix_nat (ix _ _)] at this
  have e3 : ix (stepSF (stepSF f V) V).sizes (x : Int)=ix f.sizes x:=by rw [ix_nat,e2]
  rw [e3] at this;exact this
end
end Go.Shf
namespace Go.Proofs.Shf
open Go.AW Go.Proofs Go.Shf
end Go.Proofs.Shf
namespace Go.AW
open Go.Proofs Go.Shf Go.Proofs.Shf
theorem Pur.weak {P : Program} {B : Nat} {f : FuncId} {args : List AV} {r r' : AV} (h : Pur P B f args r) (hw : ∀ g v,VRel g r v→VRel g r' v) : Pur P B f args r':=by
 refine ⟨fun H=>⟨(h.run H).1,fun g w vs hW hv=>?_⟩⟩;refine ((h.run H).2 g w vs hW hv).mono fun e w' ⟨v,he,g',r2,H',q1,⟨q2,q3⟩,q4,q5,q6⟩=>?_;subst q2 q3;exact ⟨v,he,g',r',H',q1,⟨rfl,rfl⟩,hw _ _ q4,q5,q6⟩
end Go.AW
namespace Go.Proofs.Shf
open Go.AW Go.Proofs Go.Shf
def WkV (a b : AV) : Prop:=∀ g v,VRel g a v→VRel g b v
theorem WkV.refl (a : AV) : WkV a a:=fun _ _ h=>h
theorem WkV.nil : WkV .nilsl (.sl []):=fun g v h=>by cases h; exact .slnil none 0
inductive WkL : List AV→List AV→Prop
 | nil : WkL [] []
 | cons {a b : AV} {r s : List AV} (h : WkV a b) (t : WkL r s) : WkL (a::r) (b::s)
theorem WkL.get {r s : List AV} (h : WkL r s) : r.length=s.length∧∀ i,i<r.length→WkV (r.getD i nv) (s.getD i nv):=by
 induction h with
 | nil=>exact ⟨rfl,fun i hi=>by simp at hi⟩
 | cons h _ ih =>
  refine ⟨by simp [ih.1],fun i hi=>?_⟩
  cases i with
  | zero=>simpa using h
  | succ i=>simpa using ih.2 i (by simpa using hi)
theorem WkV.agg {r s : List AV} (h : WkL r s) : WkV (.agg r) (.agg s):=fun g v hv=>by
 obtain ⟨hl,h⟩:=h.get
 cases hv with
 | agg _ vs hs hv=>exact .agg s vs (by omega) fun i hi=>h i (by omega) g _ (hv i (by omega))
theorem WkV.tup {r s : List AV} (h : WkL r s) : WkV (.tup r) (.tup s):=fun g v hv=>by
 obtain ⟨hl,h⟩:=h.get
 cases hv with
 | tup _ vs hs hv=>exact .tup s vs (by omega) fun i hi=>h i (by omega) g _ (hv i (by omega))
theorem wk7 : WkL [.int .i64 0,.nilsl,.nilsl,.nilsl,.nilsl,.nilsl,.nilsl] (SF.cells zSF):=.cons (.refl _) (.cons .nil (.cons .nil (.cons .nil (.cons .nil (.cons .nil (.cons .nil .nil))))))
theorem wk15 : WkL [.int .i64 0,.nilsl,.nilsl,.nilsl,.nilsl,.nilsl,.nilsl,.int .i64 0,.nilsl,.nilsl,.nilsl,.nilsl,.nilsl,.nilsl,.nilsl] (SM.cells zSM) :=
 .cons (.refl _) (.cons .nil (.cons .nil (.cons .nil (.cons .nil (.cons .nil (.cons .nil (.cons (.refl _) (.cons .nil (.cons .nil (.cons .nil (.cons .nil (.cons .nil (.cons .nil (.cons .nil .nil))))))))))))))
theorem WkV.code {r s : List AV} {c : AV} (h : WkL r s) : WkV (.tup [.agg r,c]) (.tup [.agg s,c]):=.tup (.cons (.agg h) (.cons (.refl _) .nil))
theorem SheafStep_v (B : Nat) (j : Top) (f : SF) : Pur Tryz.prog B 43 [.agg j.cells,.agg f.cells] (.tup [.agg (SF.cells (unitM j f).tgt),.int .i64 (firstC j f)]):=by
 refine (SheafStep_ok B j f).weak fun g v hv=>?_
 by_cases h : codeF j f=0∧StepFew f (leastL j.shape j.covers)
 ·rw [firstA,if_pos h] at hv;rw [unitM,if_pos h]; exact hv
 ·rw [firstA,if_neg h] at hv;rw [unitM,if_neg h]; exact WkV.code wk7 g v hv
theorem SheafUnit_v (B : Nat) (j : Top) (f : SF) : Pur Tryz.prog B 38 [.agg j.cells,.agg f.cells] (.tup [.agg (SM.cells (shfM j f)),.int .i64 (twoC j f)]):=by
 refine (SheafUnit_ok B j f).weak fun g v hv=>?_
 by_cases h : codeF j f=0∧TwoFew f (leastL j.shape j.covers)
 ·rw [shfA,if_pos h] at hv;rw [shfM,if_pos h]; exact hv
 ·rw [shfA,if_neg h] at hv;rw [shfM,if_neg h]; exact WkV.code wk15 g v hv
theorem implSheafStep_v (B : Nat) (j : Top) (f : SF) : Pur Tryz.prog B 42 [.agg j.cells,.agg f.cells] (.tup [.agg (SF.cells (unitM j f).tgt),.int .i64 (firstC j f)]):=New.pur (f:=fun m : SF=>.tup [.agg m.cells,.int .i64 (firstC j f)]) (owSF.tupc _) (implSheafStep_new B j f)
theorem implSheafOf_v (B : Nat) (j : Top) (f : SF) : Pur Tryz.prog B 31 [.agg j.cells,.agg f.cells] (.tup [.agg (SF.cells (shfM j f).tgt),.int .i64 (twoC j f)]):=New.pur (f:=fun m : SF=>.tup [.agg m.cells,.int .i64 (twoC j f)]) (owSF.tupc _) (implSheafOf_new B j f)
theorem implSheafUnit_v (B : Nat) (j : Top) (f : SF) : Pur Tryz.prog B 37 [.agg j.cells,.agg f.cells] (.tup [.agg (SM.cells (shfM j f)),.int .i64 (twoC j f)]):=New.pur (f:=fun m : SM=>.tup [.agg m.cells,.int .i64 (twoC j f)]) (owSM.tupc _) (implSheafUnit_new B j f)
end Go.Proofs.Shf
namespace Go.Shf
open Go.AW
def ksT (g : Nat→List UInt8) : Nat→List (List UInt8)
 | 0=>[]
 | k+1=>if g k∈ksT g k then ksT g k else ksT g k++[g k]
theorem mput_set (s : List UInt8) (v : AV) : ∀ l : List (List UInt8),mput (.str s) v (l.map AV.str) (List.replicate l.length v)=((if s∈l then l else l++[s]).map AV.str,List.replicate (if s∈l then l else l++[s]).length v)
 | []=>by simp [mput]
 | a::l=>by
  have ih:=mput_set s v l;simp only [List.map_cons,List.length_cons,List.replicate_succ,mput,AV.keq,decide_eq_true_eq]
  by_cases e : s=a
  ·subst e; simp [List.replicate_succ]
  ·rw [if_neg e,ih]
   by_cases h : s∈l
   ·simp [h,List.replicate_succ]
   ·simp [h,e,List.replicate_succ]
theorem ks_put (g : Nat→List UInt8) (v : AV) (k : Nat) : mput (.str (g k)) v ((ksT g k).map AV.str) (List.replicate (ksT g k).length v)=((ksT g (k+1)).map AV.str,List.replicate (ksT g (k+1)).length v):=mput_set _ _ _
theorem ks_key (g : Nat→List UInt8) (k : Nat) (s : List UInt8) : okKey 1 (.str s) ((ksT g k).map AV.str):=⟨rfl,fun a ha=>by obtain ⟨t,_,rfl⟩:=List.mem_map.mp ha; rfl⟩
theorem ks_mem (g : Nat→List UInt8) : ∀ k y,y∈ksT g k↔∃ i,i<k∧g i=y
 | 0,y=>by simp [ksT]
 | k+1,y=>by
  have ih:=ks_mem g k;rw [ksT]
  split
  ·rename_i h
   obtain ⟨j,hj,e⟩:=(ih _).mp h;rw [ih]
   constructor
   ·rintro ⟨i,hi,e⟩; exact ⟨i,by omega,e⟩
   ·rintro ⟨i,hi,rfl⟩
    by_cases q : i=k
    ·subst q; exact ⟨j,hj,e⟩
    ·exact ⟨i,by omega,rfl⟩
  ·rw [List.mem_append,ih,List.mem_singleton]
   constructor
   ·rintro (⟨i,hi,e⟩ | rfl)
    ·exact ⟨i,by omega,e⟩
    ·exact ⟨k,by omega,rfl⟩
   ·rintro ⟨i,hi,rfl⟩
    by_cases q : i=k
    ·subst q; exact .inr rfl
    ·exact .inl ⟨i,by omega,rfl⟩
theorem ks_len (g : Nat→List UInt8) : ∀ k,(ksT g k).length≤k∧((ksT g k).length=k↔∀ i j,i<k→j<k→g i=g j→i=j)
 | 0=>by simp [ksT]
 | k+1=>by
  have ih:=ks_len g k;rw [ksT]
  split
  ·rename_i h
   obtain ⟨j,hj,e⟩:=(ks_mem g k _).mp h;refine ⟨by omega,fun q=>by omega,fun q=>?_⟩
   have:=q j k (by omega) (by omega) e;omega
  ·rename_i h
   rw [List.length_append,List.length_singleton];refine ⟨by omega,fun q i j hi hj e=>?_,fun q=>?_⟩
   ·have h1:=ih.2.mp (by omega)
    by_cases ei : i=k
    ·by_cases ej : j=k
     ·omega
     ·exact absurd ((ks_mem g k _).mpr ⟨j,by omega,by rw [← e,ei]⟩) h
    ·by_cases ej : j=k
     ·exact absurd ((ks_mem g k _).mpr ⟨i,by omega,by rw [e,ej]⟩) h
     ·exact h1 i j (by omega) (by omega) e
   ·have:=ih.2.mpr fun i j hi hj e=>q i j (by omega) (by omega) e;omega
def InjI (f : SF) (x : Int) (s : List Int) : Prop:=∀ e e' : Int,(0≤e∧e<ix f.sizes x)→(0≤e'∧e'<ix f.sizes x)→imgs f s e=imgs f s e'→e=e'
theorem ks_imgs {f : SF} {x : Int} {s : List Int} (h : f.Shape) (hs : f.shape.Sieve x s) (hx : 0≤x∧x<f.shape.objs) :
  ((ksT (fun e : Nat=>keyS [imgs f s e]) (ix f.sizes x).toNat).length : Int)=ix f.sizes x↔InjI f x s:=by
 have hz:=h.sizeAt hx
 have hb : ∀ e : Nat,(e : Int)<ix f.sizes x→∀ y,y∈imgs f s e→0≤y∧y<255:=fun e he y hy=>by
  obtain ⟨a,ha,rfl⟩:=List.mem_map.mp hy
  have hv:=hs.arr ha
  have h1:=act_ran h hv.1 hv.2 (e:=(e : Int)) ⟨by omega,he⟩
  have h2:=h.sizeAt (h.is.1.toObj hv.1.2);omega
 have:=(ks_len (fun e : Nat=>keyS [imgs f s e]) (ix f.sizes x).toNat).2
 constructor
 ·intro q e e' he he' hi
  have:=this.mp (by omega) e.toNat e'.toNat (by omega) (by omega) (by simp only [Int.toNat_of_nonneg he.1,Int.toNat_of_nonneg he'.1,hi]);omega
 ·intro q
  have:=this.mpr fun i j hi hj e=>by
   have:=q i j ⟨by omega,by omega⟩ ⟨by omega,by omega⟩ (keyS_inj (hb i (by omega)) (hb j (by omega)) e);omega
  omega
theorem sep_iff {f : SF} {C : List (List (List Int))} (h : f.Shape) (hl : (C.length : Int)=f.shape.objs) (hs : ∀ x : Nat,x<C.length→∀ s,s∈C.getD x default→f.shape.Sieve x s) (t : TopIs f.shape C) :
  (∀ x : Nat,x<C.length→∀ s,s∈C.getD x default→InjI f x s)↔SepL f (leastL f.shape C):=by
 constructor
 ·intro q x hx
  have hx' : x.toNat<C.length:=by omega
  have:=q x.toNat hx' _ (least_mem h.is hl hs t hx');rw [Int.toNat_of_nonneg hx.1] at this;rw [leastL_ix hx'];exact this
 ·intro q x hx s hsm e e' he he' hi;refine q x ⟨by omega,by omega⟩ e e' he he' ?_;rw [leastL_ix (by simpa using hx),imgs,imgs];refine List.map_congr_left fun a ha=>?_
  have hm:=(mem_least.mp ha).2 s (by simpa using hsm)
  have:=congrArg (fun l=>entry s l a) hi
  simpa only [entry_imgs hm] using this
end Go.Shf
namespace Go.Proofs.Shf
open Go.AW Go.Proofs Go.Shf
def MarkSep (f : SF) (v : Cov) (x s : Nat) : Prop:=(v.marks.getD x default).getD s default=true→InjI f x ((v.sieves.getD x default).getD s default)
def SepM (f : SF) (v : Cov) : Prop:=∀ x,x<v.marks.length→∀ s,s<(v.marks.getD x default).length→MarkSep f v x s
theorem isSeparated_ok (B : Nat) (v : Cov) (cnt : AV) (f : SF) (h : f.Shape) (hml : (v.marks.length : Int)=f.shape.objs) (hsl : v.sieves.length=v.marks.length)
  (hms : ∀ x,x<v.marks.length→(v.marks.getD x default).length≤(v.sieves.getD x default).length∧(v.marks.getD x default).length≤1000000)
  (hsv : ∀ x,x<v.marks.length→∀ s,s<(v.sieves.getD x default).length→f.shape.Sieve x ((v.sieves.getD x default).getD s default)) :
  Pur Tryz.prog B 109 [.ptr (v.cells cnt),.ptr f.cells] (.bool (dec (SepM f v))):=by
 refine ⟨fun H0=>c109.go fun hfi=>?_⟩
 have hob:=h.is.1.o
 have hfl:=h.sl
 have hal:=h.al
 have hm:=h.is.1.m;refine tt ?_;refine awp_for [0,1,14,15] (G:=Unit) (fun k _=>[(16,some (.int .i64 (k : Int)))]) (fun k _ H=>H0.sub H∧∀ x,x<k→∀ s,s<(v.marks.getD x default).length→MarkSep f v x s) v.marks.length () ⟨.refl _,by simp⟩ rfl ?_
 rintro x _ H hk ⟨hsub,hall⟩
 replace hsub : H0.sub H:=hsub;refine tt ?_;apply bk <;> intro h1
 ·have h1p:=dd h1
  have w:=wsucc (k:=x) (by omega)
  have hm1:=hms x h1p
  have hz:=h.sizeAt (y:=(x : Int)) ⟨by omega,by omega⟩
  have hixk : ix f.sizes x=f.sizes.getD x default:=by simp only [ix_nat]
  obtain ⟨n,hn⟩ : ∃ n : Nat,f.sizes.getD x default=(n : Int):=⟨(f.sizes.getD x default).toNat,by omega⟩;refine tt ?_;refine ⟨h1p,tt ?_⟩;refine awp_for [0,1,5,14,15,16,21,22] (G:=Unit) (fun k _=>[(23,some (.int .i64 (k : Int)))]) (fun k _ H=>H0.sub H∧∀ s,s<k→MarkSep f v x s) (v.marks.getD x default).length () ⟨hsub,by simp⟩ rfl ?_;clear hsub
  rintro s _ H hk2 ⟨hsub,hall2⟩
  replace hsub : H0.sub H:=hsub
  have o : Owns H0 H []:=⟨hsub,by simp,by simp,by simp⟩;refine tt ?_;apply bk <;> intro h2
  ·have h2p:=dd h2
   have w2:=wsucc (k:=s) (by omega)
   have hS:=hsv x h1p s (by omega)
   generalize hSv : (v.sieves.getD x default).getD s default=S at *
   have hki:=ks_imgs h hS (x:=(x : Int)) ⟨by omega,by omega⟩;refine tt ?_;refine ⟨h2p, ?_⟩;refine newMap_own o fun id9 H o=>tt ?_;refine ⟨by omega, ?_⟩;rw [hn];refine tt ?_
   refine awp_for [0,1,5,7,8,9,14,15,16,21,22,23,35] (G:=Unit) (fun k _=>[(36,some (.int .i64 (k : Int)))])
    (fun k _ H=>Owns H0 H [(id9,.map ((ksT (fun e : Nat=>keyS [imgs f S e]) k).map AV.str) (List.replicate (ksT (fun e : Nat=>keyS [imgs f S e]) k).length (.bool true)))]) n () o rfl ?_
   clear o
   rintro e _ H hk3 o
   replace o : Owns H0 H [(id9,.map ((ksT (fun e : Nat=>keyS [imgs f S e]) e).map AV.str) (List.replicate (ksT (fun e : Nat=>keyS [imgs f S e]) e).length (.bool true)))]:=o;refine tt ?_;apply bk <;> intro h3
   ·have h3p:=dd h3
    have w3:=wsucc (k:=e) (by omega)
    have hg:=o.h0;refine tt ?_;refine ⟨by omega,by omega, ?_⟩;rw [hSv];refine (restricted_ok B f S e (fun a ha=>by have:=hS.arr ha; omega) (by omega) (fun a ha=>?_)).go fun _=>?_
    ·have hv:=hS.arr ha
     have h1:=h.actLen hv.1.2;rw [hv.2] at h1;omega
    refine tt ?_;refine (key_ok B [imgs f S e] ?_).go fun _=>?_
    ·have:=hS.len
     simp [keyB,imgs]; omega
    refine tt ?_;rw [hg];refine tt ?_;refine ⟨ks_key _ _ _, ?_⟩
    have hp:=ks_put (fun e : Nat=>keyS [imgs f S e]) (.bool true) e;rw [hp];refine tw w3 ?_;exact for_next () h3p (o.put _) rfl
   ·have h3p:=dd h3
    obtain rfl : e=n:=by omega
    have hg:=o.h0;refine tt ?_;apply bk <;> intro h4
    ·try simp only [go_sem,↓reduceIte,reduceEqDiff,reduceAdd,reduceMul,reduceLeDiff,reduceLT,hg,h4]
     refine ⟨by omega, ?_⟩;rw [hixk,hn,Int.toNat_natCast] at hki;rw [List.length_map,hn];apply bk <;> intro h5
     ·have h5p : ¬ ((ksT (fun e : Nat=>keyS [imgs f S e]) e).length : Int)=(e : Int):=by simpa using h5
      refine tt ?_;exact pure_ret (by rw [dec_f]; exact fun q=>h5p (hki.mpr (by rw [← hSv]; exact q x h1p s h2p h4))) o.sub
     ·have h5p : ((ksT (fun e : Nat=>keyS [imgs f S e]) e).length : Int)=(e : Int):=by simpa using h5
      refine tw w2 ?_;exact for_next () (by omega) ⟨o.sub,lt_succ_all hall2 fun _=>by rw [hSv]; exact hki.mp h5p⟩ rfl
    ·try simp only [go_sem,↓reduceIte,reduceEqDiff,reduceAdd,reduceMul,reduceLeDiff,reduceLT,h4,w2]
     exact for_next () (by omega) ⟨o.sub,lt_succ_all hall2 fun e=>by rw [h4] at e; cases e⟩ rfl
  ·refine tw w ?_
   have h2p:=dd h2;exact for_next () (by omega) ⟨hsub,lt_succ_all hall fun s hs=>hall2 s (by omega)⟩ rfl
 ·refine tt ?_
  have h1p:=dd h1;exact pure_ret (by rw [dec_t]; exact fun x hx=>hall x (by omega)) hsub
end Go.Proofs.Shf
namespace Go.Shf
open Go.AW
theorem step_is {f : SF} {V : List (List Int)} (h : f.Is) (v : CovOk f.shape V) (hf : StepFew f V) : (stepSF f V).Is:=by
 have hs:=step_shape h.1 v hf
 have hc:=step_comp h.1 v hf;refine ⟨hs,⟨fun x hx e he=>?_,fun a b ha hb hab e he=>?_⟩⟩
 ·replace hx : x<f.shape.idn.length:=hx
  have hid:=h.1.is.1.il
  have hxo : 0≤(x : Int)∧(x : Int)<f.shape.objs:=by omega
  have ha:=h.1.is.1.idArr hxo;rw [ix_nat] at ha
  show (ix (stepActs f V) (f.shape.idn.getD x default)).getD e default=e
  replace he : e<(ix (stepActs f V) (f.shape.idn.getD x default)).length:=he;rw [stepActs_ix ha.1,List.length_map] at he
  have s1:=step_act h.1 v ha.1 (k:=(e : Int)) ⟨by omega,by simpa using he⟩;rw [← ix_nat (ix (stepActs f V) _),s1.1]
  have hfi:=fam_idx h.1 v (x:=ix f.shape.frm (f.shape.idn.getD x default)) (by rw [ha.2.1]; exact hxo) (k:=(e : Int)) ⟨by omega,by simpa using he⟩
  have hm : movedF f.shape V (f.shape.idn.getD x default) (ix (famS f (ix V (ix f.shape.frm (f.shape.idn.getD x default)))) e)=ix (famS f (ix V (ix f.shape.frm (f.shape.idn.getD x default)))) e:=by
   have h1:=hfi.1;rw [ha.2.1] at h1 ⊢;refine fam_ext (v.at hxo).nodup (by rw [movedF,List.length_map,ha.2.2]) h1.len fun b hb=>?_
   have hbv:=(v.at hxo).arr hb
   have:=moved_entry (c:=f.shape) (V:=V) (a:=f.shape.idn.getD x default) (b:=b) (t:=ix (famS f (ix V x)) e) (by rw [ha.2.2]; exact hb);rw [ha.2.2,ha.2.1] at this;rw [this]
   have hi:=h.1.is.idl hbv.1;rw [hbv.2,ix_nat] at hi;rw [hi]
  rw [hm]
  have h2:=hfi.2;rw [ha.2.1] at h2;rw [ha.2.1,ha.2.2];exact h2
 ·have:=hc a b ⟨by omega,by simpa using ha⟩ ⟨by omega,by simpa using hb⟩ (by simpa only [ix_nat] using hab) e ⟨by omega,by simpa [ix_nat] using he⟩
  simpa only [ix_nat] using this
end Go.Shf
namespace Go.Proofs.Shf
open Go.AW Go.Proofs Go.Shf
theorem code_top {j : Top} {f : SF} (h : codeF j f=0) : AllFew j.shape∧TopIs j.shape j.covers∧(j.covers.length : Int)=j.shape.objs∧∀ x : Nat,x<j.covers.length→∀ s,s∈j.covers.getD x default→j.shape.Sieve x s:=by
 obtain ⟨hF,hf,hct,hsh⟩:=codeF_z h
 have haf : AllFew j.shape:=by
  unfold codeT at hct;rw [if_neg (fun e=>e hF)] at hct;apply Classical.byContradiction; intro e;rw [if_pos e] at hct; cases hct
 refine ⟨haf, ?_,hF.len,fun x hx s hs=>?_⟩
 ·unfold codeT at hct;rw [if_neg (fun e=>e hF),if_neg (fun e=>e haf)] at hct;apply Classical.byContradiction; intro e;rw [if_neg e] at hct; cases hct
 ·obtain ⟨k,hk,rfl⟩:=mem_getD.mp hs;exact hF.sv x hx k hk
theorem code_id {j : Top} {f : SF} (h : codeF j f=0) : CovId f.shape (leastL f.shape j.covers):=by
 obtain ⟨hF,hf,hct,hsh⟩:=codeF_z h
 obtain ⟨_,ht,hl,hs⟩:=code_top h;rw [hsh] at ht hl hs;exact least_id hf.1.is hl hs ht
theorem code_on {j : Top} {f g : SF} (h : codeF j f=0) (hg : g.Is) (e : g.shape=f.shape) : codeF j g=0:=by
 obtain ⟨hF,hf,hct,hsh⟩:=codeF_z h;unfold codeF;rw [if_neg (fun q=>q ⟨hF,hg⟩),if_neg (fun q=>q.2 (hsh.trans e.symm)),hct]
theorem isSeparated_at (B : Nat) (j : Top) (f : SF) (cnt : AV) (h0 : codeF j f=0) : Pur Tryz.prog B 109 [.ptr ((covV j).cells cnt),.ptr f.cells] (.bool (dec (SepL f (leastL j.shape j.covers)))):=by
 obtain ⟨hF,hf,hct,hsh⟩:=codeF_z h0
 obtain ⟨haf,htop,hlc,hcs⟩:=code_top h0
 have tab:=tabOk hF.is haf
 have hml : (covV j).marks.length=(listsOf j.shape).length:=marks_len
 have hmk : MarkOk (listsOf j.shape) (covV j).marks:=markOk
 have hsv : (covV j).sieves=listsOf j.shape:=rfl
 have hLl : (listsOf j.shape).length=j.covers.length:=by have:=tab.len; have:=hF.len; omega
 have hst:=isSeparated_ok B (covV j) cnt f hf.1 (by rw [hml,← hsh]; exact tab.len) hml.symm (fun x hx=>by
  have hx' : x<(listsOf j.shape).length:=by rw [← hml]; exact hx
  have h1:=hmk.row x hx'
  have h2:=tab.few x hx';rw [h1,hsv];exact ⟨Nat.le_refl _,by omega⟩) (fun x hx s hs=>by
  rw [hsv] at hs ⊢;rw [← hsh];exact tab.sv (by rw [← hml]; exact hx) hs)
 have key : SepM f (covV j)↔SepL f (leastL j.shape j.covers):=by
  have e:=sep_iff hf.1 (C:=j.covers) (by rw [← hsh]; exact hF.len) (by rw [← hsh]; exact hcs) (by rw [← hsh]; exact htop);rw [← hsh] at e;rw [← e]
  constructor
  ·intro q x hx s hs
   have hx' : x<(listsOf j.shape).length:=by omega
   obtain ⟨k,hk,rfl⟩:=mem_getD.mp (((tab.all x hx').mem s).mpr (hcs x hx s hs))
   have hrow:=hmk.row x hx';refine q x (by omega) k (by rw [hrow]; exact hk) ?_
   show ((marksOf (listsOf j.shape) j.covers).getD x default).getD k default=true
   rw [marks_at hx' hk,decide_eq_true_eq];exact hs
  ·intro q x hx s hs hm
   have hx' : x<(listsOf j.shape).length:=by omega
   have hs' : s<((listsOf j.shape).getD x default).length:=by rw [← hmk.row x hx']; exact hs
   have hm2 : ((marksOf (listsOf j.shape) j.covers).getD x default).getD s default=true:=hm;rw [marks_at hx' hs',decide_eq_true_eq] at hm2;exact q x (by omega) _ hm2
 rw [dec_congr key] at hst;exact hst
theorem implSep_ok (B : Nat) (j : Top) (f : SF) (h0 : codeF j f=0) : Pur Tryz.prog B 44 [.agg j.cells,.agg f.cells] (.tup [.bool (dec (SepL f (leastL j.shape j.covers))),.int .i64 0]):=by
 refine ⟨fun H0=>c44.go fun _=>?_⟩
 have hsc:=fun H=>sheafCode_ok B j f H;refine tt ?_;refine (hsc H0).mono ?_
 rintro r H ⟨rfl,X,rfl,hX⟩
 obtain ⟨cnt,rfl⟩:=hX h0
 have hst:=isSeparated_at B j f cnt h0;rw [h0]
 generalize hcc : (covV j).cells cnt=cv at *;refine tt ?_;refine ⟨fun e=>(by simp at e),fun _=>At.mk ?_⟩;refine tt ?_;refine hst.go fun _=>tt ?_;exact pure_ret rfl (.refl _)
end Go.Proofs.Shf
namespace Go.AW
def iB (b : UInt8) : AV:=.int .u8 (b.toNat : Int)
instance : One iB:=⟨fun _=>rfl,fun _=>rfl⟩
structure Src where
 code : List UInt8
 pl : Int
 hash : Int
def Src.cells (s : Src) : List AV:=[mL iB s.code,.int .i64 s.pl,.int .u64 s.hash]
def Src.Ok (s : Src) : Prop:=0≤s.pl∧s.code.length≤maxL
def Src.obj (s : Src) : MObj:=.cells 3 s.cells 0
def SrcK (id : Nat) (H0 : Heap) (Q : AV→Prop) : Kont:=fun r H'=>Q r∧∃ s' : Src,s'.Ok∧Owns H0 H' [(id,s'.obj)]
theorem Owns.self {H0 H : Heap} {id : Nat} {o : MObj} {l : List (Nat × MObj)} (h : Owns H0 H ((id,o)::l)) : Owns (H.del id) H [(id,o)] where
 sub:=fun i x hx=>by
  by_cases e : i=id
  ·subst e; rw [Heap.get_del_same] at hx; cases hx
  ·rwa [Heap.get_del_ne _ e] at hx
 get:=fun x hx=>by
  rw [List.mem_singleton] at hx; subst hx;exact h.get _ (by simp)
 nd:=by simp
 out:=fun x hx=>by
  rw [List.mem_singleton] at hx; subst hx;exact Heap.get_del_same _ _
end Go.AW
namespace Go.Proofs.Shf
open Go.AW Go.Proofs Go.Shf
theorem masked_ran {a x : Int} (h : IntKind.i64.wrap (IntKind.u64.wrap ((BitVec.ofInt IntKind.u64.bits a &&& BitVec.ofInt IntKind.u64.bits 16777215).toNat : Int))=x) : 0≤x∧x≤16777215:=by
 have h1 : (BitVec.ofInt IntKind.u64.bits a &&& BitVec.ofInt IntKind.u64.bits 16777215).toNat≤16777215:=by
  rw [BitVec.toNat_and]
  have : (BitVec.ofInt IntKind.u64.bits 16777215).toNat=16777215:=rfl;rw [this];exact Nat.and_le_right
 generalize (BitVec.ofInt IntKind.u64.bits a &&& BitVec.ofInt IntKind.u64.bits 16777215).toNat=m at h h1
 have e : IntKind.u64.wrap (m : Int)=m:=by
  have : IntKind.u64.wrap (m : Int)=(m : Int) % 18446744073709551616:=by simp only [IntKind.wrap]; rfl
  omega
 rw [e,wrap_i64 (by omega) (by omega)] at h;omega
def Rd (B : Nat) (fn : FuncId) (args : List AV) (Q : AV→Prop) : Prop :=
 ∀ (id : Nat) (s : Src) (H0 H : Heap),s.Ok→Owns H0 H [(id,s.obj)]→CallH Tryz.prog B fn (.ref id 0::args) H (SrcK id H0 Q)
theorem Rd.go {B : Nat} {fn : FuncId} {args : List AV} {Q : AV→Prop} {id : Nat} {s : Src} {H0 H : Heap} {l : List (Nat × MObj)} {K : Kont} (h : Rd B fn args Q) (hs : s.Ok) (o : Owns H0 H ((id,s.obj)::l))
  (hk : ∀ (r : AV) (s' : Src) (H' : Heap),r.fine→Q r→s'.Ok→Owns H0 H' ((id,s'.obj)::l)→K r H') : CallH Tryz.prog B fn (.ref id 0::args) H K :=
 (h id s _ H hs o.self).mono' fun r H' hf ⟨q,s',hs',o'⟩=>hk r s' H' hf q hs' (o.del.trans o')
theorem src_ret {id : Nat} {s : Src} {H0 H : Heap} {l : List (Nat × MObj)} {Q : AV→Prop} {v : AV} (q : Q v) (hs : s.Ok) (o : Owns H0 H ((id,s.obj)::l)) : subW (SrcK id H0 Q) v H :=
 ⟨H,.refl H,q,s,hs,o.subl (by simp)⟩
def Rets (B : Nat) (fn : FuncId) (args : List AV) (Q : AV→Prop) : Prop:=∀ H,CallH Tryz.prog B fn args H fun r H'=>Q r∧H'=H
theorem Rets.go {B : Nat} {fn : FuncId} {args : List AV} {Q : AV→Prop} {H : Heap} {K : Kont} (h : Rets B fn args Q) (hk : ∀ r,r.fine→Q r→K r H) : CallH Tryz.prog B fn args H K :=
 (h H).mono' fun r H' hf ⟨q,e⟩=>by subst e; exact hk r hf q
theorem rets_ret {H0 H : Heap} {Q : AV→Prop} {v : AV} (q : Q v) (h : H0.sub H) : subW (fun r H'=>Q r∧H'=H0) v H:=⟨H0,h,q,rfl⟩
theorem l01Next_ok (B : Nat) (n : Int) : Rd B 85 [iI n] fun r=>∃ k : Int,r=iI k∧0≤k∧(1≤n→k<n)∧(n<1→k=0):=by
 intro id s H0 H hs o;refine c85.go fun hf=>?_;refine tt ?_;apply bk <;> intro h1
 ·have h1p:=of_decide h1;refine tt ?_;exact src_ret ⟨0,rfl,by omega,by omega,fun _=>rfl⟩ hs o
 ·have h1p:=of_ndecide h1;refine tt ?_
  obtain ⟨code,pl,hash⟩:=s;simp only [Src.obj,Src.cells] at o;simp only [Src.Ok,maxL] at hs;refine rd_cells o (by simp) ?_;refine tt ?_;refine sw o fun H o=>tt ?_;refine rd_cells o (by simp) ?_;refine tt ?_
  generalize hx : IntKind.i64.wrap (IntKind.u64.wrap _)=x
  have hx2:=masked_ran hx;clear hx;refine ⟨by omega,rd_cells o (by simp) ?_⟩;refine tt ?_;refine rd_cells o (by simp) ?_;refine tt ?_;apply bk <;> intro h2
  ·have h2p:=of_decide h2;refine tt ?_;refine rd_cells o (by simp) ?_;refine tt ?_;refine rd_cells o (by simp) ?_;refine tt ?_;refine ⟨⟨hs.1,by omega⟩, ?_⟩
   have hb:=(ix code pl).toNat_lt;try simp only [go_sem,↓reduceIte,reduceEqDiff,reduceAdd,reduceMul,reduceLeDiff,reduceLT,iB]
   generalize (ix code pl).toNat=b at hb ⊢
   have e1 : IntKind.i64.wrap (b : Int)=b:=wrap_i64 (by omega) (by omega)
   have e2 : IntKind.i64.wrap (x+b)=x+b:=wrap_i64 (by omega) (by omega)
   have e3 : IntKind.i64.wrap (pl+1)=pl+1:=wrap_i64 (by omega) (by omega);try simp only [go_sem,↓reduceIte,reduceEqDiff,reduceAdd,reduceMul,reduceLeDiff,reduceLT,e1,e2]
   refine rd_cells o (by simp) ?_;refine tw e3 ?_;refine sw o fun H o=>tt ?_;refine ⟨by omega,src_ret (s:=⟨code,pl+1,_⟩) ⟨(x+b).tmod n,rfl, ?_, ?_, ?_⟩ ⟨by show 0≤pl+1; omega,hs.2⟩ o⟩
   ·exact Int.tmod_nonneg _ (by omega)
   ·intro h; exact Int.tmod_lt_of_pos _ (by omega)
   ·intro h; omega
  ·refine tt ?_;refine ⟨by omega,src_ret (s:=⟨code,pl,_⟩) ⟨x.tmod n,rfl, ?_, ?_, ?_⟩ hs o⟩
   ·exact Int.tmod_nonneg _ (by omega)
   ·intro h; exact Int.tmod_lt_of_pos _ (by omega)
   ·intro h; omega
theorem l01Pick_ok (B : Nat) (l : List Int) (hl : l≠[]) : Rd B 162 [iL l] fun r=>∃ k : Int,r=iI k∧k∈l:=by
 intro id s H0 H hs o;refine c162.go fun hf=>?_
 have hp : 0<l.length:=List.length_pos_iff.mpr hl;refine tt ?_;refine (l01Next_ok B l.length).go hs o fun r s' H hr ⟨k,e,h0,h1,_⟩ hs o=>?_;subst e
 have h1:=h1 (by omega);refine tt ?_;refine ⟨⟨h0,by omega⟩,tt ?_⟩;exact src_ret ⟨_,rfl,ix_mem (by omega)⟩ hs o
theorem l02Number_ok (B : Nat) (n : Int) : Rd B 87 [iI n] fun r=>∃ k : Int,r=iI k:=by
 intro id s H0 H hs o;refine c87.go fun hf=>?_;refine tt ?_;refine (l01Next_ok B 40).go hs o fun r s' H hr ⟨k,e,h0,h1,_⟩ hs o=>?_;subst e;refine tt ?_;apply bk <;> intro h1
 ·refine tt ?_;refine ⟨?_, ?_⟩
  ·simp [maxL]
  refine (l01Pick_ok B [-1,n,9223372036854775807,-9223372036854775808] (by simp)).go hs o fun r s' H hr ⟨k,e,_⟩ hs o=>?_;subst e;refine tt ?_;exact src_ret ⟨_,rfl⟩ hs o
 ·refine tt ?_;refine (l01Next_ok B n).go hs o fun r s' H hr ⟨k,e,h0,h1,_⟩ hs o=>?_;subst e;refine tt ?_;exact src_ret ⟨_,rfl⟩ hs o
def MadeK (H0 : Heap) : Kont:=fun r H'=>∃ (id : Nat) (s : Src),r=.ref id 0∧s.Ok∧Owns H0 H' [(id,s.obj)]
theorem l01From_ok (B : Nat) (code : List UInt8) (H0 : Heap) : CallH Tryz.prog B 56 [mL iB code] H0 (MadeK H0):=by
 refine c56p.go fun ⟨hf,_⟩=>?_
 have hl:=fine_mL_le hf
 have hl':=hl;simp only [maxL] at hl';refine tt ?_;refine nb (.nil _) fun id H o=>tt ?_;refine awp_for [0,3] (G:=Int) (fun k _=>[(4,some (.int .i64 (k : Int)))]) (fun k h H=>Owns H0 H [(id,.cells 3 [mL iB code,.int .i64 0,.int .u64 h] 0)]) code.length _ o rfl ?_;clear o
 rintro k h H hk o
 have o : Owns H0 H [(id,.cells 3 [mL iB code,.int .i64 0,.int .u64 h] 0)]:=o
 have hend : MadeK H0 (.ref id 0) H:=⟨id,⟨code,0,h⟩,rfl,⟨Int.le_refl 0,hl⟩,o⟩;refine tt ?_;apply bk <;> intro h1
 ·have h1p:=of_decide h1;refine tw h1 ?_;apply bk <;> intro h2
  ·refine tt ?_;refine rd_cells o (by simp) ?_
   have w:=wsucc (k:=k) (by omega);try simp only [go_sem,↓reduceIte,reduceEqDiff,reduceAdd,reduceMul,reduceLeDiff,reduceLT,iB]
   refine ⟨by omega, ?_⟩;try simp only [go_sem,↓reduceIte,reduceEqDiff,reduceAdd,reduceMul,reduceLeDiff,reduceLT,iB]
   refine sw o fun H o=>?_;refine tw w ?_;exact for_next _ (by omega) o rfl
  ·refine tt ?_;exact ⟨H,.refl H,hend⟩
 ·refine tw h1 ?_;exact ⟨H,.refl H,hend⟩
theorem big_ok (B : Nat) (code : List UInt8) : Pur Tryz.prog B 8 [mL iB code] (.bool (decide (4096<code.length))):=by
 refine ⟨fun H0=>c8.go fun hf=>?_⟩;refine tt ?_;refine pure_ret ?_ (.refl _)
 congr 1
 exact decide_eq_decide.mpr (by omega)
theorem hasInt_ok (B : Nat) (l : List Int) (n : Int) : Pur Tryz.prog B 29 [iL l,.int .i64 n] (.bool (dec (n∈l))):=by
 refine ⟨fun H0=>c29.go fun ⟨hf,_⟩=>?_⟩
 have hl:=fine_mL_le hf;simp only [maxL] at hl;refine ta ?_;refine awp_for [0,1] (fun k _=>[(5,some (.int .i64 (k : Int)))]) (fun k _ H=>H=H0∧∀ i,i<k→l.getD i default≠n) l.length () ⟨rfl,by simp⟩ rfl ?_
 rintro k _ H hk ⟨rfl,hall⟩;refine ta ?_;apply bk <;> intro h1
 ·have h1:=of_decide h1
  have w1:=wsucc (k:=k) (by omega);refine ta ?_;apply bk <;> intro h2
  ·refine ta ?_;exact pure_ret (by rw [dec_t]; exact mem_getD.mpr ⟨k,h1,of_decide h2⟩) (.refl _)
  ·refine ta ?_;exact for_next () h1 ⟨rfl,lt_succ_all hall (of_ndecide h2)⟩ rfl
 ·refine ta ?_
  have h1:=of_ndecide h1;exact pure_ret (by rw [dec_f]; intro h; obtain ⟨i,hi,e⟩:=mem_getD.mp h; exact hall i (by omega) e) (.refl _)
theorem likeInts_ok (B : Nat) (a b : List Int) : Pur Tryz.prog B 24 [iL a,iL b] (.bool (dec (a=b))):=by
 refine ⟨fun H0=>c24.go fun ⟨hf,hg,_⟩=>?_⟩
 have hl:=fine_mL_le hf
 have hl2:=fine_mL_le hg;simp only [maxL] at hl hl2;refine tt ?_;apply bk <;> intro h0
 ·refine tt ?_
  have h0p : a.length≠b.length:=by simpa using h0
  exact pure_ret (by rw [dec_f]; rintro rfl; exact h0p rfl) (.refl _)
 have h0p : a.length=b.length:=by simpa using h0
 refine tt ?_;refine awp_for [0,1] (fun k _=>[(5,some (.int .i64 (k : Int)))]) (fun k _ H=>H=H0∧∀ i,i<k→a.getD i default=b.getD i default) a.length () ⟨rfl,by simp⟩ rfl ?_
 rintro k _ H hk ⟨rfl,hall⟩;refine tt ?_;apply bk <;> intro h1
 ·have h1:=of_decide h1
  have w1:=wsucc (k:=k) (by omega);refine tt ?_;refine ⟨h1,by omega,tt ?_⟩;apply bk <;> intro h2
  ·refine tt ?_
   have h2p : a.getD k default≠b.getD k default:=by simpa using h2
   exact pure_ret (by rw [dec_f]; rintro rfl; exact h2p rfl) (.refl _)
  ·refine tw w1 ?_
   have h2p : a.getD k default=b.getD k default:=by simpa using h2
   exact for_next () (by omega) ⟨rfl,lt_succ_all hall h2p⟩ rfl
 ·refine tt ?_
  have h1:=of_ndecide h1;refine pure_ret ?_ (.refl _);rw [dec_t];refine List.ext_getElem h0p fun i hi hj=>?_
  have:=hall i (by omega)
  simpa [List.getD_eq_getElem?_getD,hi,hj] using this
theorem dT5 {p : Decidable True} : @decide True p=true:=@decide_eq_true True p trivial
theorem lkRows5_ok (B : Nat) (a : List (List Int)) : Pur Tryz.prog B 27 [iLL a,iLL a] (.bool true):=by
 refine ⟨fun H0=>c27.go fun ⟨hf,_⟩=>?_⟩
 have hl:=fine_mL_le hf;simp only [maxL] at hl;refine tt ?_;refine ⟨fun e=>(by simp at e),fun _=>At.mk ?_⟩;refine tt ?_;refine awp_for [0,1] (G:=Unit) (fun k _=>[(5,some (.int .i64 (k : Int)))]) (fun k _ H=>H=H0) a.length () rfl rfl ?_
 rintro k _ H hk rfl;refine tt ?_;apply bk <;> intro h1
 ·have h1p : k<a.length:=of_decide h1
  have w:=wsucc (k:=k) (by omega);refine tt ?_;refine ⟨h1p,h1p,tt ?_⟩;refine ⟨_,(likeInts_ok B _ _).run, ?_⟩;rw [dec_t rfl];refine tw w ?_;exact for_next () (by omega) rfl rfl
 ·refine tt ?_;exact pure_ret rfl (.refl _)
theorem likeCat5_ok (B : Nat) (c : Cat) : Pur Tryz.prog B 17 [.agg c.cells,.agg c.cells] (.bool true):=by
 refine ⟨fun H0=>c17.go fun _=>?_⟩;refine td ?_;refine (likeInts_ok B _ _).go fun _=>?_;rw [dec_t rfl];refine td ?_;refine (likeInts_ok B _ _).go fun _=>?_;rw [dec_t rfl];refine td ?_;refine (likeInts_ok B _ _).go fun _=>?_;rw [dec_t rfl];refine td ?_;refine (lkRows5_ok B _).go fun _=>?_;refine td ?_;exact pure_ret rfl (.refl _)
theorem likeSets5_ok (B : Nat) (f : SF) : Pur Tryz.prog B 33 [.agg f.cells,.agg f.cells] (.bool true):=by
 refine ⟨fun H0=>c33.go fun _=>?_⟩;refine td ?_;refine (likeCat5_ok B f.shape).go fun _=>?_;refine td ?_;refine (likeInts_ok B _ _).go fun _=>?_;rw [dec_t rfl];refine td ?_;refine (lkRows5_ok B _).go fun _=>?_;refine td ?_;exact pure_ret rfl (.refl _)
theorem likeMaps5_ok (B : Nat) (m : SM) : Pur Tryz.prog B 39 [.agg m.cells,.agg m.cells] (.bool true):=by
 refine ⟨fun H0=>c39.go fun _=>?_⟩;refine td ?_;refine (likeSets5_ok B m.src).go fun _=>?_;refine td ?_;refine (likeSets5_ok B m.tgt).go fun _=>?_;refine td ?_;refine (lkRows5_ok B _).go fun _=>?_;refine td ?_;exact pure_ret rfl (.refl _)
theorem onto5_ok (B : Nat) (n : Int) (l : List Int) (hn : 0≤n) : Pur Tryz.prog B 46 [iI n,iL l] (.bool (dec ((l.length : Int)=n∧∀ i : Nat,(i : Int)<n→(i : Int)∈l))):=by
 refine ⟨fun H0=>c46.go fun ⟨_,hf,_⟩=>?_⟩
 have hl:=fine_mL_le hf;simp only [maxL] at hl;refine tt ?_;apply bk <;> intro h0
 ·have h0p : ¬ (l.length : Int)=n:=by simpa using h0
  refine tt ?_;exact pure_ret (by rw [dec_f]; exact fun q=>h0p q.1) (.refl _)
 have h0p : (l.length : Int)=n:=by simpa using h0
 refine tt ?_;refine awp_for [0,1] (fun k _=>[(5,some (.int .i64 (k : Int)))]) (fun k _ H=>H=H0∧∀ i : Nat,i<k→(i : Int)∈l) l.length () ⟨rfl,by simp⟩ rfl ?_
 rintro k _ H hk ⟨rfl,hall⟩;refine tt ?_;apply bk <;> intro h1
 ·have h1p : (k : Int)<n:=of_decide h1
  have w:=wsucc (k:=k) (by omega);refine tt ?_;refine (hasInt_ok B l k).go fun _=>tt ?_;apply bk <;> intro h2
  ·have h2p : ¬ (k : Int)∈l:=by simpa [dec] using h2
   refine tt ?_;exact pure_ret (by rw [dec_f]; exact fun q=>h2p (q.2 k h1p)) (.refl _)
  ·have h2p : (k : Int)∈l:=by simpa [dec] using h2
   refine tw w ?_
   exact for_next () (by omega) ⟨rfl,fun i hi=>by
    by_cases e : i=k
    ·rw [e]; exact h2p
    ·exact hall i (by omega)⟩ rfl
 ·have h1p : ¬ (k : Int)<n:=of_ndecide h1;refine tt ?_;exact pure_ret (by rw [dec_t]; exact ⟨h0p,fun i hi=>hall i (by omega)⟩) (.refl _)
end Go.Proofs.Shf
namespace Go.AW
@[go_sem] theorem cells_emsl : AV.emsl.cells=[.emsl]:=rfl
@[go_sem] theorem one_emsl : AV.emsl.one=true:=rfl
@[go_sem] theorem le_maxL3 : (3≤maxL)=True:=by simp [maxL]
@[go_sem] theorem le_maxL4 : (4≤maxL)=True:=by simp [maxL]
@[go_sem] theorem le_maxL5 : (5≤maxL)=True:=by simp [maxL]
theorem permC {l r : Ob} (h : ∀ x,@List.count _ (@instBEqOfDecidableEq _ (Classical.typeDecidableEq _)) x l=@List.count _ (@instBEqOfDecidableEq _ (Classical.typeDecidableEq _)) x r) : l.Perm r:=by
 letI : DecidableEq (Nat × MObj):=Classical.typeDecidableEq _
 exact List.perm_iff_count.mpr h
def EmP {α : Type} (f : α→AV) (p : List (Nat × MObj)) (X : AV) (A : List α) : Prop :=
 (p=[]∧X=.emsl∧A=[])∨∃ id,p=[(id,.cells 1 (A.map f) 0)]∧X=.buf id A.length
theorem EmP.o {α : Type} {f : α→AV} {H0 H : Heap} {l p : List (Nat × MObj)} {X : AV} {A : List α} (h : EmP f p X A) (o : Owns H0 H (p++l)) : EmO f H0 H l X A:=by
 rcases h with ⟨rfl,h1,h2⟩ | ⟨id,rfl,h1⟩
 ·exact .inl ⟨h1,h2,o⟩
 ·exact .inr ⟨id,h1,o⟩
theorem wk_emc {F : Env→Heap→Prop} {σ : Env} {H0 H : Heap} {l : List (Nat × MObj)} {id sz fr : Nat} {cs : List AV} (k : Nat)
  (o : Owns H0 H ((id,.cells sz cs fr)::l)) (hc : cs[k]? = some .emsl) (hk : ∀ H',Owns H0 H' ((id,.cells sz (cs.set k (.sl [])) fr)::l)→wkW F σ H') : wkW F σ H:=by
 have h1:=o.h0;simp only at h1;refine wkW_step (σ1:=σ) ?_ (hk _ (o.put (.cells sz (cs.set k (.sl [])) fr)))
 intro g B w tm hW hE;refine ⟨g,.refl g,hW.recell h1 (by simp) fun j v hj hv=>?_,hE⟩
 by_cases e : j=k
 ·subst e
  have e1 : cs.getD j nv=.emsl:=by rw [List.getD_eq_getElem?_getD,hc]; rfl
  have e2 : (cs.set j (.sl [])).getD j nv=.sl []:=by simp [List.getD_eq_getElem?_getD,hj]
  rw [e1] at hv; rw [e2]
  cases hv; exact .slnil _ 0
 ·have e2 : (cs.set k (.sl [])).getD j nv=cs.getD j nv:=by
   rw [List.getD_eq_getElem?_getD,List.getElem?_set_ne (by omega),← List.getD_eq_getElem?_getD]
  rw [e2]; exact hv
theorem wk_em {α : Type} [Inhabited α] {f : α→AV} [One f] {F : Env→Heap→Prop} {σ : Env} {H0 H : Heap} {l p : List (Nat × MObj)} {id sz fr : Nat} {cs : List AV} {X : AV} {A : List α} (k : Nat)
  (h : EmP f p X A) (o : Owns H0 H (p++((id,.cells sz cs fr)::l))) (hc : cs[k]? = some X)
  (hk : ∀ H',Owns H0 H' ((id,.cells sz (cs.set k (mL f A)) fr)::l)→wkW F σ H') : wkW F σ H:=by
 rcases h with ⟨rfl,rfl,rfl⟩ | ⟨id2,rfl,rfl⟩
 ·exact wk_emc k o hc hk
 ·exact wk_cell k o.swap hc rfl hk
end Go.AW
namespace Go.Shf
open Go.AW
structure Cat.Sh (N : Nat) (c : Cat) : Prop where
 ob : 0≤c.objs∧c.objs≤N
 il : (c.idn.length : Int)=c.objs
 ml : c.frm.length≤N
 tl : c.to.length=c.frm.length
 cl : c.comp.length=c.frm.length
 row : ∀ f : Nat,f<c.frm.length→(c.comp.getD f default).length=c.frm.length
theorem Cat.Sh.mono {N M : Nat} {c : Cat} (h : c.Sh N) (hm : N≤M) : c.Sh M:=⟨by have:=h.ob; omega,h.il,by have:=h.ml; omega,h.tl,h.cl,h.row⟩
def CatQ (N : Nat) (r : AV) : Prop:=∃ c : Cat,r=.agg c.cells∧c.Sh N
def SqT (n : Nat) (T : List (List Int)) : Prop:=T.length≤n∧∀ i,i<T.length→(T.getD i default).length=T.length
def SqQ (n : Nat) (r : AV) : Prop:=∃ T : List (List Int),r=iLL T∧SqT n T
end Go.Shf
namespace Go.Proofs.Shf
open Go.AW Go.Proofs Go.Shf
theorem l02Monoid_ok (B : Nat) : Rd B 272 [] (SqQ 4):=by
 intro id s H0 H hs o;refine c272.go fun hf=>?_;refine tt ?_;refine (l01Next_ok B 8).go hs o fun r s' H hr ⟨k,e,h0,h1,_⟩ hs o=>?_;subst e;refine tt ?_;apply bk <;> intro q0
 ·refine tt ?_;exact src_ret ⟨[[0]],rfl,by decide,by decide⟩ hs o
 refine tt ?_;apply bk <;> intro q1
 ·refine tt ?_;exact src_ret ⟨[[0,1],[1,0]],rfl,by decide,by decide⟩ hs o
 refine tt ?_;apply bk <;> intro q2
 ·refine tt ?_;exact src_ret ⟨[[0,1],[1,1]],rfl,by decide,by decide⟩ hs o
 refine tt ?_;apply bk <;> intro q3
 ·refine tt ?_;exact src_ret ⟨[[0,1,2],[1,2,0],[2,0,1]],rfl,by decide,by decide⟩ hs o
 refine tt ?_;apply bk <;> intro q4
 ·refine tt ?_;exact src_ret ⟨[[0,1,2],[1,1,2],[2,2,2]],rfl,by decide,by decide⟩ hs o
 refine tt ?_;apply bk <;> intro q5
 ·refine tt ?_;exact src_ret ⟨[[0,1,2],[1,1,2],[2,1,2]],rfl,by decide,by decide⟩ hs o
 refine tt ?_;apply bk <;> intro q6
 ·refine tt ?_;exact src_ret ⟨[[0,1,2,3],[1,0,2,3],[2,3,2,3],[3,2,2,3]],rfl,by decide,by decide⟩ hs o
 refine tt ?_;exact src_ret ⟨[[0,1,2],[1,2,2],[2,2,2]],rfl,by decide,by decide⟩ hs o
theorem l02Split_ok (B : Nat) : Rets B 273 [] (CatQ 6):=by
 intro H0;refine c273.go fun hf=>?_;refine tt ?_;refine fun i1 n1=>tt ?_;refine rets_ret ⟨⟨2,[0,1,0,0,1],[0,1,0,1,0],[0,1],[[0,-1,2,3,-1],[-1,1,-1,-1,4],[2,-1,2,3,-1],[-1,3,-1,-1,2],[4,-1,4,1,-1]]⟩,rfl,by decide,by decide,by decide,by decide,by decide,by decide⟩ ?_
 repeat (first | exact .refl _ | refine sub_set ?_ n1)
theorem l02Fits_ok (B : Nat) (c : Cat) : Pur Tryz.prog B 209 [.agg c.cells] (.bool (dec (c.objs≤8∧c.frm.length≤40))):=by
 refine ⟨fun H0=>c209.go fun hf=>?_⟩;refine tt ?_;apply bk <;> intro h1
 ·refine tw h1 ?_
  exact pure_ret (by
   have h1p:=of_decide h1
   congr 1
   rw [decide_dec];exact dec_congr ⟨fun h=>⟨h1p,by omega⟩,fun h=>by have:=h.2; omega⟩) (.refl _)
 ·refine tw h1 ?_;exact pure_ret (by rw [dec_f (fun h=>of_ndecide h1 h.1)]) (.refl _)
theorem l03Monoid_ok (B : Nat) (T : List (List Int)) (hT : SqT 4 T) : Rets B 271 [iLL T] (CatQ 4):=by
 intro H0;refine c271p.go fun hf=>?_;refine tt ?_;refine newRef_own (.nil _) fun id H o=>tt ?_;refine ⟨_,(l01Own2_ok ..).run,tt ?_⟩
 have hT4:=hT.1
 have hc : (T.length : Int)≤T.length∧T.length≤maxL∧T.length≤maxL:=⟨by omega,by simp only [maxL]; omega,by simp only [maxL]; omega⟩;refine ⟨?_, ?_⟩
 ·refine ⟨hc,mks_list iI 0 rfl o fun i7 H o=>?_⟩;refine tt ?_;refine ⟨hc,mks_list iI 0 rfl o fun i9 H o=>?_⟩;refine tt ?_
  have o:=o.pull [_,_];simp only [List.cons_append,List.nil_append] at o;refine sw o fun H o=>tt ?_;refine wk_cell 2 o rfl (by simp) fun H o=>?_;simp only [List.set_cons_zero,List.set_cons_succ] at o;refine wk_cell 1 o rfl (by simp) fun H o=>wkW_done ?_;simp only [List.set_cons_zero,List.set_cons_succ] at o;refine tt ?_
  have hr:=o.rc 5 0 (by simp);simp only [List.drop_zero] at hr;rw [hr];refine tt ?_;exact rets_ret ⟨⟨1,List.replicate T.length 0,List.replicate T.length 0,[0],T⟩,rfl,by simp,by simp,by simpa using hT4,by simp,by simp,fun f hf=>by simpa using hT.2 f (by simpa using hf)⟩ o.sub
 ·refine ⟨hc,mks_list iI 0 rfl o fun i9 H o=>?_⟩;refine tt ?_;refine ⟨hc,mks_list iI 0 rfl o fun i7 H o=>?_⟩;refine tt ?_
  have o:=o.pull [_,_];simp only [List.cons_append,List.nil_append] at o;refine sw o fun H o=>tt ?_;refine wk_cell 1 o rfl (by simp) fun H o=>?_;simp only [List.set_cons_zero,List.set_cons_succ] at o;refine wk_cell 2 o rfl (by simp) fun H o=>wkW_done ?_;simp only [List.set_cons_zero,List.set_cons_succ] at o;refine tt ?_
  have hr:=o.rc 5 0 (by simp);simp only [List.drop_zero] at hr;rw [hr];refine tt ?_;exact rets_ret ⟨⟨1,List.replicate T.length 0,List.replicate T.length 0,[0],T⟩,rfl,by simp,by simp,by simpa using hT4,by simp,by simp,fun f hf=>by simpa using hT.2 f (by simpa using hf)⟩ o.sub
theorem l03Op_ok (B : Nat) (N : Nat) (hN : N≤4096) (c : Cat) (hc : c.Sh N) : Rets B 274 [.agg c.cells] (CatQ N):=by
 intro H0;refine c274p.go fun hf=>?_
 have hob:=hc.ob
 have hml:=hc.ml
 have htl:=hc.tl
 have hcl:=hc.cl
 have hrow:=hc.row;refine tt ?_;refine newRef_own (.nil _) fun id2 H o=>tt ?_;refine ⟨_,(l01Own_ok ..).run,tt ?_⟩;refine ⟨_,(l01Own_ok ..).run,tt ?_⟩;refine ⟨_,(l01Own_ok ..).run,tt ?_⟩;refine newRef_own o fun id3 H o=>tt ?_;refine sw o fun H o=>tt ?_
 refine awp_for [1,2,3] (G:=AV × Ob × List (List Int)) (fun k _=>[(4,some (.int .i64 (k : Int)))])
  (fun k g H=>EmP iL g.2.1 g.1 g.2.2∧g.2.2.length=k∧(∀ r,r∈g.2.2→r.length=c.frm.length)∧Owns H0 H (g.2.1++[(id3,MObj.cells 5 [iI c.objs,iL c.to,iL c.frm,iL c.idn,g.1] 0),(id2,MObj.cells 5 [iI 0,.nilsl,.nilsl,.nilsl,.nilsl] 0)])) c.frm.length (.emsl,[],[])
  ⟨.inl ⟨rfl,rfl,rfl⟩,rfl,by simp,o⟩ rfl ?_
 clear o
 rintro k ⟨X,p,A⟩ H hk ⟨hX,hA,hr,o⟩;dsimp only at hX hA hr o;refine tt ?_;apply bk <;> intro h1
 ·have h1p:=of_decide h1;refine tt ?_;refine newBuf_own o fun idr H o=>tt ?_
  refine awp_for [1,2,3,4] (G:=Nat × List Int) (fun j g=>[(5,some (.buf g.1 g.2.length)),(6,some (.int .i64 (j : Int)))])
   (fun j g H=>g.2.length=j∧Owns H0 H ((g.1,.cells 1 (g.2.map iI) 0)::(p++[(id3,MObj.cells 5 [iI c.objs,iL c.to,iL c.frm,iL c.idn,X] 0),(id2,MObj.cells 5 [iI 0,.nilsl,.nilsl,.nilsl,.nilsl] 0)]))) c.frm.length (idr,[]) ⟨rfl,o⟩ rfl ?_
  clear o
  rintro j ⟨idr,row⟩ H hj ⟨hrl,o⟩;dsimp only at hrl o;refine tt ?_;apply bk <;> intro h2
  ·have h2p:=of_decide h2
   have w:=wsucc (k:=j) (by omega)
   have hrj:=hrow j h2p;refine tt ?_;refine ⟨by omega,by omega, ?_⟩;refine app_own _ o rfl rfl (by simp only [maxL]; omega) fun idr H o=>?_;refine tw w ?_;exact for_next (idr,_) h2p ⟨by simp [hrl],o⟩ rfl
  ·have h2p:=of_ndecide h2;refine tt ?_;refine fz_own o rfl fun H o=>tt ?_;refine rd_get (o.get (id3,MObj.cells 5 [iI c.objs,iL c.to,iL c.frm,iL c.idn,X] 0) (by simp)) (by simp) ?_;refine tt ?_;refine (hX.o o).app row rfl (by simp only [maxL]; omega) fun id' H o=>tt ?_;refine sw o.swap fun H o=>?_
   have w:=wsucc (k:=k) (by omega);refine tw w ?_
   exact for_next (_,[(id',.cells 1 ((A++[row]).map iL) 0)],A++[row]) h1p ⟨.inr ⟨id',rfl,rfl⟩,by simp [hA],by
    intro r hr'
    rcases List.mem_append.mp hr' with h | h
    ·exact hr r h
    ·rw [List.mem_singleton] at h; subst h; omega,o.swap⟩ rfl
 ·have h1p:=of_ndecide h1;refine tt ?_;refine wk_em 4 hX o rfl fun H o=>wkW_done ?_;simp only [List.set_cons_zero,List.set_cons_succ] at o;refine tt ?_;refine rd_celln o (by simp) ?_;refine tt ?_;refine sw o.swap fun H o=>tt ?_
  have hr2:=o.rc 5 0 (by simp);simp only [List.drop_zero] at hr2;rw [hr2];refine tt ?_
  exact rets_ret ⟨⟨c.objs,c.to,c.frm,c.idn,A⟩,rfl,hob,hc.il,by show c.to.length≤N; omega,by show c.frm.length=c.to.length; omega,by show A.length=c.to.length; omega,fun f hf=>by
   show (A.getD f default).length=c.to.length
   rw [hr _ (mem_getD.mpr ⟨f,by have : f<c.to.length:=hf; omega,rfl⟩)]; omega⟩ o.sub
theorem l03Poset_ok (B : Nat) (R : List (List Int)) (hR : SqT 4 R) : Rets B 210 [iLL R] (CatQ 16):=by
 intro H0;refine c210p.go fun hf=>?_
 obtain ⟨hR4,hrow⟩:=hR;refine tt ?_;refine newRef_own (.nil _) fun id2 H o=>tt ?_;refine newBuf_own o fun idN H o=>tt ?_;refine newBuf_own o fun a H o=>tt ?_;refine newBuf_own o fun b H o=>tt ?_;refine newBuf_own o fun i H o=>tt ?_;refine newBuf_own o fun d H o=>tt ?_;refine newRef_own o fun id5 H o=>tt ?_;refine sw o fun H o=>tt ?_
 generalize hn : R.length=n at *
 refine awp_for [0,2,3,5] (G:=(Nat × List Int) × (Nat × List Int) × (Nat × List (List Int))) (fun k g=>[(4,some (.buf g.2.2.1 g.2.2.2.length)),(6,some (.int .i64 (k : Int)))])
  (fun k g H=>g.2.1.2.length=g.1.2.length∧g.1.2.length≤k*n∧(∀ y,y∈g.1.2→0≤y∧y<n)∧(∀ y,y∈g.2.1.2→0≤y∧y<n)∧g.2.2.2.length=k∧(∀ r,r∈g.2.2.2→r.length=n) ∧
   Owns H0 H [(id5,MObj.cells 5 [iI n,.buf g.1.1 g.1.2.length,.buf g.2.1.1 g.2.1.2.length,.buf i 0,.buf d 0] 0),(g.1.1,MObj.cells 1 (g.1.2.map iI) 0),(g.2.1.1,MObj.cells 1 (g.2.1.2.map iI) 0),(g.2.2.1,MObj.cells 1 (g.2.2.2.map iL) 0),
    (i,MObj.cells 1 [] 0),(d,MObj.cells 1 [] 0),(id2,MObj.cells 5 [iI 0,.nilsl,.nilsl,.nilsl,.nilsl] 0)]) n ((a,[]),(b,[]),(idN,[]))
  ⟨rfl,by simp,by simp,by simp,rfl,by simp,o.pm⟩ rfl ?_
 clear o
 rintro k ⟨⟨a,A⟩,⟨b,C⟩,⟨idN,rows⟩⟩ H hk ⟨hC,hA,hAr,hCr,hrl,hrr,o⟩;dsimp only at hC hA hAr hCr hrl hrr
 replace o : Owns H0 H [(id5,MObj.cells 5 [iI n,.buf a A.length,.buf b C.length,.buf i 0,.buf d 0] 0),(a,MObj.cells 1 (A.map iI) 0),(b,MObj.cells 1 (C.map iI) 0),(idN,MObj.cells 1 (rows.map iL) 0),
    (i,MObj.cells 1 [] 0),(d,MObj.cells 1 [] 0),(id2,MObj.cells 5 [iI 0,.nilsl,.nilsl,.nilsl,.nilsl] 0)]:=o
 refine tt ?_;apply bk <;> intro h1
 ·have h1p:=of_decide h1;refine tt ?_;refine newBuf_own o fun idr H o=>tt ?_
  have hkn : k*n+n≤16:=by
   have : (k+1)*n≤4*4:=Nat.mul_le_mul (by omega) (by omega);rw [Nat.succ_mul] at this; omega
  refine awp_for [0,2,3,4,5,6] (G:=(Nat × List Int) × (Nat × List Int) × (Nat × List Int)) (fun j g=>[(7,some (.buf g.1.1 g.1.2.length)),(8,some (.int .i64 (j : Int)))])
   (fun j g H=>g.1.2.length=j∧g.2.2.2.length=g.2.1.2.length∧g.2.1.2.length≤k*n+j∧(∀ y,y∈g.2.1.2→0≤y∧y<n)∧(∀ y,y∈g.2.2.2→0≤y∧y<n) ∧
    Owns H0 H [(g.1.1,MObj.cells 1 (g.1.2.map iI) 0),(id5,MObj.cells 5 [iI n,.buf g.2.1.1 g.2.1.2.length,.buf g.2.2.1 g.2.2.2.length,.buf i 0,.buf d 0] 0),(g.2.1.1,MObj.cells 1 (g.2.1.2.map iI) 0),(g.2.2.1,MObj.cells 1 (g.2.2.2.map iI) 0),(idN,MObj.cells 1 (rows.map iL) 0),
    (i,MObj.cells 1 [] 0),(d,MObj.cells 1 [] 0),(id2,MObj.cells 5 [iI 0,.nilsl,.nilsl,.nilsl,.nilsl] 0)]) n ((idr,[]),(a,A),(b,C))
   ⟨rfl,hC,by omega,hAr,hCr,o⟩ rfl ?_
  clear o hA hAr hCr hC
  rintro j ⟨⟨idr,row⟩,⟨a,A⟩,⟨b,C⟩⟩ H hj ⟨hrow',hC,hA,hAr,hCr,o⟩
  replace hrow' : row.length=j:=hrow';dsimp only at hC hA hAr hCr
  replace o : Owns H0 H [(idr,MObj.cells 1 (row.map iI) 0),(id5,MObj.cells 5 [iI n,.buf a A.length,.buf b C.length,.buf i 0,.buf d 0] 0),(a,MObj.cells 1 (A.map iI) 0),(b,MObj.cells 1 (C.map iI) 0),(idN,MObj.cells 1 (rows.map iL) 0),
    (i,MObj.cells 1 [] 0),(d,MObj.cells 1 [] 0),(id2,MObj.cells 5 [iI 0,.nilsl,.nilsl,.nilsl,.nilsl] 0)]:=o
  refine tt ?_;apply bk <;> intro h2
  ·have h2p:=of_decide h2
   have w:=wsucc (k:=j) (by omega);refine tt ?_;refine rd_cells o.tl (by simp) ?_;refine tt ?_;refine app_own _ o rfl rfl (by simp only [maxL]; omega) fun idr H o=>?_
   have hR1:=hrow k (by omega);refine tt ?_;refine ⟨by omega,by omega, ?_⟩;apply bk <;> intro h3
   ·refine tt ?_;refine rd_cells o.tl (by simp) ?_;refine tt ?_;refine app_own _ (o.pull [_,_]) rfl rfl (by simp only [maxL]; omega) fun a H o=>tt ?_;refine sw (o.pull [_,_]) fun H o=>tt ?_;refine rd_cells o (by simp) ?_;refine tt ?_;refine app_own _ (o.pull [_,_,_]) rfl rfl (by simp only [maxL]; omega) fun b H o=>tt ?_;refine sw o.swap fun H o=>?_;refine tw w ?_;refine for_next ((idr,_),(a,A++[(k : Int)]),(b,C++[(j : Int)])) h2p ⟨by simp [hrow'],by simp [hC],by simp; omega, ?_, ?_,o.pm⟩ rfl
    ·intro y hy
     rcases List.mem_append.mp hy with h | h
     ·exact hAr y h
     ·rw [List.mem_singleton] at h; subst h; omega
    ·intro y hy
     rcases List.mem_append.mp hy with h | h
     ·exact hCr y h
     ·rw [List.mem_singleton] at h; subst h; omega
   ·refine tw w ?_;exact for_next ((idr,_),(a,A),(b,C)) h2p ⟨by simp [hrow'],hC,by show A.length≤_; omega,hAr,hCr,o⟩ rfl
  ·have h2p:=of_ndecide h2;refine tt ?_;refine fz_own o rfl fun H o=>tt ?_;refine app_own row (o.pull [_,_,_]) rfl rfl (by simp only [maxL]; omega) fun idN H o=>?_
   have w:=wsucc (k:=k) (by omega);refine tw w ?_;refine for_next ((a,A),(b,C),(idN,rows++[row])) h1p ⟨hC,by show A.length≤_; rw [Nat.succ_mul]; omega,hAr,hCr,by simp [hrl], ?_,o.pm⟩ rfl
   intro r hr
   rcases List.mem_append.mp hr with h | h
   ·exact hrr r h
   ·rw [List.mem_singleton] at h; subst h; omega
 ·have h1p:=of_ndecide h1
  have hkn : k=n:=by omega
  subst hkn
  have hA16 : A.length≤16:=Nat.le_trans hA (Nat.mul_le_mul hR4 hR4);refine tt ?_;refine fz_own (o.pull [_,_,_]) rfl fun H o=>tt ?_
  refine awp_for [2,3,4,5] (G:=(Nat × List Int)) (fun j g=>[(9,some (.int .i64 (j : Int)))])
   (fun j g H=>g.2.length=j∧Owns H0 H [(id5,MObj.cells 5 [iI k,.buf a A.length,.buf b C.length,.buf g.1 g.2.length,.buf d 0] 0),(g.1,MObj.cells 1 (g.2.map iI) 0),(a,MObj.cells 1 (A.map iI) 0),(b,MObj.cells 1 (C.map iI) 0),
    (d,MObj.cells 1 [] 0),(id2,MObj.cells 5 [iI 0,.nilsl,.nilsl,.nilsl,.nilsl] 0)]) k (i,[]) ⟨rfl,o.pm⟩ rfl ?_
  clear o
  rintro j ⟨i,I⟩ H hj ⟨hI,o⟩;dsimp only at hI
  replace o : Owns H0 H [(id5,MObj.cells 5 [iI k,.buf a A.length,.buf b C.length,.buf i I.length,.buf d 0] 0),(i,MObj.cells 1 (I.map iI) 0),(a,MObj.cells 1 (A.map iI) 0),(b,MObj.cells 1 (C.map iI) 0),
    (d,MObj.cells 1 [] 0),(id2,MObj.cells 5 [iI 0,.nilsl,.nilsl,.nilsl,.nilsl] 0)]:=o
  refine tt ?_;apply bk <;> intro h2
  ·have h2p:=of_decide h2
   have w:=wsucc (k:=j) (by omega)
   have hrj:=hrr (rows.getD j default) (mem_getD.mpr ⟨j,by omega,rfl⟩);refine tt ?_;refine rd_cells o (by simp) ?_;refine tt ?_;refine ⟨by omega,by omega,tt ?_⟩;refine app_own _ o.swap rfl rfl (by simp only [maxL]; omega) fun i H o=>tt ?_;refine sw o.swap fun H o=>?_;refine tw w ?_;exact for_next (i,_) h2p ⟨by simp [hI],o⟩ rfl
  ·have h2p:=of_ndecide h2
   have hIk : I.length=k:=by omega
   refine tt ?_;refine wk_cell 3 o rfl rfl fun H o=>?_;simp only [List.set_cons_zero,List.set_cons_succ] at o;refine wk_cell 1 o rfl rfl fun H o=>?_;simp only [List.set_cons_zero,List.set_cons_succ] at o;refine wk_cell 2 o rfl rfl fun H o=>wkW_done ?_;simp only [List.set_cons_zero,List.set_cons_succ] at o;clear h2 h2p hj hI;refine tt ?_
   refine awp_for [2,4,5] (G:=(Nat × List (List Int))) (fun j g=>[(10,some (.int .i64 (j : Int)))])
    (fun j g H=>g.2.length=j∧(∀ r,r∈g.2→r.length=A.length)∧Owns H0 H [(id5,MObj.cells 5 [iI k,iL A,iL C,iL I,.buf g.1 g.2.length] 0),(g.1,MObj.cells 1 (g.2.map iL) 0),(id2,MObj.cells 5 [iI 0,.nilsl,.nilsl,.nilsl,.nilsl] 0)]) A.length (d,[]) ⟨rfl,by simp,o⟩ rfl ?_
   clear o
   rintro f ⟨d,D⟩ H hf' ⟨hD,hDr,o⟩;dsimp only at hD hDr o;refine tt ?_;refine rd_cells o (by simp) ?_;refine tt ?_;apply bk <;> intro h2
   ·have h2p:=of_decide h2;refine tt ?_;refine newBuf_own o fun idr H o=>tt ?_
    refine awp_for [2,4,5,10] (G:=Nat × List Int) (fun g r=>[(11,some (.buf r.1 r.2.length)),(12,some (.int .i64 (g : Int)))])
     (fun g r H=>r.2.length=g∧Owns H0 H [(r.1,MObj.cells 1 (r.2.map iI) 0),(id5,MObj.cells 5 [iI k,iL A,iL C,iL I,.buf d D.length] 0),(d,MObj.cells 1 (D.map iL) 0),(id2,MObj.cells 5 [iI 0,.nilsl,.nilsl,.nilsl,.nilsl] 0)]) A.length (idr,[]) ⟨rfl,o⟩ rfl ?_
    clear o
    rintro g ⟨idr,row⟩ H hg ⟨hrl',o⟩
    replace hrl' : row.length=g:=hrl';dsimp only at o;refine tt ?_;refine rd_cells o.tl (by simp) ?_;refine tt ?_;apply bk <;> intro h3
    ·have h3p:=of_decide h3
     have w:=wsucc (k:=g) (by omega);refine tt ?_;refine rd_cells o.tl (by simp) ?_;refine tt ?_;refine ⟨by omega, ?_⟩;refine rd_cells o.tl (by simp) ?_;refine tt ?_;refine ⟨by omega,tt ?_⟩
     have hAf:=hAr (A.getD f default) (mem_getD.mpr ⟨f,h2p,rfl⟩)
     have hCg:=hCr (C.getD g default) (mem_getD.mpr ⟨g,by omega,rfl⟩)
     have hrx:=hrr (ix rows (A.getD f default)) (ix_mem (by omega));apply bk <;> intro h4
     ·refine tt ?_;refine rd_cells o.tl (by simp) ?_;refine tt ?_;refine ⟨h2p,⟨by omega,by omega⟩, ?_⟩;refine rd_cells o.tl (by simp) ?_;refine tt ?_;refine ⟨by omega,⟨by omega,by omega⟩, ?_⟩;refine app_own _ o rfl rfl (by simp only [maxL]; omega) fun idr H o=>?_;refine tw w ?_;exact for_next (idr,_) h3p ⟨by simp [hrl'],o⟩ rfl
     ·refine tt ?_;refine app_own _ o rfl rfl (by simp only [maxL]; omega) fun idr H o=>?_;refine tw w ?_;exact for_next (idr,_) h3p ⟨by simp [hrl'],o⟩ rfl
    ·have h3p:=of_ndecide h3
     have w:=wsucc (k:=f) (by omega);refine tt ?_;refine fz_own o rfl fun H o=>tt ?_;refine rd_cells o (by simp) ?_;refine tt ?_;refine app_own row o.swap rfl rfl (by simp only [maxL]; omega) fun d H o=>tt ?_;refine sw o.swap fun H o=>?_;refine tw w ?_;refine for_next (d,D++[row]) h2p ⟨by simp [hD], ?_,o⟩ rfl
     intro r hr
     rcases List.mem_append.mp hr with h | h
     ·exact hDr r h
     ·rw [List.mem_singleton] at h; subst h; omega
   ·have h2p:=of_ndecide h2;refine tt ?_;refine wk_cell 4 o rfl rfl fun H o=>wkW_done ?_;simp only [List.set_cons_zero,List.set_cons_succ] at o;refine tt ?_;refine rd_celln o (by simp) ?_;refine tt ?_;refine sw o.swap fun H o=>tt ?_
    have hr2:=o.rc 5 0 (by simp);simp only [List.drop_zero] at hr2;rw [hr2];refine tt ?_
    have hDA : D.length=A.length:=by omega
    refine rets_ret ⟨⟨k,A,C,I,D⟩,rfl,⟨by show (0 : Int)≤(k : Int); omega,by show (k : Int)≤((16 : Nat) : Int); omega⟩,by show (I.length : Int)=k; omega,hA16,hC,hDA,fun x hx=>?_⟩ o.sub;exact hDr _ (mem_getD.mpr ⟨x,by rw [hDA]; exact hx,rfl⟩)
end Go.Proofs.Shf
namespace Go.AW
theorem LsR.inner {α : Type} {f : α→AV} : ∀ (ms : List (Nat × List α)),LsR f (ms.map bufE) (ms.map Prod.snd) (inner f ms)
 | []=>.nil
 | m::ms=>LsR.cons (p:=[(m.1,.cells 1 (m.2.map f) 0)]) (.inr ⟨m.1,rfl,rfl⟩) (LsR.inner ms)
theorem app_own' {α : Type} [Inhabited α] {f : α→AV} [One f] {H0 H : Heap} {l : Ob} {K : Kont} {id fr n : Nat} {out : List α} (a : α) {v : AV} (h : Owns H0 H ((id,.cells 1 (out.map f) fr)::l)) (hv : v=f a) (hn : n=out.length) (hm : out.length+1≤maxL)
  (hk : ∀ id' H' A,A=out++[a]→A.length=out.length+1→Owns H0 H' ((id',.cells 1 (A.map f) fr)::l)→K (.buf id' A.length) H') : appW 1 (some (.buf id n)) (some (.sl [v])) K H :=
 app_own a h hv hn hm fun id' H' o=>hk id' H' _ rfl (by simp) o
end Go.AW
namespace Go.Proofs.Shf
open Go.AW Go.Proofs Go.Shf
theorem l01Own2_own (B : Nat) (T : List (List Int)) (H0 H : Heap) (l : Ob) (o : Owns H0 H l) :
  CallH Tryz.prog B 183 [iLL T] H (fun r H'=>∃ d Xs ob,r=.buf d Xs.length∧LsR iI Xs T ob∧Owns H0 H' ((d,.cells 1 Xs 0)::(ob++l))):=by
 refine c183p.go fun ⟨hf,_⟩=>?_
 have hl:=fine_mL_le hf;simp only [maxL] at hl;refine tt ?_;refine newBuf_own o fun d H o=>tt ?_
 refine awp_for [0] (G:=Nat × List (Nat × List Int)) (fun k g=>[(3,some (.buf g.1 g.2.length)),(4,some (.int .i64 (k : Int)))])
  (fun k g H=>g.2.map Prod.snd=T.take k∧Owns H0 H ((g.1,MObj.cells 1 (g.2.map bufE) 0)::(inner iI g.2++l))) T.length (d,[]) ⟨by simp,o⟩ rfl ?_
 clear o
 rintro k ⟨d,ms⟩ H hk ⟨hms,o⟩;dsimp only at hms o
 have hml : ms.length=k:=by
  have:=congrArg List.length hms
  simpa [Nat.min_eq_left hk] using this
 refine tt ?_;apply bk <;> intro h1
 ·have h1p:=of_decide h1
  have w:=wsucc (k:=k) (by omega);refine tt ?_;refine ⟨h1p, ?_⟩;refine (l01Own_own B (T.getD k default) H0 H _ o).own fun id A H o hA=>?_;subst hA;refine tt ?_;refine app_own (f:=bufE) (id,T.getD k default) o.swap rfl rfl (by simp only [maxL]; omega) fun d H o=>?_;refine tw w ?_;refine for_next (d,ms++[(id,T.getD k default)]) h1p ⟨by rw [List.map_append,hms,take_succ' T h1p]; rfl, ?_⟩ rfl;refine o.perm (.cons _ ?_);simp only [inner,List.map_append,List.map_cons,List.map_nil,List.append_assoc,List.cons_append,List.nil_append];exact List.perm_middle.symm
 ·have h1p:=of_ndecide h1
  obtain rfl : k=T.length:=by omega
  rw [List.take_length] at hms;refine tt ?_;refine ⟨H,.refl H,d,ms.map bufE,inner iI ms,by simp, ?_,o⟩;rw [← hms]; exact LsR.inner ms
theorem New.go' {P : Program} {B : Nat} {fn : FuncId} {args : List AV} {O : Ob→AV→Prop} {H0 H : Heap} {l : Ob} {K : Kont} (h : New P B fn args O) (o : Owns H0 H l) (hk : ∀ r p H',O p r→Owns H0 H' (p++l)→H.sub H'→K r H') : CallH P B fn args H K :=
 (h.run H).mono fun r H' ⟨p,q1,q2⟩=>hk r p H' q1 (o.trans q2) q2.sub
def OLb (l : List Int) (p : Ob) (X : AV) : Prop:=∃ id,X=.buf id l.length∧p=[(id,.cells 1 (l.map iI) 0)]
theorem l01Own_new (B : Nat) (l : List Int) : New Tryz.prog B 84 [iL l] (OLb l) :=
 ⟨fun H=>(l01Own_own B l H H [] (.nil H)).mono fun r H' ⟨id,A,e,o,q⟩=>by
  subst e q;exact ⟨_,⟨id,rfl,rfl⟩,o⟩⟩
def OLLb (T : List (List Int)) (p : Ob) (X : AV) : Prop:=∃ d Xs ob,X=.buf d Xs.length∧LsR iI Xs T ob∧p=(d,.cells 1 Xs 0)::ob
theorem l01Own2_new (B : Nat) (T : List (List Int)) : New Tryz.prog B 183 [iLL T] (OLLb T) :=
 ⟨fun H=>(l01Own2_own B T H H [] (.nil H)).mono fun r H' ⟨d,Xs,ob,e,h,o⟩=>by
  rw [List.append_nil] at o;exact ⟨_,⟨d,Xs,ob,e,h,rfl⟩,o⟩⟩
def OCb (c : Cat) (p : Ob) (X : AV) : Prop:=∃ a b i d Xs ob,X=.agg [iI c.objs,.buf a c.frm.length,.buf b c.to.length,.buf i c.idn.length,.buf d Xs.length]∧LsR iI Xs c.comp ob ∧
 p=(a,.cells 1 (c.frm.map iI) 0)::(b,.cells 1 (c.to.map iI) 0)::(i,.cells 1 (c.idn.map iI) 0)::(d,.cells 1 Xs 0)::ob
theorem l02Own_new (B : Nat) (c : Cat) : New Tryz.prog B 144 [.agg c.cells] (OCb c):=by
 refine ⟨fun H0=>c144p.go fun _=>?_⟩;refine tt ?_;refine newRef_own (.nil _) fun id H o=>tt ?_;refine New.go' (l01Own_new B c.frm) o fun X1 p1 H ⟨a,e1,e2⟩ o hs=>⟨hs, ?_⟩;subst e1 e2;refine tt ?_;refine New.go' (l01Own_new B c.to) o fun X1 p1 H ⟨b,e1,e2⟩ o hs=>⟨hs, ?_⟩;subst e1 e2;refine tt ?_;refine New.go' (l01Own_new B c.idn) o fun X1 p1 H ⟨i,e1,e2⟩ o hs=>⟨hs, ?_⟩;subst e1 e2;refine tt ?_;refine New.go' (l01Own2_new B c.comp) o fun X1 p1 H ⟨d,Xs,ob,e1,h,e2⟩ o hs=>⟨hs, ?_⟩;subst e1 e2;refine tt ?_
 have o : Owns H0 H ((id,MObj.cells 5 [iI 0,.nilsl,.nilsl,.nilsl,.nilsl] 0)::(a,MObj.cells 1 (c.frm.map iI) 0)::(b,MObj.cells 1 (c.to.map iI) 0)::(i,MObj.cells 1 (c.idn.map iI) 0)::(d,MObj.cells 1 Xs 0)::ob):=o.pm;refine sw o fun H o=>tt ?_
 have hr:=o.rc 5 0 (by simp);simp only [List.drop_zero] at hr;rw [hr];exact ⟨H,.refl H,_,⟨a,b,i,d,Xs,ob,rfl,h,rfl⟩,o.tl⟩
end Go.Proofs.Shf
