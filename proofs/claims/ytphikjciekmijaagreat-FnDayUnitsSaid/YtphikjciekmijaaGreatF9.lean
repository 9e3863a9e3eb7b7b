/- A part of a proof. -/
import Derived.Test.YtphikjciekmijaaGreatF8
set_option linter.unusedVariables false
set_option linter.unusedSimpArgs false
set_option linter.unusedSectionVars false
set_option maxRecDepth 100000
open Nat (reduceEqDiff reduceAdd reduceMul reduceLeDiff reduceLT)
namespace Go.Proofs.Shf
open Go.AW Go.Proofs Go.Shf
theorem commutative_own (B : Nat) (T : List (List Int)) (l4 : T.length≤4) {H0 H : Heap} {l : Ob} (o : Owns H0 H l) : CallH Tryz.prog B 258 [iLL T] H (MkK H0 l fun _=>True):=by
 refine c258p.go fun _=>?_;refine tt ?_;refine nb o fun id2 H o=>?_
 have o : Owns H0 H ((id2,.cells 8 zM 0)::l):=o;refine tt ?_;refine (l35Monoid_ok B T (by omega)).go fun _=>?_
 by_cases hM : MonO T
 rotate_left
 ·rw [dec_f hM];refine tt ?_;refine st_cells o (by simp [zM]) (by (try simp only [go_sem]); (try simp)) (by first | (simp only [go_sem]; done) | ((try simp only [go_sem]); simp [AV.one,one_mL])) fun H o=>?_
  have o : Owns H0 H ((id2,.cells 8 zM 0)::l):=o;refine tt ?_;rw [o.rc 8 0 (by simp [zM])];refine tt ?_;exact mk_bad (k:=1) (by decide) (trivial) o.tl
 rw [dec_t hM]
 have hp:=hM.1
 have row : ∀ {i : Nat},i<T.length→(T.getD i default).length=T.length:=fun hi=>hM.2.1.row hi;refine tt ?_;refine awp_for [0,2] (G:=Unit) (fun i _=>[(4,some (.int .i64 (i : Int)))]) (fun i _ H=>Owns H0 H ((id2,.cells 8 zM 0)::l)) T.length () o rfl ?_;clear o
 rintro i _ H hi o;refine tt ?_;apply bk <;> intro h1
 rotate_left
 ·have h1p:=of_ndecide h1;refine tt ?_;rw [decide_eq_false (show ¬ (40 : Int)<(T.length : Int) by omega)];refine tt ?_;refine (l03Monoid_ok B T (hM.mon l4)).go fun r _ ⟨c,e,_⟩=>?_;subst e;refine tt ?_;refine (l01Own2_own B T H0 H _ o).mono ?_;clear o
  rintro r H ⟨d,Xs,ob,rfl,hR,o⟩
  have o : Owns H0 H ((id2,.cells 8 zM 0)::(d,.cells 1 Xs 0)::(ob++l)):=o.pm;refine tt ?_;refine st_cells o (by simp [zM]) (by (try simp only [go_sem]); (try simp)) (by first | (simp only [go_sem]; done) | ((try simp only [go_sem]); simp [AV.one,one_mL])) fun H o=>?_
  have o : Owns H0 H ((id2,.cells 8 (moB c 0 (iLL [[0]]) (.buf d Xs.length)) 0)::(d,.cells 1 Xs 0)::(ob++l)):=o;refine tt ?_;rw [o.rc 8 0 (by simp [moB])];refine tt ?_;exact mk_ok hR ⟨hp,by have:=row hp; simp only [List.getD_eq_getElem?_getD] at this ⊢; simp [hp] at this ⊢; omega⟩ (by simp) trivial o.tl
 have h1p:=of_decide h1
 have hiT : i<T.length:=by omega
 have w1:=wsucc (k:=i) (by omega);refine tt ?_;refine awp_for [0,2,4] (G:=Unit) (fun j _=>[(5,some (.int .i64 (j : Int)))]) (fun j _ H=>Owns H0 H ((id2,.cells 8 zM 0)::l)) i () o rfl ?_;clear o
 rintro j _ H hj o;refine tt ?_;apply bk <;> intro h2
 rotate_left
 ·have h2p:=of_ndecide h2;refine tw w1 ?_;exact for_next () hiT o rfl
 have h2p:=of_decide h2
 have hji : j<i:=by omega
 have w2:=wsucc (k:=j) (by omega);refine tt ?_;refine ⟨hiT,by rw [row hiT]; omega,by omega,by rw [row (by omega)]; exact hiT, ?_⟩
 by_cases e : (T.getD i default).getD j default=(T.getD j default).getD i default
 rotate_left
 ·rw [decide_eq_false e];refine tt ?_;refine st_cells o (by simp [zM]) (by (try simp only [go_sem]); (try simp)) (by first | (simp only [go_sem]; done) | ((try simp only [go_sem]); simp [AV.one,one_mL])) fun H o=>?_
  have o : Owns H0 H ((id2,.cells 8 zM 0)::l):=o;refine tt ?_;rw [o.rc 8 0 (by simp [zM])];refine tt ?_;exact mk_bad (k:=5) (by decide) (trivial) o.tl
 rw [decide_eq_true e];refine tw w2 ?_;exact for_next () hji o rfl
end Go.Proofs.Shf
namespace Go.Shf
open Go.AW
theorem or_at {R : List (List Int)} {f : Nat} (hf : f<(orC R).frm.length) : ∃ i j,i<R.length∧j<R.length∧relE R i j=1∧(orC R).frm.getD f default=(i : Int)∧(orC R).to.getD f default=(j : Int):=by
 have hf : f<(prI R R.length).length:=by simpa [orC,fsts] using hf
 obtain ⟨i,j,e⟩ : ∃ i j,(prI R R.length).getD f default=(i,j):=⟨_,_,rfl⟩
 have h:=mem_prI.mp (e ▸ (mem_getD.mpr ⟨f,hf,rfl⟩ : (prI R R.length).getD f default∈prI R R.length));refine ⟨i,j,h.1,h.2.1,h.2.2, ?_, ?_⟩
 ·have e1 : (fsts (prI R R.length)).getD f default=(((prI R R.length).getD f default).1 : Int):=map_getD _ hf;rw [e] at e1; exact e1
 ·have e1 : (snds (prI R R.length)).getD f default=(((prI R R.length).getD f default).2 : Int):=map_getD _ hf;rw [e] at e1; exact e1
theorem or_hom {R : List (List Int)} {i j : Nat} (hi : i<R.length) (hj : j<R.length) (h : relE R i j=1) : 0<(homC (orC R) i j).length:=by
 have hm : (i,j)∈prI R R.length:=mem_prI.mpr ⟨hi,hj,h⟩
 obtain ⟨f,hf,e⟩:=mem_getD.mp hm
 have e1 : (fsts (prI R R.length)).getD f default=(((prI R R.length).getD f default).1 : Int):=map_getD _ hf
 have e2 : (snds (prI R R.length)).getD f default=(((prI R R.length).getD f default).2 : Int):=map_getD _ hf;rw [e] at e1 e2
 have hl : f<(orC R).frm.length:=by simpa [orC,fsts] using hf
 have : (f : Int)∈homC (orC R) i j:=homC_mem.mpr ⟨⟨by omega,by simpa using hl⟩,by rw [ix_nat]; exact e1,by rw [ix_nat]; exact e2⟩;exact List.length_pos_of_mem this
def MnA (R T : List (List Int)) (a b c : Nat) : Prop:=relE R a b=1→ix (ix R (relE T a c)) (relE T b c)=1∧ix (ix R (relE T c a)) (relE T c b)=1
theorem mn_hom {R T : List (List Int)} (hR : PreO R) (hT : MonO T) (hl : R.length=T.length) (h : ∀ a,a<T.length→∀ b,b<T.length→∀ c,c<T.length→MnA R T a b c) {i j k l : Nat} (hi : i<T.length) (hj : j<T.length) (hk : k<T.length) (hl' : l<T.length)
  (e1 : relE R i j=1) (e2 : relE R k l=1) : 0<(homC (orC R) (relE T i k) (relE T j l)).length:=by
 have t1:=hT.2.1.at hi hk
 have t2:=hT.2.1.at hj hl'
 have t3:=hT.2.1.at hj hk
 obtain ⟨x,hx⟩ : ∃ x : Nat,relE T i k=x:=⟨_,(Int.toNat_of_nonneg t1.1).symm⟩
 obtain ⟨y,hy⟩ : ∃ y : Nat,relE T j l=y:=⟨_,(Int.toNat_of_nonneg t2.1).symm⟩
 obtain ⟨z,hz⟩ : ∃ z : Nat,relE T j k=z:=⟨_,(Int.toNat_of_nonneg t3.1).symm⟩
 have b1 : (x : Int)<T.length:=hx ▸ t1.2
 have b2 : (y : Int)<T.length:=hy ▸ t2.2
 have b3 : (z : Int)<T.length:=hz ▸ t3.2
 have q1:=(h i hi j hj k hk e1).1
 have q2:=(h k hk l hl' j hj e2).2;rw [hx,hz,ix_nat,ix_nat] at q1;rw [hz,hy,ix_nat,ix_nat] at q2;rw [hx,hy];exact or_hom (by omega) (by omega) ((hR.2 x (by omega)).2 z (by omega) y (by omega) q1 q2)
end Go.Shf
namespace Go.Proofs.Shf
open Go.AW Go.Proofs Go.Shf
theorem order_own (B : Nat) (R T : List (List Int)) (r4 : R.length≤4) (l4 : T.length≤4) {H0 H : Heap} {l : Ob} (o : Owns H0 H l) : CallH Tryz.prog B 259 [iLL R,iLL T] H (MkK H0 l fun _=>True):=by
 refine c259p.go fun _=>?_;refine tt ?_;refine nb o fun id4 H o=>?_
 have o : Owns H0 H ((id4,.cells 8 zM 0)::l):=o;refine tt ?_;refine (l03Preorder_ok B R (by omega)).go fun _=>?_
 by_cases hP : PreO R
 rotate_left
 ·rw [dec_f hP];refine tt ?_;refine st_cells o (by simp [zM]) (by (try simp only [go_sem]); (try simp)) (by first | (simp only [go_sem]; done) | ((try simp only [go_sem]); simp [AV.one,one_mL])) fun H o=>?_
  have o : Owns H0 H ((id4,.cells 8 zM 0)::l):=o;refine tt ?_;rw [o.rc 8 0 (by simp [zM])];refine tt ?_;exact mk_bad (k:=1) (by decide) (trivial) o.tl
 rw [dec_t hP];refine tt ?_;refine (l35Monoid_ok B T (by omega)).go fun _=>?_
 by_cases hM : MonO T
 rotate_left
 ·rw [dec_f hM];refine tt ?_;refine st_cells o (by simp [zM]) (by (try simp only [go_sem]); (try simp)) (by first | (simp only [go_sem]; done) | ((try simp only [go_sem]); simp [AV.one,one_mL])) fun H o=>?_
  have o : Owns H0 H ((id4,.cells 8 zM 0)::l):=o;refine tt ?_;rw [o.rc 8 0 (by simp [zM])];refine tt ?_;exact mk_bad (k:=1) (by decide) (trivial) o.tl
 rw [dec_t hM]
 have hp:=hM.1;refine tt ?_
 by_cases hl : R.length=T.length
 rotate_left
 ·rw [show (!decide (R.length=T.length))=true by simp [hl]];refine tt ?_;refine st_cells o (by simp [zM]) (by (try simp only [go_sem]); (try simp)) (by first | (simp only [go_sem]; done) | ((try simp only [go_sem]); simp [AV.one,one_mL])) fun H o=>?_
  have o : Owns H0 H ((id4,.cells 8 zM 0)::l):=o;refine tt ?_;rw [o.rc 8 0 (by simp [zM])];refine tt ?_;exact mk_bad (k:=1) (by decide) (trivial) o.tl
 rw [show (!decide (R.length=T.length))=false by simp [hl]]
 have rowR : ∀ {i : Nat},i<T.length→(R.getD i default).length=T.length:=fun {i} hi=>by rw [hP.1.row (by omega),hl]
 have rowT : ∀ {i : Nat},i<T.length→(T.getD i default).length=T.length:=fun hi=>hM.2.1.row hi
 have atT : ∀ {i j : Nat},i<T.length→j<T.length→0≤(T.getD i default).getD j default∧(T.getD i default).getD j default<T.length:=fun hi hj=>hM.2.1.at hi hj
 have inR : ∀ {v : Int},0≤v∧v<T.length→0≤v∧v.toNat<R.length:=fun {v} h=>⟨h.1,by have:=h.1; have:=h.2; omega⟩
 have inR2 : ∀ {v w : Int},0≤v∧v<T.length→0≤w∧w<T.length→0≤w∧w.toNat<(ix R v).length:=fun {v w} hv h=>⟨h.1,by
  have h1:=h.1; have h2:=h.2; have h3:=hv.1; have h4:=hv.2;rw [ix,rowR (by omega)]; omega⟩
 refine tt ?_;refine cut_mp (fun σ H=>σ=[(0,some (iLL R)),(1,some (iLL T)),(4,some (.ref id4 0))]∧(∀ a,a<T.length→∀ b,b<T.length→∀ c,c<T.length→MnA R T a b c)∧Owns H0 H ((id4,.cells 8 zM 0)::l)) ?_ ?_
 ·refine tt ?_;refine awp_for [0,1,4,6] (G:=Unit) (fun a _=>[(7,some (.int .i64 (a : Int)))]) (fun a _ H=>(∀ y,y<a→∀ b,b<T.length→∀ c,c<T.length→MnA R T y b c)∧Owns H0 H ((id4,.cells 8 zM 0)::l)) T.length () ⟨by simp,o⟩ rfl ?_;clear o
  rintro a _ H ha ⟨hA,o⟩
  replace hA : ∀ y,y<a→∀ b,b<T.length→∀ c,c<T.length→MnA R T y b c:=hA;refine tt ?_;apply bk <;> intro h1
  rotate_left
  ·have h1p:=of_ndecide h1
   obtain rfl : a=T.length:=by omega
   refine tt ?_;exact wkW_done ⟨rfl,hA,o⟩
  have h1p:=of_decide h1
  have haT : a<T.length:=by omega
  have w1:=wsucc (k:=a) (by omega);refine tt ?_;refine awp_for [0,1,4,6,7] (G:=Unit) (fun b _=>[(8,some (.int .i64 (b : Int)))]) (fun b _ H=>(∀ y,y<b→∀ c,c<T.length→MnA R T a y c)∧Owns H0 H ((id4,.cells 8 zM 0)::l)) T.length () ⟨by simp,o⟩ rfl ?_;clear o
  rintro b _ H hb ⟨hB,o⟩
  replace hB : ∀ y,y<b→∀ c,c<T.length→MnA R T a y c:=hB;refine tt ?_;apply bk <;> intro h2
  rotate_left
  ·have h2p:=of_ndecide h2
   obtain rfl : b=T.length:=by omega
   refine tw w1 ?_;exact for_next () haT ⟨lt_succ_all hA hB,o⟩ rfl
  have h2p:=of_decide h2
  have hbT : b<T.length:=by omega
  have w2:=wsucc (k:=b) (by omega);refine tt ?_;refine awp_for [0,1,4,6,7,8] (G:=Unit) (fun c _=>[(9,some (.int .i64 (c : Int)))]) (fun c _ H=>(∀ y,y<c→MnA R T a b y)∧Owns H0 H ((id4,.cells 8 zM 0)::l)) T.length () ⟨by simp,o⟩ rfl ?_;clear o
  rintro c _ H hc ⟨hC,o⟩
  replace hC : ∀ y,y<c→MnA R T a b y:=hC;refine tt ?_;apply bk <;> intro h3
  rotate_left
  ·have h3p:=of_ndecide h3
   obtain rfl : c=T.length:=by omega
   refine tw w2 ?_;exact for_next () hbT ⟨lt_succ_all hB hC,o⟩ rfl
  have h3p:=of_decide h3
  have hcT : c<T.length:=by omega
  have w3:=wsucc (k:=c) (by omega);refine tt ?_;refine ⟨by omega,by rw [rowR haT]; exact hbT, ?_⟩
  by_cases e0 : (R.getD a default).getD b default=1
  rotate_left
  ·rw [decide_eq_false e0];refine tw w3 ?_;exact for_next () hcT ⟨lt_succ_all hC fun h=>absurd h e0,o⟩ rfl
  rw [decide_eq_true e0];refine tt ?_;refine ⟨haT,by rw [rowT haT]; exact hcT,inR (atT haT hcT),hbT,by rw [rowT hbT]; exact hcT,inR2 (atT haT hcT) (atT hbT hcT), ?_⟩
  by_cases e1 : ix (ix R ((T.getD a default).getD c default)) ((T.getD b default).getD c default)=1
  rotate_left
  ·rw [decide_eq_false e1];refine tt ?_;refine st_cells o (by simp [zM]) (by (try simp only [go_sem]); (try simp)) (by first | (simp only [go_sem]; done) | ((try simp only [go_sem]); simp [AV.one,one_mL])) fun H o=>?_
   have o : Owns H0 H ((id4,.cells 8 zM 0)::l):=o;refine tt ?_;rw [o.rc 8 0 (by simp [zM])];refine tt ?_;exact mk_bad (k:=5) (by decide) (trivial) o.tl
  rw [decide_eq_true e1];refine tt ?_;refine ⟨hcT,by rw [rowT hcT]; exact haT,inR (atT hcT haT),hcT,by rw [rowT hcT]; exact hbT,inR2 (atT hcT haT) (atT hcT hbT), ?_⟩
  by_cases e2 : ix (ix R ((T.getD c default).getD a default)) ((T.getD c default).getD b default)=1
  rotate_left
  ·rw [decide_eq_false e2];refine tt ?_;refine st_cells o (by simp [zM]) (by (try simp only [go_sem]); (try simp)) (by first | (simp only [go_sem]; done) | ((try simp only [go_sem]); simp [AV.one,one_mL])) fun H o=>?_
   have o : Owns H0 H ((id4,.cells 8 zM 0)::l):=o;refine tt ?_;rw [o.rc 8 0 (by simp [zM])];refine tt ?_;exact mk_bad (k:=5) (by decide) (trivial) o.tl
  rw [decide_eq_true e2];refine tw w3 ?_;exact for_next () hcT ⟨lt_succ_all hC fun _=>⟨e1,e2⟩,o⟩ rfl
 clear o
 rintro σ H ⟨rfl,hMn,o⟩
 have hPo:=hP.po r4
 have hg:=orC_good hPo;refine tt ?_;refine (l03PosetX_ok B R hPo).go fun r _ e=>?_;subst e;refine tt ?_;refine newRef_own o fun id10 H o=>tt ?_;refine stc o fun H o=>?_
 have o : Owns H0 H ((id10,.cells 5 (orC R).cells 0)::(id4,.cells 8 zM 0)::l):=o;refine tt ?_;refine wk_ref 10 o rfl fun H o=>wkW_done ?_;refine tt ?_;refine (l02Fits_ok B (orC R)).go fun _=>?_
 by_cases hf : (orC R).objs≤8∧(orC R).frm.length≤40
 rotate_left
 ·rw [dec_f hf];refine tt ?_;refine st_cells o (by simp [zM]) (by (try simp only [go_sem]); (try simp)) (by first | (simp only [go_sem]; done) | ((try simp only [go_sem]); simp [AV.one,one_mL])) fun H o=>?_
  have o : Owns H0 H ((id4,.cells 8 zM 0)::l):=o;refine tt ?_;rw [o.rc 8 0 (by simp [zM])];refine tt ?_;exact mk_bad (k:=3) (by decide) (trivial) o.tl
 rw [dec_t hf]
 have hs:=good_shape hg hf.1 hf.2
 have hfl : 0<(orC R).frm.length:=by
  have h1:=or_hom (R:=R) (i:=0) (j:=0) (by omega) (by omega) (hP.2 0 (by omega)).1
  obtain ⟨f,hf⟩:=List.exists_mem_of_length_pos h1
  have:=(homC_mem.mp hf).1.2;omega
 refine tt ?_;refine newBuf_own o fun b11 H o=>?_
 have o : Owns H0 H ((b11,.cells 1 [] 0)::([]++((id4,.cells 8 zM 0)::l))):=o;refine tt ?_
 refine awp_for [1,4,10] (G:=Nat × List AV × List (List Int) × Ob) (fun f G=>[(11,some (.buf G.1 G.2.1.length)),(12,some (.int .i64 (f : Int)))])
  (fun f G H=>(LsR iI G.2.1 G.2.2.1 G.2.2.2∧G.2.2.1.length=f∧∀ i,i<f→(G.2.2.1.getD i []).length=(orC R).frm.length)∧Owns H0 H ((G.1,.cells 1 G.2.1 0)::(G.2.2.2++((id4,.cells 8 zM 0)::l)))) (orC R).frm.length (b11,[],[],[]) ⟨⟨.nil,rfl,by simp⟩,o⟩ rfl ?_
 clear o
 rintro f ⟨b11,Xs,As,ob⟩ H hf' ⟨⟨hA,hAl,hAr⟩,o⟩;dsimp only at hA hAl hAr o
 have hXl:=hA.len;refine tt ?_;apply bk <;> intro g1
 rotate_left
 ·have g1p:=of_ndecide g1
  obtain rfl : f=(orC R).frm.length:=by omega
  refine tt ?_;refine ⟨_,(l01Own2_ok B T).run, ?_⟩
  have o : Owns H0 H ((id4,.cells 8 zM 0)::(b11,.cells 1 Xs 0)::(ob++l)):=o.pm;refine tt ?_;refine st_cells o (by simp [zM]) (by (try simp only [go_sem]); (try simp)) (by first | (simp only [go_sem]; done) | ((try simp only [go_sem]); simp [AV.one,one_mL])) fun H o=>?_
  have o : Owns H0 H ((id4,.cells 8 (moB (orC R) 0 (iLL T) (.buf b11 Xs.length)) 0)::(b11,.cells 1 Xs 0)::(ob++l)):=o;refine tt ?_;rw [o.rc 8 0 (by simp [moB])];refine tt ?_;exact mk_ok hA ⟨by omega,by rw [hAr 0 hfl]; exact hfl⟩ hp trivial o.tl
 have g1p:=of_decide g1
 have hfL : f<(orC R).frm.length:=by omega
 have w1:=wsucc (k:=f) (by omega)
 obtain ⟨i,j,hi,hj,hij,ei,ej⟩:=or_at hfL
 have htl:=hs.tol;refine tt ?_;refine newBuf_own o fun b13 H o=>?_
 have o : Owns H0 H ((b13,.cells 1 (([] : List Int).map iI) 0)::(b11,.cells 1 Xs 0)::(ob++((id4,.cells 8 zM 0)::l))):=o;refine tt ?_
 refine awp_for [1,4,10,11,12] (G:=Nat × List Int) (fun g G=>[(13,some (.buf G.1 G.2.length)),(14,some (.int .i64 (g : Int)))])
  (fun g G H=>G.2.length=g∧Owns H0 H ((G.1,.cells 1 (G.2.map iI) 0)::(b11,.cells 1 Xs 0)::(ob++((id4,.cells 8 zM 0)::l)))) (orC R).frm.length (b13,[]) ⟨rfl,o⟩ rfl ?_
 clear o
 rintro g ⟨b13,row⟩ H hg' ⟨hr,o⟩;dsimp only at hr o;refine tt ?_;apply bk <;> intro g2
 rotate_left
 ·have g2p:=of_ndecide g2
  obtain rfl : g=(orC R).frm.length:=by omega
  refine tt ?_;refine app_raw (l:=(b13,.cells 1 (row.map iI) 0)::(ob++((id4,.cells 8 zM 0)::l))) (o.swap) rfl rfl rfl (by simp only [maxL]; omega) fun b12 H o=>?_
  have hA2:=hA.snoc' (p:=[(b13,.cells 1 (row.map iI) 0)]) (X:=.buf b13 row.length) (A:=row) (.inr ⟨b13,rfl,rfl⟩)
  have o : Owns H0 H ((b12,.cells 1 (Xs++[.buf b13 row.length]) 0)::((ob++[(b13,.cells 1 (row.map iI) 0)])++((id4,.cells 8 zM 0)::l))):=o.pm;refine tw w1 ?_
  exact for_next (b12,Xs++[.buf b13 row.length],As++[row],ob++[(b13,.cells 1 (row.map iI) 0)]) hfL ⟨⟨hA2,by simp [hAl],fun y hy=>by
   rcases Nat.lt_or_ge y f with h | h
   ·rw [List.getD_eq_getElem?_getD,List.getElem?_append_left (by omega),← List.getD_eq_getElem?_getD]; exact hAr y h
   ·obtain rfl : y=f:=by omega
    rw [List.getD_eq_getElem?_getD,List.getElem?_append_right (by omega),hAl]
    simpa using hr⟩,o⟩ (by simp)
 have g2p:=of_decide g2
 have hgL : g<(orC R).frm.length:=by omega
 have w2:=wsucc (k:=g) (by omega)
 obtain ⟨k,m,hk,hm,hkm,ek,em⟩:=or_at hgL
 have hh:=mn_hom hP hM hl hMn (i:=i) (j:=j) (k:=k) (l:=m) (by omega) (by omega) (by omega) (by omega) hij hkm;refine tt ?_;rw [ei,ej,ek,em]
 have hh : 0<(homC (orC R) (ix (ix T (i : Int)) (k : Int)) (ix (ix T (j : Int)) (m : Int))).length:=hh;refine ⟨hfL,⟨by omega,by simp; omega⟩,hgL,⟨by omega,by rw [ix_nat,rowT (by omega)]; simp; omega⟩,by rw [htl]; exact hfL,⟨by omega,by simp; omega⟩,by rw [htl]; exact hgL,⟨by omega,by rw [ix_nat,rowT (by omega)]; simp; omega⟩,_,(l02Hom_ok B (orC R) hs _ _).run, ?_⟩
 obtain ⟨L,hL⟩ : ∃ L,homC (orC R) (ix (ix T (i : Int)) (k : Int)) (ix (ix T (j : Int)) (m : Int))=L:=⟨_,rfl⟩;rw [hL] at hh;rw [hL];refine tt ?_;refine ⟨⟨by omega,hh⟩, ?_⟩;refine app_own (f:=iI) (L.getD 0 default) o rfl rfl (by simp only [maxL]; omega) fun b14 H o=>?_;refine tw w2 ?_;exact for_next (b14,row++[L.getD 0 default]) hgL ⟨by simp [hr],o⟩ rfl
theorem wr_app : ∀ (cs z pre : List AV),cs.length=z.length→wr (pre++z) pre.length cs=pre++cs
 | [],z,pre,h=>by
  have : z=[]:=List.eq_nil_of_length_eq_zero (by simpa using h.symm);subst this; rfl
 | v::r,[],pre,h=>by simp at h
 | v::r,a::z,pre,h=>by
  have ih:=wr_app r z (pre++[v]) (by simpa using h);rw [List.length_append,List.length_singleton,List.append_assoc,List.append_assoc] at ih
  have e : (pre++a::z).set pre.length v=pre++([v]++z):=by simp [List.set_append]
  show wr ((pre++a::z).set pre.length v) (pre.length+1) r=pre++v::r
  rw [e]; exact ih
theorem wr_all {z cs : List AV} (h : cs.length=z.length) : wr z 0 cs=cs:=wr_app cs z [] h
theorem mono01 : MonO [[0,1],[1,0]]:=by
 refine ⟨by decide,fun r hr=>?_,fun i hi=>?_⟩
 ·simp only [List.mem_cons,List.not_mem_nil,or_false] at hr
  rcases hr with rfl | rfl
  ·exact ⟨rfl,fun v hv=>by simp only [List.mem_cons,List.not_mem_nil,or_false] at hv; rcases hv with rfl | rfl <;> simp⟩
  ·exact ⟨rfl,fun v hv=>by simp only [List.mem_cons,List.not_mem_nil,or_false] at hv; rcases hv with rfl | rfl <;> simp⟩
 ·have hi : i<2:=hi;refine ⟨?_,fun j hj k hk=>?_⟩
  ·rcases (show i=0∨i=1 by omega) with rfl | rfl <;> decide
  ·have hj : j<2:=hj
   have hk : k<2:=hk
   rcases (show i=0∨i=1 by omega) with rfl | rfl <;> rcases (show j=0∨j=1 by omega) with rfl | rfl <;> rcases (show k=0∨k=1 by omega) with rfl | rfl <;> decide
theorem l35Some_ok (B : Nat) (id : Nat) (s : Src) (l : Ob) (H0 H : Heap) (hs : s.Ok) (o : Owns H0 H ((id,s.obj)::l)) :
  CallH Tryz.prog B 181 [.ref id 0] H fun r H'=>∃ (s' : Src) (p : Ob),s'.Ok∧MoX p r∧Owns H0 H' ((id,s'.obj)::(p++l)):=by
 refine c181p.go fun _=>?_;refine tt ?_;refine nb o fun id2 H o=>?_
 have o : Owns H0 H ((id2,.cells 8 zM 0)::(id,s.obj)::l):=o;refine tt ?_;refine awp_for [0,2] (G:=Src) (fun t _=>[(3,some (.int .i64 (t : Int)))]) (fun t s H=>s.Ok∧Owns H0 H ((id2,.cells 8 zM 0)::(id,s.obj)::l)) 10 s ⟨hs,o⟩ rfl ?_;clear o hs
 rintro t s H ht ⟨hs,o⟩
 replace hs : s.Ok:=hs
 replace o : Owns H0 H ((id2,.cells 8 zM 0)::(id,s.obj)::l):=o;refine tt ?_;apply bk <;> intro h1
 rotate_left
 ·refine tt ?_;refine (discrete_own B [[0,1],[1,0]] (by simp) o).mono ?_;clear o
  rintro r H ⟨cs,k,p,rfl,hc8,hc1,hk,hk0,o⟩
  obtain rfl:=hk0 mono01
  have hX:=hk rfl;refine tt ?_;refine nb o fun id19 H o=>?_
  have o : Owns H0 H ((id19,.cells 8 zM 0)::(p++((id2,.cells 8 zM 0)::(id,s.obj)::l))):=o
  have ecs : (cs.drop 0).take 8=cs:=by rw [List.drop_zero,List.take_of_length_le (by omega)]
  refine tt ?_;refine st_cells o (by simp [zM,hc8]) hc8 hc1 fun H o=>?_;rw [wr_all (z:=zM) hc8] at o;refine tt ?_;refine rd_celln o (by omega) ?_;rw [ecs];refine tt ?_;refine st_cells (show Owns H0 H ((id2,.cells 8 zM 0)::(id19,.cells 8 cs 0)::(id,s.obj)::(p++l)) from o.pm) (by simp [zM,hc8]) hc8 hc1 fun H o=>?_;rw [wr_all (z:=zM) hc8] at o;refine tt ?_;rw [o.rc 8 0 (by omega),ecs];refine tt ?_;exact ⟨H,.refl H,s,p,hs,hX,o.tl.tl⟩
 have h1p:=of_decide h1
 have w1:=wsucc (k:=t) (by omega);refine tt ?_;refine nb o fun id4 H o=>?_
 have o : Owns H0 H ((id4,.cells 8 zM 0)::(id2,.cells 8 zM 0)::(id,s.obj)::l):=o;refine tt ?_;refine st_cells o (by simp [zM]) (by (try simp only [go_sem]); (try simp)) (by first | (simp only [go_sem]; done) | ((try simp only [go_sem]); simp [AV.one,one_mL])) fun H o=>?_
 have o : Owns H0 H ((id4,.cells 8 zM 0)::(id2,.cells 8 zM 0)::(id,s.obj)::l):=o;refine tt ?_
 refine cut_mp (fun σ H=>∃ (s : Src) (cs : List AV) (k : Int) (p : Ob),σ=[(0,some (.ref id 0)),(2,some (.ref id2 0)),(3,some (.int .i64 (t : Int))),(4,some (.ref id4 0)),(5,some (iI k))]∧s.Ok∧cs.length=8∧(∀ c,c∈cs→c.one=true)∧(k=0→MoX p (.agg cs)) ∧
  Owns H0 H ((id4,.cells 8 cs 0)::(id2,.cells 8 zM 0)::(id,s.obj)::(p++l))) ?_ ?_
 rotate_left
 ·clear o hs
  rintro σ H ⟨s,cs,k,p,rfl,hs,hc8,hc1,hk,o⟩
  have ecs : (cs.drop 0).take 8=cs:=by rw [List.drop_zero,List.take_of_length_le (by omega)]
  refine tt ?_
  by_cases k0 : k=0
  ·rw [decide_eq_true k0];refine tt ?_;refine rd_celln o (by omega) ?_;rw [ecs];refine tt ?_;refine st_cells o.swap (by simp [zM,hc8]) hc8 hc1 fun H o=>?_;rw [wr_all (z:=zM) hc8] at o;refine tt ?_;rw [o.rc 8 0 (by omega),ecs];refine tt ?_;exact ⟨H,.refl H,s,p,hs,hk k0,o.tl.tl⟩
  ·rw [decide_eq_false k0];refine tw w1 ?_;exact for_next s (by omega) ⟨hs,o.subl (.cons _ (.cons_cons _ (.cons_cons _ (List.sublist_append_right _ _))))⟩ rfl
 have o : Owns H0 H ((id,s.obj)::(id4,.cells 8 zM 0)::(id2,.cells 8 zM 0)::l):=o.pm;refine tt ?_;refine (l01Next_ok B 4).go hs o fun r s H _ ⟨v,e,_⟩ hs o=>?_;subst e;refine tt ?_
 by_cases v0 : v=0
 ·rw [decide_eq_true v0];refine tt ?_;refine (l02Monoid_ok B).go hs o fun r s H _ ⟨T,e,hT⟩ hs o=>?_;subst e;refine tt ?_;refine (discrete_own B T hT.l4 o).mono ?_;clear o
  rintro r H ⟨cs,k,p,rfl,hc8,hc1,hk,_,o⟩;refine tt ?_;refine st_cells (show Owns H0 H ((id4,.cells 8 zM 0)::(id2,.cells 8 zM 0)::(id,s.obj)::(p++l)) from o.pm) (by simp [zM,hc8]) hc8 hc1 fun H o=>?_;rw [wr_all (z:=zM) hc8] at o;refine tt ?_;exact wkW_done ⟨s,cs,k,p,rfl,hs,hc8,hc1,hk,o⟩
 rw [decide_eq_false v0];refine tt ?_
 by_cases v1 : v=1
 ·rw [decide_eq_true v1];refine tt ?_;refine (l02Monoid_ok B).go hs o fun r s H _ ⟨T,e,hT⟩ hs o=>?_;subst e;refine tt ?_;refine (commutative_own B T hT.l4 o).mono ?_;clear o
  rintro r H ⟨cs,k,p,rfl,hc8,hc1,hk,_,o⟩;refine tt ?_;refine st_cells (show Owns H0 H ((id4,.cells 8 zM 0)::(id2,.cells 8 zM 0)::(id,s.obj)::(p++l)) from o.pm) (by simp [zM,hc8]) hc8 hc1 fun H o=>?_;rw [wr_all (z:=zM) hc8] at o;refine tt ?_;exact wkW_done ⟨s,cs,k,p,rfl,hs,hc8,hc1,hk,o⟩
 rw [decide_eq_false v1];refine tt ?_
 by_cases v2 : v=2
 rotate_left
 ·rw [decide_eq_false v2];refine tt ?_;refine (l02Monoid_ok B).go hs o fun r s H _ ⟨T,e,hT⟩ hs o=>?_;subst e;refine tt ?_;refine (l02Relation_ok B T.length hT.l4).go hs o fun r s H _ ⟨R,e,hR⟩ hs o=>?_;subst e;refine tt ?_;refine (order_own B R T hR.l4 hT.l4 o).mono ?_;clear o
  rintro r H ⟨cs,k,p,rfl,hc8,hc1,hk,_,o⟩;refine tt ?_;refine st_cells (show Owns H0 H ((id4,.cells 8 zM 0)::(id2,.cells 8 zM 0)::(id,s.obj)::(p++l)) from o.pm) (by simp [zM,hc8]) hc8 hc1 fun H o=>?_;rw [wr_all (z:=zM) hc8] at o;refine tt ?_;exact wkW_done ⟨s,cs,k,p,rfl,hs,hc8,hc1,hk,o⟩
 rw [decide_eq_true v2];refine tt ?_;refine (l01Next_ok B 2).go hs o fun r s H _ ⟨u,e,u0,u1,_⟩ hs o=>?_;subst e
 have u2 : 0≤u∧u<2:=⟨u0,u1 (by omega)⟩
 obtain ⟨n,hn⟩ : ∃ n : Nat,2+u=n:=⟨(2+u).toNat,by omega⟩
 have wn : IntKind.i64.wrap (2+u)=(n : Int):=by rw [wrap_i64 (by omega) (by omega)]; exact hn
 have n3 : n≤3:=by omega
 have n2 : 2≤n:=by omega
 refine tw wn ?_;refine newBuf_own o fun b7 H o=>tt ?_;refine newBuf_own o fun b8 H o=>?_
 have o : Owns H0 H ((b7,.cells 1 [] 0)::(b8,.cells 1 (([] : List (List Int)).map iL) 0)::([]++((id,s.obj)::(id4,.cells 8 zM 0)::(id2,.cells 8 zM 0)::l))):=o.swap;refine tt ?_
 refine awp_for [0,2,3,4,6] (G:=(Nat × List AV × List (List Int) × Ob) × Nat × List (List Int)) (fun i G=>[(7,some (.buf G.1.1 G.1.2.1.length)),(8,some (.buf G.2.1 G.2.2.length)),(9,some (.int .i64 (i : Int)))])
  (fun i G H=>((LsR iI G.1.2.1 G.1.2.2.1 G.1.2.2.2∧G.1.2.2.1.length=i∧∀ y,y<i→(G.1.2.2.1.getD y []).length=n)∧G.2.2.length=i)∧Owns H0 H ((G.1.1,.cells 1 G.1.2.1 0)::(G.2.1,.cells 1 (G.2.2.map iL) 0)::(G.1.2.2.2++((id,s.obj)::(id4,.cells 8 zM 0)::(id2,.cells 8 zM 0)::l)))) n ((b7,[],[],[]),b8,[]) ⟨⟨⟨.nil,rfl,by simp⟩,rfl⟩,o⟩ rfl ?_
 clear o
 rintro i ⟨⟨b7,Xs,As,ob⟩,b8,Tt⟩ H hi ⟨⟨⟨hA,hAl,hAr⟩,hTl⟩,o⟩;dsimp only at hA hAl hAr hTl o
 have hXl:=hA.len;refine tt ?_;apply bk <;> intro g1
 rotate_left
 ·have g1p:=of_ndecide g1
  have ein : i=n:=by omega
  have hXn : Xs.length=n:=by omega
  refine tt ?_
  refine cut_mp (fun σ H=>∃ (s : Src) (As : List (List Int)) (ob : Ob),σ=[(0,some (.ref id 0)),(2,some (.ref id2 0)),(3,some (.int .i64 (t : Int))),(4,some (.ref id4 0)),(7,some (.buf b7 Xs.length)),(8,some (.buf b8 Tt.length))]∧s.Ok∧LsR iI Xs As ob ∧
   Owns H0 H ((b7,.cells 1 Xs 0)::(ob++((b8,.cells 1 (Tt.map iL) 0)::((id,s.obj)::(id4,.cells 8 zM 0)::(id2,.cells 8 zM 0)::l))))) ?_ ?_
  rotate_left
  ·clear o hs hA hAl hAr
   rintro σ H ⟨s,As,ob,rfl,hs,hA,o⟩
   have hXl:=hA.len;refine tt ?_;refine wk_rows hA [] H o fun H o=>wkW_done ?_;rw [List.nil_append] at o;refine tt ?_;refine fz_own (f:=iL) o hXl fun H o=>?_;refine fz_own (f:=iL) o rfl fun H o=>tt ?_;refine (order_own B As Tt (by omega) (by omega) o).mono ?_;clear o
   rintro r H ⟨cs,k,p,rfl,hc8,hc1,hk,_,o⟩;refine tt ?_;refine st_cells (show Owns H0 H ((id4,.cells 8 zM 0)::(id2,.cells 8 zM 0)::(id,s.obj)::(p++l)) from o.pm) (by simp [zM,hc8]) hc8 hc1 fun H o=>?_;rw [wr_all (z:=zM) hc8] at o;refine tt ?_;exact wkW_done ⟨s,cs,k,p,rfl,hs,hc8,hc1,hk,o⟩
  have o : Owns H0 H ((id,s.obj)::(b7,.cells 1 Xs 0)::(b8,.cells 1 (Tt.map iL) 0)::(ob++[(id4,.cells 8 zM 0),(id2,.cells 8 zM 0)]++l)):=o.pm;refine tt ?_;refine (l01Next_ok B 2).go hs o fun r s H _ ⟨u',e,_⟩ hs o=>?_;subst e
  have o : Owns H0 H ((b7,.cells 1 Xs 0)::(ob++((b8,.cells 1 (Tt.map iL) 0)::((id,s.obj)::(id4,.cells 8 zM 0)::(id2,.cells 8 zM 0)::l)))):=o.pm
  have hnr : ∀ y,y<n→(As.getD y []).length=n:=fun y hy=>hAr y (by omega);refine tt ?_;apply bk <;> intro q0
  rotate_left
  ·refine tt ?_;exact wkW_done ⟨s,As,ob,rfl,hs,hA,o⟩
  refine tt ?_
  refine awp_for [0,2,3,4,7,8] (G:=List (List Int) × Ob) (fun a _=>[(14,some (.int .i64 (a : Int)))])
   (fun a G H=>(LsR iI Xs G.1 G.2∧∀ y,y<n→(G.1.getD y []).length=n)∧Owns H0 H ((b7,.cells 1 Xs 0)::(G.2++((b8,.cells 1 (Tt.map iL) 0)::((id,s.obj)::(id4,.cells 8 zM 0)::(id2,.cells 8 zM 0)::l))))) Xs.length (As,ob) ⟨⟨hA,hnr⟩,o⟩ rfl ?_
  clear o hA hAl hAr hnr hXl
  rintro a ⟨As,ob⟩ H ha ⟨⟨hA,hAr⟩,o⟩;dsimp only at hA hAr o;refine tt ?_;apply bk <;> intro q1
  rotate_left
  ·refine tt ?_;exact wkW_done ⟨s,As,ob,rfl,hs,hA,o⟩
  have q1p:=of_decide q1
  have haX : a<Xs.length:=by omega
  have w4:=wsucc (k:=a) (by omega);refine tt ?_
  refine awp_for [0,2,3,4,7,8,14] (G:=List (List Int) × Ob) (fun b _=>[(15,some (.int .i64 (b : Int)))])
   (fun b G H=>(LsR iI Xs G.1 G.2∧∀ y,y<n→(G.1.getD y []).length=n)∧Owns H0 H ((b7,.cells 1 Xs 0)::(G.2++((b8,.cells 1 (Tt.map iL) 0)::((id,s.obj)::(id4,.cells 8 zM 0)::(id2,.cells 8 zM 0)::l))))) a (As,ob) ⟨⟨hA,hAr⟩,o⟩ rfl ?_
  clear o hA hAr
  rintro b ⟨As,ob⟩ H hb ⟨⟨hA,hAr⟩,o⟩;dsimp only at hA hAr o;refine tt ?_;apply bk <;> intro q2
  rotate_left
  ·have q2p:=of_ndecide q2;refine tw w4 ?_;exact for_next (As,ob) haX ⟨⟨hA,hAr⟩,o⟩ rfl
  have q2p:=of_decide q2
  have hba : b<a:=by omega
  have w5:=wsucc (k:=b) (by omega)
  have ra:=hAr a (by omega)
  have rb:=hAr b (by omega)
  obtain ⟨ida,ea,ga⟩:=hA.rdrow (i:=a) haX (by omega)
  obtain ⟨idb,eb,gb⟩:=hA.rdrow (i:=b) (by omega) (by omega)
  obtain ⟨ida2,ea2,sa⟩:=hA.row (i:=a) haX (by omega)
  obtain rfl : ida=ida2:=by rw [ea] at ea2; injection ea2
  have gL:=o.h0
  have gA:=ga o (fun x hx=>by simp [hx])
  have gB:=gb o (fun x hx=>by simp [hx]);rw [ra] at ea;rw [rb] at eb;refine tt ?_;refine ⟨haX,rd_get gL haX ?_⟩;rw [ea];refine tt ?_;refine ⟨by omega,rd_get gA (by rw [List.length_map,ra]; omega) ?_⟩;rw [map_getD _ (by rw [ra]; omega)];refine tt ?_;refine ⟨haX,rd_get gL haX ?_⟩;rw [ea];refine tt ?_;refine ⟨by omega,rd_get gL (by omega) ?_⟩;rw [eb];refine tt ?_;refine ⟨by omega,rd_get gB (by rw [List.length_map,rb]; omega) ?_⟩;rw [map_getD _ (by rw [rb]; omega)];refine tt ?_
  have set_row : ∀ {M : List (List Int)} {x y : Nat} {v : Int},(∀ z,z<n→(M.getD z []).length=n)→x<n→∀ z,z<n→((M.set x ((M.getD x []).set y v)).getD z []).length=n:=fun {M x y v} h hx z hz=>by
   rw [List.getD_eq_getElem?_getD,List.getElem?_set]
   by_cases e : x=z
   ·subst e;rw [if_pos rfl]
    split
    ·simp only [Option.getD_some,List.length_set]; exact h x hx
    ·rename_i hh
     have:=h x hx;rw [List.getD_eq_getElem?_getD,List.getElem?_eq_none (by omega)] at this;exact this
   ·rw [if_neg e,← List.getD_eq_getElem?_getD]; exact h z hz
  refine ⟨by omega,sa o b (by omega) ((As.getD b []).getD a default) rfl fun H ob2 hA2 o=>?_⟩
  have hAr2:=set_row (y:=b) (v:=(As.getD b []).getD a default) hAr (show a<n by omega);clear gL gA gB ga gb sa
  generalize As.set a ((As.getD a []).set b ((As.getD b []).getD a default))=A2 at hA2 hAr2
  have rb2:=hAr2 b (by omega)
  obtain ⟨idb2,eb2,sb⟩:=hA2.row (i:=b) (by omega) (by omega)
  obtain rfl : idb=idb2:=by rw [eb] at eb2; injection eb2
  have gL:=o.h0;refine tt ?_;refine ⟨by omega,rd_get gL (by omega) ?_⟩;rw [eb];refine tt ?_;refine ⟨by omega,sb o a (by omega) ((As.getD a []).getD b default) rfl fun H ob3 hA3 o=>?_⟩
  have hAr3:=set_row (y:=a) (v:=(As.getD a []).getD b default) hAr2 (show b<n by omega);refine tw w5 ?_;exact for_next (_,ob3) hba ⟨⟨hA3,hAr3⟩,o⟩ rfl
 have g1p:=of_decide g1
 have hin : i<n:=by omega
 have w2:=wsucc (k:=i) (by omega);refine tt ?_;refine newBuf_own o fun b10 H o=>tt ?_;refine newBuf_own o fun b11 H o=>?_
 have o : Owns H0 H ((b10,.cells 1 (([] : List Int).map iI) 0)::(b11,.cells 1 (([] : List Int).map iI) 0)::(b7,.cells 1 Xs 0)::(b8,.cells 1 (Tt.map iL) 0)::(ob++((id,s.obj)::(id4,.cells 8 zM 0)::(id2,.cells 8 zM 0)::l))):=o.swap;refine tt ?_
 refine awp_for [0,2,3,4,6,7,8,9] (G:=Nat × List Int × Nat × List Int) (fun j G=>[(10,some (.buf G.1 G.2.1.length)),(11,some (.buf G.2.2.1 G.2.2.2.length)),(12,some (.int .i64 (j : Int)))])
  (fun j G H=>(G.2.1.length=j∧G.2.2.2.length=j)∧Owns H0 H ((G.1,.cells 1 (G.2.1.map iI) 0)::(G.2.2.1,.cells 1 (G.2.2.2.map iI) 0)::(b7,.cells 1 Xs 0)::(b8,.cells 1 (Tt.map iL) 0)::(ob++((id,s.obj)::(id4,.cells 8 zM 0)::(id2,.cells 8 zM 0)::l)))) n (b10,[],b11,[]) ⟨⟨rfl,rfl⟩,o⟩ rfl ?_
 clear o
 rintro j ⟨b10,L1,b11,L2⟩ H hj ⟨⟨hL1,hL2⟩,o⟩;dsimp only at hL1 hL2 o;refine tt ?_;apply bk <;> intro g2
 ·have g2p:=of_decide g2
  have hjn : j<n:=by omega
  have w3:=wsucc (k:=j) (by omega);refine tt ?_;apply bk <;> intro g3
  ·refine tt ?_;refine app_own (f:=iI) (1) o rfl rfl (by simp only [maxL]; omega) fun b10 H o=>?_
   have o : Owns H0 H ((b11,.cells 1 (L2.map iI) 0)::(b10,.cells 1 ((L1++[(1 : Int)]).map iI) 0)::(b7,.cells 1 Xs 0)::(b8,.cells 1 (Tt.map iL) 0)::(ob++((id,s.obj)::(id4,.cells 8 zM 0)::(id2,.cells 8 zM 0)::l))):=o.swap;refine tt ?_;refine app_own (f:=iI) (if (j : Int) > (i : Int) then (j : Int) else (i : Int)) o rfl rfl (by simp only [maxL]; omega) fun b11 H o=>?_
   have o : Owns H0 H ((b10,.cells 1 ((L1++[(1 : Int)]).map iI) 0)::(b11,.cells 1 ((L2++[if (j : Int) > (i : Int) then (j : Int) else (i : Int)]).map iI) 0)::(b7,.cells 1 Xs 0)::(b8,.cells 1 (Tt.map iL) 0)::(ob++((id,s.obj)::(id4,.cells 8 zM 0)::(id2,.cells 8 zM 0)::l))):=o.swap
   refine tw w3 ?_;exact for_next (b10,L1++[(1 : Int)],b11,L2++[if (j : Int) > (i : Int) then (j : Int) else (i : Int)]) (by omega) ⟨⟨by simp [hL1],by simp [hL2]⟩,o⟩ rfl
  ·refine tt ?_;refine app_own (f:=iI) (0) o rfl rfl (by simp only [maxL]; omega) fun b10 H o=>?_
   have o : Owns H0 H ((b11,.cells 1 (L2.map iI) 0)::(b10,.cells 1 ((L1++[(0 : Int)]).map iI) 0)::(b7,.cells 1 Xs 0)::(b8,.cells 1 (Tt.map iL) 0)::(ob++((id,s.obj)::(id4,.cells 8 zM 0)::(id2,.cells 8 zM 0)::l))):=o.swap;refine tt ?_;refine app_own (f:=iI) (if (j : Int) > (i : Int) then (j : Int) else (i : Int)) o rfl rfl (by simp only [maxL]; omega) fun b11 H o=>?_
   have o : Owns H0 H ((b10,.cells 1 ((L1++[(0 : Int)]).map iI) 0)::(b11,.cells 1 ((L2++[if (j : Int) > (i : Int) then (j : Int) else (i : Int)]).map iI) 0)::(b7,.cells 1 Xs 0)::(b8,.cells 1 (Tt.map iL) 0)::(ob++((id,s.obj)::(id4,.cells 8 zM 0)::(id2,.cells 8 zM 0)::l))):=o.swap
   refine tw w3 ?_;exact for_next (b10,L1++[(0 : Int)],b11,L2++[if (j : Int) > (i : Int) then (j : Int) else (i : Int)]) (by omega) ⟨⟨by simp [hL1],by simp [hL2]⟩,o⟩ rfl
 have g2p:=of_ndecide g2
 obtain rfl : j=n:=by omega
 refine tt ?_;refine app_raw (l:=(b10,.cells 1 (L1.map iI) 0)::(b11,.cells 1 (L2.map iI) 0)::(b8,.cells 1 (Tt.map iL) 0)::(ob++((id,s.obj)::(id4,.cells 8 zM 0)::(id2,.cells 8 zM 0)::l))) (o.pull [_,_]) rfl rfl rfl (by simp only [maxL]; omega) fun b7 H o=>?_
 have hA2:=hA.snoc' (p:=[(b10,.cells 1 (L1.map iI) 0)]) (X:=.buf b10 L1.length) (A:=L1) (.inr ⟨b10,rfl,rfl⟩)
 have o : Owns H0 H ((b11,.cells 1 (L2.map iI) 0)::(b7,.cells 1 (Xs++[.buf b10 L1.length]) 0)::(b8,.cells 1 (Tt.map iL) 0)::((ob++[(b10,.cells 1 (L1.map iI) 0)])++((id,s.obj)::(id4,.cells 8 zM 0)::(id2,.cells 8 zM 0)::l))):=o.pm;refine tt ?_;refine fz_own (f:=iI) o rfl fun H o=>tt ?_;refine app_own (f:=iL) L2 o.swap rfl rfl (by simp only [maxL]; omega) fun b8 H o=>?_;refine tw w2 ?_
 exact for_next ((b7,Xs++[.buf b10 L1.length],As++[L1],ob++[(b10,.cells 1 (L1.map iI) 0)]),b8,Tt++[L2]) hin ⟨⟨⟨hA2,by simp [hAl],fun y hy=>by
  rcases Nat.lt_or_ge y i with h | h
  ·rw [List.getD_eq_getElem?_getD,List.getElem?_append_left (by omega),← List.getD_eq_getElem?_getD]; exact hAr y h
  ·obtain rfl : y=i:=by omega
   rw [List.getD_eq_getElem?_getD,List.getElem?_append_right (by omega),hAl]
   simpa using hL1⟩,by simp [hTl]⟩,o.swap⟩ (by simp)
def IdnAt (m : Mo) (x y : Int) : Prop:=m.a (ix m.on.idn x) (ix m.on.idn y)=ix m.on.idn (m.o x y)
def IdnR (m : Mo) : Prop:=∀ x : Nat,x<m.on.objs.toNat→∀ y : Nat,y<m.on.objs.toNat→IdnAt m x y
def IntAt (m : Mo) (f h g k : Int) : Prop:=0≤m.c g k→m.a (m.c f h) (m.c g k)=m.c (m.a f g) (m.a h k)
def IntF (m : Mo) (f h : Int) : Prop:=0≤m.c f h→∀ g : Nat,g<m.on.frm.length→∀ k : Nat,k<m.on.frm.length→IntAt m f h g k
def IntR (m : Mo) : Prop:=∀ f : Nat,f<m.on.frm.length→∀ h : Nat,h<m.on.frm.length→IntF m f h
theorem mo_c0 {m : Mo} (p : m.Pre) {f h : Int} (hf : m.on.ArR f) (hh : m.on.ArR h) : 0≤m.c f h↔ix m.on.to f=ix m.on.frm h:=by
 constructor
 ·intro c
  rcases p.on.1.comps hf hh with q | q
  ·exact q.1
  ·have : m.c f h=-1:=q;omega
 ·intro e; exact (p.cE hf hh e).1.1
theorem mo_is {m : Mo} : m.Is↔m.Pre∧(EndsR m∧Whole m.ob m.unit∧Whole m.ar (ix m.on.idn m.unit))∧IdnR m∧IntR m:=by
 have nat : ∀ {a : Int},m.on.ArR a→∃ n : Nat,a=n∧n<m.on.frm.length:=fun {a} h=>⟨a.toNat,(Int.toNat_of_nonneg h.1).symm,h.2⟩
 have ar : ∀ {n : Nat},n<m.on.frm.length→m.on.ArR (n : Int):=fun {n} h=>⟨by omega,by simpa using h⟩
 constructor
 ·intro h;refine ⟨h.toPre,⟨fun f hf g hg=>h.ends f g (ar hf) (ar hg),h.wo,h.wa⟩,fun x hx y hy=>h.idn x y ⟨by omega,by omega⟩ ⟨by omega,by omega⟩,fun f hf k hk c g hg l hl c2=>?_⟩;exact h.inter f k g l (ar hf) (ar hk) (ar hg) (ar hl) ((mo_c0 h.toPre (ar hf) (ar hk)).mp c) ((mo_c0 h.toPre (ar hg) (ar hl)).mp c2)
 ·rintro ⟨p,⟨he,wo,wa⟩,hi,hn⟩;refine ⟨p,fun f g hf hg=>?_,wo,wa,fun x y hx hy=>?_,fun f h g k hf hh hg hk e1 e2=>?_⟩
  ·obtain ⟨f,rfl,hf'⟩:=nat hf
   obtain ⟨g,rfl,hg'⟩:=nat hg;exact he f hf' g hg'
  ·have:=hi x.toNat (by have:=hx.1; have:=hx.2; omega) y.toNat (by have:=hy.1; have:=hy.2; omega);rw [Int.toNat_of_nonneg hx.1,Int.toNat_of_nonneg hy.1] at this;exact this
  ·have c1:=(mo_c0 p hf hh).mpr e1
   have c2:=(mo_c0 p hg hk).mpr e2
   obtain ⟨f,rfl,hf'⟩:=nat hf
   obtain ⟨g,rfl,hg'⟩:=nat hg
   obtain ⟨h,rfl,hh'⟩:=nat hh
   obtain ⟨k,rfl,hk'⟩:=nat hk;exact hn f hf' h hh' c1 g hg' k hk' c2
theorem mo_pre {m : Mo} : m.Pre↔m.on.Is∧(0≤m.unit∧m.unit<m.on.objs)∧((m.ob.length : Int)=m.on.objs∧SqB m.ob m.on.objs)∧(m.ar.length=m.on.frm.length∧SqB m.ar m.on.frm.length):=by
 constructor
 ·intro p
  have ho:=p.on.1.o
  have h1:=tabN_iff.mp p.ot;refine ⟨p.on,p.un,⟨by omega, ?_⟩,tabN_iff.mp p.at'⟩
  have:=h1.2
  rwa [Int.toNat_of_nonneg ho.1] at this
 ·rintro ⟨h,u,⟨a,b⟩,c⟩
  have ho:=h.1.o;exact ⟨h,u,tabN_iff.mpr ⟨by omega,by rw [Int.toNat_of_nonneg ho.1]; exact b⟩,tabN_iff.mpr c⟩
theorem l35Is_ok (B : Nat) (m : Mo) : Pur Tryz.prog B 92 [.agg m.cells] (.bool (dec m.Is)):=by
 refine ⟨fun H0=>c92p.go fun hf=>?_⟩
 have o : Owns H0 H0 []:=.nil _;refine tt ?_;refine newRef_own o fun id3 H o=>tt ?_;refine sw o fun H o=>?_
 have o : Owns H0 H [(id3,.cells 5 m.on.cells 0)]:=o;refine tt ?_;refine wk_ref 3 o rfl fun H o=>wkW_done ?_;refine tt ?_
 have np : ¬ m.Pre→¬ m.Is:=fun h q=>h q.toPre;refine (l02Is_ok B m.on).run.use ?_
 by_cases g1 : m.on.Is
 rotate_left
 ·rw [dec_f g1];refine tt ?_;exact pure_ret (by rw [dec_f (np fun p=>g1 p.on)]) o.sub
 rw [dec_t g1];refine tt ?_;refine (l02Object_ok B m.on m.unit).run.use ?_
 by_cases g2 : 0≤m.unit∧m.unit<m.on.objs
 rotate_left
 ·rw [dec_f g2];refine tt ?_;exact pure_ret (by rw [dec_f (np fun p=>g2 p.un)]) o.sub
 rw [dec_t g2];refine tt ?_;refine (l35Table_ok B m.ob m.on.objs m.on.objs).run.use ?_
 by_cases g3 : (m.ob.length : Int)=m.on.objs∧SqB m.ob m.on.objs
 rotate_left
 ·rw [dec_f g3];refine tt ?_;exact pure_ret (by rw [dec_f (np fun p=>g3 (mo_pre.mp p).2.2.1)]) o.sub
 rw [dec_t g3];refine tt ?_;refine (l35Table_ok B m.ar m.on.frm.length m.on.frm.length).run.use ?_
 by_cases g4 : (m.ar.length : Int)=(m.on.frm.length : Int)∧SqB m.ar m.on.frm.length
 rotate_left
 ·rw [dec_f g4];refine tt ?_;exact pure_ret (by rw [dec_f (np fun p=>g4 (by have:=(mo_pre.mp p).2.2.2; exact ⟨by omega,this.2⟩))]) o.sub
 rw [dec_t g4]
 have p : m.Pre:=mo_pre.mpr ⟨g1,g2,g3,by have:=g4.1; omega,g4.2⟩
 have hm:=g1.1.m
 have ho:=g1.1.o
 have iu:=p.idE p.un
 have hol:=p.ot.1
 have hal:=p.at'.1;refine tt ?_;refine ⟨_,(l35Ends_ok B p).run, ?_⟩
 by_cases g5 : EndsR m
 rotate_left
 ·rw [dec_f g5];refine tt ?_;exact pure_ret (by rw [dec_f fun q=>g5 (mo_is.mp q).2.1.1]) o.sub
 rw [dec_t g5];refine tt ?_
 have uo : m.unit.toNat<m.ob.length:=by rw [hol]; have:=p.un.1; have:=p.un.2; omega
 refine ⟨_,(l35Whole_ok B p.ot ⟨p.un.1,uo⟩ (by omega)).run, ?_⟩
 by_cases g6 : Whole m.ob m.unit
 rotate_left
 ·rw [dec_f g6];refine tt ?_;exact pure_ret (by rw [dec_f fun q=>g6 q.wo]) o.sub
 rw [dec_t g6];refine tt ?_;refine ⟨g1.1.idI p.un,_,(l35Whole_ok B p.at' ⟨iu.1.1,by rw [hal]; exact iu.1.2⟩ (by omega)).run, ?_⟩
 by_cases g7 : Whole m.ar (ix m.on.idn m.unit)
 rotate_left
 ·rw [dec_f g7];refine tt ?_;exact pure_ret (by rw [dec_f fun q=>g7 q.wa]) o.sub
 rw [dec_t g7];refine tt ?_;refine awp_for [1,3] (G:=Unit) (fun k _=>[(4,some (.int .i64 (k : Int)))]) (fun k _ H'=>H'=H∧∀ x : Nat,x<k→∀ y : Nat,y<m.on.objs.toNat→IdnAt m x y) m.on.objs.toNat () ⟨rfl,by simp⟩ rfl ?_
 rintro k _ H' hk ⟨rfl,hall⟩;refine tt ?_;apply bk <;> intro h1
 ·have h1p:=of_decide h1
  have w1:=wsucc (k:=k) (by omega)
  have hkx : m.on.ObR k:=⟨by omega,h1p⟩;refine tt ?_;refine awp_for [1,3,4] (G:=Unit) (fun j _=>[(5,some (.int .i64 (j : Int)))]) (fun j _ H=>H=H'∧∀ y : Nat,y<j→IdnAt m k y) m.on.objs.toNat () ⟨rfl,by simp⟩ rfl ?_
  rintro j _ H hj ⟨rfl,hJ⟩;refine tt ?_;apply bk <;> intro h2
  rotate_left
  ·have h2p:=of_ndecide h2;refine tw w1 ?_;exact for_next () (by omega) ⟨rfl,lt_succ_all hall fun g hg=>hJ g (by omega)⟩ rfl
  have h2p:=of_decide h2
  have w2:=wsucc (k:=j) (by omega)
  have hjy : m.on.ObR j:=⟨by omega,h2p⟩
  have ik:=p.idE hkx
  have ij:=p.idE hjy
  have a1:=mo_aI p ik.1 ij.1
  have b1:=mo_oI p hkx hjy
  have b2:=p.oO hkx hjy
  have ki:=g1.1.idI hkx
  have ji:=g1.1.idI hjy
  have bi:=g1.1.idI b2
  have hn : ¬ IdnAt m k j→¬ m.Is:=fun hc q=>hc ((mo_is.mp q).2.2.1 k (by omega) j (by omega))
  have ed : IdnAt m k j=(ix (ix m.ar (m.on.idn.getD k default)) (m.on.idn.getD j default)=ix m.on.idn ((m.ob.getD k default).getD j default)):=by simp only [IdnAt,Mo.a,Mo.o,ix_nat]
  refine tt ?_;refine ⟨ki.2,⟨ik.1.1,a1.1.2⟩,ji.2,⟨ij.1.1,a1.2.2⟩,b1.1.2,b1.2.2,⟨b2.1,bi.2⟩, ?_⟩
  by_cases e1 : ix (ix m.ar (m.on.idn.getD k default)) (m.on.idn.getD j default)=ix m.on.idn ((m.ob.getD k default).getD j default)
  ·rw [decide_eq_true e1];refine tw w2 ?_;exact for_next () (by omega) ⟨rfl,lt_succ_all hJ (Eq.mpr ed e1)⟩ rfl
  ·rw [decide_eq_false e1];refine tt ?_;exact pure_ret (by rw [dec_f (hn fun q=>e1 (Eq.mp ed q))]) o.sub
 have h1p:=of_ndecide h1
 have g8 : IdnR m:=fun x hx y hy=>hall x (by omega) y hy;clear h1 hall h1p hk;refine tt ?_
 have aR : ∀ {n : Nat},n<m.on.frm.length→m.on.ArR (n : Int):=fun {n} h=>⟨by omega,by simpa using h⟩;refine awp_for [1,3] (G:=Unit) (fun f _=>[(6,some (.int .i64 (f : Int)))]) (fun f _ H=>H=H'∧∀ i : Nat,i<f→∀ h : Nat,h<m.on.frm.length→IntF m i h) m.on.frm.length () ⟨rfl,by simp⟩ rfl ?_
 rintro f _ H hf ⟨rfl,hF⟩;refine tt ?_;apply bk <;> intro h1
 rotate_left
 ·have h1p:=of_ndecide h1;refine tt ?_;exact pure_ret (by rw [dec_t]; exact mo_is.mpr ⟨p,⟨g5,g6,g7⟩,g8,fun i hi=>hF i (by omega)⟩) o.sub
 have h1p:=of_decide h1
 have w1:=wsucc (k:=f) (by omega);refine tt ?_;refine awp_for [1,3,6] (G:=Unit) (fun h _=>[(7,some (.int .i64 (h : Int)))]) (fun h _ H'=>H'=H∧∀ i : Nat,i<h→IntF m f i) m.on.frm.length () ⟨rfl,by simp⟩ rfl ?_
 rintro h _ H' hh ⟨rfl,hHH⟩;refine tt ?_;apply bk <;> intro h2
 rotate_left
 ·have h2p:=of_ndecide h2;refine tw w1 ?_;exact for_next () h1p ⟨rfl,lt_succ_all hF fun i hi=>hHH i (by omega)⟩ rfl
 have h2p:=of_decide h2
 have w2:=wsucc (k:=h) (by omega)
 have cfi:=g1.1.coI (aR h1p)
 have cfj : (m.on.comp.getD f default).length=m.on.frm.length:=g1.1.coJ (aR h1p)
 have ecf : m.c f h=(m.on.comp.getD f default).getD h default:=by simp only [Mo.c,ix_nat]
 refine tt ?_;refine ⟨cfi.2,by rw [cfj]; exact h2p, ?_⟩
 by_cases c1 : (m.on.comp.getD f default).getD h default<0
 ·rw [decide_eq_true c1];refine tw w2 ?_;exact for_next () h2p ⟨rfl,lt_succ_all hHH fun c=>by rw [ecf] at c; omega⟩ rfl
 rw [decide_eq_false c1]
 have c1' : 0≤m.c f h:=by rw [ecf]; omega
 have afh:=(p.cE (aR h1p) (aR h2p) ((mo_c0 p (aR h1p) (aR h2p)).mp c1')).1;rw [ecf] at afh;refine tt ?_;refine awp_for [1,3,6,7] (G:=Unit) (fun g _=>[(8,some (.int .i64 (g : Int)))]) (fun g _ H=>H=H'∧∀ i : Nat,i<g→∀ k : Nat,k<m.on.frm.length→IntAt m f h i k) m.on.frm.length () ⟨rfl,by simp⟩ rfl ?_
 rintro g _ H hg ⟨rfl,hG⟩;refine tt ?_;apply bk <;> intro h3
 rotate_left
 ·have h3p:=of_ndecide h3;refine tw w2 ?_;exact for_next () h2p ⟨rfl,lt_succ_all hHH fun _ i hi=>hG i (by omega)⟩ rfl
 have h3p:=of_decide h3
 have w3:=wsucc (k:=g) (by omega)
 have cgi:=g1.1.coI (aR h3p)
 have cgj : (m.on.comp.getD g default).length=m.on.frm.length:=g1.1.coJ (aR h3p);refine tt ?_;refine awp_for [1,3,6,7,8] (G:=Unit) (fun k _=>[(9,some (.int .i64 (k : Int)))]) (fun k _ H'=>H'=H∧∀ i : Nat,i<k→IntAt m f h g i) m.on.frm.length () ⟨rfl,by simp⟩ rfl ?_
 rintro k _ H' hk ⟨rfl,hK⟩;refine tt ?_;apply bk <;> intro h4
 rotate_left
 ·have h4p:=of_ndecide h4;refine tw w3 ?_;exact for_next () h3p ⟨rfl,lt_succ_all hG fun i hi=>hK i (by omega)⟩ rfl
 have h4p:=of_decide h4
 have w4:=wsucc (k:=k) (by omega)
 have ecg : m.c g k=(m.on.comp.getD g default).getD k default:=by simp only [Mo.c,ix_nat]
 refine tt ?_;refine ⟨cgi.2,by rw [cgj]; exact h4p, ?_⟩
 by_cases c2 : 0≤(m.on.comp.getD g default).getD k default
 rotate_left
 ·rw [decide_eq_false c2];refine tw w4 ?_;exact for_next () h4p ⟨rfl,lt_succ_all hK fun c=>absurd (by rw [← ecg]; exact c) c2⟩ rfl
 rw [decide_eq_true c2]
 have agk:=(p.cE (aR h3p) (aR h4p) ((mo_c0 p (aR h3p) (aR h4p)).mp (by rw [ecg]; exact c2))).1;rw [ecg] at agk
 have q1:=mo_aI p afh agk
 have q2:=mo_aI p (aR h1p) (aR h3p)
 have q3:=mo_aI p (aR h2p) (aR h4p)
 have r2:=p.aA (aR h1p) (aR h3p)
 have r3:=p.aA (aR h2p) (aR h4p)
 have s2:=g1.1.coI r2
 have s3:=g1.1.coJ r2
 have hn : ¬ IntAt m f h g k→¬ m.Is:=fun hc q=>hc ((mo_is.mp q).2.2.2 f h1p h h2p c1' g h3p k h4p)
 have ed : (m.a (m.c f h) (m.c g k)=m.c (m.a f g) (m.a h k))=(ix (ix m.ar ((m.on.comp.getD f default).getD h default)) ((m.on.comp.getD g default).getD k default)=ix (ix m.on.comp ((m.ar.getD f default).getD g default)) ((m.ar.getD h default).getD k default)):=by simp only [Mo.a,Mo.c,ix_nat]
 refine tt ?_;refine ⟨cfi.2,by rw [cfj]; exact h2p,⟨afh.1,q1.1.2⟩,cgi.2,by rw [cgj]; exact h4p,⟨agk.1,q1.2.2⟩,q2.1.2,q2.2.2,⟨r2.1,s2.2⟩,q3.1.2,q3.2.2,⟨r3.1,by rw [← ix_nat m.ar f,← ix_nat (ix m.ar (f : Int)) g]; exact s3 ▸ r3.2⟩, ?_⟩
 by_cases e1 : ix (ix m.ar ((m.on.comp.getD f default).getD h default)) ((m.on.comp.getD g default).getD k default)=ix (ix m.on.comp ((m.ar.getD f default).getD g default)) ((m.ar.getD h default).getD k default)
 ·rw [decide_eq_true e1];refine tw w4 ?_;exact for_next () h4p ⟨rfl,lt_succ_all hK fun _=>Eq.mpr ed e1⟩ rfl
 ·rw [decide_eq_false e1];refine tt ?_;exact pure_ret (by rw [dec_f (hn fun q=>e1 (Eq.mp ed (q (by rw [ecg]; exact c2))))]) o.sub
theorem isMonoidalS_ok (B : Nat) (m : Mo) : Pur Tryz.prog B 24 [.agg m.cells] (.bool (dec m.Is)):=by
 refine ⟨fun H0=>c24.go fun hf=>?_⟩;refine tt ?_;refine (l35Is_ok B m).go fun _=>tt ?_;exact pure_ret rfl (.refl _)
theorem _root_.Go.Shf.DayO.fz {m : Mo} {f g : SF} (o : DayO m f g) {x : Int} (hx : m.on.ObR x) : (0≤x∧x.toNat<f.sizes.length)∧0≤ix f.sizes x∧ix f.sizes x≤16:=by
 have hx' : f.shape.ObR x:=by rw [o.fs]; exact hx
 exact ⟨obSz o.fI.1 hx',sz0 o.fI.1 hx'⟩
theorem _root_.Go.Shf.DayO.gz {m : Mo} {f g : SF} (o : DayO m f g) {x : Int} (hx : m.on.ObR x) : (0≤x∧x.toNat<g.sizes.length)∧0≤ix g.sizes x∧ix g.sizes x≤16:=by
 have hx' : g.shape.ObR x:=by rw [o.gs]; exact hx
 exact ⟨obSz o.gI.1 hx',sz0 o.gI.1 hx'⟩
theorem take_flat {β : Type} (g : Int→List β) (L : List Int) {i : Nat} (hi : i<L.length) : (L.take (i+1)).flatMap g=(L.take i).flatMap g++g (L.getD i default):=by
 rw [take_one L hi,List.flatMap_append]; simp
theorem l35Entries_ok (B : Nat) {m : Mo} {f g : SF} (D : DayO m f g) (z : Int) : Pur Tryz.prog B 94 [.agg m.cells,.agg f.cells,.agg g.cells,iI z] (iLL (dayE m f g z)):=by
 refine ⟨fun H0=>c94.go fun hf=>?_⟩
 have p:=D.mI.toPre
 have ho:=p.on.1.o
 have hm:=p.on.1.m
 have o : Owns H0 H0 []:=.nil _;refine tt ?_;refine newBuf_own o fun idA H o=>?_
 have o : Owns H0 H [(idA,.cells 1 ((catL (dayX m f g z) 0).map iL) 0)]:=by rw [catL_zero]; exact o
 refine tt ?_
 refine awp_for [3,4,5,6] (G:=Nat × List (List Int)) (fun x G=>[(9,some (.buf G.1 G.2.length)),(10,some (.int .i64 (x : Int)))])
  (fun x G H=>(G.2=catL (dayX m f g z) x∧G.2.length≤81920*x)∧Owns H0 H [(G.1,.cells 1 (G.2.map iL) 0)]) m.on.objs.toNat (idA,catL (dayX m f g z) 0) ⟨⟨rfl,by simp [catL_zero]⟩,o⟩ (by simp only [catL_zero]; rfl) ?_
 clear o
 rintro x ⟨idA,A⟩ H hx ⟨⟨hA,lA⟩,o⟩;dsimp only at hA lA o;refine tt ?_;apply bk <;> intro h1
 rotate_left
 ·have h1p:=of_ndecide h1
  obtain rfl : x=m.on.objs.toNat:=by omega
  refine tt ?_;refine fz_own (f:=iL) o rfl fun H o=>tt ?_;exact pure_ret (by rw [hA]; rfl) o.sub
 have h1p:=of_decide h1
 have w1:=wsucc (k:=x) (by omega)
 have hxO : m.on.ObR x:=⟨by omega,h1p⟩
 have fx:=D.fz hxO
 have A0 : A=A++catL (dayY m f g z x) 0:=by rw [catL_zero,List.append_nil]
 refine tt ?_
 refine awp_for [3,4,5,6,10] (G:=Nat × List (List Int)) (fun y G=>[(9,some (.buf G.1 G.2.length)),(11,some (.int .i64 (y : Int)))])
  (fun y G H=>(G.2=A++catL (dayY m f g z x) y∧G.2.length≤81920*x+10240*y)∧Owns H0 H [(G.1,.cells 1 (G.2.map iL) 0)]) m.on.objs.toNat (idA,A) ⟨⟨A0,by simpa using lA⟩,o⟩ rfl ?_
 clear o
 rintro y ⟨idB,C⟩ H hy ⟨⟨hC,lC⟩,o⟩;dsimp only at hC lC o;refine tt ?_;apply bk <;> intro h2
 rotate_left
 ·have h2p:=of_ndecide h2
  obtain rfl : y=m.on.objs.toNat:=by omega
  refine tw w1 ?_;exact for_next (idB,C) (by omega) ⟨⟨by rw [hC,hA,catL_succ]; rfl,by simp only; omega⟩,o⟩ rfl
 have h2p:=of_decide h2
 have w2:=wsucc (k:=y) (by omega)
 have hyO : m.on.ObR y:=⟨by omega,h2p⟩
 have gy:=D.gz hyO
 have oi:=mo_oI p hxO hyO;refine tt ?_;refine ⟨oi.1.2,oi.2.2,_,(l02Hom_ok B m.on p.on.1 _ _).run, ?_⟩
 obtain ⟨L,hL⟩ : ∃ L,homC m.on ((m.ob.getD x default).getD y default) z=L:=⟨_,rfl⟩
 have eL : homC m.on (m.o x y) z=L:=by simp only [Mo.o,ix_nat]; exact hL
 have lL : L.length≤40:=by rw [← eL]; exact homC_len p.on.1 _ _
 rw [hL]
 have C0 : C=C++(L.take 0).flatMap (dayH f g x y):=by simp
 refine tt ?_
 refine awp_for [3,4,5,6,10,11,12] (G:=Nat × List (List Int)) (fun i G=>[(9,some (.buf G.1 G.2.length)),(13,some (.int .i64 (i : Int)))])
  (fun i G H=>(G.2=C++(L.take i).flatMap (dayH f g x y)∧G.2.length≤81920*x+10240*y+256*i)∧Owns H0 H [(G.1,.cells 1 (G.2.map iL) 0)]) L.length (idB,C) ⟨⟨C0,by simpa using lC⟩,o⟩ rfl ?_
 clear o
 rintro i ⟨idC,E⟩ H hi ⟨⟨hE,lE⟩,o⟩;dsimp only at hE lE o;refine tt ?_;apply bk <;> intro h3
 rotate_left
 ·have h3p:=of_ndecide h3
  obtain rfl : i=L.length:=by omega
  refine tw w2 ?_;exact for_next (idC,E) (by omega) ⟨⟨by rw [hE,hC,catL_succ,List.take_length,List.append_assoc,dayY,eL],by simp only; omega⟩,o⟩ rfl
 have h3p:=of_decide h3
 have h3q : i<L.length:=by omega
 have w3:=wsucc (k:=i) (by omega)
 obtain ⟨h,hh⟩ : ∃ h,L.getD i default=h:=⟨_,rfl⟩
 obtain ⟨n,hn⟩ : ∃ n : Nat,ix f.sizes (x : Int)=n:=⟨_,(Int.toNat_of_nonneg fx.2.1).symm⟩
 obtain ⟨k,hk⟩ : ∃ k : Nat,ix g.sizes (y : Int)=k:=⟨_,(Int.toNat_of_nonneg gy.2.1).symm⟩
 have n16 : n≤16:=by have:=fx.2.2; omega
 have k16 : k≤16:=by have:=gy.2.2; omega
 have en : f.sizes.getD x default=(n : Int):=by rw [← hn,ix_nat]
 have ek : g.sizes.getD y default=(k : Int):=by rw [← hk,ix_nat]
 obtain ⟨φ,hφ⟩ : ∃ φ : Nat→List (List Int),φ=fun e : Nat=>(List.range k).map fun d : Nat=>[(x : Int),(y : Int),h,(e : Int),(d : Int)]:=⟨_,rfl⟩
 have eH : dayH f g x y h=catL φ n:=by rw [dayH,hn,hk,hφ,Int.toNat_natCast,Int.toNat_natCast]
 have E0 : E=E++catL φ 0:=by rw [catL_zero,List.append_nil]
 refine tt ?_
 refine awp_for [3,4,5,6,10,11,12,13] (G:=Nat × List (List Int)) (fun e G=>[(9,some (.buf G.1 G.2.length)),(14,some (.int .i64 (e : Int)))])
  (fun e G H=>(G.2=E++catL φ e∧G.2.length≤81920*x+10240*y+256*i+16*e)∧Owns H0 H [(G.1,.cells 1 (G.2.map iL) 0)]) n (idC,E) ⟨⟨E0,by simpa using lE⟩,o⟩ rfl ?_
 clear o
 rintro e ⟨idD,F⟩ H he ⟨⟨hF,lF⟩,o⟩;dsimp only at hF lF o;refine tt ?_;refine ⟨fx.1.2, ?_⟩;rw [en];apply bk <;> intro h4
 rotate_left
 ·have h4p:=of_ndecide h4
  obtain rfl : e=n:=by omega
  refine tw w3 ?_;exact for_next (idD,F) (by omega) ⟨⟨by rw [hF,hE,take_flat _ _ h3q,hh,eH,List.append_assoc],by simp only; omega⟩,o⟩ rfl
 have h4p:=of_decide h4
 have w4:=wsucc (k:=e) (by omega)
 have F0 : F=F++(List.range 0).map fun d : Nat=>[(x : Int),(y : Int),h,(e : Int),(d : Int)]:=by simp
 refine tt ?_
 refine awp_for [3,4,5,6,10,11,12,13,14] (G:=Nat × List (List Int)) (fun d G=>[(9,some (.buf G.1 G.2.length)),(15,some (.int .i64 (d : Int)))])
  (fun d G H=>(G.2=F++((List.range d).map fun d : Nat=>[(x : Int),(y : Int),h,(e : Int),(d : Int)])∧G.2.length≤81920*x+10240*y+256*i+16*e+d)∧Owns H0 H [(G.1,.cells 1 (G.2.map iL) 0)]) k (idD,F) ⟨⟨F0,by simpa using lF⟩,o⟩ rfl ?_
 clear o
 rintro d ⟨idE,J⟩ H hd ⟨⟨hJ,lJ⟩,o⟩;dsimp only at hJ lJ o;refine tt ?_;refine ⟨gy.1.2, ?_⟩;rw [ek];apply bk <;> intro h5
 rotate_left
 ·have h5p:=of_ndecide h5
  obtain rfl : d=k:=by omega
  refine tw w4 ?_;exact for_next (idE,J) (by omega) ⟨⟨by rw [hJ,hF,catL_succ,hφ,List.append_assoc],by simp only; omega⟩,o⟩ rfl
 have h5p:=of_decide h5
 have w5:=wsucc (k:=d) (by omega);refine tt ?_;refine ⟨h3q, ?_⟩;rw [hh];refine app_own (f:=iL) [(x : Int),(y : Int),h,(e : Int),(d : Int)] o rfl rfl (by simp only [maxL]; omega) fun idE H o=>?_;refine tw w5 ?_;exact for_next (idE,J++[[(x : Int),(y : Int),h,(e : Int),(d : Int)]]) (by omega) ⟨⟨by rw [hJ,List.range_succ,List.map_append,List.append_assoc]; rfl,by simp only [List.length_append,List.length_singleton]; omega⟩,o⟩ rfl
end Go.Proofs.Shf
namespace Go.Shf
open Go.AW
def qU (m : Mo) (a b : Nat) : Bool:=decide (ix m.on.idn (ix m.on.frm (a : Int))=(a : Int)) || decide (ix m.on.idn (ix m.on.frm (b : Int))=(b : Int))
theorem qU_ok (m : Mo) : QOk m (qU m):=fun a b ha hb h=>by
 have ea:=Int.toNat_of_nonneg ha.1
 have eb:=Int.toNat_of_nonneg hb.1;rw [qU,ea,eb]
 rcases h with h | h
 ·rw [decide_eq_true h.symm]; rfl
 ·rw [decide_eq_true h.symm,Bool.or_true]
end Go.Shf
namespace Go.Proofs.Shf
open Go.AW Go.Proofs Go.Shf
theorem l35Classes_ok (B : Nat) {m : Mo} {f g : SF} (D : DayO m f g) (z : Int) (hl : (dayE m f g z).length≤256) : Pur Tryz.prog B 95 [.agg m.cells,.agg f.cells,.agg g.cells,iI z,iLL (dayE m f g z)] (iL (clD m f g z)):=by
 refine ⟨fun H0=>c95p.go fun hf=>?_⟩
 have p:=D.mI.toPre
 have ho:=p.on.1.o
 have hm:=p.on.1.m
 have tl:=p.on.1.tol
 have aR : ∀ {n : Nat},n<m.on.frm.length→m.on.ArR (n : Int):=fun {n} h=>⟨by omega,by simpa using h⟩
 have o : Owns H0 H0 []:=.nil _;refine tt ?_;refine newRef_own o fun id11 H o=>tt ?_;refine sw o fun H o=>?_
 have o : Owns H0 H [(id11,.cells 5 m.on.cells 0)]:=o;refine tt ?_;refine wk_ref 11 o rfl fun H o=>wkW_done ?_;refine tt ?_;refine newBuf_own o fun idA H o=>?_
 obtain ⟨ψ,hψ⟩ : ∃ ψ : Nat→List (List Int),ψ=fun a=>catL (psB m f g z (qU m) a) m.on.frm.length:=⟨_,rfl⟩
 have o : Owns H0 H [(idA,.cells 1 ((catL ψ 0).map iL) 0)]:=by rw [catL_zero]; exact o
 refine tt ?_
 refine awp_for [3,4,5,6,7,11] (G:=Nat × List (List Int)) (fun a G=>[(12,some (.buf G.1 G.2.length)),(13,some (.int .i64 (a : Int)))])
  (fun a G H=>(G.2=catL ψ a∧G.2.length≤409600*a)∧Owns H0 H [(G.1,.cells 1 (G.2.map iL) 0)]) m.on.frm.length (idA,catL ψ 0) ⟨⟨rfl,by simp [catL_zero]⟩,o⟩ (by simp only [catL_zero]; rfl) ?_
 clear o
 rintro a ⟨idA,A⟩ H ha ⟨⟨hA,lA⟩,o⟩;dsimp only at hA lA o;refine tt ?_;apply bk <;> intro h1
 rotate_left
 ·have h1p:=of_ndecide h1
  obtain rfl : a=m.on.frm.length:=by omega
  refine tt ?_;refine fz_own (f:=iL) o rfl fun H o=>tt ?_
  have hin:=psD_in (z:=z) D (qU m)
  have hA' : A=psD m f g z (qU m):=by rw [hA,hψ]; rfl
  refine (join_pok B _ (by omega) A fun q hq=>?_).go fun _=>?_
  ·rw [hA'] at hq
   have h1:=hin q hq
   obtain ⟨_,_,_,_,_,_,_,rfl⟩:=mem_psD.mp hq;exact ⟨by simp,h1.1,h1.2⟩
  refine tt ?_;exact pure_ret (by rw [hA',clD_q D (qU_ok m)]) o.sub
 have h1p:=of_decide h1
 have w1:=wsucc (k:=a) (by omega)
 have A0 : A=A++catL (psB m f g z (qU m) a) 0:=by rw [catL_zero,List.append_nil]
 refine tt ?_
 refine awp_for [3,4,5,6,7,11,13] (G:=Nat × List (List Int)) (fun b G=>[(12,some (.buf G.1 G.2.length)),(14,some (.int .i64 (b : Int)))])
  (fun b G H=>(G.2=A++catL (psB m f g z (qU m) a) b∧G.2.length≤409600*a+10240*b)∧Owns H0 H [(G.1,.cells 1 (G.2.map iL) 0)]) m.on.frm.length (idA,A) ⟨⟨A0,by simpa using lA⟩,o⟩ rfl ?_
 clear o
 rintro b ⟨idB,C⟩ H hb ⟨⟨hC,lC⟩,o⟩;dsimp only at hC lC o;refine tt ?_;apply bk <;> intro h2
 rotate_left
 ·have h2p:=of_ndecide h2
  obtain rfl : b=m.on.frm.length:=by omega
  refine tw w1 ?_;exact for_next (idB,C) (by omega) ⟨⟨by rw [hC,hA,catL_succ,hψ],by simp only; omega⟩,o⟩ rfl
 have h2p:=of_decide h2
 have w2:=wsucc (k:=b) (by omega)
 have skip : qU m a b=false→C=A++catL (psB m f g z (qU m) a) (b+1):=fun q=>by rw [catL_succ,psB,q,cond_false,List.append_nil]; exact hC
 refine tt ?_;refine cut_mp (fun σ H'=>H'=H∧qU m a b=true∧σ=[(3,some (iI z)),(4,some (iLL (dayE m f g z))),(5,some (.ptr m.cells)),(6,some (.ptr f.cells)),(7,some (.ptr g.cells)),(11,some (.ptr m.on.cells)),(12,some (.buf idB C.length)),(13,some (iI a)),(14,some (iI b))]) ?_ ?_
 ·refine tt ?_;refine (l02Unit_ok B m.on p.on.1 (a : Int) (aR h1p)).run.use ?_
  by_cases ua : ix m.on.idn (ix m.on.frm (a : Int))=(a : Int)
  ·rw [decide_eq_true ua];refine tt ?_;exact wkW_done ⟨rfl,by rw [qU,decide_eq_true ua]; rfl,rfl⟩
  rw [decide_eq_false ua];refine tt ?_;refine (l02Unit_ok B m.on p.on.1 (b : Int) (aR h2p)).run.use ?_
  by_cases ub : ix m.on.idn (ix m.on.frm (b : Int))=(b : Int)
  ·rw [decide_eq_true ub];refine tt ?_;exact wkW_done ⟨rfl,by rw [qU,decide_eq_true ub,Bool.or_true],rfl⟩
  ·rw [decide_eq_false ub];refine tw w2 ?_;exact for_next (idB,C) (by omega) ⟨⟨skip (by rw [qU,decide_eq_false ua,decide_eq_false ub]; rfl),by simp only; omega⟩,o⟩ rfl
 rintro σ H' ⟨rfl,hq,rfl⟩
 have hAa:=aR h1p
 have hBb:=aR h2p
 have ti:=p.on.1.toI hAa
 have tj:=p.on.1.toI hBb
 have oi:=mo_oI p (p.tO hAa) (p.tO hBb)
 have fx:=D.fz (p.fO hAa)
 have gy:=D.gz (p.fO hBb)
 have ai:=mo_aI p hAa hBb
 have ab:=p.aA hAa hBb;refine tt ?_;refine ⟨h1p,h2p,ti.2,oi.1,tj.2,oi.2,_,(l02Hom_ok B m.on p.on.1 _ _).run, ?_⟩
 obtain ⟨L,hL⟩ : ∃ L,homC m.on (ix (ix m.ob (m.on.to.getD a default)) (m.on.to.getD b default)) z=L:=⟨_,rfl⟩
 have eL : homC m.on (m.o (ix m.on.to (a : Int)) (ix m.on.to (b : Int))) z=L:=by simp only [Mo.o,ix_nat]; exact hL
 have lL : L.length≤40:=by rw [← eL]; exact homC_len p.on.1 _ _
 have hLm : ∀ v,v∈L→m.on.ArR v∧ix m.on.frm v=m.o (ix m.on.to (a : Int)) (ix m.on.to (b : Int))∧ix m.on.to v=z:=fun v hv=>by rw [← eL] at hv; exact homC_mem.mp hv
 rw [hL]
 have C0 : C=C++(L.take 0).flatMap (psH m f g z a b):=by simp
 refine awp_for [3,4,5,6,7,11,13,14,15,16,17] (G:=Nat × List (List Int)) (fun i G=>[(12,some (.buf G.1 G.2.length)),(18,some (.int .i64 (i : Int)))])
  (fun i G H=>(G.2=C++(L.take i).flatMap (psH m f g z a b)∧G.2.length≤409600*a+10240*b+256*i)∧Owns H0 H [(G.1,.cells 1 (G.2.map iL) 0)]) L.length (idB,C) ⟨⟨C0,by simpa using lC⟩,o⟩ rfl ?_
 clear o
 rintro i ⟨idC,E⟩ H hi ⟨⟨hE,lE⟩,o⟩;dsimp only at hE lE o;refine tt ?_;apply bk <;> intro h3
 rotate_left
 ·have h3p:=of_ndecide h3
  obtain rfl : i=L.length:=by omega
  refine tw w2 ?_;exact for_next (idC,E) (by omega) ⟨⟨by rw [hE,hC,catL_succ,List.take_length,List.append_assoc,psB,hq,cond_true,eL],by simp only; omega⟩,o⟩ rfl
 have h3p:=of_decide h3
 have h3q : i<L.length:=by omega
 have w3:=wsucc (k:=i) (by omega)
 obtain ⟨h,hh⟩ : ∃ h,L.getD i default=h:=⟨_,rfl⟩
 have hhm:=hLm h (by rw [← hh]; exact mem_getD.mpr ⟨i,h3q,rfl⟩)
 obtain ⟨n,hn⟩ : ∃ n : Nat,ix f.sizes (ix m.on.frm (a : Int))=n:=⟨_,(Int.toNat_of_nonneg fx.2.1).symm⟩
 obtain ⟨k,hk⟩ : ∃ k : Nat,ix g.sizes (ix m.on.frm (b : Int))=k:=⟨_,(Int.toNat_of_nonneg gy.2.1).symm⟩
 have n16 : n≤16:=by have:=fx.2.2; omega
 have k16 : k≤16:=by have:=gy.2.2; omega
 have en : ix f.sizes (m.on.frm.getD a default)=(n : Int):=by rw [← hn,ix_nat m.on.frm]
 have ek : ix g.sizes (m.on.frm.getD b default)=(k : Int):=by rw [← hk,ix_nat m.on.frm]
 obtain ⟨φ,hφ⟩ : ∃ φ : Nat→List (List Int),φ=fun e : Nat=>(List.range k).map fun d : Nat=>[posD m f g z (dayS m a b h e d),posD m f g z (dayT m f g a b h e d)]:=⟨_,rfl⟩
 have eH : psH m f g z a b h=catL φ n:=by rw [psH,hn,hk,hφ,Int.toNat_natCast,Int.toNat_natCast]
 have E0 : E=E++catL φ 0:=by rw [catL_zero,List.append_nil]
 have fI : f.shape.ArR (a : Int):=by rw [D.fs]; exact hAa
 have gI : g.shape.ArR (b : Int):=by rw [D.gs]; exact hBb
 have fal:=(arAc D.fI.1 fI).2
 have gal:=(arAc D.gI.1 gI).2
 have fa:=act_map D.fI.1 fI
 have ga:=act_map D.gI.1 gI;rw [D.fs,hn] at fa;rw [D.gs,hk] at ga
 have fl:=fa.len
 have gl:=ga.len;rw [Int.toNat_natCast,ix_nat] at fl gl;refine tt ?_
 refine awp_for [3,4,5,6,7,11,13,14,15,16,17,18] (G:=Nat × List (List Int)) (fun e G=>[(12,some (.buf G.1 G.2.length)),(19,some (.int .i64 (e : Int)))])
  (fun e G H=>(G.2=E++catL φ e∧G.2.length≤409600*a+10240*b+256*i+16*e)∧Owns H0 H [(G.1,.cells 1 (G.2.map iL) 0)]) n (idC,E) ⟨⟨E0,by simpa using lE⟩,o⟩ rfl ?_
 clear o
 rintro e ⟨idD,F⟩ H he ⟨⟨hF,lF⟩,o⟩;dsimp only at hF lF o;refine tt ?_;refine ⟨fx.1, ?_⟩;rw [en];apply bk <;> intro h4
 rotate_left
 ·have h4p:=of_ndecide h4
  obtain rfl : e=n:=by omega
  refine tw w3 ?_;exact for_next (idD,F) (by omega) ⟨⟨by rw [hF,hE,take_flat _ _ h3q,hh,eH,List.append_assoc],by simp only; omega⟩,o⟩ rfl
 have h4p:=of_decide h4
 have w4:=wsucc (k:=e) (by omega)
 have F0 : F=F++(List.range 0).map fun d : Nat=>[posD m f g z (dayS m a b h e d),posD m f g z (dayT m f g a b h e d)]:=by simp
 refine tt ?_
 refine awp_for [3,4,5,6,7,11,13,14,15,16,17,18,19] (G:=Nat × List (List Int)) (fun d G=>[(12,some (.buf G.1 G.2.length)),(20,some (.int .i64 (d : Int)))])
  (fun d G H=>(G.2=F++((List.range d).map fun d : Nat=>[posD m f g z (dayS m a b h e d),posD m f g z (dayT m f g a b h e d)])∧G.2.length≤409600*a+10240*b+256*i+16*e+d)∧Owns H0 H [(G.1,.cells 1 (G.2.map iL) 0)]) k (idD,F) ⟨⟨F0,by simpa using lF⟩,o⟩ rfl ?_
 clear o
 rintro d ⟨idE,J⟩ H hd ⟨⟨hJ,lJ⟩,o⟩;dsimp only at hJ lJ o;refine tt ?_;refine ⟨gy.1, ?_⟩;rw [ek];apply bk <;> intro h5
 rotate_left
 ·have h5p:=of_ndecide h5
  obtain rfl : d=k:=by omega
  refine tw w4 ?_;exact for_next (idE,J) (by omega) ⟨⟨by rw [hJ,hF,catL_succ,hφ,List.append_assoc],by simp only; omega⟩,o⟩ rfl
 have h5p:=of_decide h5
 have w5:=wsucc (k:=d) (by omega);refine tt ?_
 have ab' : m.on.ArR ((m.ar.getD a default).getD b default):=by
  have:=ab;simp only [Mo.a,ix_nat] at this;exact this
 rw [hh];refine ⟨ai.1.2,ai.2.2,h3q,_,(l02Then_t B p.on.1 ab' hhm.1).run,by simp [AV.cells,AV.one],_,(l09Find_ok B (dayE m f g z) (dayS m a b h e d)).run,ti.2,tj.2,h3q,fal,by omega,gal,by omega,_,(l09Find_ok B (dayE m f g z) (dayT m f g a b h e d)).run,by simp [AV.cells,AV.one], ?_⟩;refine app_own (f:=iL) [posD m f g z (dayS m a b h e d),posD m f g z (dayT m f g a b h e d)] o rfl rfl (by simp only [maxL]; omega) fun idE H o=>?_;refine tw w5 ?_;exact for_next (idE,J++[[posD m f g z (dayS m a b h e d),posD m f g z (dayT m f g a b h e d)]]) (by omega) ⟨⟨by rw [hJ,List.range_succ,List.map_append,List.append_assoc]; rfl,by simp only [List.length_append,List.length_singleton]; omega⟩,o⟩ rfl
end Go.Proofs.Shf
namespace Go.Shf
open Go.AW
theorem hom_homC (c : Cat) (x y : Int) : hom c x y=homC c x y:=by rw [← homK_full]; rfl
end Go.Shf
namespace Go.Shf
open Go.AW
end Go.Shf
namespace Go.Proofs.Shf
open Go.AW Go.Proofs Go.Shf
def RootK (n : Nat) (N : List (Int × Int)) (j : List Int) (x : Int) (id : Nat) (H0 : Heap) (l : Ob) : Kont:=fun r H'=>∃ (a : Int) (j' : List Int),r=iI a∧JoinOk n N j'∧Root j x a∧InR n a∧(∀ y r,InR n y→Root j y r→Root j' y r)∧Owns H0 H' ((id,.cells 1 (j'.map iI) 0)::l)
theorem root_own (B : Nat) {n : Nat} {N : List (Int × Int)} {j : List Int} (k : JoinOk n N j) (x : Int) (hx : InR n x) {H0 H : Heap} {l : Ob} {id : Nat} (o : Owns H0 H ((id,.cells 1 (j.map iI) 0)::l)) :
  CallH Tryz.prog B 262 [.buf id n,iI x] H (RootK n N j x id H0 l):=by
 refine c262.go fun _=>?_
 obtain ⟨a,hra,haR,_⟩:=k.uf.rootAt (x:=x) (by rw [k.len]; exact hx);rw [k.len] at haR;refine tt ?_
 refine awp_while [0] (G:=List Int × Int) (fun g=>[(1,some (iI g.2))])
  (fun m g H'=>m=g.2.toNat∧JoinOk n N g.1∧InR n g.2∧(∀ y r,InR n y→Root j y r→Root g.1 y r)∧Root g.1 g.2 a∧Owns H0 H' ((id,.cells 1 (g.1.map iI) 0)::l)) x.toNat (j,x) ⟨rfl,k,hx,fun y r _ h=>h,hra,o⟩ rfl ?_
 clear o
 rintro m ⟨j1,x1⟩ H' ⟨hm,k1,hx1,hpre,hr1,o⟩;dsimp only at k1 hx1 o hm
 obtain ⟨c,rfl⟩ : ∃ c : Nat,x1=c:=⟨x1.toNat,(Int.toNat_of_nonneg hx1.1).symm⟩
 have hcn : c<n:=by simpa using hx1.2
 have hlen:=k1.len
 have hjc:=k1.uf.inR (x:=(c : Int)) (by rw [k1.len]; exact hx1)
 have hle:=k1.uf.le (c : Int) (by rw [k1.len]; exact hx1)
 obtain ⟨p,hp⟩ : ∃ p : Nat,ix j1 (c : Int)=p:=⟨_,(Int.toNat_of_nonneg hjc.1).symm⟩
 have hle2:=k1.uf.le _ hjc
 have hjp:=k1.uf.inR hjc;rw [hp] at hjc hle hle2 hjp
 have hpn : p<n:=by have:=hjc.2; rw [hlen] at this; simpa using this
 obtain ⟨w,hw⟩ : ∃ w : Nat,ix j1 (p : Int)=w:=⟨_,(Int.toNat_of_nonneg hjp.1).symm⟩;rw [hw] at hle2 hjp
 have hwn : w<n:=by have:=hjp.2; rw [hlen] at this; simpa using this
 have e1 : (j1.map iI).getD c nv=iI (p : Int):=by rw [map_getD _ (by omega),← hp,ix_nat]
 have e2 : (j1.map iI).getD p nv=iI (w : Int):=by rw [map_getD _ (by omega),← hw,ix_nat]
 refine tt ?_;refine ⟨hcn,rd_cells o (by simp; omega) ?_⟩;rw [e1];refine tt ?_;apply bk <;> intro h1
 ·have h1p : p≠c:=by simp at h1; omega
  refine tt ?_;refine ⟨hcn,rd_cells o (by simp; omega) ?_⟩;rw [e1];refine tt ?_;refine ⟨hpn,rd_cells o (by simp; omega) ?_⟩;rw [e2];refine tt ?_;refine ⟨hcn, ?_⟩;refine set_own (f:=iI) (w : Int) o rfl (by omega) fun H2 o=>?_
  obtain ⟨k2,hk2⟩:=k1.halve hx1;rw [hp,hw,Int.toNat_natCast] at k2 hk2
  have e3 : ((j1.set c (w : Int)).map iI).getD c nv=iI (w : Int):=by
   rw [map_getD _ (by rw [List.length_set]; omega)]
   simp [List.getD_eq_getElem?_getD,show c<j1.length by omega]
  have e4 : ix (j1.set c (w : Int)) (c : Int)=w:=by
   simp [ix_nat,List.getD_eq_getElem?_getD,show c<j1.length by omega]
  have hr2:=(hk2 c a hx1 hr1).next;rw [e4] at hr2;refine tt ?_;refine ⟨hcn,rd_cells o (by simp; omega) ?_⟩;rw [e3];refine tt ?_;exact while_next w (j1.set c (w : Int),(w : Int)) (by omega) ⟨by simp,k2,⟨by omega,by simpa using hwn⟩,fun y r hy h=>hk2 y r hy (hpre y r hy h),hr2,o⟩ rfl
 ·have h1p : p=c:=by simp at h1; omega
  refine tt ?_
  have ea : a=c:=hr1.uniq (.here _ (by rw [hp,h1p]));exact ⟨H',.refl H',c,j1,rfl,k1,ea ▸ hra,hx1,hpre,o⟩
def JoinK (n : Nat) (N : List (Int × Int)) (id : Nat) (H0 : Heap) (l : Ob) : Kont:=fun r H'=>∃ (b : Bool) (j' : List Int),r=.bool b∧JoinOk n N j'∧Owns H0 H' ((id,.cells 1 (j'.map iI) 0)::l)
theorem join_own (B : Nat) {n : Nat} {N : List (Int × Int)} {j : List Int} (k : JoinOk n N j) (x y : Int) (hx : InR n x) (hy : InR n y) {H0 H : Heap} {l : Ob} {id : Nat} (o : Owns H0 H ((id,.cells 1 (j.map iI) 0)::l)) :
  CallH Tryz.prog B 192 [.buf id n,iI x,iI y] H (JoinK n (N++[(x,y)]) id H0 l):=by
 refine c192.go fun _=>?_;refine tt ?_;refine (root_own B k x hx o).mono ?_
 rintro r H ⟨a,j1,rfl,k1,hra,haR,hp1,o⟩;refine tt ?_;refine (root_own B k1 y hy o).mono ?_
 rintro r H ⟨b,j2,rfl,k2,hrb,hbR,hp2,o⟩
 have ha2:=hp2 x a hx (hp1 x a hx hra)
 have hb2:=hp2 y b hy hrb
 have kl:=k2.link hx hy ha2 hb2
 have hl:=k2.len;refine tt ?_
 have em : (if b > a then b else a)=max a b:=by split <;> omega
 have en : (if false=true then if b > a then b else a else if b<a then b else a)=min a b:=by
  rw [if_neg (by simp)]; split <;> omega
 have hM : InR n (max a b):=by
  rcases Int.le_total a b with h | h
  ·rw [Int.max_eq_right h]; exact hbR
  ·rw [Int.max_eq_left h]; exact haR
 rw [en,em];refine ⟨hM, ?_⟩;refine set_own (f:=iI) (min a b) o rfl (by rw [hl]; exact hM.2) fun H2 o=>tt ?_;exact ⟨H2,.refl H2,_,_,rfl,kl,o⟩
def numK (n k : Nat) : List Int:=(List.range n).map fun i=>if i<k then (i : Int) else 0
theorem numK_zero (n : Nat) : numK n 0=List.replicate n 0:=by
 refine List.ext_getElem (by simp [numK]) fun i h1 h2=>?_
 simp [numK]
theorem numK_full (n : Nat) : numK n n=(List.range n).map Int.ofNat:=by
 refine List.ext_getElem (by simp [numK]) fun i h1 h2=>?_
 have hi : i<n:=by simpa [numK] using h1
 simp [numK,hi]
theorem numK_succ (n k : Nat) (hk : k<n) : (numK n k).set k (k : Int)=numK n (k+1):=by
 refine List.ext_getElem (by simp [numK]) fun i h1 h2=>?_;simp only [numK,List.getElem_set,List.getElem_map,List.getElem_range]
 by_cases e : k=i
 ·subst e; rw [if_pos rfl,if_pos (by omega)]
 ·rw [if_neg e]
  by_cases e2 : i<k
  ·rw [if_pos e2,if_pos (by omega)]
  ·rw [if_neg e2,if_neg (by omega)]
theorem numbers_own (B : Nat) (n : Nat) (hn : n≤1048576) {H0 H : Heap} {l : Ob} (o : Owns H0 H l) : CallH Tryz.prog B 119 [iI n] H fun r H'=>∃ id,r=.buf id n∧Owns H0 H' ((id,.cells 1 (((List.range n).map Int.ofNat).map iI) 0)::l):=by
 refine c119p.go fun _=>?_;refine tt ?_;refine ⟨⟨by omega,by simp only [maxL]; omega⟩,mks_list iI 0 rfl o fun id H o=>?_⟩;refine tt ?_
 refine awp_for [3,8] (G:=List Int) (fun k _=>[(9,some (.int .i64 (k : Int)))])
  (fun k A H=>A=numK n k∧Owns H0 H ((id,.cells 1 (A.map iI) 0)::l)) n (List.replicate n 0) ⟨(numK_zero n).symm,o⟩ rfl ?_
 clear o
 rintro k A H hk ⟨hA,o⟩;refine tt ?_;apply bk <;> intro h1
 ·have h1p : k<n:=of_decide h1
  have w1:=wsucc (k:=k) (by omega);refine tt ?_;refine ⟨h1p, ?_⟩;refine set_own (f:=iI) (k : Int) o rfl (by rw [hA]; simpa [numK] using h1p) fun H o=>?_;refine tw w1 ?_;exact for_next (A.set k (k : Int)) h1p ⟨by rw [hA,numK_succ n k h1p],o⟩ rfl
 ·have h1p : ¬ k<n:=of_ndecide h1
  obtain rfl : k=n:=by omega
  refine tt ?_;rw [hA,numK_full] at o;exact ⟨H,.refl H,id,rfl,o⟩
theorem joinerOf_own (B : Nat) (n : Nat) (hn : n≤1048576) {H0 H : Heap} {l : Ob} (o : Owns H0 H l) : CallH Tryz.prog B 191 [iI n] H fun r H'=>∃ id,r=.buf id n∧Owns H0 H' ((id,.cells 1 (((List.range n).map Int.ofNat).map iI) 0)::l):=by
 refine c191p.go fun _=>?_;refine tt ?_;refine (numbers_own B n hn o).mono ?_
 rintro r H ⟨id,rfl,o⟩;refine tt ?_;exact ⟨H,.refl H,id,rfl,o⟩
def numM (n : Nat) : List AV:=(List.range n).map fun i : Nat=>iI (i : Int)
theorem numM_len (n : Nat) : (numM n).length=n:=by simp [numM]
theorem numM_get {n i : Nat} (h : i<n) : (numM n)[i]? = some (iI (i : Int)):=by simp [numM,h]
theorem numM_none {n : Nat} : (numM n)[n]? = none:=by simp [numM]
theorem numM_succ (n : Nat) : numM (n+1)=numM n++[iI (n : Int)]:=by rw [numM,List.range_succ,List.map_append]; rfl
theorem idxOf_index {s : List Int} {v : Int} (h : v∈s) : ((s.idxOf v : Nat) : Int)=indexOf s v∧s.idxOf v<s.length:=by
 have hl:=List.idxOf_lt_length_of_mem h;refine ⟨(indexOf_hit (k:=s.idxOf v) hl (fun i hi e=>?_) ?_).symm,hl⟩
 ·have:=List.not_of_lt_findIdx (p:=(· == v)) (xs:=s) (i:=i) (by exact hi)
  have hil : i<s.length:=by omega
  rw [List.getD_eq_getElem?_getD,List.getElem?_eq_getElem hil] at e
  simp at this e;exact this e
 ·rw [List.getD_eq_getElem?_getD,List.getElem?_eq_getElem hl]
  simp
theorem lkR_tn (z : AV) : lkR true z none=.tup [z,.bool false]:=rfl
theorem lkR_ts (z v : AV) : lkR true z (some v)=.tup [v,.bool true]:=rfl
theorem normal_ok (B : Nat) (l : List Int) : Pur Tryz.prog B 263 [iL l] (iL (classL l)):=by
 refine ⟨fun H0=>c263.go fun ⟨hf,_⟩=>?_⟩
 have hl:=fine_mL_le hf;simp only [maxL] at hl
 have o : Owns H0 H0 []:=.nil _;refine tt ?_;refine newMap_own o fun idm H o=>tt ?_;refine ⟨⟨by omega,by simp only [maxL]; omega⟩,mks_list iI 0 rfl o fun id H o=>?_⟩;refine tt ?_
 refine awp_for [3,4,13,14] (fun k _=>[(15,some (.int .i64 (k : Int)))])
  (fun k _ H=>Owns H0 H [(id,.cells 1 ((classK l k).map iI) 0),(idm,.map ((seenL (l.take k)).map iI) (numM (seenL (l.take k)).length))]) l.length () (by rw [classK_zero]; exact o) rfl ?_
 clear o
 rintro k _ H hk o;refine tt ?_;apply bk <;> intro h1
 ·have h1p:=of_decide h1
  have w1:=wsucc (k:=k) (by omega)
  have hg : H.get idm=some (.map ((seenL (l.take k)).map iI) (numM (seenL (l.take k)).length)):=o.swap.h0
  have hcl:=classK_len l (k:=k) (by omega);refine tt ?_;refine ⟨h1p,tt ?_⟩;rw [hg];refine ⟨okKey_iI _ _, ?_⟩;rw [mget_iI (by rw [numM_len])]
  by_cases hm : l.getD k default∈seenL (l.take k)
  ·obtain ⟨e1,e2⟩:=idxOf_index hm
   obtain ⟨e3,_⟩:=seen_old h1p hm;rw [numM_get e2,e1,lkR_ts];refine tt ?_;refine ⟨by omega, ?_⟩;refine set_own (f:=iI) (indexOf (seenL (l.take k)) (l.getD k default)) o rfl (by omega) fun H o=>?_;refine tw w1 ?_;refine for_next () h1p ?_ rfl
   have:=classK_succ l h1p;rw [e3] at this;rw [this] at o;simp only [e3];exact o
  ·obtain ⟨e3,e4⟩:=seen_new h1p hm
   have e5 : (seenL (l.take k)).idxOf (l.getD k default)=(seenL (l.take k)).length:=List.idxOf_eq_length hm;rw [e5,numM_none,lkR_tn];refine tt ?_;rw [hg];refine tt ?_;rw [hg];refine ⟨okKey_iI _ _, ?_⟩;rw [mput_iI _ _ (by rw [numM_len]),if_neg hm]
   have o:=o.swap.put (.map ((seenL (l.take k)++[l.getD k default]).map iI) (numM (seenL (l.take k)).length++[iI ((seenL (l.take k)).length : Int)]));rw [List.length_map];refine tt ?_;refine ⟨by omega, ?_⟩;refine set_own (f:=iI) ((seenL (l.take k)).length : Int) o.swap rfl (by omega) fun H o=>?_;refine tw w1 ?_;refine for_next () h1p ?_ rfl
   have:=classK_succ l h1p;rw [e4] at this;rw [this] at o;simp only [e3,List.length_append,List.length_cons,List.length_nil,Nat.zero_add,numM_succ];exact o
 ·have h1p:=of_ndecide h1
  obtain rfl : k=l.length:=by omega
  rw [classK_full] at o;refine tt ?_;refine fz_own o (by rw [classL_len]) fun H o=>tt ?_;exact pure_ret rfl o.sub
noncomputable def rootK (j : List Int) (n k : Nat) : List Int:=(List.range n).map fun i : Nat=>if i<k then rootF j i else 0
theorem rootK_zero (j : List Int) (n : Nat) : rootK j n 0=List.replicate n 0:=by
 refine List.ext_getElem (by simp [rootK]) fun i h1 h2=>?_
 simp [rootK]
theorem rootK_succ (j : List Int) (n k : Nat) (hk : k<n) : (rootK j n k).set k (rootF j k)=rootK j n (k+1):=by
 refine List.ext_getElem (by simp [rootK]) fun i h1 h2=>?_;simp only [rootK,List.getElem_set,List.getElem_map,List.getElem_range]
 by_cases e : k=i
 ·subst e; rw [if_pos rfl,if_pos (by omega)]
 ·rw [if_neg e]
  by_cases e2 : i<k
  ·rw [if_pos e2,if_pos (by omega)]
  ·rw [if_neg e2,if_neg (by omega)]
theorem rootK_at (j : List Int) (n : Nat) {i : Nat} (hi : i<n) : (rootK j n n).getD i default=rootF j i:=by rw [rootK,getD_map_range _ _ hi,if_pos hi]
def PartK (n : Nat) (N : List (Int × Int)) (H0 : Heap) (l : Ob) : Kont:=fun r H'=>∃ R : List Int,r=iL (classL R)∧R.length=n∧(∀ u v : Nat,u<n→v<n→(R.getD u default=R.getD v default↔EqN N u v))∧Owns H0 H' l
theorem partition_own (B : Nat) {n : Nat} (hn : n≤1048576) {N : List (Int × Int)} {j : List Int} (k : JoinOk n N j) {H0 H : Heap} {l : Ob} {id : Nat} (o : Owns H0 H ((id,.cells 1 (j.map iI) 0)::l)) :
  CallH Tryz.prog B 193 [.buf id n] H (PartK n N H0 l):=by
 refine c193p.go fun _=>?_;refine tt ?_;refine ⟨⟨by omega,by simp only [maxL]; omega⟩,mks_list iI 0 rfl o fun id3 H o=>?_⟩;refine tt ?_
 refine awp_for [0,3,9] (G:=List Int × List Int) (fun i _=>[(10,some (.int .i64 (i : Int)))])
  (fun i G H=>G.1=rootK j n i∧JoinOk n N G.2∧(∀ y r,InR n y→Root j y r→Root G.2 y r)∧Owns H0 H ((id3,.cells 1 (G.1.map iI) 0)::(id,.cells 1 (G.2.map iI) 0)::l)) n (List.replicate n 0,j) ⟨(rootK_zero j n).symm,k,fun y r _ h=>h,o⟩ rfl ?_
 clear o
 rintro i ⟨A,j2⟩ H hi ⟨hA,k2,hp,o⟩;dsimp only at hA k2 o
 have hAl : A.length=n:=by rw [hA]; simp [rootK]
 refine tt ?_;apply bk <;> intro h1
 ·have h1p : i<n:=by have:=of_decide h1; omega
  have w1:=wsucc (k:=i) (by omega)
  have hin : InR n (i : Int):=⟨by omega,by simpa using h1p⟩;refine tt ?_;refine (root_own B k2 (i : Int) hin o.swap).mono ?_;clear o
  rintro r H ⟨a,j3,rfl,k3,hr,_,hp3,o⟩
  have ea : a=rootF j i:=hr.uniq (hp _ _ hin (k.rootE hin));refine tt ?_;refine ⟨h1p, ?_⟩;refine set_own (f:=iI) a o.swap rfl (by rw [hAl]; exact h1p) fun H o=>?_;refine tw w1 ?_;exact for_next (A.set i a,j3) h1p ⟨by rw [hA,ea,rootK_succ j n i h1p],k3,fun y r hy h=>hp3 y r hy (hp y r hy h),o⟩ rfl
 ·have h1p : i=n:=by have:=of_ndecide h1; omega
  refine tt ?_;refine fz_own o (by rw [hAl]) fun H o=>tt ?_;refine (normal_ok B A).go fun _=>tt ?_;refine ⟨H,.refl H,A,rfl,hAl,fun u v hu hv=>?_,o.tl⟩;rw [hA,h1p,rootK_at j n hu,rootK_at j n hv];exact k.rootR u v ⟨by omega,by simpa using hu⟩ ⟨by omega,by simpa using hv⟩
theorem homD_ok (B : Nat) (c : Cat) (s : c.Shape) (x y : Int) : Pur Tryz.prog B 122 [.ptr c.cells,iI x,iI y] (iL (homC c x y)):=by
 refine ⟨fun H0=>c122.go fun _=>?_⟩
 have o : Owns H0 H0 []:=.nil _
 have hm:=s.m
 have htl:=s.tol;refine tt ?_;refine new_list iI o fun id H o=>tt ?_
 refine awp_for [0,1,2,14] (G:=Nat × List Int) (fun k g=>[(7,some (.buf g.1 g.2.length)),(15,some (.int .i64 (k : Int)))])
  (fun k g H=>g.2=homK c x y k∧Owns H0 H [(g.1,.cells 1 (g.2.map iI) 0)]) c.frm.length (id,[]) ⟨rfl,o⟩ rfl ?_
 clear o
 rintro k ⟨id,out⟩ H hk ⟨hout,o⟩;dsimp only at hout o
 have houl : out.length≤k:=by rw [hout]; exact homK_len _ _ _
 refine tt ?_;apply bk <;> intro h1
 ·have h1p : k<c.frm.length:=of_decide h1
  have w1:=wsucc (k:=k) (by omega)
  have h2p : k<c.to.length:=by omega
  refine tt ?_;refine ⟨h1p, ?_⟩
  by_cases e1 : c.frm.getD k default=x
  ·rw [decide_eq_true e1];refine tt ?_;refine ⟨h2p, ?_⟩
   by_cases e2 : c.to.getD k default=y
   ·rw [decide_eq_true e2];refine tt ?_;refine app_own (k : Int) o rfl rfl (by simp only [maxL]; omega) fun z H o=>?_;refine tw w1 ?_;exact for_next (z,out++[(k : Int)]) h1p ⟨by rw [hout,homK_t e1 e2],o⟩ rfl
   ·rw [decide_eq_false e2];refine tw w1 ?_;exact for_next (id,out) h1p ⟨by rw [hout,homK_f fun h=>e2 h.2],o⟩ rfl
  ·rw [decide_eq_false e1];refine tw w1 ?_;exact for_next (id,out) h1p ⟨by rw [hout,homK_f fun h=>e1 h.1],o⟩ rfl
 ·have h1p:=of_ndecide h1
  obtain rfl : k=c.frm.length:=by omega
  refine tt ?_;refine fz_own o rfl fun H o=>tt ?_;exact pure_ret (by rw [hout,homK_full]) o.sub
theorem imapC (a b : List AV) : (AV.imap a b).cells=[.imap a b]:=rfl
theorem imapO (a b : List AV) : ∀ c,c∈[AV.imap a b]→c.one=true:=fun c hc=>by obtain rfl:=List.mem_singleton.mp hc; rfl
def dayB (X Y Z : AV) : List AV:=[X,Y,Z]
noncomputable def dayAt (m : Mo) (f g : SF) (z : Int) : AV:=.ptr [iLL (dayE m f g z),plE (dayE m f g z),iL (clD m f g z)]
noncomputable def dayL (m : Mo) (f g : SF) (z : Int) : AV:=if (dayE m f g z).length≤256 then .tup [dayAt m f g z,.bool true] else .tup [.nilp,.bool false]
theorem dayE_bd {m : Mo} {f g : SF} (D : DayO m f g) (z : Int) : ∀ l,l∈dayE m f g z→l.length=5∧∀ y,y∈l→0≤y∧y<255:=fun l hl=>by
 have E:=mem_dayE.mp hl
 have p:=D.mI.toPre
 have ho:=p.on.1.o
 have hm:=p.on.1.m
 have e1:=D.fz E.x
 have e2:=D.gz E.y
 have h1:=E.x.2
 have h2:=E.y.2
 have h3:=E.h.2
 have h4:=E.h.1
 have h5:=E.x.1
 have h6:=E.y.1
 have h7:=E.e
 have h8:=E.d;refine ⟨by rw [E.ex]; rfl,fun y hy=>?_⟩;rw [E.ex] at hy;simp only [List.mem_cons,List.not_mem_nil,or_false] at hy
 rcases hy with rfl | rfl | rfl | rfl | rfl
 all_goals omega
theorem dayLists_ok (B : Nat) {m : Mo} {f g : SF} (D : DayO m f g) (z : Int) : Pur Tryz.prog B 87 [.ptr m.cells,.ptr f.cells,.ptr g.cells,iI z] (dayL m f g z):=by
 refine ⟨fun H0=>c87p.go fun hf=>?_⟩
 have p:=D.mI.toPre
 have ho:=p.on.1.o
 have hm:=p.on.1.m
 have tl:=p.on.1.tol
 have aR : ∀ {n : Nat},n<m.on.frm.length→m.on.ArR (n : Int):=fun {n} h=>⟨by omega,by simpa using h⟩
 have o : Owns H0 H0 []:=.nil _;refine tt ?_;refine newRef_own o fun id11 H o=>?_
 have o : LsO iL H0 H [(id11,.cells 3 (dayB .nilsl (.imap [] []) .nilsl) 0)] .nilsl (catL (dayX m f g z) 0):=.inl ⟨rfl,by rw [catL_zero],o⟩;refine tt ?_
 refine awp_for [0,1,2,3,10,11,36] (G:=AV × List (List Int)) (fun x G=>[(37,some (.int .i64 (x : Int)))])
  (fun x G H=>(G.2=catL (dayX m f g z) x∧G.2.length≤81920*x)∧LsO iL H0 H [(id11,.cells 3 (dayB G.1 (.imap [] []) .nilsl) 0)] G.1 G.2) m.on.objs.toNat (.nilsl,catL (dayX m f g z) 0) ⟨⟨rfl,by simp [catL_zero]⟩,o⟩ rfl ?_
 clear o
 rintro x ⟨XA,A⟩ H hx ⟨⟨hA,lA⟩,o⟩;dsimp only at hA lA o;refine tt ?_;apply bk <;> intro h1
 rotate_left
 ·have h1p:=of_ndecide h1
  obtain rfl : x=m.on.objs.toNat:=by omega
  refine tt ?_;refine wk_ls (f:=iL) 0 o rfl fun H o=>wkW_done ?_
  have o : Owns H0 H [(id11,.cells 3 (dayB (iLL A) (.imap [] []) .nilsl) 0)]:=o;refine tt ?_
  have hA' : A=dayE m f g z:=hA;refine rd_cells o (by simp [dayB]) ?_
  have e0 : ∀ X : AV,(dayB (iLL A) X .nilsl).getD 0 nv=iLL A:=fun _=>rfl
  have e1 : (dayB (iLL A) (plE A) .nilsl).getD 1 nv=plE A:=rfl;refine tw e0 ?_;apply bk <;> intro h2
  ·have h2p:=of_decide h2;refine tt ?_;exact pure_ret (by rw [dayL,← hA',if_neg (by omega)]) o.sub
  have h2p : A.length≤256:=by have:=of_ndecide h2; omega
  have hbd : ∀ l,l∈A→l.length=5∧∀ y,y∈l→0≤y∧y<255:=by rw [hA']; exact dayE_bd D z
  refine tt ?_;refine rd_cells o (by simp [dayB]) ?_;refine tw e0 ?_;refine (places_ok B A (by omega) fun l hl=>by have:=(hbd l hl).1; omega).go fun _=>?_;refine tw imapC ?_;refine st_cells o (by simp [dayB]) rfl (imapO _ _) fun H o=>?_
  have o : Owns H0 H [(id11,.cells 3 (dayB (iLL A) (plE A) .nilsl) 0)]:=o;refine tt ?_;refine rd_cells o (by simp [dayB]) ?_;refine tw e0 ?_;refine (joinerOf_own B A.length (by omega) o).mono ?_
  rintro r H ⟨idj,rfl,o⟩
  obtain ⟨ψ,hψ⟩ : ∃ ψ : Nat→List (List Int),ψ=fun a=>catL (psB m f g z (fun _ _=>true) a) m.on.frm.length:=⟨_,rfl⟩;refine tt ?_
  refine awp_for [0,1,2,3,10,11,18,129] (G:=List Int × List (List Int)) (fun a G=>[(130,some (.int .i64 (a : Int)))])
   (fun a G H=>(G.2=catL ψ a∧JoinOk A.length (prN G.2) G.1)∧Owns H0 H [(idj,.cells 1 (G.1.map iI) 0),(id11,.cells 3 (dayB (iLL A) (plE A) .nilsl) 0)]) m.on.frm.length (_,[]) ⟨⟨(catL_zero ψ).symm,JoinOk.start _⟩,o⟩ rfl ?_
  clear o
  rintro a ⟨j1,P⟩ H ha ⟨⟨hP,jP⟩,o⟩;dsimp only at hP jP o;refine tt ?_;apply bk <;> intro h3
  rotate_left
  ·have h3p:=of_ndecide h3
   obtain rfl : a=m.on.frm.length:=by omega
   refine tt ?_
   have hPD : P=psD m f g z fun _ _=>true:=by rw [hP,hψ]; rfl
   refine (partition_own B (by omega) jP o).mono ?_
   rintro r H ⟨R,rfl,hRl,hR,o⟩
   have eR : classL R=clD m f g z:=by
    rw [hPD,hA'] at hR;rw [hA'] at hRl;refine classL_congr (by rw [hRl,labs_len]) fun u v hu hv=>?_;rw [hRl] at hu hv;rw [hR u v hu hv,labs_iff (psD_in D _) hu hv]
   rw [eR];refine tt ?_;refine st_cells o (by simp [dayB]) (by (try simp only [go_sem]); (try simp)) (by first | (simp only [go_sem]; done) | ((try simp only [go_sem]); simp [AV.one,one_mL])) fun H o=>?_
   have o : Owns H0 H [(id11,.cells 3 (dayB (iLL A) (plE A) (iL (clD m f g z))) 0)]:=o;refine tt ?_;refine wk_ref 11 o rfl fun H o=>wkW_done ?_;refine tt ?_;exact pure_ret (by rw [dayL,← hA',if_pos h2p]; unfold dayAt; rw [← hA']; rfl) o.sub
  have h3p:=of_decide h3
  have w3:=wsucc (k:=a) (by omega)
  have P0 : P=P++catL (psB m f g z (fun _ _=>true) a) 0:=by rw [catL_zero,List.append_nil]
  refine tt ?_
  refine awp_for [0,1,2,3,10,11,18,19,129,130,137] (G:=List Int × List (List Int)) (fun b G=>[(138,some (.int .i64 (b : Int)))])
   (fun b G H=>(G.2=P++catL (psB m f g z (fun _ _=>true) a) b∧JoinOk A.length (prN G.2) G.1)∧Owns H0 H [(idj,.cells 1 (G.1.map iI) 0),(id11,.cells 3 (dayB (iLL A) (plE A) .nilsl) 0)]) m.on.frm.length (j1,P) ⟨⟨P0,jP⟩,o⟩ rfl ?_
  clear o
  rintro b ⟨j2,C⟩ H hb ⟨⟨hC,jC⟩,o⟩;dsimp only at hC jC o;refine tt ?_;apply bk <;> intro h4
  rotate_left
  ·have h4p:=of_ndecide h4
   obtain rfl : b=m.on.frm.length:=by omega
   refine tw w3 ?_;exact for_next (j2,C) (by omega) ⟨⟨by rw [hC,hP,catL_succ,hψ],jC⟩,o⟩ rfl
  have h4p:=of_decide h4
  have w4:=wsucc (k:=b) (by omega)
  have hAa:=aR h3p
  have hBb:=aR h4p
  have ti:=p.on.1.toI hAa
  have tj:=p.on.1.toI hBb
  have oi:=mo_oI p (p.tO hAa) (p.tO hBb)
  have fx:=D.fz (p.fO hAa)
  have gy:=D.gz (p.fO hBb)
  have ai:=mo_aI p hAa hBb
  have ab:=p.aA hAa hBb
  have fI : f.shape.ArR (a : Int):=by rw [D.fs]; exact hAa
  have gI : g.shape.ArR (b : Int):=by rw [D.gs]; exact hBb
  have fal:=(arAc D.fI.1 fI).2
  have gal:=(arAc D.gI.1 gI).2
  have fa:=act_map D.fI.1 fI
  have ga:=act_map D.gI.1 gI
  have fl:=fa.len
  have gl:=ga.len
  obtain ⟨n,hn⟩ : ∃ n : Nat,ix f.sizes (ix m.on.frm (a : Int))=n:=⟨_,(Int.toNat_of_nonneg fx.2.1).symm⟩
  obtain ⟨k,hk⟩ : ∃ k : Nat,ix g.sizes (ix m.on.frm (b : Int))=k:=⟨_,(Int.toNat_of_nonneg gy.2.1).symm⟩;rw [D.fs,hn,Int.toNat_natCast] at fl;rw [D.gs,hk,Int.toNat_natCast] at gl
  have n16 : n≤16:=by have:=fx.2.2; omega
  have k16 : k≤16:=by have:=gy.2.2; omega
  refine tt ?_;refine ⟨ti.2,oi.1,tj.2,oi.2,_,(homD_ok B m.on p.on.1 _ _).run, ?_⟩
  obtain ⟨L,hL⟩ : ∃ L,homC m.on (ix (ix m.ob (m.on.to.getD a default)) (m.on.to.getD b default)) z=L:=⟨_,rfl⟩
  have eL : homC m.on (m.o (ix m.on.to (a : Int)) (ix m.on.to (b : Int))) z=L:=by simp only [Mo.o,ix_nat]; exact hL
  have lL : L.length≤40:=by rw [← eL]; exact homC_len p.on.1 _ _
  have hLm : ∀ v,v∈L→m.on.ArR v∧ix m.on.frm v=m.o (ix m.on.to (a : Int)) (ix m.on.to (b : Int))∧ix m.on.to v=z:=fun v hv=>by rw [← eL] at hv; exact homC_mem.mp hv
  rw [hL]
  have C0 : C=C++(L.take 0).flatMap (psH m f g z a b):=by simp
  refine tt ?_
  refine awp_for [0,1,2,3,10,11,18,19,20,129,130,137,138,165,166] (G:=List Int × List (List Int)) (fun i G=>[(167,some (.int .i64 (i : Int)))])
   (fun i G H=>(G.2=C++(L.take i).flatMap (psH m f g z a b)∧JoinOk A.length (prN G.2) G.1)∧Owns H0 H [(idj,.cells 1 (G.1.map iI) 0),(id11,.cells 3 (dayB (iLL A) (plE A) .nilsl) 0)]) L.length (j2,C) ⟨⟨C0,jC⟩,o⟩ rfl ?_
  clear o
  rintro i ⟨j3,E⟩ H hi ⟨⟨hE,jE⟩,o⟩;dsimp only at hE jE o;refine tt ?_;apply bk <;> intro h5
  rotate_left
  ·have h5p:=of_ndecide h5
   obtain rfl : i=L.length:=by omega
   refine tw w4 ?_;exact for_next (j3,E) (by omega) ⟨⟨by rw [hE,hC,catL_succ,List.take_length,List.append_assoc,psB,cond_true,eL],jE⟩,o⟩ rfl
  have h5p:=of_decide h5
  have h5q : i<L.length:=by omega
  have w5:=wsucc (k:=i) (by omega)
  obtain ⟨h,hh⟩ : ∃ h,L.getD i default=h:=⟨_,rfl⟩
  have hhm:=hLm h (by rw [← hh]; exact mem_getD.mpr ⟨i,h5q,rfl⟩)
  obtain ⟨φ,hφ⟩ : ∃ φ : Nat→List (List Int),φ=fun e : Nat=>(List.range k).map fun d : Nat=>[posD m f g z (dayS m a b h e d),posD m f g z (dayT m f g a b h e d)]:=⟨_,rfl⟩
  have eH : psH m f g z a b h=catL φ n:=by rw [psH,hn,hk,hφ,Int.toNat_natCast,Int.toNat_natCast]
  have E0 : E=E++catL φ 0:=by rw [catL_zero,List.append_nil]
  refine tt ?_;rw [hh];refine ⟨h5q,fal,tt ?_⟩
  have fl' : (f.acts.getD a default).length=n:=by rw [ix_nat] at fl; exact fl
  have gl' : (g.acts.getD b default).length=k:=by rw [ix_nat] at gl; exact gl
  rw [fl']
  refine awp_for [0,1,2,3,10,11,18,19,20,22,129,130,137,138,165,166,167,177,178] (G:=List Int × List (List Int)) (fun e G=>[(179,some (.int .i64 (e : Int)))])
   (fun e G H=>(G.2=E++catL φ e∧JoinOk A.length (prN G.2) G.1)∧Owns H0 H [(idj,.cells 1 (G.1.map iI) 0),(id11,.cells 3 (dayB (iLL A) (plE A) .nilsl) 0)]) n (j3,E) ⟨⟨E0,jE⟩,o⟩ rfl ?_
  clear o
  rintro e ⟨j4,F⟩ H he ⟨⟨hF,jF⟩,o⟩;dsimp only at hF jF o;refine tt ?_;apply bk <;> intro h6
  rotate_left
  ·have h6p:=of_ndecide h6
   obtain rfl : e=n:=by omega
   refine tw w5 ?_;exact for_next (j4,F) (by omega) ⟨⟨by rw [hF,hE,take_flat _ _ h5q,hh,eH,List.append_assoc],jF⟩,o⟩ rfl
  have h6p:=of_decide h6
  have w6:=wsucc (k:=e) (by omega)
  have F0 : F=F++(List.range 0).map fun d : Nat=>[posD m f g z (dayS m a b h e d),posD m f g z (dayT m f g a b h e d)]:=by simp
  refine tt ?_;refine ⟨by rw [fl']; omega,gal,tt ?_⟩;rw [gl']
  refine awp_for [0,1,2,3,10,11,18,19,20,22,23,24,129,130,137,138,165,166,167,177,178,179,190,191] (G:=List Int × List (List Int)) (fun d G=>[(192,some (.int .i64 (d : Int)))])
   (fun d G H=>(G.2=F++((List.range d).map fun d : Nat=>[posD m f g z (dayS m a b h e d),posD m f g z (dayT m f g a b h e d)])∧JoinOk A.length (prN G.2) G.1)∧Owns H0 H [(idj,.cells 1 (G.1.map iI) 0),(id11,.cells 3 (dayB (iLL A) (plE A) .nilsl) 0)]) k (j4,F) ⟨⟨F0,jF⟩,o⟩ rfl ?_
  clear o
  rintro d ⟨j5,J⟩ H hd ⟨⟨hJ,jJ⟩,o⟩;dsimp only at hJ jJ o;refine tt ?_;apply bk <;> intro h7
  rotate_left
  ·have h7p:=of_ndecide h7
   obtain rfl : d=k:=by omega
   refine tw w6 ?_;exact for_next (j5,J) (by omega) ⟨⟨by rw [hJ,hF,catL_succ,hφ,List.append_assoc],jJ⟩,o⟩ rfl
  have h7p:=of_decide h7
  have w7:=wsucc (k:=d) (by omega)
  have ab' : m.on.ArR ((m.ar.getD a default).getD b default):=by
   have:=ab;simp only [Mo.a,ix_nat] at this;exact this
  have X : DayA m f g z a b h e d:=⟨hAa,hBb,hhm.1,hhm.2.1,hhm.2.2,⟨by omega,by omega⟩,by omega,by omega⟩
  have ES:=X.entS D
  have ET:=X.entT D;refine tt ?_;refine ⟨by rw [gl']; omega,tt ?_⟩
  have e1' : (dayB (iLL A) (plE A) .nilsl).getD 1 nv=.imap (plS A A.length).1 (plS A A.length).2:=rfl
  have nd : A.Nodup:=by rw [hA']; exact dayE_nodup m f g z
  have hb2 : ∀ l,l∈A→∀ y,y∈l→0≤y∧y<255:=fun l hl=>(hbd l hl).2
  have mS : dayS m a b h e d∈A:=by rw [hA']; exact mem_dayE.mpr ES
  have mT : dayT m f g a b h e d∈A:=by rw [hA']; exact mem_dayE.mpr ET
  have kl : ∀ l,l∈A→(keyB [l]).length≤1000000:=fun l hl=>by simp [keyB,(hbd l hl).1]
  refine ⟨h3p,h4p,ai.1.2,ai.2.2,_,(iThen_t B p.on.1 ab' hhm.1).run,by simp [AV.cells,AV.one], ?_⟩;refine rd_get (o.get (id11,.cells 3 (dayB (iLL A) (plE A) .nilsl) 0) (by simp)) (by simp [dayB]) ?_;try simp only [go_sem,↓reduceIte,reduceEqDiff,reduceAdd,reduceMul,reduceLeDiff,reduceLT,e1']
  refine ⟨_,(key_ok B [dayS m a b h e d] (kl _ mS)).run, ?_⟩;refine ⟨okKey_plS A _ _, ?_⟩;rw [plS_get nd hb2 mS];refine rd_get (o.get (id11,.cells 3 (dayB (iLL A) (plE A) .nilsl) 0) (by simp)) (by simp [dayB]) ?_;try simp only [go_sem,↓reduceIte,reduceEqDiff,reduceAdd,reduceMul,reduceLeDiff,reduceLT,e1']
  refine ⟨ti.2,tj.2, ?_⟩;refine ⟨_,(key_ok B [dayT m f g a b h e d] (kl _ mT)).run,okKey_plS A _ _, ?_⟩;rw [plS_get nd hb2 mT]
  have iS : InR A.length (posD m f g z (dayS m a b h e d)):=by have:=pos_in ES; rw [hA']; exact ⟨this.1,this.2.1⟩
  have iT : InR A.length (posD m f g z (dayT m f g a b h e d)):=by have:=pos_in ET; rw [hA']; exact ⟨this.1,this.2.1⟩
  have eS : indexOf A (dayS m a b h e d)=posD m f g z (dayS m a b h e d):=by rw [hA']; rfl
  have eT : indexOf A (dayT m f g a b h e d)=posD m f g z (dayT m f g a b h e d):=by rw [hA']; rfl
  rw [eS,eT];refine (join_own B jJ _ _ iS iT o).mono ?_
  rintro r H ⟨bb,j6,rfl,j6k,o⟩;refine tw w7 ?_;exact for_next (j6,J++[[posD m f g z (dayS m a b h e d),posD m f g z (dayT m f g a b h e d)]]) (by omega) ⟨⟨by rw [hJ,List.range_succ,List.map_append,List.append_assoc]; rfl,by rw [prN,List.map_append]; exact j6k⟩,o⟩ rfl
 have h1p:=of_decide h1
 have w1:=wsucc (k:=x) (by omega)
 have hxO : m.on.ObR x:=⟨by omega,by omega⟩
 have fx:=D.fz hxO
 have A0 : A=A++catL (dayY m f g z x) 0:=by rw [catL_zero,List.append_nil]
 refine tt ?_
 refine awp_for [0,1,2,3,10,11,12,36,37,43] (G:=AV × List (List Int)) (fun y G=>[(44,some (.int .i64 (y : Int)))])
  (fun y G H=>(G.2=A++catL (dayY m f g z x) y∧G.2.length≤81920*x+10240*y)∧LsO iL H0 H [(id11,.cells 3 (dayB G.1 (.imap [] []) .nilsl) 0)] G.1 G.2) m.on.objs.toNat (XA,A) ⟨⟨A0,by simpa using lA⟩,o⟩ rfl ?_
 clear o
 rintro y ⟨XC,C⟩ H hy ⟨⟨hC,lC⟩,o⟩;dsimp only at hC lC o;refine tt ?_;apply bk <;> intro h2
 rotate_left
 ·have h2p:=of_ndecide h2
  obtain rfl : y=m.on.objs.toNat:=by omega
  refine tw w1 ?_;exact for_next (XC,C) (by omega) ⟨⟨by rw [hC,hA,catL_succ]; rfl,by simp only; omega⟩,o⟩ rfl
 have h2p:=of_decide h2
 have w2:=wsucc (k:=y) (by omega)
 have hyO : m.on.ObR y:=⟨by omega,by omega⟩
 have gy:=D.gz hyO
 have oi:=mo_oI p hxO hyO;refine tt ?_;refine ⟨oi.1.2,oi.2.2,(homD_ok B m.on p.on.1 _ _).go fun _=>?_⟩
 obtain ⟨L,hL⟩ : ∃ L,homC m.on ((m.ob.getD x default).getD y default) z=L:=⟨_,rfl⟩
 have eL : homC m.on (m.o x y) z=L:=by simp only [Mo.o,ix_nat]; exact hL
 have lL : L.length≤40:=by rw [← eL]; exact homC_len p.on.1 _ _
 rw [hL]
 have C0 : C=C++(L.take 0).flatMap (dayH f g x y):=by simp
 refine tt ?_
 refine awp_for [0,1,2,3,10,11,12,13,36,37,43,44,59,60] (G:=AV × List (List Int)) (fun i G=>[(61,some (.int .i64 (i : Int)))])
  (fun i G H=>(G.2=C++(L.take i).flatMap (dayH f g x y)∧G.2.length≤81920*x+10240*y+256*i)∧LsO iL H0 H [(id11,.cells 3 (dayB G.1 (.imap [] []) .nilsl) 0)] G.1 G.2) L.length (XC,C) ⟨⟨C0,by simpa using lC⟩,o⟩ rfl ?_
 clear o
 rintro i ⟨XE,E⟩ H hi ⟨⟨hE,lE⟩,o⟩;dsimp only at hE lE o;refine tt ?_;apply bk <;> intro h3
 rotate_left
 ·have h3p:=of_ndecide h3
  obtain rfl : i=L.length:=by omega
  refine tw w2 ?_;exact for_next (XE,E) (by omega) ⟨⟨by rw [hE,hC,catL_succ,List.take_length,List.append_assoc,dayY,eL],by simp only; omega⟩,o⟩ rfl
 have h3p:=of_decide h3
 have h3q : i<L.length:=by omega
 have w3:=wsucc (k:=i) (by omega)
 obtain ⟨h,hh⟩ : ∃ h,L.getD i default=h:=⟨_,rfl⟩
 obtain ⟨n,hn⟩ : ∃ n : Nat,ix f.sizes (x : Int)=n:=⟨_,(Int.toNat_of_nonneg fx.2.1).symm⟩
 obtain ⟨k,hk⟩ : ∃ k : Nat,ix g.sizes (y : Int)=k:=⟨_,(Int.toNat_of_nonneg gy.2.1).symm⟩
 have n16 : n≤16:=by have:=fx.2.2; omega
 have k16 : k≤16:=by have:=gy.2.2; omega
 have en : f.sizes.getD x default=(n : Int):=by rw [← hn,ix_nat]
 have ek : g.sizes.getD y default=(k : Int):=by rw [← hk,ix_nat]
 obtain ⟨φ,hφ⟩ : ∃ φ : Nat→List (List Int),φ=fun e : Nat=>(List.range k).map fun d : Nat=>[(x : Int),(y : Int),h,(e : Int),(d : Int)]:=⟨_,rfl⟩
 have eH : dayH f g x y h=catL φ n:=by rw [dayH,hn,hk,hφ,Int.toNat_natCast,Int.toNat_natCast]
 have E0 : E=E++catL φ 0:=by rw [catL_zero,List.append_nil]
 refine tt ?_;rw [hh];refine ⟨h3q,fx.1.2, ?_⟩;rw [en];refine tt ?_
 refine awp_for [0,1,2,3,10,11,12,13,15,36,37,43,44,59,60,61,71] (G:=AV × List (List Int)) (fun e G=>[(72,some (.int .i64 (e : Int)))])
  (fun e G H=>(G.2=E++catL φ e∧G.2.length≤81920*x+10240*y+256*i+16*e)∧LsO iL H0 H [(id11,.cells 3 (dayB G.1 (.imap [] []) .nilsl) 0)] G.1 G.2) n (XE,E) ⟨⟨E0,by simpa using lE⟩,o⟩ rfl ?_
 clear o
 rintro e ⟨XF,F⟩ H he ⟨⟨hF,lF⟩,o⟩;dsimp only at hF lF o;refine tt ?_;apply bk <;> intro h4
 rotate_left
 ·have h4p:=of_ndecide h4
  obtain rfl : e=n:=by omega
  refine tw w3 ?_;exact for_next (XF,F) (by omega) ⟨⟨by rw [hF,hE,take_flat _ _ h3q,hh,eH,List.append_assoc],by simp only; omega⟩,o⟩ rfl
 have h4p:=of_decide h4
 have w4:=wsucc (k:=e) (by omega)
 have F0 : F=F++(List.range 0).map fun d : Nat=>[(x : Int),(y : Int),h,(e : Int),(d : Int)]:=by simp
 refine tt ?_;refine ⟨gy.1.2, ?_⟩;rw [ek];refine tt ?_
 refine awp_for [0,1,2,3,10,11,12,13,15,16,36,37,43,44,59,60,61,71,72,81] (G:=AV × List (List Int)) (fun d G=>[(82,some (.int .i64 (d : Int)))])
  (fun d G H=>(G.2=F++((List.range d).map fun d : Nat=>[(x : Int),(y : Int),h,(e : Int),(d : Int)])∧G.2.length≤81920*x+10240*y+256*i+16*e+d)∧LsO iL H0 H [(id11,.cells 3 (dayB G.1 (.imap [] []) .nilsl) 0)] G.1 G.2) k (XF,F) ⟨⟨F0,by simpa using lF⟩,o⟩ rfl ?_
 clear o
 rintro d ⟨XJ,J⟩ H hd ⟨⟨hJ,lJ⟩,o⟩;dsimp only at hJ lJ o;refine tt ?_;apply bk <;> intro h5
 rotate_left
 ·have h5p:=of_ndecide h5
  obtain rfl : d=k:=by omega
  refine tw w4 ?_;exact for_next (XJ,J) (by omega) ⟨⟨by rw [hJ,hF,catL_succ,hφ,List.append_assoc],by simp only; omega⟩,o⟩ rfl
 have h5p:=of_decide h5
 have w5:=wsucc (k:=d) (by omega);refine tt ?_;refine rd_get o.obj (by simp [dayB]) ?_
 have e0 : (dayB XJ (.imap [] []) .nilsl).getD 0 nv=XJ:=rfl;refine tw e0 ?_;refine o.app (f:=iL) [(x : Int),(y : Int),h,(e : Int),(d : Int)] rfl (by simp only [maxL]; omega) fun idE H o=>tt ?_;refine st_cells o.swap (by simp [dayB]) rfl (fun c hc=>by obtain rfl:=List.mem_singleton.mp hc; rfl) fun H o=>?_;refine tw w5 ?_;exact for_next (.buf idE (J++[[(x : Int),(y : Int),h,(e : Int),(d : Int)]]).length,J++[[(x : Int),(y : Int),h,(e : Int),(d : Int)]]) (by omega) ⟨⟨by rw [hJ,List.range_succ,List.map_append,List.append_assoc]; rfl,by simp only [List.length_append,List.length_singleton]; omega⟩,.inr ⟨idE,rfl,o.swap⟩⟩ rfl
end Go.Proofs.Shf
namespace Go.Shf
open Go.AW
theorem indexOf_min {l : List Int} {c : Int} {i j : Nat} (h : indexOf l c=j) (hi : i<j) : l.getD i default≠c:=by
 unfold indexOf at h
 split at h
 ·rename_i k hk
  rw [List.idxOf?_eq_some_iff] at hk
  obtain ⟨h1,h2,h3⟩:=hk
  have : k=j:=by omega
  subst this
  have:=h3 i hi
  intro e;rw [List.getD_eq_getElem?_getD,List.getElem?_eq_getElem (by omega)] at e;exact absurd e (by simpa using this)
 ·omega
def rowK (m : Mo) (f g : SF) (k : Int) (i : Nat) : List Int:=(List.range (szD m f g (ix m.on.frm k)).toNat).map fun c : Nat=>if indexOf (clD m f g (ix m.on.frm k)) (c : Int)<(i : Int) then ix (dayR m f g k) c else 0
theorem first_le {l : List Int} {c : Int} {i : Nat} (hi : i<l.length) (e : l.getD i default=c) : indexOf l c≤(i : Int):=by
 have q:=indexOf_in (mem_getD.mpr ⟨i,hi,e⟩ : c∈l)
 rcases Int.lt_or_le (i : Int) (indexOf l c) with h | h
 ·obtain ⟨j,hj⟩ : ∃ j : Nat,indexOf l c=j:=⟨_,(Int.toNat_of_nonneg q.1).symm⟩;exact absurd e (indexOf_min hj (by omega))
 ·exact h
section
variable {m : Mo} {f g : SF} {k : Int}
theorem rowK_len (i : Nat) : (rowK m f g k i).length=(szD m f g (ix m.on.frm k)).toNat:=by simp [rowK]
theorem cls_in {z : Int} {c : Nat} (hc : c<(szD m f g z).toNat) : 0≤indexOf (clD m f g z) (c : Int)∧(indexOf (clD m f g z) (c : Int)).toNat<(dayE m f g z).length:=by
 have hm : (c : Int)∈clD m f g z:=joinL_cont _ _ c (by omega) (by show (c : Int)<szD m f g z; omega)
 have q:=indexOf_in hm;rw [clD_len] at q;exact ⟨q.1,q.2.1⟩
theorem rowK_zero : rowK m f g k 0=List.replicate (szD m f g (ix m.on.frm k)).toNat 0:=by
 refine List.ext_getElem (by simp [rowK]) fun c h1 h2=>?_
 have hc : c<(szD m f g (ix m.on.frm k)).toNat:=by simpa [rowK] using h1
 have:=(cls_in hc).1;simp only [rowK,List.getElem_map,List.getElem_range,List.getElem_replicate];rw [if_neg (by omega)]
theorem rowK_full : rowK m f g k (dayE m f g (ix m.on.frm k)).length=dayR m f g k:=by
 refine List.ext_getElem (by simp [rowK,dayR]) fun c h1 h2=>?_
 have hc : c<(szD m f g (ix m.on.frm k)).toNat:=by simpa [rowK] using h1
 have q:=cls_in hc;simp only [rowK,List.getElem_map,List.getElem_range];rw [if_pos (by omega),ix_nat,List.getD_eq_getElem?_getD,List.getElem?_eq_getElem h2]; rfl
theorem cls_i {z : Int} {i : Nat} (hi : i<(dayE m f g z).length) : (clD m f g z).getD i default=clE m f g z ((dayE m f g z).getD i default):=by
 have p:=pos_at (m:=m) (f:=f) (g:=g) (z:=z) hi;rw [clE,p.2,ix_nat]
theorem rowK_succ {i : Nat} (hi : i<(dayE m f g (ix m.on.frm k)).length) :
  (rowK m f g k i).set ((clD m f g (ix m.on.frm k)).getD i default).toNat (ix (dayR m f g k) ((clD m f g (ix m.on.frm k)).getD i default))=rowK m f g k (i+1):=by
 have e:=cls_i (m:=m) (f:=f) (g:=g) hi
 have r:=cl_ran (pos_at (m:=m) (f:=f) (g:=g) hi).1;rw [← e] at r;refine List.ext_getElem (by simp [rowK]) fun c h1 h2=>?_
 have hc : c<(szD m f g (ix m.on.frm k)).toNat:=by simpa [rowK] using h2
 simp only [rowK,List.getElem_set,List.getElem_map,List.getElem_range]
 by_cases ec : ((clD m f g (ix m.on.frm k)).getD i default).toNat=c
 ·rw [if_pos ec]
  have ec' : (clD m f g (ix m.on.frm k)).getD i default=(c : Int):=by omega
  have:=first_le (l:=clD m f g (ix m.on.frm k)) (by rw [clD_len]; exact hi) ec';rw [if_pos (by omega),ec']
 ·rw [if_neg ec]
  have hne : indexOf (clD m f g (ix m.on.frm k)) (c : Int)≠(i : Int):=fun h=>by
   have hm : (c : Int)∈clD m f g (ix m.on.frm k):=joinL_cont _ _ c (by omega) (by show (c : Int)<szD m f g _; omega)
   have q:=(indexOf_in hm).2.2;rw [h,ix_nat] at q;omega
  by_cases h : indexOf (clD m f g (ix m.on.frm k)) (c : Int)<(i : Int)
  ·rw [if_pos h,if_pos (by omega)]
  ·rw [if_neg h,if_neg (by omega)]
end
def FewD (m : Mo) (f g : SF) : Prop:=∀ z : Nat,z<m.on.objs.toNat→(dayE m f g z).length≤256∧szD m f g z≤16
def zSF' : SF:=⟨⟨0,[],[],[],[]⟩,[],[]⟩
noncomputable def codeDay (m : Mo) (f g : SF) : Int:=open Classical in if m.Is∧f.Is∧g.Is then (if f.shape=m.on∧g.shape=m.on then (if FewD m f g then 0 else 3) else 5) else 1
theorem codeDay_z {m : Mo} {f g : SF} (h : codeDay m f g=0) : DayO m f g∧FewD m f g:=by
 unfold codeDay at h
 split at h
 ·rename_i h1
  split at h
  ·rename_i h2
   split at h
   ·rename_i h3; exact ⟨⟨h1.1,h1.2.1,h1.2.2,h2.1,h2.2⟩,h3⟩
   ·omega
  ·omega
 ·omega
noncomputable def dayRes (m : Mo) (f g : SF) : AV:=open Classical in .tup [.agg (if codeDay m f g=0 then (dayF m f g).cells else zSF'.cells),iI (codeDay m f g)]
end Go.Shf
namespace Go.Proofs.Shf
open Go.AW Go.Proofs Go.Shf
end Go.Proofs.Shf
