/- A part of a proof. -/
import Derived.Test.YtnpimpkmgmnhhaaGreatF14
import Derived.Deep.Slices
import Derived.SizedLaws
set_option linter.unusedVariables false
set_option linter.unusedSimpArgs false
set_option linter.unusedSectionVars false
set_option maxRecDepth 100000
open Nat (reduceEqDiff reduceAdd reduceMul reduceLeDiff reduceLT)
namespace Go.Proofs.Shf
open Go.AW Go.Proofs Go.Shf
theorem same29_ok (B : Nat) (a b : List (List Int)) : Pur Tryz.prog B 160 [iLL a,iLL b] (.bool (dec (a=b))):=by
 refine ⟨fun H0=>c160 (by simp) fun ⟨hf,hg,_⟩=>?_⟩
 have hl:=fine_mL_le hf
 have hl2:=fine_mL_le hg;simp only [maxL] at hl hl2;unfold s160;refine tt ?_;apply bk <;> intro h0
 ·refine tt ?_
  have h0p : a.length≠b.length:=by simpa using h0
  exact pure_ret (by rw [dec_f]; rintro rfl; exact h0p rfl) (.refl _)
 have h0p : a.length=b.length:=by simpa using h0
 refine tt ?_;refine awp_for [0,1] (fun k _=>[(5,some (.int .i64 (k : Int)))]) (fun k _ H=>H=H0∧∀ i,i<k→a.getD i default=b.getD i default) a.length () ⟨rfl,by simp⟩ rfl ?_
 rintro k _ H hk ⟨rfl,hall⟩;refine tt ?_;apply bk <;> intro h1
 ·have h1:=of_decide h1
  have w1:=wsucc (k:=k) (by omega);refine tt ?_;refine ⟨h1,by omega, ?_⟩;refine ⟨_,(likeInts_ok B (a.getD k default) (b.getD k default)).run, ?_⟩
  by_cases h2 : a.getD k default=b.getD k default
  ·rw [dec_t h2];refine tw w1 ?_;exact for_next () (by omega) ⟨rfl,lt_succ_all hall h2⟩ rfl
  ·rw [dec_f h2];refine tt ?_;exact pure_ret (by rw [dec_f]; rintro rfl; exact h2 rfl) (.refl _)
 ·refine tt ?_
  have h1:=of_ndecide h1;refine pure_ret ?_ (.refl _);rw [dec_t];refine List.ext_getElem h0p fun i hi hj=>?_
  have:=hall i (by omega)
  simpa [List.getD_eq_getElem?_getD,hi,hj] using this
theorem sameCat9_ok (B : Nat) (a b : Cat) : Pur Tryz.prog B 82 [.agg a.cells,.agg b.cells] (.bool (dec (a=b))):=by
 refine ⟨fun H0=>c82 (by simp) fun _=>?_⟩;unfold s82
 obtain ⟨o1,f1,t1,i1,c1⟩:=a
 obtain ⟨o2,f2,t2,i2,c2⟩:=b;refine tt ?_;apply bk <;> intro h1
 rotate_left 1
 ·refine tw h1 ?_
  have h1p:=of_ndecide h1;exact pure_ret (by rw [dec_f]; intro e; injection e with e1; exact h1p e1) (.refl _)
 have h1p : o1=o2:=of_decide h1;subst h1p;refine td ?_;refine (likeInts_ok B f1 f2).go fun _=>?_
 by_cases h2 : f1=f2
 rotate_left 1
 ·rw [dec_f h2];refine tt ?_;exact pure_ret (by rw [dec_f]; intro e; injection e with _ e1; exact h2 e1) (.refl _)
 subst h2;rw [dec_t rfl];refine tt ?_;refine (likeInts_ok B t1 t2).go fun _=>?_
 by_cases h3 : t1=t2
 rotate_left 1
 ·rw [dec_f h3];refine tt ?_;exact pure_ret (by rw [dec_f]; intro e; injection e with _ _ e1; exact h3 e1) (.refl _)
 subst h3;rw [dec_t rfl];refine tt ?_;refine (likeInts_ok B i1 i2).go fun _=>?_
 by_cases h4 : i1=i2
 rotate_left 1
 ·rw [dec_f h4];refine tt ?_;exact pure_ret (by rw [dec_f]; intro e; injection e with _ _ _ e1; exact h4 e1) (.refl _)
 subst h4;rw [dec_t rfl];refine tt ?_;refine (same29_ok B c1 c2).go fun _=>tt ?_;exact pure_ret (by congr 1; exact dec_congr ⟨fun e=>by rw [e],fun e=>by injection e⟩) (.refl _)
theorem sameFun9_ok (B : Nat) (a b : FU) : Pur Tryz.prog B 22 [.agg a.cells,.agg b.cells] (.bool (dec (a=b))):=by
 refine ⟨fun H0=>c22 (by simp) fun _=>?_⟩;unfold s22
 obtain ⟨c1,d1,z1,a1⟩:=a
 obtain ⟨c2,d2,z2,a2⟩:=b
 have q1:=sameCat9_ok B c1 c2
 have q2:=sameCat9_ok B d1 d2;refine tt ?_;refine q1.go fun _=>?_
 by_cases h2 : c1=c2
 rotate_left 1
 ·rw [dec_f h2];refine tt ?_;exact pure_ret (by rw [dec_f]; intro e; injection e with e1; exact h2 e1) (.refl _)
 subst h2;rw [dec_t rfl];refine tt ?_;refine q2.go fun _=>?_
 by_cases h5 : d1=d2
 rotate_left 1
 ·rw [dec_f h5];refine tt ?_;exact pure_ret (by rw [dec_f]; intro e; injection e with _ e1; exact h5 e1) (.refl _)
 subst h5;rw [dec_t rfl];refine tt ?_;refine (likeInts_ok B z1 z2).go fun _=>?_
 by_cases h3 : z1=z2
 rotate_left 1
 ·rw [dec_f h3];refine tt ?_;exact pure_ret (by rw [dec_f]; intro e; injection e with _ _ e1; exact h3 e1) (.refl _)
 subst h3;rw [dec_t rfl];refine tt ?_;refine (likeInts_ok B a1 a2).go fun _=>tt ?_;exact pure_ret (by congr 1; exact dec_congr ⟨fun e=>by rw [e],fun e=>by injection e⟩) (.refl _)
theorem thenFuI (B : Nat) {k g : FU} (hk : k.Is) (hg : g.Is) (e : k.tgt=g.src) : Pur Tryz.prog B 72 [.ptr k.cells,.ptr g.cells] (.agg (k.thn g).cells):=by
 have h1:=hg.fit.ol
 have h2:=hg.fit.al;refine thenFu_ok B k g (fun y hy=>?_) fun y hy=>?_
 ·have:=hk.fit.obr y hy;rw [e] at this;omega
 ·have:=hk.fit.arr y hy;rw [e] at this;omega
theorem behI_ok (B : Nat) {k g : FU} (hk : k.Is) (hg : g.Is) (e : k.tgt=g.src) : Pur Tryz.prog B 71 [.ptr k.cells,.ptr g.cells] (.agg (k.thn g).cells):=by
 refine ⟨fun H0=>c71 (by simp) fun _=>?_⟩;unfold s71
 have o : Owns H0 H0 []:=.nil _
 have q:=thenFuI B hk hg e;refine tt ?_;refine nb o fun i3 H o=>tt ?_;refine q.go fun _=>tt ?_;refine sw o fun H o=>tt ?_;rw [o.rc 12 0 (by simp)];exact pure_ret rfl o.sub
theorem behC_ok (B : Nat) (t : List Int) (g : FU) (h : ∀ y,y∈t→0≤y∧y.toNat<g.ar.length) : Pur Tryz.prog B 73 [iL t,.ptr g.cells] (iL (thenL t g.ar)):=by
 refine ⟨fun H0=>c73 (by simp) fun _=>?_⟩;unfold s73
 have q:=then_ok B t g.ar h;refine tt ?_;refine q.go fun _=>tt ?_;exact pure_ret rfl (.refl _)
theorem betwP_ok (B : Nat) {n1 n2 : Nat} {ca1 ca2 : List AV} {c d c' e : Cat} {Fs Gs : List FU} {im : FU→FU} {cm : List Int→List Int} (h : BetH c d c' e Fs Gs im cm)
  (hFl : Fs.length≤8) (hAl : (arrN Fs).length≤40) (hGl : Gs.length≤8) (hne : Gs.Pairwise FuNe) (hs : SmallF Gs) (hl : ∀ k,k∈Gs→k.ob.length≤1000∧k.ar.length≤1000) (hA : SmallL (arrN Gs)) (hc : 0≤c.objs)
  (hI : ∀ i,i<Fs.length→Pur Tryz.prog B n1 (.ptr (Fs.getD i default).cells::ca1) (.agg (im (Fs.getD i default)).cells))
  (hC : ∀ i j t,i<Fs.length→j<Fs.length→NatF (Fs.getD i default) (Fs.getD j default) t→Pur Tryz.prog B n2 (iL t::ca2) (iL (cm t))) :
  Pur Tryz.prog B 70 [.ptr (fcC d Fs),.ptr (fcC e Gs),.fn (.func n1) ca1,.fn (.func n2) ca2] (.agg (betw d e Fs Gs im cm).cells):=by
 refine ⟨fun H0=>c70p (by simp) fun _=>?_⟩;unfold s70p
 have o : Owns H0 H0 []:=.nil _;refine tt ?_;refine nb o fun i8 H o=>tt ?_;refine new_list iI o fun i15 H o=>tt ?_;refine new_list iI o fun i16 H o=>?_
 have o : Owns H0 H ((i15,.cells 1 (([] : List Int).map iI) 0)::(i16,.cells 1 (([] : List Int).map iI) 0)::[(i8,.cells 12 z12 0)]):=o.swap;refine tt ?_
 have hobj : ∀ k : Nat,k<Fs.length→im (Fs.getD k default)∈Gs:=h.mem
 have hAm : ∀ s,s∈arrN Fs→∃ (i j : Nat) (t : List Int),i<Fs.length∧j<Fs.length∧s=(i : Int)::(j : Int)::t∧NatF (Fs.getD i default) (Fs.getD j default) t:=fun s h1=>arr_look (n:=c.objs) hc (fun i hi=>by rw [(h.hF.f i hi).2.1]) h1;refine awp_for [0,1,2,3,8,10,21] (G:=Nat) (fun i b=>[(9,some (.buf b i)),(22,some (.int .i64 (i : Int)))]) (fun i b H=>Owns H0 H ((b,.cells 1 (((Fs.take i).map fun k=>((posF Gs (im k) : Nat) : Int)).map iI) 0)::(i16,.cells 1 (([] : List Int).map iI) 0)::[(i8,.cells 12 z12 0)])) Fs.length i15 o rfl ?_;clear o
 rintro i b H hi o
 replace o : Owns H0 H ((b,.cells 1 (((Fs.take i).map fun k=>((posF Gs (im k) : Nat) : Int)).map iI) 0)::(i16,.cells 1 (([] : List Int).map iI) 0)::[(i8,.cells 12 z12 0)]):=o
 have hl1 : ((Fs.take i).map fun k=>((posF Gs (im k) : Nat) : Int)).length=i:=by rw [List.length_map,List.length_take]; omega
 refine tt ?_
 by_cases c1p : i<Fs.length
 ·rw [decide_eq_true c1p]
  have v1:=wsucc (k:=i) (by omega)
  have ht1 : ((Fs.take (i+1)).map fun k=>((posF Gs (im k) : Nat) : Int))=((Fs.take i).map fun k=>((posF Gs (im k) : Nat) : Int))++[((posF Gs (im (Fs.getD i default)) : Nat) : Int)]:=by
   rw [List.take_succ_eq_append_getElem c1p,List.map_append]
   simp [List.getD_eq_getElem?_getD,c1p]
  have q1:=hI i c1p
  have q2:=object_ok B (d:=e) hGl hne hs hl (hobj i c1p)
  generalize im (Fs.getD i default)=m at q1 q2 ht1;refine tt ?_;refine ⟨c1p,tt ?_⟩;refine q1.go fun _=>tt ?_;refine ⟨by simp only [maxL]; omega,newRef_own o fun i12 H o=>?_⟩;refine tt ?_;refine sw o fun H o=>tt ?_;refine rd_cells o (by simp) ?_;refine tt ?_;refine rd_cells o (by simp) ?_;refine tt ?_;refine q2.go fun _=>tt ?_;refine app_own (f:=iI) ((posF Gs m : Nat) : Int) o.tl rfl hl1.symm (by rw [hl1]; simp only [maxL]; omega) fun b H o=>?_;rw [← ht1] at o
  have hl2 : (((Fs.take i).map fun k=>((posF Gs (im k) : Nat) : Int))++[((posF Gs m : Nat) : Int)]).length=i+1:=by rw [List.length_append,hl1]; rfl
  try simp only [go_sem,↓reduceIte,reduceEqDiff,reduceAdd,reduceMul,reduceLeDiff,reduceLT,v1,hl2]
  exact for_next b c1p o rfl
 rw [decide_eq_false c1p]
 have : i=Fs.length:=by omega
 subst this;rw [List.take_length] at o hl1;clear c1p
 obtain ⟨ob,hob⟩ : ∃ ob,(Fs.map fun k=>((posF Gs (im k) : Nat) : Int))=ob:=⟨_,rfl⟩
 have hobAt : ∀ k,k<Fs.length→ob.getD k default=((posF Gs (im (Fs.getD k default)) : Nat) : Int):=fun k hk=>by rw [← hob,map_getD _ hk]
 have hres : betw d e Fs Gs im cm=⟨fcat d Fs,fcat e Gs,ob,(arrN Fs).map fun s=>indexOf (arrN Gs) (((posF Gs (im (Fs.getD (s.getD 0 default).toNat default)) : Nat) : Int)::((posF Gs (im (Fs.getD (s.getD 1 default).toNat default)) : Nat) : Int)::cm (s.drop 2))⟩:=by rw [← hob]; rfl
 rw [hob] at o hl1;refine tt ?_;refine fz_own (f:=iI) o hl1.symm fun H o=>tt ?_;refine awp_for [0,1,3,8,9,46,47] (G:=Nat) (fun a b=>[(10,some (.buf b a)),(48,some (.int .i64 (a : Int)))]) (fun a b H=>Owns H0 H ((b,.cells 1 ((((arrN Fs).take a).map fun s=>indexOf (arrN Gs) (((posF Gs (im (Fs.getD (s.getD 0 default).toNat default)) : Nat) : Int)::((posF Gs (im (Fs.getD (s.getD 1 default).toNat default)) : Nat) : Int)::cm (s.drop 2))).map iI) 0)::[(i8,.cells 12 z12 0)])) (arrN Fs).length i16 o rfl ?_;clear o
 rintro a b H ha o
 replace o : Owns H0 H ((b,.cells 1 ((((arrN Fs).take a).map fun s=>indexOf (arrN Gs) (((posF Gs (im (Fs.getD (s.getD 0 default).toNat default)) : Nat) : Int)::((posF Gs (im (Fs.getD (s.getD 1 default).toNat default)) : Nat) : Int)::cm (s.drop 2))).map iI) 0)::[(i8,.cells 12 z12 0)]):=o
 obtain ⟨R,hR⟩ : ∃ R,(((arrN Fs).take a).map fun s=>indexOf (arrN Gs) (((posF Gs (im (Fs.getD (s.getD 0 default).toNat default)) : Nat) : Int)::((posF Gs (im (Fs.getD (s.getD 1 default).toNat default)) : Nat) : Int)::cm (s.drop 2)))=R:=⟨_,rfl⟩
 have hRl : R.length=a:=by rw [← hR,List.length_map,List.length_take]; omega
 rw [hR] at o;refine tt ?_
 by_cases c2p : a<(arrN Fs).length
 ·rw [decide_eq_true c2p]
  have v2:=wsucc (k:=a) (by omega)
  obtain ⟨i,j,t,hi,hj,hse,hn⟩:=hAm _ (mem_getD.mpr ⟨a,c2p,rfl⟩)
  have harr:=h.arr hi hj hn;rw [← hobAt i hi,← hobAt j hj] at harr
  have ht2 : (((arrN Fs).take (a+1)).map fun s=>indexOf (arrN Gs) (((posF Gs (im (Fs.getD (s.getD 0 default).toNat default)) : Nat) : Int)::((posF Gs (im (Fs.getD (s.getD 1 default).toNat default)) : Nat) : Int)::cm (s.drop 2)))=R++[indexOf (arrN Gs) (ob.getD i default::ob.getD j default::cm t)]:=by
   rw [List.take_succ_eq_append_getElem c2p,List.map_append,hR,hobAt i hi,hobAt j hj]
   have : (arrN Fs)[a]=(i : Int)::(j : Int)::t:=by rw [← hse]; simp [List.getD_eq_getElem?_getD,c2p]
   rw [this]; rfl
  have x0 : ix ((i : Int)::(j : Int)::t) 0=(i : Int):=rfl
  have x1 : ix ((i : Int)::(j : Int)::t) 1=(j : Int):=rfl
  have z1 : List.drop (Int.toNat 2) ((i : Int)::(j : Int)::t)=t:=rfl
  have q3:=hC i j t hi hj hn
  have q4:=arrow_ptr B hA harr (iI (Gs.length : Int)) (iL (fcat e Gs).frm) (iL (fcat e Gs).to) (iL (fcat e Gs).idn) (iLL (fcat e Gs).comp) (mL fuE Gs) (iLL (arrN Gs));refine tt ?_;refine ⟨c2p, ?_⟩;rw [hse];refine tt ?_;rw [x0,x1,z1]
  have b0 : ix ob (i : Int)=ob.getD i default:=ix_nat _ _
  have b1 : ix ob (j : Int)=ob.getD j default:=ix_nat _ _;rw [b0,b1];refine ⟨⟨by decide,by simp⟩,⟨by omega,by rw [Int.toNat_natCast,hl1]; exact hi⟩,⟨by decide,by simp⟩,⟨by omega,by rw [Int.toNat_natCast,hl1]; exact hj⟩,⟨by decide,by omega⟩,_,q3.run,_,q4.run,⟨rfl,fun c hc=>by obtain rfl:=List.mem_singleton.mp hc; rfl⟩, ?_⟩;refine app_own (f:=iI) (indexOf (arrN Gs) (ob.getD i default::ob.getD j default::cm t)) o rfl hRl.symm (by rw [hRl]; simp only [maxL]; omega) fun b H o=>?_
  have hl3 : (R++[indexOf (arrN Gs) (ob.getD i default::ob.getD j default::cm t)]).length=a+1:=by rw [List.length_append,hRl]; rfl
  try simp only [go_sem,↓reduceIte,reduceEqDiff,reduceAdd,reduceMul,reduceLeDiff,reduceLT,v2,hl3]
  refine for_next b c2p ?_ rfl;rw [ht2];exact o
 rw [decide_eq_false c2p]
 have : a=(arrN Fs).length:=by omega
 subst this;rw [List.take_length] at hR;refine tt ?_;refine fz_own (f:=iI) o hRl.symm fun H o=>?_;rw [hR] at hres
 have q5:=functor_ok B (fcat d Fs) (fcat e Gs) ob R;refine tt ?_;refine ⟨_,q5.run,tt ?_⟩;refine st_cells o (by simp [z12]) (by (try simp only [go_sem]); (try simp)) (by first | (simp only [go_sem]; done) | ((try simp only [go_sem]); simp [AV.one,one_mL])) fun H o=>?_;unfold z12 at o;simp only [wr_cons,wr_nil,List.set_cons_zero,List.set_cons_succ] at o;refine tt ?_;rw [o.rc 12 0 (by simp)];refine tt ?_;exact pure_ret (by rw [hres]) o.sub
theorem len_all {c d : Cat} (hc : c.Is) (hd : d.Is) : ∀ k,k∈allF c d false→k.ob.length≤1000∧k.ar.length≤1000:=fun k hk=>by
 obtain ⟨h1,h2,h3,-⟩:=(mem_allF hc hd).mp hk
 have q1:=h3.fit.ol
 have q2:=h3.fit.al;rw [h1] at q1 q2
 have:=hc.1.o
 have:=hc.1.m;omega
theorem small_all {c d : Cat} (hc : c.Is) (hd : d.Is) : SmallF (allF c d false):=fun k hk=>by
 obtain ⟨h1,h2,h3,-⟩:=(mem_allF hc hd).mp hk
 have q1:=h3.fit.obr
 have q2:=h3.fit.arr;rw [h2] at q1 q2
 have:=hd.1.o
 have:=hd.1.m;exact ⟨fun y hy=>by have:=q1 y hy; omega,fun y hy=>by have:=q2 y hy; omega⟩
theorem fu_one (k : FU) : ∀ x,x∈k.cells→AV.one x=true:=by
 intro x hx
 obtain ⟨⟨c1,c2,c3,c4,c5⟩,⟨d1,d2,d3,d4,d5⟩,ob,ar⟩:=k;simp only [FU.cells,Cat.cells,List.cons_append,List.nil_append,List.mem_cons,List.not_mem_nil,or_false] at hx
 rcases hx with rfl | rfl | rfl | rfl | rfl | rfl | rfl | rfl | rfl | rfl | rfl | rfl <;> first | rfl | exact one_mL _ _
theorem ComposeBehindP_ok (B : Nat) (c : Cat) (g : FU) : Pur Tryz.prog B 20 [.agg c.cells,.agg g.cells] (behV c g):=by
 refine ⟨fun H0=>c20 (by simp) fun _=>?_⟩;unfold s20
 have o : Owns H0 H0 []:=.nil _;refine tt ?_;refine nb o fun i4 H o=>tt ?_;refine (isCategory_ok B c).go fun _=>?_
 by_cases h1 : c.Is
 rotate_left
 ·rw [dec_f h1]
  have hres : behV c g=.tup [.agg z12,iI 1]:=by rw [behV,dec_f (fun q=>h1 q.1),if_neg (by simp)]
  refine tt ?_;refine sw o fun H o=>tt ?_;rw [o.rc 12 0 (by simp)];refine tt ?_;exact pure_ret (by rw [hres]; rfl) o.sub
 rw [dec_t h1];refine tt ?_;refine (isFunctor_ok B g).go fun _=>?_
 by_cases h2 : g.Is
 rotate_left
 ·rw [dec_f h2]
  have hres : behV c g=.tup [.agg z12,iI 1]:=by rw [behV,dec_f (fun q=>h2 q.2),if_neg (by simp)]
  refine tt ?_;refine sw o fun H o=>tt ?_;rw [o.rc 12 0 (by simp)];refine tt ?_;exact pure_ret (by rw [hres]; rfl) o.sub
 rw [dec_t h2]
 have q1:=functors_ok B h1 h2.sI
 have q2:=functors_ok B h1 h2.tI
 have hbh:=behind_h h1 h2;rw [fcV] at q1 q2;refine tt ?_;refine q1.go fun _=>?_
 by_cases h3 : SpOk c g.src
 rotate_left
 ·have hres : behV c g=.tup [.agg z12,iI 3]:=by rw [behV,dec_t ⟨h1,h2⟩,if_pos rfl,dec_f (fun q=>h3 q.1),if_neg (by simp)]
  rw [dec_f h3,if_neg (by simp)];refine tt ?_;refine q2.go fun _=>?_
  by_cases h4 : SpOk c g.tgt
  ·rw [dec_t h4,if_pos rfl];refine tt ?_;refine sw o fun H o=>tt ?_;rw [o.rc 12 0 (by simp)];refine tt ?_;exact pure_ret (by rw [hres]; rfl) o.sub
  ·rw [dec_f h4,if_neg (by simp)];refine tt ?_;refine sw o fun H o=>tt ?_;rw [o.rc 12 0 (by simp)];refine tt ?_;exact pure_ret (by rw [hres]; rfl) o.sub
 rw [dec_t h3,if_pos rfl];refine tt ?_;refine q2.go fun _=>?_
 by_cases h4 : SpOk c g.tgt
 rotate_left
 ·have hres : behV c g=.tup [.agg z12,iI 3]:=by rw [behV,dec_t ⟨h1,h2⟩,if_pos rfl,dec_f (fun q=>h4 q.2),if_neg (by simp)]
  rw [dec_f h4,if_neg (by simp)];refine tt ?_;refine sw o fun H o=>tt ?_;rw [o.rc 12 0 (by simp)];refine tt ?_;exact pure_ret (by rw [hres]; rfl) o.sub
 rw [dec_t h4,if_pos rfl]
 have hres : behV c g=.tup [.agg (behF c g).cells,iI 0]:=by rw [behV,dec_t ⟨h1,h2⟩,if_pos rfl,dec_t ⟨h3,h4⟩,if_pos rfl]
 have q3:=betwP_ok B (n1:=71) (n2:=73) (ca1:=[.ptr g.cells]) (ca2:=[.ptr g.cells]) hbh h3.2.1 h3.2.2 h4.2.1 allF_ne (small_all h1 h2.tI) (len_all h1 h2.tI) (small_arr h1 h2.tI hbh.hG h4.2.1) h1.1.o.1 (fun i hi=>behI_ok B (hbh.hF.f i hi).1 h2 (hbh.hF.f i hi).2.2) (fun i j t hi hj hn=>behC_ok B t g fun y hy=>by
  obtain ⟨k,hk,rfl⟩:=mem_getD.mp hy
  have h5:=hn.len
  have h6:=(hn.ar (k : Int) (by omega)).r;rw [(hbh.hF.f i hi).2.2,ix_nat] at h6
  have h7:=h2.fit.al;omega)
 refine tt ?_;refine q3.go fun _=>tt ?_;refine st_cells o (by simp) (by (try simp only [go_sem]); (try simp)) (fu_one _) fun H o=>?_
 replace o : Owns H0 H ((i4,.cells 12 (behF c g).cells 0)::[]):=o;refine tt ?_;rw [o.rc 12 0 (Nat.le_refl 12)];exact pure_ret (by rw [hres]; rfl) o.sub
theorem ThenP_ok (B : Nat) {f g : FU} (hf : f.Is) (hg : g.Is) (e : f.tgt=g.src) : Pur Tryz.prog B 26 [.agg f.cells,.agg g.cells] (.tup [.agg (f.thn g).cells,iI 0]):=by
 refine ⟨fun H0=>c26 (by simp) fun _=>?_⟩;unfold s26
 have o : Owns H0 H0 []:=.nil _
 have q1:=areFunctors_ok B [f,g];rw [dec_t (by simp [hf,hg])] at q1
 have q2:=sameCategory_ok B f.tgt g.src;rw [dec_t e] at q2
 have q3:=thenFuI B hf hg e;refine tt ?_;refine nb o fun i4 H o=>tt ?_;refine q1.go fun _=>tt ?_;refine q2.go fun _=>tt ?_;refine q3.go fun _=>tt ?_;refine st_cells o (by simp) (by (try simp only [go_sem]); (try simp)) (fu_one _) fun H o=>?_
 replace o : Owns H0 H ((i4,.cells 12 (f.thn g).cells 0)::[]):=o;refine tt ?_;rw [o.rc 12 0 (Nat.le_refl 12)];exact pure_ret rfl o.sub
theorem EvP_ok (B : Nat) {c d : Cat} {x : Int} (hc : c.Is) (hd : d.Is) (hx : 0≤x∧x<c.objs) (hs : SpOk c d) : Pur Tryz.prog B 25 [.agg c.cells,.agg d.cells,iI x] (.tup [.agg (evF d (allF c d false) x).cells,iI 0]):=by
 refine ⟨fun H0=>c25p (by simp) fun _=>?_⟩;unfold s25p
 have o : Owns H0 H0 []:=.nil _
 have ho:=hc.1.o
 have q1:=areCategories_ok B [c,d];rw [dec_t (by simp [hc,hd])] at q1
 have q2:=inRange_ok B x 0 (c.objs - 1);rw [dec_t (by omega)] at q2
 have q3:=functors_ok B hc hd;rw [fcV,dec_t hs,if_pos rfl] at q3
 have w0 : IntKind.i64.wrap (c.objs - 1)=c.objs - 1:=wrap_i64 (by omega) (by omega)
 have hF:=funs_all hc hd
 have hFl:=hs.2.1
 have hAl:=hs.2.2;refine tt ?_;refine nb o fun i6 H o=>tt ?_;refine q1.go fun _=>?_;refine tw w0 ?_;refine q2.go fun _=>tt ?_;refine q3.go fun _=>?_
 generalize allF c d false=Fs at *;refine tt ?_;refine new_list iI o fun i34 H o=>tt ?_;refine new_list iI o fun i35 H o=>?_
 have o : Owns H0 H ((i34,.cells 1 (([] : List Int).map iI) 0)::(i35,.cells 1 (([] : List Int).map iI) 0)::[(i6,.cells 12 z12 0)]):=o.swap;refine tt ?_;refine awp_for [2,4,6,8,11,39,40] (G:=Nat) (fun i b=>[(10,some (.buf b i)),(41,some (.int .i64 (i : Int)))]) (fun i b H=>Owns H0 H ((b,.cells 1 (((Fs.take i).map fun k=>ix k.ob x).map iI) 0)::(i35,.cells 1 (([] : List Int).map iI) 0)::[(i6,.cells 12 z12 0)])) Fs.length i34 o rfl ?_;clear o
 rintro i b H hi o
 replace o : Owns H0 H ((b,.cells 1 (((Fs.take i).map fun k=>ix k.ob x).map iI) 0)::(i35,.cells 1 (([] : List Int).map iI) 0)::[(i6,.cells 12 z12 0)]):=o
 have hl1 : ((Fs.take i).map fun k=>ix k.ob x).length=i:=by rw [List.length_map,List.length_take]; omega
 refine tt ?_
 by_cases c1p : i<Fs.length
 ·rw [decide_eq_true c1p]
  have v1:=wsucc (k:=i) (by omega)
  have ht1 : ((Fs.take (i+1)).map fun k=>ix k.ob x)=((Fs.take i).map fun k=>ix k.ob x)++[ix (Fs.getD i default).ob x]:=by
   rw [List.take_succ_eq_append_getElem c1p,List.map_append]
   simp [List.getD_eq_getElem?_getD,c1p]
  have F1:=hF.f i c1p
  have hol:=F1.1.fit.ol;rw [F1.2.1] at hol
  have hxl : 0≤x∧x.toNat<(Fs.getD i default).ob.length:=by omega
  refine tt ?_;refine ⟨c1p,tt ?_⟩;refine ⟨by simp only [maxL]; omega,newRef_own o fun i13 H o=>?_⟩;refine tt ?_;refine sw o fun H o=>tt ?_;refine rd_cells o (by simp) ?_;refine tt ?_;refine ⟨hxl,tt ?_⟩;refine app_own (f:=iI) (ix (Fs.getD i default).ob x) o.tl rfl hl1.symm (by rw [hl1]; simp only [maxL]; omega) fun b H o=>?_;rw [← ht1] at o
  have hl2 : (((Fs.take i).map fun k=>ix k.ob x)++[ix (Fs.getD i default).ob x]).length=i+1:=by rw [List.length_append,hl1]; rfl
  try simp only [go_sem,↓reduceIte,reduceEqDiff,reduceAdd,reduceMul,reduceLeDiff,reduceLT,v1,hl2]
  exact for_next b c1p o rfl
 rw [decide_eq_false c1p]
 have : i=Fs.length:=by omega
 subst this;rw [List.take_length] at o hl1;clear c1p
 obtain ⟨ob,hob⟩ : ∃ ob,(Fs.map fun k=>ix k.ob x)=ob:=⟨_,rfl⟩
 have hres : evF d Fs x=⟨fcat d Fs,d,ob,(arrN Fs).map fun s=>ix (s.drop 2) x⟩:=by rw [← hob]; rfl
 have hAm : ∀ s,s∈arrN Fs→∃ (i j : Nat) (t : List Int),i<Fs.length∧j<Fs.length∧s=(i : Int)::(j : Int)::t∧NatF (Fs.getD i default) (Fs.getD j default) t:=fun s h1=>arr_look (n:=c.objs) ho.1 (fun i hi=>by rw [(hF.f i hi).2.1]) h1;rw [hob] at o hl1;refine tt ?_;refine awp_for [2,4,6,8,10,57,58] (G:=Nat) (fun a b'=>[(11,some (.buf b' a)),(59,some (.int .i64 (a : Int)))]) (fun a b' H=>Owns H0 H ((b',.cells 1 ((((arrN Fs).take a).map fun s=>ix (s.drop 2) x).map iI) 0)::(b,.cells 1 (ob.map iI) 0)::[(i6,.cells 12 z12 0)])) (arrN Fs).length i35 o.swap rfl ?_;clear o
 rintro a b' H ha o
 replace o : Owns H0 H ((b',.cells 1 ((((arrN Fs).take a).map fun s=>ix (s.drop 2) x).map iI) 0)::(b,.cells 1 (ob.map iI) 0)::[(i6,.cells 12 z12 0)]):=o
 obtain ⟨R,hR⟩ : ∃ R,(((arrN Fs).take a).map fun s=>ix (s.drop 2) x)=R:=⟨_,rfl⟩
 have hRl : R.length=a:=by rw [← hR,List.length_map,List.length_take]; omega
 rw [hR] at o;refine tt ?_
 by_cases c2p : a<(arrN Fs).length
 ·rw [decide_eq_true c2p]
  have v2:=wsucc (k:=a) (by omega)
  obtain ⟨i,j,t,hi,hj,hse,hn⟩:=hAm _ (mem_getD.mpr ⟨a,c2p,rfl⟩)
  have ht2 : (((arrN Fs).take (a+1)).map fun s=>ix (s.drop 2) x)=R++[ix t x]:=by
   rw [List.take_succ_eq_append_getElem c2p,List.map_append,hR]
   have : (arrN Fs)[a]=(i : Int)::(j : Int)::t:=by rw [← hse]; simp [List.getD_eq_getElem?_getD,c2p]
   rw [this]; rfl
  have htl:=hn.len;rw [(hF.f i hi).2.1] at htl
  have w2 : IntKind.i64.wrap (2+x)=2+x:=wrap_i64 (by omega) (by omega)
  have x2 : ix ((i : Int)::(j : Int)::t) (2+x)=ix t x:=by
   rw [ix,ix,show (2+x).toNat=x.toNat+2 by omega]; rfl
  refine tt ?_;refine ⟨c2p, ?_⟩;rw [hse];refine tw w2 ?_;refine ⟨⟨by omega,by first | omega | (simp only [List.length_cons]; omega)⟩, ?_⟩;rw [x2];refine tt ?_;refine app_own (f:=iI) (ix t x) o rfl hRl.symm (by rw [hRl]; simp only [maxL]; omega) fun b' H o=>?_
  have hl3 : (R++[ix t x]).length=a+1:=by rw [List.length_append,hRl]; rfl
  try simp only [go_sem,↓reduceIte,reduceEqDiff,reduceAdd,reduceMul,reduceLeDiff,reduceLT,v2,hl3]
  refine for_next b' c2p ?_ rfl;rw [ht2];exact o
 rw [decide_eq_false c2p]
 have : a=(arrN Fs).length:=by omega
 subst this;rw [List.take_length] at hR;rw [hR] at hres
 have q5:=functor_ok B (fcat d Fs) d ob R;refine tt ?_;refine fz_own (f:=iI) o hRl.symm fun H o=>tt ?_;refine fz_own (f:=iI) o hl1.symm fun H o=>tt ?_;refine q5.go fun _=>tt ?_;refine st_cells o (by simp [z12]) (by (try simp only [go_sem]); (try simp)) (by first | (simp only [go_sem]; done) | ((try simp only [go_sem]); simp [AV.one,one_mL])) fun H o=>?_;unfold z12 at o;simp only [wr_cons,wr_nil,List.set_cons_zero,List.set_cons_succ] at o;refine tt ?_;rw [o.rc 12 0 (by simp)];refine tt ?_;exact pure_ret (by rw [hres]) o.sub
abbrev z5 : List AV:=[.int .i64 0,.nilsl,.nilsl,.nilsl,.nilsl]
def AnyC2 (r : AV) : Prop:=∃ c d : Cat,r=.tup [.agg c.cells,.agg d.cells]
theorem l08MakeQ (B : Nat) {c d : Cat} (hc : c.Shape) (hd : d.Shape) : Rets B 101 [.agg c.cells,.agg d.cells] fun r=>∃ (x : List AV) (k : Int),r=.tup [.agg x,iI k]∧x.length=7∧∀ y,y∈x→y.one=true:=by
 intro H0;refine (l08MakeG B hc hd (Ps:=fun _=>True) (Q:=fun Fs=>Fs.length≤201∧ShY c d Fs) (fun _ h=>h) (fun H=>((l06Small_ok B c d hc) H).mono fun r H' ⟨⟨b,e⟩,e2⟩=>⟨⟨b,e,trivial⟩,e2⟩) (l06AllY B hc hd) H0).mono ?_
 rintro r H ⟨h,e⟩;refine ⟨?_,e⟩
 have hz : ∀ y,y∈z7s→y.one=true:=by simp [z7s,AV.one]
 rcases h with ⟨-,rfl⟩ | ⟨-,Fs,-,rfl⟩
 ·exact ⟨z7s,3,rfl,rfl,hz⟩
 ·rw [spR]
  split
  ·exact ⟨_,0,rfl,rfl,spC_one d Fs⟩
  ·exact ⟨z7s,3,rfl,rfl,hz⟩
theorem l08Pair_ok (B : Nat) : Rd B 62 [] AnyC2:=by
 intro id s H0 H hs o;refine c62p (by simp) fun _=>?_;unfold s62p;refine tt ?_;refine newRef_own o fun i2 H o=>tt ?_;refine newRef_own o fun i3 H o=>?_
 have o : Owns H0 H ((id,s.obj)::(i3,.cells 5 z5 0)::[(i2,.cells 5 z5 0)]):=o.pull [_,_];refine tt ?_;refine (l01Next_ok B 10).go hs o fun r s H _ ⟨v,e,_⟩ hs o=>?_;subst e;refine tt ?_;apply bk <;> intro h1
 ·refine tt ?_;refine (l02Draw_ok B 3 8).go hs o fun r s H _ ⟨c,e⟩ hs o=>?_;subst e;refine tt ?_;refine (l02Draw_ok B 4 12).go hs o fun r s H _ ⟨d,e⟩ hs o=>?_;subst e;refine tt ?_;refine sw (o.pull [_,_]) fun H o=>tt ?_;refine sw (o.pull [_,_]) fun H o=>tt ?_;rw [o.rc 5 0 (by simp),(o.pull [_]).rc 5 0 (by simp)];refine tt ?_;exact src_ret ⟨c,d,rfl⟩ hs (o.pull [_,_])
 refine tt ?_;refine awp_for [0,2,3] (G:=Src) (fun n g=>[(4,some (.int .i64 (n : Int)))]) (fun n g H=>g.Ok∧Owns H0 H ((id,g.obj)::(i3,.cells 5 z5 0)::[(i2,.cells 5 z5 0)])) 6 s ⟨hs,o⟩ rfl ?_;clear hs o s
 rintro n s H hn ⟨hs,o⟩;refine tt ?_
 by_cases h2 : n<6
 ·rw [decide_eq_true (by omega : (n : Int)<6)]
  have w:=wsucc (k:=n) (by omega);refine tt ?_;refine (l02Some_ok B 2 4).go hs o fun r s H _ ⟨c,e,hcs,hc⟩ hs o=>?_;subst e;refine tt ?_;refine (l02Some_ok B 3 6).go hs o fun r s H _ ⟨d,e,hds,hd⟩ hs o=>?_;subst e;refine tt ?_;refine newRef_own o fun i5 H o=>tt ?_;refine newRef_own o fun i6 H o=>tt ?_;refine sw o.swap fun H o=>tt ?_;refine sw o.swap fun H o=>?_
  have o : Owns H0 H ((i6,.cells 5 d.cells 0)::(i5,.cells 5 c.cells 0)::(id,s.obj)::(i3,.cells 5 z5 0)::[(i2,.cells 5 z5 0)]):=o;refine tt ?_;refine rd_celln o.tl (by simp [Cat.cells]) ?_;refine tt ?_;refine rd_celln o (by simp [Cat.cells]) ?_;refine tt ?_;refine (l08MakeQ B hc hd).go fun r _ ⟨x,k,e,hxl,hx1⟩=>?_;subst e;refine tt ?_;refine ⟨by simp only [maxL]; omega,newRef_own o fun i7 H o=>?_⟩;refine tt ?_;refine st_cells o (by simp [hxl]) hxl hx1 fun H o=>?_
  have o:=o.tl;refine tt ?_;refine wk_ref 6 o rfl fun H o=>wk_ref 5 o rfl fun H o=>wkW_done ?_;refine tt ?_;apply bk <;> intro h3
  ·refine tt ?_;refine sw (o.pull [_,_]) fun H o=>tt ?_;refine sw (o.pull [_,_]) fun H o=>tt ?_;rw [o.rc 5 0 (by simp),(o.pull [_]).rc 5 0 (by simp)];refine tt ?_;exact src_ret ⟨c,d,rfl⟩ hs (o.pull [_,_])
  refine tw w ?_;exact for_next s h2 ⟨hs,o⟩ rfl
 rw [decide_eq_false (by omega : ¬ (n : Int)<6)]
 have hp:=l03PosetX_ok B [[1,1],[0,1]] (.of (by decide) (by decide) (by decide) (by decide))
 obtain ⟨c,hcE⟩ : ∃ c,orC [[1,1],[0,1]]=c:=⟨_,rfl⟩;rw [hcE] at hp;refine tt ?_;refine hp.go fun r _ e=>?_;subst e;refine tt ?_;refine hp.go fun r _ e=>?_;subst e;refine tt ?_;refine sw (o.pull [_,_]) fun H o=>tt ?_;refine sw (o.pull [_,_]) fun H o=>tt ?_;rw [o.rc 5 0 (by simp),(o.pull [_]).rc 5 0 (by simp)];refine tt ?_;exact src_ret ⟨c,c,rfl⟩ hs (o.pull [_,_])
def SomT (c : Cat) (id : Nat) (H0 : Heap) (l : Ob) : Kont:=fun r H'=>∃ (d : Cat) (s' : Src) (p : Ob),(d.Sh 20000∧d.Shape)∧FuT c d r p∧s'.Ok∧Owns H0 H' ((id,s'.obj)::(p++l))
theorem l06SomeT_ok (B : Nat) {c : Cat} (hcs : c.Sh 20000) (hc : c.Shape) (mo ma : Int) (id : Nat) (s : Src) (l : Ob) (H0 H : Heap) (hs : s.Ok) (o : Owns H0 H ((id,s.obj)::l)) :
  CallH Tryz.prog B 66 [.ref id 0,.agg c.cells,iI mo,iI ma] H (SomT c id H0 l):=by
 refine c66p (by simp) fun _=>?_;unfold s66p;refine tt ?_;refine nb o fun id8 H o=>tt ?_;refine (l02Some_ok B mo ma).go hs o.swap fun r s H _ ⟨d,e,hds,hd⟩ hs o=>?_;subst e;refine tt ?_;refine newRef_own o fun id9 H o=>tt ?_;refine sw o fun H o=>?_
 have o : Owns H0 H ((id9,.cells 5 d.cells 0)::(id,s.obj)::(id8,.cells 12 z12 0)::l):=o;refine tt ?_
 have dO:=hd.o;refine cut_mp (fun σ H=>∃ s : Src,σ=[(0,some (.ref id 0)),(5,some (.ptr c.cells)),(8,some (.ref id8 0)),(9,some (.ref id9 0))]∧s.Ok∧Owns H0 H ((id,s.obj)::(id9,.cells 5 d.cells 0)::(id8,.cells 12 z12 0)::l)) ?_ ?_
 ·refine tt ?_;refine rd_celln o (by simp [Cat.cells]) ?_;refine tt ?_;refine (l06Small_ok B c d hc).go fun r _ ⟨b,e⟩=>?_;subst e
  cases b
  ·refine tt ?_;exact wkW_done ⟨s,rfl,hs,o.swap⟩
  ·refine tt ?_;refine rd_celln o (by simp [Cat.cells]) ?_;refine tt ?_;refine (l06AllT_ok B hc hd H).mono ?_
   rintro r H ⟨idF,ms,rfl,⟨hms,hsh⟩,o2⟩
   have o:=o.trans o2
   have o : Owns H0 H ((id,s.obj)::(idF,.cells 12 (flat (ms.map (fuB c d))) 0)::(id9,.cells 5 d.cells 0)::(id8,.cells 12 z12 0)::(inB ms++l)):=o.pm;refine tt ?_;apply bk <;> intro h1
   ·have h1p:=of_decide h1;refine tt ?_;refine (l01Next_ok B _).go hs o fun r s H _ ⟨v,e,v0,v1,_⟩ hs o=>?_;subst e
    have vl : v.toNat<ms.length:=by have:=v1 (by omega); omega
    have o : Owns H0 H ((idF,.cells 12 (flat (ms.map (fuB c d))) 0)::(id,s.obj)::(id9,.cells 5 d.cells 0)::(id8,.cells 12 z12 0)::(inB ms++l)):=o.swap;refine tt ?_;refine ⟨⟨v0,vl⟩, ?_⟩;refine rd_elA (f:=fuB c d) o vl ?_
    have hm : ms.getD v.toNat default∈ms:=mem_getD.mpr ⟨_,vl,rfl⟩
    generalize ms.getD v.toNat default=m at hm;refine tt ?_
    have o : Owns H0 H ((id8,.cells 12 z12 0)::(id,s.obj)::(idF,.cells 12 (flat (ms.map (fuB c d))) 0)::(id9,.cells 5 d.cells 0)::(inB ms++l)):=o.pm;refine st_cells o (by simp [z12]) (by (try simp only [go_sem]); (try simp)) (by first | (simp only [go_sem]; done) | ((try simp only [go_sem]); simp [AV.one,one_mL])) fun H o=>?_;unfold z12 at o;simp only [wr_cons,wr_nil,List.set_cons_zero,List.set_cons_succ] at o;refine tt ?_;rw [o.rc 12 0 (by simp)];refine tt ?_;exact ⟨H,.refl _,d,s,inB [m],⟨hds,hd⟩,⟨m,rfl,rfl,hsh m hm⟩,hs,o.subl (.cons _ (.cons_cons _ (.cons _ (.cons _ (List.Sublist.append_right (inB_mem hm) l)))))⟩
   ·refine tt ?_;exact wkW_done ⟨s,rfl,hs,o.subl (.cons_cons _ (.cons _ (.cons_cons _ (.cons_cons _ (List.sublist_append_right _ _)))))⟩
 clear o hs
 rintro σ H ⟨s,rfl,hs,o⟩
 have hself : ∀ (s : Src) (H : Heap),s.Ok→Owns H0 H ((id,s.obj)::(id9,.cells 5 d.cells 0)::(id8,.cells 12 z12 0)::l)→CallH Tryz.prog B 90 [.agg c.cells] H fun r H'=>∃ m : FB,r=fuB c c m∧(TyO c c m.1.2∧Fn c c m.1.2 m.2.2)∧Owns H0 H' ((id8,.cells 12 z12 0)::(id,s.obj)::(id9,.cells 5 d.cells 0)::(inB [m]++l)):=fun s H hs o=>by
  refine ((l06SelfT B hc).run H).mono ?_
  rintro r H' ⟨p,⟨m,rfl,rfl,hm⟩,o2⟩;exact ⟨m,rfl,hm,(o.trans o2).pm⟩
 refine tt ?_;refine rd_cells o.tl (by simp [Cat.cells]) ?_;refine tt ?_
 by_cases h1 : 0<d.objs
 ·rw [decide_eq_true h1];refine tt ?_;refine (l01Next_ok B 2).go hs o fun r s H _ ⟨v,e,_⟩ hs o=>?_;subst e;refine tt ?_;apply bk <;> intro h2
  ·refine tt ?_
   have g9:=o.get (id9,_) (.tail _ (.head _));refine ⟨⟨_,_,g9⟩,rd_getn g9 (by simp [Cat.cells]) ?_⟩;refine tt ?_;refine ⟨⟨_,_,g9⟩,rd_get g9 (by simp [Cat.cells]) ?_⟩;refine tt ?_;refine (l01Next_ok B d.objs).goZ hs o fun r s H _ ⟨y,e,y0,y1,_⟩ hs o hz=>⟨hz, ?_⟩;subst e
   have hy : d.ObR y:=⟨y0,y1 (by omega)⟩;refine tt ?_;refine ((l06ConstantT B hc hd hy).run H).mono ?_
   rintro r H' ⟨p,⟨m,rfl,rfl,hm⟩,o2⟩;refine ⟨o2.sub, ?_⟩
   have o : Owns H0 H' ((id8,.cells 12 z12 0)::(id,s.obj)::(id9,.cells 5 d.cells 0)::(inB [m]++l)):=(o.trans o2).pm;refine tt ?_;refine st_cells o (by simp [z12]) (by (try simp only [go_sem]); (try simp)) (by first | (simp only [go_sem]; done) | ((try simp only [go_sem]); simp [AV.one,one_mL])) fun H o=>?_;unfold z12 at o;simp only [wr_cons,wr_nil,List.set_cons_zero,List.set_cons_succ] at o;refine tt ?_;rw [o.rc 12 0 (by simp)];refine tt ?_;exact ⟨H,.refl _,d,s,inB [m],⟨hds,hd⟩,⟨m,rfl,rfl,hm⟩,hs,o.subl (.cons _ (.cons_cons _ (.cons _ (.refl _))))⟩
  ·refine tt ?_;refine (hself s H hs o).mono ?_;clear o
   rintro r H ⟨m,rfl,hm,o⟩;refine tt ?_;refine st_cells o (by simp [z12]) (by (try simp only [go_sem]); (try simp)) (by first | (simp only [go_sem]; done) | ((try simp only [go_sem]); simp [AV.one,one_mL])) fun H o=>?_;unfold z12 at o;simp only [wr_cons,wr_nil,List.set_cons_zero,List.set_cons_succ] at o;refine tt ?_;rw [o.rc 12 0 (by simp)];refine tt ?_;exact ⟨H,.refl _,c,s,inB [m],⟨hcs,hc⟩,⟨m,rfl,rfl,hm⟩,hs,o.subl (.cons _ (.cons_cons _ (.cons _ (.refl _))))⟩
 ·rw [decide_eq_false h1];refine tt ?_;refine (hself s H hs o).mono ?_;clear o
  rintro r H ⟨m,rfl,hm,o⟩;refine tt ?_;refine st_cells o (by simp [z12]) (by (try simp only [go_sem]); (try simp)) (by first | (simp only [go_sem]; done) | ((try simp only [go_sem]); simp [AV.one,one_mL])) fun H o=>?_;unfold z12 at o;simp only [wr_cons,wr_nil,List.set_cons_zero,List.set_cons_succ] at o;refine tt ?_;rw [o.rc 12 0 (by simp)];refine tt ?_;exact ⟨H,.refl _,c,s,inB [m],⟨hcs,hc⟩,⟨m,rfl,rfl,hm⟩,hs,o.subl (.cons _ (.cons_cons _ (.cons _ (.refl _))))⟩
def BehR (r : AV) : Prop:=∃ (c : Cat) (g : FU),r=.tup [.agg c.cells,.agg g.cells]
theorem shape_sh40 {c : Cat} (h : c.Shape) : c.Sh 20000:=(shape_good40 h).1.mono (by omega)
theorem drawBehind_ok (B : Nat) (code : List UInt8) : Rets B 19 [mL iB code] BehR:=by
 intro H0;refine c19p (by simp) fun _=>?_;unfold s19p
 have o : Owns H0 H0 []:=.nil _;refine tt ?_;refine newRef_own o fun i2 H o=>tt ?_;refine nb o fun i3 H o=>?_
 have o : Owns H0 H [(i3,.cells 12 z12 0),(i2,.cells 5 z5 0)]:=o;refine tt ?_;refine (l01From_ok B code H).mono ?_
 rintro r H2 ⟨id,s,rfl,hs,o2⟩
 have o:=o.trans o2
 have o : Owns H0 H2 [(id,s.obj),(i3,.cells 12 z12 0),(i2,.cells 5 z5 0)]:=o.pm;clear o2;refine tt ?_;refine (l08Pair_ok B).go hs o fun r s H _ ⟨c,d,e⟩ hs o=>?_;subst e;refine tt ?_;refine newRef_own o fun i5 H o=>tt ?_;refine newRef_own o fun i6 H o=>tt ?_;refine sw o.swap fun H o=>tt ?_;refine sw o.swap fun H o=>?_
 have o : Owns H0 H [(i6,.cells 5 d.cells 0),(i5,.cells 5 c.cells 0),(id,s.obj),(i3,.cells 12 z12 0),(i2,.cells 5 z5 0)]:=o
 replace o:=o.pull [_,_];refine tt ?_;refine rd_celln (o.pull [_,_]) (by simp [Cat.cells]) ?_;refine tt ?_;refine (l02Is_ok B c).go fun _=>?_
 by_cases h1 : c.Is
 rotate_left
 ·rw [dec_f h1];refine tt ?_;refine wk_ref 6 (o.pull [_]) rfl fun H o=>wk_ref 5 (o.pull [_]) rfl fun H o=>wkW_done ?_;refine tt ?_;refine (l06Draw_ok B).go hs o fun r s H _ ⟨g,e⟩ hs o=>?_;subst e;refine tt ?_;refine sw (o.pull [_,_]) fun H o=>tt ?_;refine st_cells (o.pull [_,_]) (by simp [z12]) (by (try simp only [go_sem]); (try simp)) (by first | (simp only [go_sem]; done) | ((try simp only [go_sem]); simp [AV.one,one_mL])) fun H o=>?_;unfold z12 at o;simp only [wr_cons,wr_nil,List.set_cons_zero,List.set_cons_succ] at o;refine tt ?_;refine wkW_done ?_;refine tt ?_;rw [o.rc 12 0 (by simp),(o.pull [_]).rc 5 0 (by simp)];refine tt ?_;exact rets_ret ⟨c,g,rfl⟩ o.sub
 rw [dec_t h1];refine tt ?_;refine rd_celln (o.pull [_]) (by simp [Cat.cells]) ?_;refine tt ?_;refine (l02Is_ok B d).go fun _=>?_
 by_cases h2 : d.Is
 rotate_left
 ·rw [dec_f h2];refine tt ?_;refine wk_ref 6 (o.pull [_]) rfl fun H o=>wk_ref 5 (o.pull [_]) rfl fun H o=>wkW_done ?_;refine tt ?_;refine (l06Draw_ok B).go hs o fun r s H _ ⟨g,e⟩ hs o=>?_;subst e;refine tt ?_;refine sw (o.pull [_,_]) fun H o=>tt ?_;refine st_cells (o.pull [_,_]) (by simp [z12]) (by (try simp only [go_sem]); (try simp)) (by first | (simp only [go_sem]; done) | ((try simp only [go_sem]); simp [AV.one,one_mL])) fun H o=>?_;unfold z12 at o;simp only [wr_cons,wr_nil,List.set_cons_zero,List.set_cons_succ] at o;refine tt ?_;refine wkW_done ?_;refine tt ?_;rw [o.rc 12 0 (by simp),(o.pull [_]).rc 5 0 (by simp)];refine tt ?_;exact rets_ret ⟨c,g,rfl⟩ o.sub
 rw [dec_t h2];refine tt ?_;refine (l01Next_ok B 12).go hs o fun r s H _ ⟨v,e,_⟩ hs o=>?_;subst e;refine tt ?_
 by_cases hv : v=0
 ·rw [decide_eq_true hv];refine tt ?_;refine wk_ref 6 (o.pull [_]) rfl fun H o=>wk_ref 5 (o.pull [_]) rfl fun H o=>wkW_done ?_;refine tt ?_;refine (l06Draw_ok B).go hs o fun r s H _ ⟨g,e⟩ hs o=>?_;subst e;refine tt ?_;refine sw (o.pull [_,_]) fun H o=>tt ?_;refine st_cells (o.pull [_,_]) (by simp [z12]) (by (try simp only [go_sem]); (try simp)) (by first | (simp only [go_sem]; done) | ((try simp only [go_sem]); simp [AV.one,one_mL])) fun H o=>?_;unfold z12 at o;simp only [wr_cons,wr_nil,List.set_cons_zero,List.set_cons_succ] at o;refine tt ?_;refine wkW_done ?_;refine tt ?_;rw [o.rc 12 0 (by simp),(o.pull [_]).rc 5 0 (by simp)];refine tt ?_;exact rets_ret ⟨c,g,rfl⟩ o.sub
 rw [decide_eq_false hv];refine tt ?_;refine wk_ref 6 (o.pull [_]) rfl fun H o=>wk_ref 5 (o.pull [_]) rfl fun H o=>wkW_done ?_;refine tt ?_;refine wkW_done ?_;refine tt ?_;refine (l06SomeT_ok B (shape_sh40 h2.1) h2.1 2 5 id s _ H0 H hs o).mono ?_
 rintro r H ⟨d',s,p,⟨hds,hd⟩,⟨m,rfl,rfl,hml⟩,hs,o⟩;rw [inB_one] at o
 have o : Owns H0 H [(id,s.obj),(m.1.1,.cells 1 (m.1.2.map iI) 0),(m.2.1,.cells 1 (m.2.2.map iI) 0),(i3,.cells 12 z12 0),(i2,.cells 5 z5 0)]:=o;refine tt ?_;refine sw (o.pull [_,_,_,_]) fun H o=>tt ?_;refine st_cells (o.pull [_,_,_,_]) (by simp [z12]) (by (try simp only [go_sem]); (try simp)) (by first | (simp only [go_sem]; done) | ((try simp only [go_sem]); simp [AV.one,one_mL])) fun H o=>?_;unfold z12 at o;simp only [wr_cons,wr_nil,List.set_cons_zero,List.set_cons_succ] at o
 have o : Owns H0 H [(i3,.cells 12 (fuB d d' m).cells 0),(i2,.cells 5 c.cells 0),(id,s.obj),(m.1.1,.cells 1 (m.1.2.map iI) 0),(m.2.1,.cells 1 (m.2.2.map iI) 0)]:=o;refine tt ?_
 replace o : Owns H0 H ((i3,.cells 12 (fuB d d' m).cells 0)::(m.1.1,.cells 1 (m.1.2.map iI) 0)::(m.2.1,.cells 1 (m.2.2.map iI) 0)::[(i2,.cells 5 c.cells 0),(id,s.obj)]):=o.pm;refine wk_fu o fun H o=>wkW_done ?_
 have o : Owns H0 H [(i3,.cells 12 (FU.cells ⟨d,d',m.1.2,m.2.2⟩) 0),(i2,.cells 5 c.cells 0),(id,s.obj)]:=o;refine tt ?_;rw [o.rc 12 0 (by simp [FU.cells]),(o.pull [_]).rc 5 0 (by simp [Cat.cells])];exact rets_ret ⟨c,⟨d,d',m.1.2,m.2.2⟩,rfl⟩ o.sub
theorem likeIntsN (B : Nat) : Pur Tryz.prog B 12 [.nilsl,.nilsl] (.bool true):=by
 refine ⟨fun H0=>c12 (by simp) fun _=>?_⟩;unfold s12;try simp only [go_sem,↓reduceIte,reduceEqDiff,reduceAdd,reduceMul,reduceLeDiff,reduceLT,dTrue,Bool.not_true]
 refine awp_for [0,1] (G:=Unit) (fun k _=>[(5,some (.int .i64 (k : Int)))]) (fun k _ H=>H=H0) 0 () rfl rfl ?_
 rintro k _ H hk rfl
 obtain rfl : k=0:=by omega
 have z0 : decide ((((0 : Nat) : Int))<0)=false:=rfl;refine tw z0 ?_;exact pure_ret rfl (.refl _)
theorem same29N (B : Nat) : Pur Tryz.prog B 160 [.nilsl,.nilsl] (.bool true):=by
 refine ⟨fun H0=>c160 (by simp) fun _=>?_⟩;unfold s160;try simp only [go_sem,↓reduceIte,reduceEqDiff,reduceAdd,reduceMul,reduceLeDiff,reduceLT,dTrue,Bool.not_true]
 refine awp_for [0,1] (G:=Unit) (fun k _=>[(5,some (.int .i64 (k : Int)))]) (fun k _ H=>H=H0) 0 () rfl rfl ?_
 rintro k _ H hk rfl
 obtain rfl : k=0:=by omega
 have z0 : decide ((((0 : Nat) : Int))<0)=false:=rfl;refine tw z0 ?_;exact pure_ret rfl (.refl _)
theorem sameCat9N (B : Nat) : Pur Tryz.prog B 82 [.agg z5,.agg z5] (.bool true):=by
 refine ⟨fun H0=>c82 (by simp) fun _=>?_⟩;unfold s82
 have q:=likeIntsN B
 have q2:=same29N B;try simp only [go_sem,↓reduceIte,reduceEqDiff,reduceAdd,reduceMul,reduceLeDiff,reduceLT,AV.one,and_self,true_and,dTrue]
 refine q.go fun _=>tt ?_;refine q.go fun _=>tt ?_;refine q.go fun _=>tt ?_;refine q2.go fun _=>tt ?_;exact pure_ret rfl (.refl _)
theorem sameFun9N (B : Nat) : Pur Tryz.prog B 22 [.agg z12,.agg z12] (.bool true):=by
 refine ⟨fun H0=>c22 (by simp) fun _=>?_⟩;unfold s22
 have q:=likeIntsN B
 have q2:=sameCat9N B;unfold z12;try simp only [go_sem,↓reduceIte,reduceEqDiff,reduceAdd,reduceMul,reduceLeDiff,reduceLT,AV.one,and_self,true_and]
 refine q2.go fun _=>tt ?_;refine q2.go fun _=>tt ?_;refine q.go fun _=>tt ?_;refine q.go fun _=>tt ?_;exact pure_ret rfl (.refl _)
theorem wr12_app : ∀ (cs z pre : List AV),cs.length=z.length→wr (pre++z) pre.length cs=pre++cs
 | [],z,pre,h=>by
  have : z=[]:=List.eq_nil_of_length_eq_zero (by simpa using h.symm);subst this; rfl
 | v::r,[],pre,h=>by simp at h
 | v::r,a::z,pre,h=>by
  have ih:=wr12_app r z (pre++[v]) (by simpa using h);rw [List.length_append,List.length_singleton,List.append_assoc,List.append_assoc] at ih
  have e : (pre++a::z).set pre.length v=pre++([v]++z):=by simp [List.set_append]
  show wr ((pre++a::z).set pre.length v) (pre.length+1) r=pre++v::r
  rw [e]; exact ih
theorem wr12_all {z cs : List AV} (h : cs.length=z.length) : wr z 0 cs=cs:=wr12_app cs z [] h
theorem sameFun9_self (B : Nat) (f : FU) : Pur Tryz.prog B 22 [.agg f.cells,.agg f.cells] (.bool true):=by
 have q:=sameFun9_ok B f f
 rwa [dec_t rfl] at q
theorem z12_one : ∀ y,y∈z12→AV.one y=true:=by simp [z12,AV.one]
theorem beh_res (B : Nat) (c : Cat) (g : FU) : ∃ (x : List AV) (k : Int),behV c g=.tup [.agg x,iI k]∧x.length=12∧(∀ y,y∈x→y.one=true)∧Pur Tryz.prog B 22 [.agg x,.agg x] (.bool true)∧(k=0→c.Is∧g.Is∧SpOk c g.src∧SpOk c g.tgt∧x=(behF c g).cells):=by
 rw [behV]
 by_cases h : c.Is∧g.Is
 ·rw [dec_t h,if_pos rfl]
  by_cases k : SpOk c g.src∧SpOk c g.tgt
  ·rw [dec_t k,if_pos rfl];exact ⟨_,_,rfl,rfl,fu_one _,sameFun9_self B _,fun _=>⟨h.1,h.2,k.1,k.2,rfl⟩⟩
  ·rw [dec_f k,if_neg (by simp)];exact ⟨_,_,rfl,rfl,z12_one,sameFun9N B,fun h=>by cases h⟩
 ·rw [dec_f h,if_neg (by simp)];exact ⟨_,_,rfl,rfl,z12_one,sameFun9N B,fun h=>by cases h⟩
theorem behF_is {c : Cat} {g : FU} (hc : c.Is) (hg : g.Is) (h1 : SpOk c g.src) (h2 : SpOk c g.tgt) : (behF c g).Is :=
 betw_is (behind_h hc hg) (fcat_is hc hg.sI (funs_all hc hg.sI) h1.2.1 h1.2.2) (fcat_is hc hg.tI (funs_all hc hg.tI) h2.2.1 h2.2.2)
theorem fnPost_ok (B : Nat) (code : List UInt8) : Pur Tryz.prog B 4 [mL iB code] (.bool true):=by
 refine ⟨fun H0=>c4p (by simp) fun _=>?_⟩;unfold s4p
 have o : Owns H0 H0 []:=.nil _
 have qb:=big_ok B code;refine tt ?_;refine qb.go fun _=>?_
 by_cases hb : 4096<code.length
 ·rw [decide_eq_true hb];refine tt ?_;exact pure_ret rfl (.refl _)
 rw [decide_eq_false hb];refine tt ?_;refine (drawBehind_ok B code).go fun r _ ⟨c,g,e⟩=>?_;subst e
 have q1:=ComposeBehindP_ok B c g
 have q2:=ComposeBehindS_ok B c g
 obtain ⟨x,k,hV,hxl,hx1,hsame,hk⟩:=beh_res B c g;rw [hV] at q1 q2;refine tt ?_;refine newRef_own o fun i3 H o=>tt ?_;refine ⟨by simp only [maxL]; omega,newRef_own o fun i4 H o=>?_⟩;refine tt ?_;refine sw o.swap fun H o=>tt ?_;refine sw o.swap fun H o=>?_
 have o : Owns H0 H [(i4,.cells 12 g.cells 0),(i3,.cells 5 c.cells 0)]:=o;refine tt ?_;refine wk_ref 4 o rfl fun H o=>wk_ref 3 o rfl fun H o=>wkW_done ?_;refine tt ?_;refine q1.go fun _=>tt ?_;refine ⟨by simp only [maxL]; omega,newRef_own o fun i5 H o=>?_⟩;refine tt ?_;refine st_cells o (by simp [hxl]) hxl hx1 fun H o=>?_;rw [wr12_all (by rw [hxl]; rfl)] at o;refine tt ?_;refine wk_ref 5 o rfl fun H o=>wkW_done ?_;refine tt ?_;refine q2.go fun _=>tt ?_;refine ⟨by simp only [maxL]; omega,newRef_own o fun i7 H o=>?_⟩;refine tt ?_;refine st_cells o (by simp [hxl]) hxl hx1 fun H o=>?_;rw [wr12_all (by rw [hxl]; rfl)] at o;refine tt ?_;refine wk_ref 7 o rfl fun H o=>wkW_done ?_;try simp only [go_sem,↓reduceIte,reduceEqDiff,reduceAdd,reduceMul,reduceLeDiff,reduceLT,dTrue,Bool.not_true]
 refine ⟨hxl,hxl,hsame.go fun _=>?_⟩;refine tt ?_
 by_cases hk0 : k=0
 rotate_left
 ·rw [decide_eq_false hk0];refine tt ?_;exact pure_ret rfl o.sub
 obtain ⟨h1,h2,h3,h4,hx⟩:=hk hk0;rw [decide_eq_true hk0];refine tt ?_
 by_cases hc0 : c.objs=0
 ·rw [decide_eq_true hc0];refine tt ?_;exact pure_ret rfl o.sub
 rw [decide_eq_false hc0]
 have hco:=h1.1.o;refine tt ?_;refine (roll_ok B code 4 H).mono ?_
 rintro r H2 ⟨id,s,rfl,hs,o2⟩
 have o:=o.trans o2;clear o2;refine tt ?_;refine (below_ok B c.objs).go hs o fun r s H9 _ ⟨y,e,y0,y1,_⟩ hs o9=>?_;subst e
 have y2:=y1 (by omega);clear y1
 have q3:=EvP_ok B h1 h2.tI ⟨y0,y2⟩ h4
 have q4:=EvP_ok B h1 h2.sI ⟨y0,y2⟩ h3
 have i1:=behF_is h1 h2 h3 h4
 have i2:=evF_is h1 h2.tI (funs_all h1 h2.tI) h4.2.1 h4.2.2 ⟨y0,y2⟩
 have i3':=evF_is h1 h2.sI (funs_all h1 h2.sI) h3.2.1 h3.2.2 ⟨y0,y2⟩
 have q5:=ThenP_ok B i1 i2 rfl
 have q6:=ThenP_ok B i3' h2 rfl
 have hev:=behind_ev (c:=c) (g:=g) h1 h2 ⟨y0,y2⟩
 change (behF c g).thn _=_ at hev
 rw [hev] at q5
 have q7:=sameFun9_self B ((evF g.src (allF c g.src false) y).thn g);subst hx
 generalize evF g.src (allF c g.src false) y=e2 at *
 generalize evF g.tgt (allF c g.tgt false) y=e1 at *
 generalize behF c g=bh at *
 have o:=o9;refine tt ?_;refine q3.go fun _=>tt ?_;refine ⟨by simp only [maxL]; omega,newRef_own o fun i11 H o=>?_⟩;refine tt ?_;refine sw o fun H o=>tt ?_;refine wk_ref 11 o rfl fun H o=>wkW_done ?_;refine tt ?_;refine q5.go fun _=>tt ?_;refine ⟨by simp only [maxL]; omega,newRef_own o fun i13 H o=>?_⟩;refine tt ?_;refine sw o fun H o=>tt ?_;refine wk_ref 13 o rfl fun H o=>wkW_done ?_;refine tt ?_;refine q4.go fun _=>tt ?_;refine ⟨by simp only [maxL]; omega,newRef_own o fun i15 H o=>?_⟩;refine tt ?_;refine sw o fun H o=>tt ?_;refine wk_ref 15 o rfl fun H o=>wkW_done ?_;refine tt ?_;refine q6.go fun _=>tt ?_;refine ⟨by simp only [maxL]; omega,newRef_own o fun i17 H o=>?_⟩;refine tt ?_;refine sw o fun H o=>tt ?_;refine wk_ref 17 o rfl fun H o=>wkW_done ?_
 have w0 : IntKind.i64.wrap (0+0)=0:=rfl;try simp only [go_sem,↓reduceIte,reduceEqDiff,reduceAdd,reduceMul,reduceLeDiff,reduceLT,w0,dTrue]
 refine q7.go fun _=>tt ?_;exact pure_ret rfl o.sub
end Go.Proofs.Shf
namespace Go.AW
def WN (P : AV→Prop) (a : AV) : Prop:=(∃ al : List AV,a=.sl al∧∀ x,x∈al→P x)∨∃ n,1048576<n∧n≤140737488355328∧a=.big n
def WB (a : AV) : Prop:=(∃ l : List UInt8,a=mL iB l)∨∃ n,1048576<n∧n≤140737488355328∧a=.big n
end Go.AW
namespace Go.Proofs.Shf
open Go.AW Go.Proofs Go.Shf
open Go.Deep
def gh0 (W : World) : Gh:=⟨fun b o=>W.cell? ⟨b,o,none⟩,fun _=>none,fun _=>none⟩
theorem wrel0 (W : World) : WRel (gh0 W) W.heap.size [] W where
 fz b o v h:=h
 fm b es h:=by cases h
 ob i o h:=by simp [Heap.get] at h
 inj i j b c c' n h:=by simp [Heap.get] at h
 injm i j b n h:=by simp [Heap.get] at h
 base:=Nat.le_refl _
 fin:=⟨0,fun i _=>rfl⟩
section
variable {H : Type} {enc : TypeId × Value→H} {W : World}
def RdV (enc : TypeId × Value→H) (W : World) (t : TypeId) (Q : AV→Prop) : Prop :=
 ∀ fuel v d ps,DataW.trod enc Tryz.prog W 0 (fun _=>true) true fuel t [v]=some (d,ps)→(∀ n,n∈d.weights Tryz.prog t→n≤reachBytes)→∃ a,Q a∧VRel (gh0 W) a v
theorem rd_byte : RdV enc W 5 fun a=>∃ b : UInt8,a=Go.AW.iB b:=by
 intro fuel v d ps h _
 cases fuel with
 | zero=>simp [DataW.trod] at h
 | succ fuel =>
  cases v <;> simp only [DataW.trod,Tryz.underlying5] at h <;> try (cases h; done)
  rename_i k n
  split at h
  ·rename_i hk
   obtain ⟨rfl,hf⟩:=hk
   have hr : 0≤n∧n≤255:=by
    simp only [Lit.wf,Bool.and_eq_true,decide_eq_true_eq] at hf;exact ⟨hf.1,hf.2⟩
   refine ⟨_,⟨UInt8.ofNat n.toNat,rfl⟩, ?_⟩
   have e : Go.AW.iB (UInt8.ofNat n.toNat)=.int .u8 n:=by
    have h1 : (UInt8.ofNat n.toNat).toNat=n.toNat:=by rw [UInt8.toNat_ofNat']; omega
    rw [Go.AW.iB,h1,Int.toNat_of_nonneg hr.1]
   rw [e];exact .int _ n
  ·cases h
theorem weightsAll_mem {P : Program} {e : TypeId} {l : List (DataW H)} {x : DataW H} (hx : x∈l) {n : Nat} (hn : n∈x.weights P e) : n∈DataW.weightsAll P e l:=by
 induction l with
 | nil=>simp at hx
 | cons y r ih =>
  simp only [DataW.weightsAll,List.mem_append]
  rcases List.mem_cons.mp hx with rfl | hx
  ·exact .inl hn
  ·exact .inr (ih hx)
theorem rd_slice {t e : TypeId} {Q : AV→Prop} (ht : Tryz.prog.underlying t=some (.slice e)) (hc : Tryz.prog.cellsOf e=1) (hb : 1≤Tryz.prog.bytesOf e) (hQ : ∀ a,Q a→a.cells=[a]) (h : RdV enc W e Q) : RdV enc W t (WN Q):=by
 intro fuel v d ps htr hw
 rcases open_slice1 ht hc htr with ⟨hv,hx⟩ | ⟨a,len,cap,m,n,V,D,Pl,hv,_,hl,hm,hmm,hx,hel⟩
 ·injection hv with hv
  subst hv;exact ⟨.sl [],.inl ⟨[],rfl,by simp⟩,.slnil none 0⟩
 ·injection hv with hv
  subst hv;simp only [if_true] at hmm;subst hmm;simp only [Prod.mk.injEq] at hx
  obtain ⟨rfl,rfl⟩:=hx
  have hw0 : (((List.range len).map D).length+((List.range (m - len)).map fun j=>D (len+j)).length)*Tryz.prog.bytesOf e≤reachBytes:=hw _ (by simp [DataW.weights,ht])
  have hlen : len≤140737488355328:=by
   simp only [List.length_map,List.length_range] at hw0
   have h1 : len*1≤(len+(m - len))*Tryz.prog.bytesOf e:=Nat.mul_le_mul (by omega) hb
   have h2 : reachBytes≤140737488355328:=by decide
   omega
  by_cases hbig : 1099511627776<len
  ·exact ⟨.big len,.inr ⟨len,by omega,hlen,rfl⟩,.big _ _ _ hlen⟩
  ·have hall : ∀ i,∃ x,i<len→Q x∧VRel (gh0 W) x (V i):=by
    intro i
    by_cases hi : i<len
    ·obtain ⟨x,q1,q2⟩:=h n (V i) (D i) (Pl i) (hel i (by omega)).2 fun k hk=>hw k (by
      simp only [DataW.weights,ht,List.mem_cons,List.mem_append];exact .inr (.inl (weightsAll_mem (List.mem_map.mpr ⟨i,List.mem_range.mpr hi,rfl⟩) hk)))
     exact ⟨x,fun _=>⟨q1,q2⟩⟩
    ·exact ⟨.nilp,fun h=>absurd h hi⟩
   obtain ⟨A,hA⟩:=Classical.axiomOfChoice hall
   have hget : ∀ i,i<len→((List.range len).map A).getD i nv=A i:=fun i hi=>getD_map_range A nv hi;refine ⟨.sl ((List.range len).map A),.inl ⟨_,rfl,fun x hx=>?_⟩, ?_⟩
   ·obtain ⟨i,hi,rfl⟩:=List.mem_map.mp hx;exact (hA i (List.mem_range.mp hi)).1
   ·by_cases h0 : len=0
    ·subst h0; exact .slnil _ _
    ·have hsp : a=⟨a.block,a.off,none⟩:=by
      have:=(hel 0 (by omega)).1
      obtain ⟨b,o,s⟩:=a
      cases s with
      | none=>rfl
      | some s=>exfalso; simp [Addr.add,World.cell?] at this; split at this <;> simp at this
     have hadd : ∀ i,a.add i=⟨a.block,a.off+i,none⟩:=by
      intro i;rw [hsp];unfold Addr.add
      split
      ·rename_i e; simp [e]
      ·rfl
     have key : VRel (gh0 W) (.sl ((List.range len).map A)) (.slice (some ⟨a.block,a.off,none⟩) ((List.range len).map A).length m):=by
      refine .sl _ a.block a.off 1 m V (by simp [maxL]; omega) (by simp; omega) (fun i hi=>?_) (fun i j hi hj=>?_) (fun i j hi hj=>?_)
      ·rw [hget i (by simpa using hi),hQ _ (hA i (by simpa using hi)).1]; rfl
      ·have hi' : i<len:=by simpa using hi
       have:=(hel i (by omega)).1;rw [hadd] at this
       have e : i*1+j=i:=by omega
       rw [e]; exact this
      ·have hi' : i<len:=by simpa using hi
       have e : i*1+j=i:=by omega
       obtain rfl : j=0:=by omega
       rw [e,hget i hi',hQ _ (hA i hi').1];exact (hA i hi').2
     rw [List.length_map,List.length_range,← hsp] at key;exact key
theorem WB.of {a : AV} (h : WN (fun a=>∃ b : UInt8,a=Go.AW.iB b) a) : WB a:=by
 rcases h with ⟨l,rfl,hl⟩ | h
 ·refine .inl ⟨l.map fun x=>match x with | .int _ n=>UInt8.ofNat n.toNat | _=>0, ?_⟩
  rw [mL,List.map_map]
  congr 1
  have : ∀ x,x∈l→(Go.AW.iB ∘ fun x : AV=>match x with | .int _ n=>UInt8.ofNat n.toNat | _=>0) x=x:=fun x hx=>by
   obtain ⟨n,rfl⟩:=hl x hx
   simp [Go.AW.iB]
  exact ((List.map_congr_left this).trans (by simp)).symm
 ·exact .inr h
theorem rd_bytes : ∀ fuel v d ps,DataW.trod enc Tryz.prog W 0 (fun _=>true) true fuel 22 [v]=some (d,ps)→(∀ n,n∈d.weights Tryz.prog 22→n≤reachBytes)→∃ a,WB a∧VRel (gh0 W) a v:=fun fuel v d ps k w=>by
 obtain ⟨a,q1,q2⟩:=rd_slice Tryz.underlying22 (by kernel_rfl) (of_decide_eq_true (by kernel_rfl)) (fun a ⟨n,e⟩=>by rw [e]; rfl) rd_byte fuel v d ps k w;exact ⟨a,WB.of q1,q2⟩
end
theorem big_big (B n : Nat) (hn : 1048576<n) : Pur Tryz.prog B 8 [.big n] (.bool true):=by
 refine ⟨fun H0=>c8 (by simp) fun hf=>?_⟩;unfold s8;refine tt ?_;exact pure_ret (by congr 1; simp; omega) (.refl _)
end Go.Proofs.Shf
namespace Go.Proofs.Shf
open Go.AW Go.Proofs Go.Shf
theorem fnPost_all (B : Nat) (a : AV) (h : WB a) : Pur Tryz.prog B 4 [a] (.bool true):=by
 rcases h with ⟨l,rfl⟩ | ⟨n,hn,_,rfl⟩
 ·exact fnPost_ok B l
 ·refine ⟨fun H0=>c4p (by simp) fun _=>?_⟩;unfold s4p;refine tt ?_;refine (big_big B n hn).go fun _=>tt ?_;exact pure_ret rfl (.refl _)
end Go.Proofs.Shf
