/- A part of a proof. -/
import Derived.Test.YtnpimpkmgmnhhaaGreatF14
import Derived.Deep.Slices
import Derived.SizedLaws
set_option linter.unusedVariables false
set_option linter.unusedSimpArgs false
set_option linter.unusedSectionVars false
set_option maxRecDepth 100000
open Nat (reduceEqDiff reduceAdd reduceMul reduceLeDiff reduceLT)
namespace Go.Proofs.Shf
open Go.AW Go.Proofs Go.Shf
theorem same29_ok (B : Nat) (a b : List (List Int)) : Pur Tryz.prog B 160 [iLL a,iLL b] (.bool (dec (a=b))):=by
 refine ⟨fun H0=>c160 (by simp) fun ⟨hf,hg,_⟩=>?_⟩
 have hl:=fine_mL_le hf
 have hl2:=fine_mL_le hg;simp only [maxL] at hl hl2;unfold s160;refine tt ?_;apply bk <;> intro h0
 ·refine tt ?_
  have h0p : a.length≠b.length:=by simpa using h0
  exact pure_ret (by rw [dec_f]; rintro rfl; exact h0p rfl) (.refl _)
 have h0p : a.length=b.length:=by simpa using h0
 refine tt ?_;refine awp_for [0,1] (fun k _=>[(5,some (.int .i64 (k : Int)))]) (fun k _ H=>H=H0∧∀ i,i<k→a.getD i default=b.getD i default) a.length () ⟨rfl,by simp⟩ rfl ?_
 rintro k _ H hk ⟨rfl,hall⟩;refine tt ?_;apply bk <;> intro h1
 ·have h1:=of_decide h1
  have w1:=wsucc (k:=k) (by omega);refine tt ?_;refine ⟨h1,by omega, ?_⟩;refine ⟨_,(likeInts_ok B (a.getD k default) (b.getD k default)).run, ?_⟩
  by_cases h2 : a.getD k default=b.getD k default
  ·rw [dec_t h2];refine tw w1 ?_;exact for_next () (by omega) ⟨rfl,lt_succ_all hall h2⟩ rfl
  ·rw [dec_f h2];refine tt ?_;exact pure_ret (by rw [dec_f]; rintro rfl; exact h2 rfl) (.refl _)
 ·refine tt ?_
  have h1:=of_ndecide h1;refine pure_ret ?_ (.refl _);rw [dec_t];refine List.ext_getElem h0p fun i hi hj=>?_
  have:=hall i (by omega)
  simpa [List.getD_eq_getElem?_getD,hi,hj] using this
theorem sameCat9_ok (B : Nat) (a b : Cat) : Pur Tryz.prog B 82 [.agg a.cells,.agg b.cells] (.bool (dec (a=b))):=by
 refine ⟨fun H0=>c82 (by simp) fun _=>?_⟩;unfold s82
 obtain ⟨o1,f1,t1,i1,c1⟩:=a
 obtain ⟨o2,f2,t2,i2,c2⟩:=b;refine tt ?_;apply bk <;> intro h1
 rotate_left 1
 ·refine tw h1 ?_
  have h1p:=of_ndecide h1;exact pure_ret (by rw [dec_f]; intro e; injection e with e1; exact h1p e1) (.refl _)
 have h1p : o1=o2:=of_decide h1;subst h1p;refine td ?_;refine (likeInts_ok B f1 f2).go fun _=>?_
 by_cases h2 : f1=f2
 rotate_left 1
 ·rw [dec_f h2];refine tt ?_;exact pure_ret (by rw [dec_f]; intro e; injection e with _ e1; exact h2 e1) (.refl _)
 subst h2;rw [dec_t rfl];refine tt ?_;refine (likeInts_ok B t1 t2).go fun _=>?_
 by_cases h3 : t1=t2
 rotate_left 1
 ·rw [dec_f h3];refine tt ?_;exact pure_ret (by rw [dec_f]; intro e; injection e with _ _ e1; exact h3 e1) (.refl _)
 subst h3;rw [dec_t rfl];refine tt ?_;refine (likeInts_ok B i1 i2).go fun _=>?_
 by_cases h4 : i1=i2
 rotate_left 1
 ·rw [dec_f h4];refine tt ?_;exact pure_ret (by rw [dec_f]; intro e; injection e with _ _ _ e1; exact h4 e1) (.refl _)
 subst h4;rw [dec_t rfl];refine tt ?_;refine (same29_ok B c1 c2).go fun _=>tt ?_;exact pure_ret (by congr 1; exact dec_congr ⟨fun e=>by rw [e],fun e=>by injection e⟩) (.refl _)
theorem sameFun9_ok (B : Nat) (a b : FU) : Pur Tryz.prog B 22 [.agg a.cells,.agg b.cells] (.bool (dec (a=b))):=by
 refine ⟨fun H0=>c22 (by simp) fun _=>?_⟩;unfold s22
 obtain ⟨c1,d1,z1,a1⟩:=a
 obtain ⟨c2,d2,z2,a2⟩:=b
 have q1:=sameCat9_ok B c1 c2
 have q2:=sameCat9_ok B d1 d2;refine tt ?_;refine q1.go fun _=>?_
 by_cases h2 : c1=c2
 rotate_left 1
 ·rw [dec_f h2];refine tt ?_;exact pure_ret (by rw [dec_f]; intro e; injection e with e1; exact h2 e1) (.refl _)
 subst h2;rw [dec_t rfl];refine tt ?_;refine q2.go fun _=>?_
 by_cases h5 : d1=d2
 rotate_left 1
 ·rw [dec_f h5];refine tt ?_;exact pure_ret (by rw [dec_f]; intro e; injection e with _ e1; exact h5 e1) (.refl _)
 subst h5;rw [dec_t rfl];refine tt ?_;refine (likeInts_ok B z1 z2).go fun _=>?_
 by_cases h3 : z1=z2
 rotate_left 1
 ·rw [dec_f h3];refine tt ?_;exact pure_ret (by rw [dec_f]; intro e; injection e with _ _ e1; exact h3 e1) (.refl _)
 subst h3;rw [dec_t rfl];refine tt ?_;refine (likeInts_ok B a1 a2).go fun _=>tt ?_;exact pure_ret (by congr 1; exact dec_congr ⟨fun e=>by rw [e],fun e=>by injection e⟩) (.refl _)
theorem thenFuI (B : Nat) {k g : FU} (hk : k.Is) (hg : g.Is) (e : k.tgt=g.src) : Pur Tryz.prog B 72 [.ptr k.cells,.ptr g.cells] (.agg (k.thn g).cells):=by
 have h1:=hg.fit.ol
 have h2:=hg.fit.al;refine thenFu_ok B k g (fun y hy=>?_) fun y hy=>?_
 ·have:=hk.fit.obr y hy;rw [e] at this;omega
 ·have:=hk.fit.arr y hy;rw [e] at this;omega
theorem befI_ok (B : Nat) {f k : FU} (hf : f.Is) (hk : k.Is) (e : f.tgt=k.src) : Pur Tryz.prog B 91 [.ptr k.cells,.ptr f.cells] (.agg (f.thn k).cells):=by
 refine ⟨fun H0=>c91 (by simp) fun _=>?_⟩;unfold s91
 have o : Owns H0 H0 []:=.nil _
 have q:=thenFuI B hf hk e;refine tt ?_;refine nb o fun i3 H o=>tt ?_;refine q.go fun _=>tt ?_;refine sw o fun H o=>tt ?_;rw [o.rc 12 0 (by simp)];exact pure_ret rfl o.sub
theorem befC_ok (B : Nat) (t : List Int) (f : FU) (h : ∀ y,y∈f.ob→0≤y∧y.toNat<t.length) : Pur Tryz.prog B 92 [iL t,.ptr f.cells] (iL (thenL f.ob t)):=by
 refine ⟨fun H0=>c92 (by simp) fun _=>?_⟩;unfold s92
 have q:=then_ok B f.ob t h;refine tt ?_;refine q.go fun _=>tt ?_;exact pure_ret rfl (.refl _)
theorem betwP_ok (B : Nat) {n1 n2 : Nat} {ca1 ca2 : List AV} {c d c' e : Cat} {Fs Gs : List FU} {im : FU→FU} {cm : List Int→List Int} (h : BetH c d c' e Fs Gs im cm)
  (hFl : Fs.length≤8) (hAl : (arrN Fs).length≤40) (hGl : Gs.length≤8) (hne : Gs.Pairwise FuNe) (hs : SmallF Gs) (hl : ∀ k,k∈Gs→k.ob.length≤1000∧k.ar.length≤1000) (hA : SmallL (arrN Gs)) (hc : 0≤c.objs)
  (hI : ∀ i,i<Fs.length→Pur Tryz.prog B n1 (.ptr (Fs.getD i default).cells::ca1) (.agg (im (Fs.getD i default)).cells))
  (hC : ∀ i j t,i<Fs.length→j<Fs.length→NatF (Fs.getD i default) (Fs.getD j default) t→Pur Tryz.prog B n2 (iL t::ca2) (iL (cm t))) :
  Pur Tryz.prog B 70 [.ptr (fcC d Fs),.ptr (fcC e Gs),.fn (.func n1) ca1,.fn (.func n2) ca2] (.agg (betw d e Fs Gs im cm).cells):=by
 refine ⟨fun H0=>c70p (by simp) fun _=>?_⟩;unfold s70p
 have o : Owns H0 H0 []:=.nil _;refine tt ?_;refine nb o fun i8 H o=>tt ?_;refine new_list iI o fun i15 H o=>tt ?_;refine new_list iI o fun i16 H o=>?_
 have o : Owns H0 H ((i15,.cells 1 (([] : List Int).map iI) 0)::(i16,.cells 1 (([] : List Int).map iI) 0)::[(i8,.cells 12 z12 0)]):=o.swap;refine tt ?_
 have hobj : ∀ k : Nat,k<Fs.length→im (Fs.getD k default)∈Gs:=h.mem
 have hAm : ∀ s,s∈arrN Fs→∃ (i j : Nat) (t : List Int),i<Fs.length∧j<Fs.length∧s=(i : Int)::(j : Int)::t∧NatF (Fs.getD i default) (Fs.getD j default) t:=fun s h1=>arr_look (n:=c.objs) hc (fun i hi=>by rw [(h.hF.f i hi).2.1]) h1;refine awp_for [0,1,2,3,8,10,21] (G:=Nat) (fun i b=>[(9,some (.buf b i)),(22,some (.int .i64 (i : Int)))]) (fun i b H=>Owns H0 H ((b,.cells 1 (((Fs.take i).map fun k=>((posF Gs (im k) : Nat) : Int)).map iI) 0)::(i16,.cells 1 (([] : List Int).map iI) 0)::[(i8,.cells 12 z12 0)])) Fs.length i15 o rfl ?_;clear o
 rintro i b H hi o
 replace o : Owns H0 H ((b,.cells 1 (((Fs.take i).map fun k=>((posF Gs (im k) : Nat) : Int)).map iI) 0)::(i16,.cells 1 (([] : List Int).map iI) 0)::[(i8,.cells 12 z12 0)]):=o
 have hl1 : ((Fs.take i).map fun k=>((posF Gs (im k) : Nat) : Int)).length=i:=by rw [List.length_map,List.length_take]; omega
 refine tt ?_
 by_cases c1p : i<Fs.length
 ·rw [decide_eq_true c1p]
  have v1:=wsucc (k:=i) (by omega)
  have ht1 : ((Fs.take (i+1)).map fun k=>((posF Gs (im k) : Nat) : Int))=((Fs.take i).map fun k=>((posF Gs (im k) : Nat) : Int))++[((posF Gs (im (Fs.getD i default)) : Nat) : Int)]:=by
   rw [List.take_succ_eq_append_getElem c1p,List.map_append]
   simp [List.getD_eq_getElem?_getD,c1p]
  have q1:=hI i c1p
  have q2:=object_ok B (d:=e) hGl hne hs hl (hobj i c1p)
  generalize im (Fs.getD i default)=m at q1 q2 ht1;refine tt ?_;refine ⟨c1p,tt ?_⟩;refine q1.go fun _=>tt ?_;refine ⟨by simp only [maxL]; omega,newRef_own o fun i12 H o=>?_⟩;refine tt ?_;refine sw o fun H o=>tt ?_;refine rd_cells o (by simp) ?_;refine tt ?_;refine rd_cells o (by simp) ?_;refine tt ?_;refine q2.go fun _=>tt ?_;refine app_own (f:=iI) ((posF Gs m : Nat) : Int) o.tl rfl hl1.symm (by rw [hl1]; simp only [maxL]; omega) fun b H o=>?_;rw [← ht1] at o
  have hl2 : (((Fs.take i).map fun k=>((posF Gs (im k) : Nat) : Int))++[((posF Gs m : Nat) : Int)]).length=i+1:=by rw [List.length_append,hl1]; rfl
  try simp only [go_sem,↓reduceIte,reduceEqDiff,reduceAdd,reduceMul,reduceLeDiff,reduceLT,v1,hl2]
  exact for_next b c1p o rfl
 rw [decide_eq_false c1p]
 have : i=Fs.length:=by omega
 subst this;rw [List.take_length] at o hl1;clear c1p
 obtain ⟨ob,hob⟩ : ∃ ob,(Fs.map fun k=>((posF Gs (im k) : Nat) : Int))=ob:=⟨_,rfl⟩
 have hobAt : ∀ k,k<Fs.length→ob.getD k default=((posF Gs (im (Fs.getD k default)) : Nat) : Int):=fun k hk=>by rw [← hob,map_getD _ hk]
 have hres : betw d e Fs Gs im cm=⟨fcat d Fs,fcat e Gs,ob,(arrN Fs).map fun s=>indexOf (arrN Gs) (((posF Gs (im (Fs.getD (s.getD 0 default).toNat default)) : Nat) : Int)::((posF Gs (im (Fs.getD (s.getD 1 default).toNat default)) : Nat) : Int)::cm (s.drop 2))⟩:=by rw [← hob]; rfl
 rw [hob] at o hl1;refine tt ?_;refine fz_own (f:=iI) o hl1.symm fun H o=>tt ?_;refine awp_for [0,1,3,8,9,46,47] (G:=Nat) (fun a b=>[(10,some (.buf b a)),(48,some (.int .i64 (a : Int)))]) (fun a b H=>Owns H0 H ((b,.cells 1 ((((arrN Fs).take a).map fun s=>indexOf (arrN Gs) (((posF Gs (im (Fs.getD (s.getD 0 default).toNat default)) : Nat) : Int)::((posF Gs (im (Fs.getD (s.getD 1 default).toNat default)) : Nat) : Int)::cm (s.drop 2))).map iI) 0)::[(i8,.cells 12 z12 0)])) (arrN Fs).length i16 o rfl ?_;clear o
 rintro a b H ha o
 replace o : Owns H0 H ((b,.cells 1 ((((arrN Fs).take a).map fun s=>indexOf (arrN Gs) (((posF Gs (im (Fs.getD (s.getD 0 default).toNat default)) : Nat) : Int)::((posF Gs (im (Fs.getD (s.getD 1 default).toNat default)) : Nat) : Int)::cm (s.drop 2))).map iI) 0)::[(i8,.cells 12 z12 0)]):=o
 obtain ⟨R,hR⟩ : ∃ R,(((arrN Fs).take a).map fun s=>indexOf (arrN Gs) (((posF Gs (im (Fs.getD (s.getD 0 default).toNat default)) : Nat) : Int)::((posF Gs (im (Fs.getD (s.getD 1 default).toNat default)) : Nat) : Int)::cm (s.drop 2)))=R:=⟨_,rfl⟩
 have hRl : R.length=a:=by rw [← hR,List.length_map,List.length_take]; omega
 rw [hR] at o;refine tt ?_
 by_cases c2p : a<(arrN Fs).length
 ·rw [decide_eq_true c2p]
  have v2:=wsucc (k:=a) (by omega)
  obtain ⟨i,j,t,hi,hj,hse,hn⟩:=hAm _ (mem_getD.mpr ⟨a,c2p,rfl⟩)
  have harr:=h.arr hi hj hn;rw [← hobAt i hi,← hobAt j hj] at harr
  have ht2 : (((arrN Fs).take (a+1)).map fun s=>indexOf (arrN Gs) (((posF Gs (im (Fs.getD (s.getD 0 default).toNat default)) : Nat) : Int)::((posF Gs (im (Fs.getD (s.getD 1 default).toNat default)) : Nat) : Int)::cm (s.drop 2)))=R++[indexOf (arrN Gs) (ob.getD i default::ob.getD j default::cm t)]:=by
   rw [List.take_succ_eq_append_getElem c2p,List.map_append,hR,hobAt i hi,hobAt j hj]
   have : (arrN Fs)[a]=(i : Int)::(j : Int)::t:=by rw [← hse]; simp [List.getD_eq_getElem?_getD,c2p]
   rw [this]; rfl
  have x0 : ix ((i : Int)::(j : Int)::t) 0=(i : Int):=rfl
  have x1 : ix ((i : Int)::(j : Int)::t) 1=(j : Int):=rfl
  have z1 : List.drop (Int.toNat 2) ((i : Int)::(j : Int)::t)=t:=rfl
  have q3:=hC i j t hi hj hn
  have q4:=arrow_ptr B hA harr (iI (Gs.length : Int)) (iL (fcat e Gs).frm) (iL (fcat e Gs).to) (iL (fcat e Gs).idn) (iLL (fcat e Gs).comp) (mL fuE Gs) (iLL (arrN Gs));refine tt ?_;refine ⟨c2p, ?_⟩;rw [hse];refine tt ?_;rw [x0,x1,z1]
  have b0 : ix ob (i : Int)=ob.getD i default:=ix_nat _ _
  have b1 : ix ob (j : Int)=ob.getD j default:=ix_nat _ _;rw [b0,b1];refine ⟨⟨by decide,by simp⟩,⟨by omega,by rw [Int.toNat_natCast,hl1]; exact hi⟩,⟨by decide,by simp⟩,⟨by omega,by rw [Int.toNat_natCast,hl1]; exact hj⟩,⟨by decide,by omega⟩,_,q3.run,_,q4.run,⟨rfl,fun c hc=>by obtain rfl:=List.mem_singleton.mp hc; rfl⟩, ?_⟩;refine app_own (f:=iI) (indexOf (arrN Gs) (ob.getD i default::ob.getD j default::cm t)) o rfl hRl.symm (by rw [hRl]; simp only [maxL]; omega) fun b H o=>?_
  have hl3 : (R++[indexOf (arrN Gs) (ob.getD i default::ob.getD j default::cm t)]).length=a+1:=by rw [List.length_append,hRl]; rfl
  try simp only [go_sem,↓reduceIte,reduceEqDiff,reduceAdd,reduceMul,reduceLeDiff,reduceLT,v2,hl3]
  refine for_next b c2p ?_ rfl;rw [ht2];exact o
 rw [decide_eq_false c2p]
 have : a=(arrN Fs).length:=by omega
 subst this;rw [List.take_length] at hR;refine tt ?_;refine fz_own (f:=iI) o hRl.symm fun H o=>?_;rw [hR] at hres
 have q5:=functor_ok B (fcat d Fs) (fcat e Gs) ob R;refine tt ?_;refine ⟨_,q5.run,tt ?_⟩;refine st_cells o (by simp [z12]) (by (try simp only [go_sem]); (try simp)) (by first | (simp only [go_sem]; done) | ((try simp only [go_sem]); simp [AV.one,one_mL])) fun H o=>?_;unfold z12 at o;simp only [wr_cons,wr_nil,List.set_cons_zero,List.set_cons_succ] at o;refine tt ?_;rw [o.rc 12 0 (by simp)];refine tt ?_;exact pure_ret (by rw [hres]) o.sub
theorem len_all {c d : Cat} (hc : c.Is) (hd : d.Is) : ∀ k,k∈allF c d false→k.ob.length≤1000∧k.ar.length≤1000:=fun k hk=>by
 obtain ⟨h1,h2,h3,-⟩:=(mem_allF hc hd).mp hk
 have q1:=h3.fit.ol
 have q2:=h3.fit.al;rw [h1] at q1 q2
 have:=hc.1.o
 have:=hc.1.m;omega
theorem small_all {c d : Cat} (hc : c.Is) (hd : d.Is) : SmallF (allF c d false):=fun k hk=>by
 obtain ⟨h1,h2,h3,-⟩:=(mem_allF hc hd).mp hk
 have q1:=h3.fit.obr
 have q2:=h3.fit.arr;rw [h2] at q1 q2
 have:=hd.1.o
 have:=hd.1.m;exact ⟨fun y hy=>by have:=q1 y hy; omega,fun y hy=>by have:=q2 y hy; omega⟩
theorem fu_one (k : FU) : ∀ x,x∈k.cells→AV.one x=true:=by
 intro x hx
 obtain ⟨⟨c1,c2,c3,c4,c5⟩,⟨d1,d2,d3,d4,d5⟩,ob,ar⟩:=k;simp only [FU.cells,Cat.cells,List.cons_append,List.nil_append,List.mem_cons,List.not_mem_nil,or_false] at hx
 rcases hx with rfl | rfl | rfl | rfl | rfl | rfl | rfl | rfl | rfl | rfl | rfl | rfl <;> first | rfl | exact one_mL _ _
theorem ComposeBeforeP_ok (B : Nat) (f : FU) (d : Cat) : Pur Tryz.prog B 28 [.agg f.cells,.agg d.cells] (befV f d):=by
 refine ⟨fun H0=>c28 (by simp) fun _=>?_⟩;unfold s28
 have o : Owns H0 H0 []:=.nil _;refine tt ?_;refine nb o fun i4 H o=>tt ?_;refine (isFunctor_ok B f).go fun _=>?_
 by_cases h1 : f.Is
 rotate_left
 ·rw [dec_f h1]
  have hres : befV f d=.tup [.agg z12,iI 1]:=by rw [befV,dec_f (fun q=>h1 q.1),if_neg (by simp)]
  refine tt ?_;refine sw o fun H o=>tt ?_;rw [o.rc 12 0 (by simp)];refine tt ?_;exact pure_ret (by rw [hres]; rfl) o.sub
 rw [dec_t h1];refine tt ?_;refine (isCategory_ok B d).go fun _=>?_
 by_cases h2 : d.Is
 rotate_left
 ·rw [dec_f h2]
  have hres : befV f d=.tup [.agg z12,iI 1]:=by rw [befV,dec_f (fun q=>h2 q.2),if_neg (by simp)]
  refine tt ?_;refine sw o fun H o=>tt ?_;rw [o.rc 12 0 (by simp)];refine tt ?_;exact pure_ret (by rw [hres]; rfl) o.sub
 rw [dec_t h2]
 have q1:=functors_ok B h1.tI h2
 have q2:=functors_ok B h1.sI h2
 have hbh:=before_h h1 h2;rw [fcV] at q1 q2;refine tt ?_;refine q1.go fun _=>?_
 by_cases h3 : SpOk f.tgt d
 rotate_left
 ·have hres : befV f d=.tup [.agg z12,iI 3]:=by rw [befV,dec_t ⟨h1,h2⟩,if_pos rfl,dec_f (fun q=>h3 q.1),if_neg (by simp)]
  rw [dec_f h3,if_neg (by simp)];refine tt ?_;refine q2.go fun _=>?_
  by_cases h4 : SpOk f.src d
  ·rw [dec_t h4,if_pos rfl];refine tt ?_;refine sw o fun H o=>tt ?_;rw [o.rc 12 0 (by simp)];refine tt ?_;exact pure_ret (by rw [hres]; rfl) o.sub
  ·rw [dec_f h4,if_neg (by simp)];refine tt ?_;refine sw o fun H o=>tt ?_;rw [o.rc 12 0 (by simp)];refine tt ?_;exact pure_ret (by rw [hres]; rfl) o.sub
 rw [dec_t h3,if_pos rfl];refine tt ?_;refine q2.go fun _=>?_
 by_cases h4 : SpOk f.src d
 rotate_left
 ·have hres : befV f d=.tup [.agg z12,iI 3]:=by rw [befV,dec_t ⟨h1,h2⟩,if_pos rfl,dec_f (fun q=>h4 q.2),if_neg (by simp)]
  rw [dec_f h4,if_neg (by simp)];refine tt ?_;refine sw o fun H o=>tt ?_;rw [o.rc 12 0 (by simp)];refine tt ?_;exact pure_ret (by rw [hres]; rfl) o.sub
 rw [dec_t h4,if_pos rfl]
 have hres : befV f d=.tup [.agg (befF f d).cells,iI 0]:=by rw [befV,dec_t ⟨h1,h2⟩,if_pos rfl,dec_t ⟨h3,h4⟩,if_pos rfl]
 have q3:=betwP_ok B (n1:=91) (n2:=92) (ca1:=[.ptr f.cells]) (ca2:=[.ptr f.cells]) hbh h3.2.1 h3.2.2 h4.2.1 allF_ne (small_all h1.sI h2) (len_all h1.sI h2) (small_arr h1.sI h2 hbh.hG h4.2.1) h1.tI.1.o.1 (fun i hi=>befI_ok B h1 (hbh.hF.f i hi).1 (hbh.hF.f i hi).2.1.symm) (fun i j t hi hj hn=>befC_ok B t f fun y hy=>by
  have h5:=hn.len
  have h6:=h1.fit.obr y hy;rw [(hbh.hF.f i hi).2.1] at h5;omega)
 refine tt ?_;refine q3.go fun _=>tt ?_;refine st_cells o (by simp) (by (try simp only [go_sem]); (try simp)) (fu_one _) fun H o=>?_
 replace o : Owns H0 H ((i4,.cells 12 (befF f d).cells 0)::[]):=o;refine tt ?_;rw [o.rc 12 0 (Nat.le_refl 12)];exact pure_ret (by rw [hres]; rfl) o.sub
theorem ThenP_ok (B : Nat) {f g : FU} (hf : f.Is) (hg : g.Is) (e : f.tgt=g.src) : Pur Tryz.prog B 26 [.agg f.cells,.agg g.cells] (.tup [.agg (f.thn g).cells,iI 0]):=by
 refine ⟨fun H0=>c26 (by simp) fun _=>?_⟩;unfold s26
 have o : Owns H0 H0 []:=.nil _
 have q1:=areFunctors_ok B [f,g];rw [dec_t (by simp [hf,hg])] at q1
 have q2:=sameCategory_ok B f.tgt g.src;rw [dec_t e] at q2
 have q3:=thenFuI B hf hg e;refine tt ?_;refine nb o fun i4 H o=>tt ?_;refine q1.go fun _=>tt ?_;refine q2.go fun _=>tt ?_;refine q3.go fun _=>tt ?_;refine st_cells o (by simp) (by (try simp only [go_sem]); (try simp)) (fu_one _) fun H o=>?_
 replace o : Owns H0 H ((i4,.cells 12 (f.thn g).cells 0)::[]):=o;refine tt ?_;rw [o.rc 12 0 (Nat.le_refl 12)];exact pure_ret rfl o.sub
theorem EvP_ok (B : Nat) {c d : Cat} {x : Int} (hc : c.Is) (hd : d.Is) (hx : 0≤x∧x<c.objs) (hs : SpOk c d) : Pur Tryz.prog B 25 [.agg c.cells,.agg d.cells,iI x] (.tup [.agg (evF d (allF c d false) x).cells,iI 0]):=by
 refine ⟨fun H0=>c25p (by simp) fun _=>?_⟩;unfold s25p
 have o : Owns H0 H0 []:=.nil _
 have ho:=hc.1.o
 have q1:=areCategories_ok B [c,d];rw [dec_t (by simp [hc,hd])] at q1
 have q2:=inRange_ok B x 0 (c.objs - 1);rw [dec_t (by omega)] at q2
 have q3:=functors_ok B hc hd;rw [fcV,dec_t hs,if_pos rfl] at q3
 have w0 : IntKind.i64.wrap (c.objs - 1)=c.objs - 1:=wrap_i64 (by omega) (by omega)
 have hF:=funs_all hc hd
 have hFl:=hs.2.1
 have hAl:=hs.2.2;refine tt ?_;refine nb o fun i6 H o=>tt ?_;refine q1.go fun _=>?_;refine tw w0 ?_;refine q2.go fun _=>tt ?_;refine q3.go fun _=>?_
 generalize allF c d false=Fs at *;refine tt ?_;refine new_list iI o fun i34 H o=>tt ?_;refine new_list iI o fun i35 H o=>?_
 have o : Owns H0 H ((i34,.cells 1 (([] : List Int).map iI) 0)::(i35,.cells 1 (([] : List Int).map iI) 0)::[(i6,.cells 12 z12 0)]):=o.swap;refine tt ?_;refine awp_for [2,4,6,8,11,39,40] (G:=Nat) (fun i b=>[(10,some (.buf b i)),(41,some (.int .i64 (i : Int)))]) (fun i b H=>Owns H0 H ((b,.cells 1 (((Fs.take i).map fun k=>ix k.ob x).map iI) 0)::(i35,.cells 1 (([] : List Int).map iI) 0)::[(i6,.cells 12 z12 0)])) Fs.length i34 o rfl ?_;clear o
 rintro i b H hi o
 replace o : Owns H0 H ((b,.cells 1 (((Fs.take i).map fun k=>ix k.ob x).map iI) 0)::(i35,.cells 1 (([] : List Int).map iI) 0)::[(i6,.cells 12 z12 0)]):=o
 have hl1 : ((Fs.take i).map fun k=>ix k.ob x).length=i:=by rw [List.length_map,List.length_take]; omega
 refine tt ?_
 by_cases c1p : i<Fs.length
 ·rw [decide_eq_true c1p]
  have v1:=wsucc (k:=i) (by omega)
  have ht1 : ((Fs.take (i+1)).map fun k=>ix k.ob x)=((Fs.take i).map fun k=>ix k.ob x)++[ix (Fs.getD i default).ob x]:=by
   rw [List.take_succ_eq_append_getElem c1p,List.map_append]
   simp [List.getD_eq_getElem?_getD,c1p]
  have F1:=hF.f i c1p
  have hol:=F1.1.fit.ol;rw [F1.2.1] at hol
  have hxl : 0≤x∧x.toNat<(Fs.getD i default).ob.length:=by omega
  refine tt ?_;refine ⟨c1p,tt ?_⟩;refine ⟨by simp only [maxL]; omega,newRef_own o fun i13 H o=>?_⟩;refine tt ?_;refine sw o fun H o=>tt ?_;refine rd_cells o (by simp) ?_;refine tt ?_;refine ⟨hxl,tt ?_⟩;refine app_own (f:=iI) (ix (Fs.getD i default).ob x) o.tl rfl hl1.symm (by rw [hl1]; simp only [maxL]; omega) fun b H o=>?_;rw [← ht1] at o
  have hl2 : (((Fs.take i).map fun k=>ix k.ob x)++[ix (Fs.getD i default).ob x]).length=i+1:=by rw [List.length_append,hl1]; rfl
  try simp only [go_sem,↓reduceIte,reduceEqDiff,reduceAdd,reduceMul,reduceLeDiff,reduceLT,v1,hl2]
  exact for_next b c1p o rfl
 rw [decide_eq_false c1p]
 have : i=Fs.length:=by omega
 subst this;rw [List.take_length] at o hl1;clear c1p
 obtain ⟨ob,hob⟩ : ∃ ob,(Fs.map fun k=>ix k.ob x)=ob:=⟨_,rfl⟩
 have hres : evF d Fs x=⟨fcat d Fs,d,ob,(arrN Fs).map fun s=>ix (s.drop 2) x⟩:=by rw [← hob]; rfl
 have hAm : ∀ s,s∈arrN Fs→∃ (i j : Nat) (t : List Int),i<Fs.length∧j<Fs.length∧s=(i : Int)::(j : Int)::t∧NatF (Fs.getD i default) (Fs.getD j default) t:=fun s h1=>arr_look (n:=c.objs) ho.1 (fun i hi=>by rw [(hF.f i hi).2.1]) h1;rw [hob] at o hl1;refine tt ?_;refine awp_for [2,4,6,8,10,57,58] (G:=Nat) (fun a b'=>[(11,some (.buf b' a)),(59,some (.int .i64 (a : Int)))]) (fun a b' H=>Owns H0 H ((b',.cells 1 ((((arrN Fs).take a).map fun s=>ix (s.drop 2) x).map iI) 0)::(b,.cells 1 (ob.map iI) 0)::[(i6,.cells 12 z12 0)])) (arrN Fs).length i35 o.swap rfl ?_;clear o
 rintro a b' H ha o
 replace o : Owns H0 H ((b',.cells 1 ((((arrN Fs).take a).map fun s=>ix (s.drop 2) x).map iI) 0)::(b,.cells 1 (ob.map iI) 0)::[(i6,.cells 12 z12 0)]):=o
 obtain ⟨R,hR⟩ : ∃ R,(((arrN Fs).take a).map fun s=>ix (s.drop 2) x)=R:=⟨_,rfl⟩
 have hRl : R.length=a:=by rw [← hR,List.length_map,List.length_take]; omega
 rw [hR] at o;refine tt ?_
 by_cases c2p : a<(arrN Fs).length
 ·rw [decide_eq_true c2p]
  have v2:=wsucc (k:=a) (by omega)
  obtain ⟨i,j,t,hi,hj,hse,hn⟩:=hAm _ (mem_getD.mpr ⟨a,c2p,rfl⟩)
  have ht2 : (((arrN Fs).take (a+1)).map fun s=>ix (s.drop 2) x)=R++[ix t x]:=by
   rw [List.take_succ_eq_append_getElem c2p,List.map_append,hR]
   have : (arrN Fs)[a]=(i : Int)::(j : Int)::t:=by rw [← hse]; simp [List.getD_eq_getElem?_getD,c2p]
   rw [this]; rfl
  have htl:=hn.len;rw [(hF.f i hi).2.1] at htl
  have w2 : IntKind.i64.wrap (2+x)=2+x:=wrap_i64 (by omega) (by omega)
  have x2 : ix ((i : Int)::(j : Int)::t) (2+x)=ix t x:=by
   rw [ix,ix,show (2+x).toNat=x.toNat+2 by omega]; rfl
  refine tt ?_;refine ⟨c2p, ?_⟩;rw [hse];refine tw w2 ?_;refine ⟨⟨by omega,by first | omega | (simp only [List.length_cons]; omega)⟩, ?_⟩;rw [x2];refine tt ?_;refine app_own (f:=iI) (ix t x) o rfl hRl.symm (by rw [hRl]; simp only [maxL]; omega) fun b' H o=>?_
  have hl3 : (R++[ix t x]).length=a+1:=by rw [List.length_append,hRl]; rfl
  try simp only [go_sem,↓reduceIte,reduceEqDiff,reduceAdd,reduceMul,reduceLeDiff,reduceLT,v2,hl3]
  refine for_next b' c2p ?_ rfl;rw [ht2];exact o
 rw [decide_eq_false c2p]
 have : a=(arrN Fs).length:=by omega
 subst this;rw [List.take_length] at hR;rw [hR] at hres
 have q5:=functor_ok B (fcat d Fs) d ob R;refine tt ?_;refine fz_own (f:=iI) o hRl.symm fun H o=>tt ?_;refine fz_own (f:=iI) o hl1.symm fun H o=>tt ?_;refine q5.go fun _=>tt ?_;refine st_cells o (by simp [z12]) (by (try simp only [go_sem]); (try simp)) (by first | (simp only [go_sem]; done) | ((try simp only [go_sem]); simp [AV.one,one_mL])) fun H o=>?_;unfold z12 at o;simp only [wr_cons,wr_nil,List.set_cons_zero,List.set_cons_succ] at o;refine tt ?_;rw [o.rc 12 0 (by simp)];refine tt ?_;exact pure_ret (by rw [hres]) o.sub
abbrev z5 : List AV:=[.int .i64 0,.nilsl,.nilsl,.nilsl,.nilsl]
def AnyC2 (r : AV) : Prop:=∃ c d : Cat,r=.tup [.agg c.cells,.agg d.cells]
theorem l08MakeQ (B : Nat) {c d : Cat} (hc : c.Shape) (hd : d.Shape) : Rets B 101 [.agg c.cells,.agg d.cells] fun r=>∃ (x : List AV) (k : Int),r=.tup [.agg x,iI k]∧x.length=7∧∀ y,y∈x→y.one=true:=by
 intro H0;refine (l08MakeG B hc hd (Ps:=fun _=>True) (Q:=fun Fs=>Fs.length≤201∧ShY c d Fs) (fun _ h=>h) (fun H=>((l06Small_ok B c d hc) H).mono fun r H' ⟨⟨b,e⟩,e2⟩=>⟨⟨b,e,trivial⟩,e2⟩) (l06AllY B hc hd) H0).mono ?_
 rintro r H ⟨h,e⟩;refine ⟨?_,e⟩
 have hz : ∀ y,y∈z7s→y.one=true:=by simp [z7s,AV.one]
 rcases h with ⟨-,rfl⟩ | ⟨-,Fs,-,rfl⟩
 ·exact ⟨z7s,3,rfl,rfl,hz⟩
 ·rw [spR]
  split
  ·exact ⟨_,0,rfl,rfl,spC_one d Fs⟩
  ·exact ⟨z7s,3,rfl,rfl,hz⟩
theorem l08Pair_ok (B : Nat) : Rd B 62 [] AnyC2:=by
 intro id s H0 H hs o;refine c62p (by simp) fun _=>?_;unfold s62p;refine tt ?_;refine newRef_own o fun i2 H o=>tt ?_;refine newRef_own o fun i3 H o=>?_
 have o : Owns H0 H ((id,s.obj)::(i3,.cells 5 z5 0)::[(i2,.cells 5 z5 0)]):=o.pull [_,_];refine tt ?_;refine (l01Next_ok B 10).go hs o fun r s H _ ⟨v,e,_⟩ hs o=>?_;subst e;refine tt ?_;apply bk <;> intro h1
 ·refine tt ?_;refine (l02Draw_ok B 3 8).go hs o fun r s H _ ⟨c,e⟩ hs o=>?_;subst e;refine tt ?_;refine (l02Draw_ok B 4 12).go hs o fun r s H _ ⟨d,e⟩ hs o=>?_;subst e;refine tt ?_;refine sw (o.pull [_,_]) fun H o=>tt ?_;refine sw (o.pull [_,_]) fun H o=>tt ?_;rw [o.rc 5 0 (by simp),(o.pull [_]).rc 5 0 (by simp)];refine tt ?_;exact src_ret ⟨c,d,rfl⟩ hs (o.pull [_,_])
 refine tt ?_;refine awp_for [0,2,3] (G:=Src) (fun n g=>[(4,some (.int .i64 (n : Int)))]) (fun n g H=>g.Ok∧Owns H0 H ((id,g.obj)::(i3,.cells 5 z5 0)::[(i2,.cells 5 z5 0)])) 6 s ⟨hs,o⟩ rfl ?_;clear hs o s
 rintro n s H hn ⟨hs,o⟩;refine tt ?_
 by_cases h2 : n<6
 ·rw [decide_eq_true (by omega : (n : Int)<6)]
  have w:=wsucc (k:=n) (by omega);refine tt ?_;refine (l02Some_ok B 2 4).go hs o fun r s H _ ⟨c,e,hcs,hc⟩ hs o=>?_;subst e;refine tt ?_;refine (l02Some_ok B 3 6).go hs o fun r s H _ ⟨d,e,hds,hd⟩ hs o=>?_;subst e;refine tt ?_;refine newRef_own o fun i5 H o=>tt ?_;refine newRef_own o fun i6 H o=>tt ?_;refine sw o.swap fun H o=>tt ?_;refine sw o.swap fun H o=>?_
  have o : Owns H0 H ((i6,.cells 5 d.cells 0)::(i5,.cells 5 c.cells 0)::(id,s.obj)::(i3,.cells 5 z5 0)::[(i2,.cells 5 z5 0)]):=o;refine tt ?_;refine rd_celln o.tl (by simp [Cat.cells]) ?_;refine tt ?_;refine rd_celln o (by simp [Cat.cells]) ?_;refine tt ?_;refine (l08MakeQ B hc hd).go fun r _ ⟨x,k,e,hxl,hx1⟩=>?_;subst e;refine tt ?_;refine ⟨by simp only [maxL]; omega,newRef_own o fun i7 H o=>?_⟩;refine tt ?_;refine st_cells o (by simp [hxl]) hxl hx1 fun H o=>?_
  have o:=o.tl;refine tt ?_;refine wk_ref 6 o rfl fun H o=>wk_ref 5 o rfl fun H o=>wkW_done ?_;refine tt ?_;apply bk <;> intro h3
  ·refine tt ?_;refine sw (o.pull [_,_]) fun H o=>tt ?_;refine sw (o.pull [_,_]) fun H o=>tt ?_;rw [o.rc 5 0 (by simp),(o.pull [_]).rc 5 0 (by simp)];refine tt ?_;exact src_ret ⟨c,d,rfl⟩ hs (o.pull [_,_])
  refine tw w ?_;exact for_next s h2 ⟨hs,o⟩ rfl
 rw [decide_eq_false (by omega : ¬ (n : Int)<6)]
 have hp:=l03PosetX_ok B [[1,1],[0,1]] (.of (by decide) (by decide) (by decide) (by decide))
 obtain ⟨c,hcE⟩ : ∃ c,orC [[1,1],[0,1]]=c:=⟨_,rfl⟩;rw [hcE] at hp;refine tt ?_;refine hp.go fun r _ e=>?_;subst e;refine tt ?_;refine hp.go fun r _ e=>?_;subst e;refine tt ?_;refine sw (o.pull [_,_]) fun H o=>tt ?_;refine sw (o.pull [_,_]) fun H o=>tt ?_;rw [o.rc 5 0 (by simp),(o.pull [_]).rc 5 0 (by simp)];refine tt ?_;exact src_ret ⟨c,c,rfl⟩ hs (o.pull [_,_])
def BefR (r : AV) : Prop:=∃ (f : FU) (d : Cat),r=.tup [.agg f.cells,.agg d.cells]
theorem drawBefore_ok (B : Nat) (code : List UInt8) : Rets B 27 [mL iB code] BefR:=by
 intro H0;refine c27p (by simp) fun _=>?_;unfold s27p
 have o : Owns H0 H0 []:=.nil _;refine tt ?_;refine nb o fun i2 H o=>tt ?_;refine newRef_own o fun i3 H o=>?_
 have o : Owns H0 H [(i3,.cells 5 z5 0),(i2,.cells 12 z12 0)]:=o;refine tt ?_;refine (l01From_ok B code H).mono ?_
 rintro r H2 ⟨id,s,rfl,hs,o2⟩
 have o:=o.trans o2
 have o : Owns H0 H2 [(id,s.obj),(i3,.cells 5 z5 0),(i2,.cells 12 z12 0)]:=o.pm;clear o2;refine tt ?_;refine (l08Pair_ok B).go hs o fun r s H _ ⟨c,d,e⟩ hs o=>?_;subst e;refine tt ?_;refine newRef_own o fun i5 H o=>tt ?_;refine newRef_own o fun i6 H o=>tt ?_;refine sw o.swap fun H o=>tt ?_;refine sw o.swap fun H o=>?_
 have o : Owns H0 H [(i6,.cells 5 d.cells 0),(i5,.cells 5 c.cells 0),(id,s.obj),(i3,.cells 5 z5 0),(i2,.cells 12 z12 0)]:=o
 replace o:=o.pull [_,_];refine tt ?_;refine rd_celln (o.pull [_,_]) (by simp [Cat.cells]) ?_;refine tt ?_;refine (l02Is_ok B c).go fun _=>?_
 by_cases h1 : c.Is
 rotate_left
 ·rw [dec_f h1];refine tt ?_;refine wk_ref 6 (o.pull [_]) rfl fun H o=>wk_ref 5 (o.pull [_]) rfl fun H o=>wkW_done ?_;refine tt ?_;refine (l06Draw_ok B).go hs o fun r s H _ ⟨g,e⟩ hs o=>?_;subst e;refine tt ?_;refine st_cells (o.pull [_,_]) (by simp [z12]) (by (try simp only [go_sem]); (try simp)) (by first | (simp only [go_sem]; done) | ((try simp only [go_sem]); simp [AV.one,one_mL])) fun H o=>?_;unfold z12 at o;simp only [wr_cons,wr_nil,List.set_cons_zero,List.set_cons_succ] at o;refine tt ?_;refine sw (o.pull [_,_]) fun H o=>tt ?_;rw [o.rc 5 0 (by simp),(o.pull [_]).rc 12 0 (by simp)];refine tt ?_;exact rets_ret ⟨g,d,rfl⟩ o.sub
 rw [dec_t h1];refine tt ?_;refine rd_celln (o.pull [_]) (by simp [Cat.cells]) ?_;refine tt ?_;refine (l02Is_ok B d).go fun _=>?_
 by_cases h2 : d.Is
 rotate_left
 ·rw [dec_f h2];refine tt ?_;refine wk_ref 6 (o.pull [_]) rfl fun H o=>wk_ref 5 (o.pull [_]) rfl fun H o=>wkW_done ?_;refine tt ?_;refine (l06Draw_ok B).go hs o fun r s H _ ⟨g,e⟩ hs o=>?_;subst e;refine tt ?_;refine st_cells (o.pull [_,_]) (by simp [z12]) (by (try simp only [go_sem]); (try simp)) (by first | (simp only [go_sem]; done) | ((try simp only [go_sem]); simp [AV.one,one_mL])) fun H o=>?_;unfold z12 at o;simp only [wr_cons,wr_nil,List.set_cons_zero,List.set_cons_succ] at o;refine tt ?_;refine sw (o.pull [_,_]) fun H o=>tt ?_;rw [o.rc 5 0 (by simp),(o.pull [_]).rc 12 0 (by simp)];refine tt ?_;exact rets_ret ⟨g,d,rfl⟩ o.sub
 rw [dec_t h2];refine tt ?_;refine (l01Next_ok B 12).go hs o fun r s H _ ⟨v,e,_⟩ hs o=>?_;subst e;refine tt ?_
 by_cases hv : v=0
 ·rw [decide_eq_true hv];refine tt ?_;refine wk_ref 6 (o.pull [_]) rfl fun H o=>wk_ref 5 (o.pull [_]) rfl fun H o=>wkW_done ?_;refine tt ?_;refine (l06Draw_ok B).go hs o fun r s H _ ⟨g,e⟩ hs o=>?_;subst e;refine tt ?_;refine st_cells (o.pull [_,_]) (by simp [z12]) (by (try simp only [go_sem]); (try simp)) (by first | (simp only [go_sem]; done) | ((try simp only [go_sem]); simp [AV.one,one_mL])) fun H o=>?_;unfold z12 at o;simp only [wr_cons,wr_nil,List.set_cons_zero,List.set_cons_succ] at o;refine tt ?_;refine sw (o.pull [_,_]) fun H o=>tt ?_;rw [o.rc 5 0 (by simp),(o.pull [_]).rc 12 0 (by simp)];refine tt ?_;exact rets_ret ⟨g,d,rfl⟩ o.sub
 rw [decide_eq_false hv];refine tt ?_;refine wk_ref 6 (o.pull [_]) rfl fun H o=>wk_ref 5 (o.pull [_]) rfl fun H o=>wkW_done ?_;refine tt ?_;refine (l02Some_ok B 2 4).go hs o fun r s H _ ⟨b,e,hbs,hb⟩ hs o=>?_;subst e;refine tt ?_;refine newRef_own o fun i7 H o=>tt ?_;refine sw o fun H o=>?_
 have o : Owns H0 H [(i7,.cells 5 b.cells 0),(id,s.obj),(i3,.cells 5 z5 0),(i2,.cells 12 z12 0)]:=o;refine tt ?_;refine rd_celln o (by simp [Cat.cells]) ?_;refine tt ?_;refine (l06Small_ok B b c hb).go fun r _ ⟨v2,e⟩=>?_;subst e
 cases v2
 ·refine tt ?_;refine wkW_done ?_;refine tt ?_;refine ⟨_,(l06SelfP B h1.1).run,tt ?_⟩
  replace o : Owns H0 H [(i3,.cells 5 z5 0),(i2,.cells 12 z12 0)]:=o.tl.tl;refine st_cells o.swap (by simp [z12]) (by (try simp only [go_sem]); (try simp)) (by first | (simp only [go_sem]; done) | ((try simp only [go_sem]); simp [AV.one,one_mL])) fun H o=>?_;unfold z12 at o;simp only [wr_cons,wr_nil,List.set_cons_zero,List.set_cons_succ] at o;refine tt ?_;refine sw o.swap fun H o=>tt ?_;rw [o.rc 5 0 (by simp),(o.pull [_]).rc 12 0 (by simp)];refine tt ?_;exact rets_ret ⟨⟨c,c,upL c.objs.toNat,upL c.frm.length⟩,d,rfl⟩ o.sub
 refine tt ?_;refine rd_celln o (by simp [Cat.cells]) ?_;refine tt ?_;refine (l06AllY B hb h1.1).go fun r _ ⟨Fs,⟨hFl,hFs⟩,e⟩=>?_;subst e;refine tt ?_;refine wkW_done ?_;refine tt ?_
 by_cases hn : 0<Fs.length
 rotate_left
 ·rw [decide_eq_false (by omega : ¬ (0 : Int)<(Fs.length : Int))];refine tt ?_;refine wkW_done ?_;refine tt ?_;refine ⟨_,(l06SelfP B h1.1).run,tt ?_⟩
  replace o : Owns H0 H [(i3,.cells 5 z5 0),(i2,.cells 12 z12 0)]:=o.tl.tl;refine st_cells o.swap (by simp [z12]) (by (try simp only [go_sem]); (try simp)) (by first | (simp only [go_sem]; done) | ((try simp only [go_sem]); simp [AV.one,one_mL])) fun H o=>?_;unfold z12 at o;simp only [wr_cons,wr_nil,List.set_cons_zero,List.set_cons_succ] at o;refine tt ?_;refine sw o.swap fun H o=>tt ?_;rw [o.rc 5 0 (by simp),(o.pull [_]).rc 12 0 (by simp)];refine tt ?_;exact rets_ret ⟨⟨c,c,upL c.objs.toNat,upL c.frm.length⟩,d,rfl⟩ o.sub
 rw [decide_eq_true (by omega : (0 : Int)<(Fs.length : Int))];refine tt ?_
 replace o:=o.pull [_];refine (l01Next_ok B (Fs.length : Int)).go hs o fun r s H _ ⟨k,e,k0,k1,_⟩ hs o=>?_;subst e
 have k2:=k1 (by omega)
 have kn : (k.toNat : Int)=k:=Int.toNat_of_nonneg k0;refine tt ?_;refine ⟨⟨k0,by omega⟩, ?_⟩
 generalize ix Fs k=f;refine tt ?_
 replace o : Owns H0 H [(i3,.cells 5 z5 0),(i2,.cells 12 z12 0)]:=o.tl.tl;refine st_cells o.swap (by simp [z12]) (by (try simp only [go_sem]); (try simp)) (by first | (simp only [go_sem]; done) | ((try simp only [go_sem]); simp [AV.one,one_mL])) fun H o=>?_;unfold z12 at o;simp only [wr_cons,wr_nil,List.set_cons_zero,List.set_cons_succ] at o;refine tt ?_;refine sw o.swap fun H o=>tt ?_;rw [o.rc 5 0 (by simp),(o.pull [_]).rc 12 0 (by simp)];refine tt ?_;exact rets_ret ⟨f,d,rfl⟩ o.sub
theorem likeIntsN (B : Nat) : Pur Tryz.prog B 12 [.nilsl,.nilsl] (.bool true):=by
 refine ⟨fun H0=>c12 (by simp) fun _=>?_⟩;unfold s12;try simp only [go_sem,↓reduceIte,reduceEqDiff,reduceAdd,reduceMul,reduceLeDiff,reduceLT,dTrue,Bool.not_true]
 refine awp_for [0,1] (G:=Unit) (fun k _=>[(5,some (.int .i64 (k : Int)))]) (fun k _ H=>H=H0) 0 () rfl rfl ?_
 rintro k _ H hk rfl
 obtain rfl : k=0:=by omega
 have z0 : decide ((((0 : Nat) : Int))<0)=false:=rfl;refine tw z0 ?_;exact pure_ret rfl (.refl _)
theorem same29N (B : Nat) : Pur Tryz.prog B 160 [.nilsl,.nilsl] (.bool true):=by
 refine ⟨fun H0=>c160 (by simp) fun _=>?_⟩;unfold s160;try simp only [go_sem,↓reduceIte,reduceEqDiff,reduceAdd,reduceMul,reduceLeDiff,reduceLT,dTrue,Bool.not_true]
 refine awp_for [0,1] (G:=Unit) (fun k _=>[(5,some (.int .i64 (k : Int)))]) (fun k _ H=>H=H0) 0 () rfl rfl ?_
 rintro k _ H hk rfl
 obtain rfl : k=0:=by omega
 have z0 : decide ((((0 : Nat) : Int))<0)=false:=rfl;refine tw z0 ?_;exact pure_ret rfl (.refl _)
theorem sameCat9N (B : Nat) : Pur Tryz.prog B 82 [.agg z5,.agg z5] (.bool true):=by
 refine ⟨fun H0=>c82 (by simp) fun _=>?_⟩;unfold s82
 have q:=likeIntsN B
 have q2:=same29N B;try simp only [go_sem,↓reduceIte,reduceEqDiff,reduceAdd,reduceMul,reduceLeDiff,reduceLT,AV.one,and_self,true_and,dTrue]
 refine q.go fun _=>tt ?_;refine q.go fun _=>tt ?_;refine q.go fun _=>tt ?_;refine q2.go fun _=>tt ?_;exact pure_ret rfl (.refl _)
theorem sameFun9N (B : Nat) : Pur Tryz.prog B 22 [.agg z12,.agg z12] (.bool true):=by
 refine ⟨fun H0=>c22 (by simp) fun _=>?_⟩;unfold s22
 have q:=likeIntsN B
 have q2:=sameCat9N B;unfold z12;try simp only [go_sem,↓reduceIte,reduceEqDiff,reduceAdd,reduceMul,reduceLeDiff,reduceLT,AV.one,and_self,true_and]
 refine q2.go fun _=>tt ?_;refine q2.go fun _=>tt ?_;refine q.go fun _=>tt ?_;refine q.go fun _=>tt ?_;exact pure_ret rfl (.refl _)
theorem wr12_app : ∀ (cs z pre : List AV),cs.length=z.length→wr (pre++z) pre.length cs=pre++cs
 | [],z,pre,h=>by
  have : z=[]:=List.eq_nil_of_length_eq_zero (by simpa using h.symm);subst this; rfl
 | v::r,[],pre,h=>by simp at h
 | v::r,a::z,pre,h=>by
  have ih:=wr12_app r z (pre++[v]) (by simpa using h);rw [List.length_append,List.length_singleton,List.append_assoc,List.append_assoc] at ih
  have e : (pre++a::z).set pre.length v=pre++([v]++z):=by simp [List.set_append]
  show wr ((pre++a::z).set pre.length v) (pre.length+1) r=pre++v::r
  rw [e]; exact ih
theorem wr12_all {z cs : List AV} (h : cs.length=z.length) : wr z 0 cs=cs:=wr12_app cs z [] h
theorem sameFun9_self (B : Nat) (f : FU) : Pur Tryz.prog B 22 [.agg f.cells,.agg f.cells] (.bool true):=by
 have q:=sameFun9_ok B f f
 rwa [dec_t rfl] at q
theorem z12_one : ∀ y,y∈z12→AV.one y=true:=by simp [z12,AV.one]
theorem bef_res (B : Nat) (f : FU) (d : Cat) : ∃ (x : List AV) (k : Int),befV f d=.tup [.agg x,iI k]∧x.length=12∧(∀ y,y∈x→y.one=true)∧Pur Tryz.prog B 22 [.agg x,.agg x] (.bool true)∧(k=0→f.Is∧d.Is∧SpOk f.tgt d∧SpOk f.src d∧x=(befF f d).cells):=by
 rw [befV]
 by_cases h : f.Is∧d.Is
 ·rw [dec_t h,if_pos rfl]
  by_cases k : SpOk f.tgt d∧SpOk f.src d
  ·rw [dec_t k,if_pos rfl];exact ⟨_,_,rfl,rfl,fu_one _,sameFun9_self B _,fun _=>⟨h.1,h.2,k.1,k.2,rfl⟩⟩
  ·rw [dec_f k,if_neg (by simp)];exact ⟨_,_,rfl,rfl,z12_one,sameFun9N B,fun h=>by cases h⟩
 ·rw [dec_f h,if_neg (by simp)];exact ⟨_,_,rfl,rfl,z12_one,sameFun9N B,fun h=>by cases h⟩
theorem befF_is {f : FU} {d : Cat} (hf : f.Is) (hd : d.Is) (h1 : SpOk f.tgt d) (h2 : SpOk f.src d) : (befF f d).Is :=
 betw_is (before_h hf hd) (fcat_is hf.tI hd (funs_all hf.tI hd) h1.2.1 h1.2.2) (fcat_is hf.sI hd (funs_all hf.sI hd) h2.2.1 h2.2.2)
theorem fnPre_ok (B : Nat) (code : List UInt8) : Pur Tryz.prog B 5 [mL iB code] (.bool true):=by
 refine ⟨fun H0=>c5p (by simp) fun _=>?_⟩;unfold s5p
 have o : Owns H0 H0 []:=.nil _
 have qb:=big_ok B code;refine tt ?_;refine qb.go fun _=>?_
 by_cases hb : 4096<code.length
 ·rw [decide_eq_true hb];refine tt ?_;exact pure_ret rfl (.refl _)
 rw [decide_eq_false hb];refine tt ?_;refine (drawBefore_ok B code).go fun r _ ⟨f,d,e⟩=>?_;subst e
 have q1:=ComposeBeforeP_ok B f d
 have q2:=ComposeBeforeS_ok B f d
 obtain ⟨x,k,hV,hxl,hx1,hsame,hk⟩:=bef_res B f d;rw [hV] at q1 q2;refine tt ?_;refine ⟨by simp only [maxL]; omega,newRef_own o fun i3 H o=>?_⟩;refine tt ?_;refine newRef_own o fun i4 H o=>tt ?_;refine sw o.swap fun H o=>tt ?_;refine sw o.swap fun H o=>?_
 have o : Owns H0 H [(i4,.cells 5 d.cells 0),(i3,.cells 12 f.cells 0)]:=o;refine tt ?_;refine wk_ref 4 o rfl fun H o=>wk_ref 3 o rfl fun H o=>wkW_done ?_;refine tt ?_;refine q1.go fun _=>tt ?_;refine ⟨by simp only [maxL]; omega,newRef_own o fun i5 H o=>?_⟩;refine tt ?_;refine st_cells o (by simp [hxl]) hxl hx1 fun H o=>?_;rw [wr12_all (by rw [hxl]; rfl)] at o;refine tt ?_;refine wk_ref 5 o rfl fun H o=>wkW_done ?_;refine tt ?_;refine q2.go fun _=>tt ?_;refine ⟨by simp only [maxL]; omega,newRef_own o fun i7 H o=>?_⟩;refine tt ?_;refine st_cells o (by simp [hxl]) hxl hx1 fun H o=>?_;rw [wr12_all (by rw [hxl]; rfl)] at o;refine tt ?_;refine wk_ref 7 o rfl fun H o=>wkW_done ?_;try simp only [go_sem,↓reduceIte,reduceEqDiff,reduceAdd,reduceMul,reduceLeDiff,reduceLT,dTrue,Bool.not_true]
 refine ⟨hxl,hxl,hsame.go fun _=>?_⟩;refine tt ?_
 by_cases hk0 : k=0
 rotate_left
 ·rw [decide_eq_false hk0];refine tt ?_;exact pure_ret rfl o.sub
 obtain ⟨h1,h2,h3,h4,hx⟩:=hk hk0;rw [decide_eq_true hk0];refine tt ?_
 by_cases hc0 : f.src.objs=0
 ·rw [decide_eq_true hc0];refine tt ?_;exact pure_ret rfl o.sub
 rw [decide_eq_false hc0]
 have hco:=h1.sI.1.o;refine tt ?_;refine (roll_ok B code 3 H).mono ?_
 rintro r H2 ⟨id,s,rfl,hs,o2⟩
 have o:=o.trans o2;clear o2;refine tt ?_;refine (below_ok B f.src.objs).go hs o fun r s H9 _ ⟨y,e,y0,y1,_⟩ hs o9=>?_;subst e
 have y2:=y1 (by omega);clear y1
 have hyo : 0≤y∧y.toNat<f.ob.length:=by have:=h1.fit.ol; omega
 have hfy:=h1.obA ⟨y0,y2⟩
 have q3:=EvP_ok B h1.sI h2 ⟨y0,y2⟩ h4
 have q4:=EvP_ok B h1.tI h2 hfy h3
 have i1:=befF_is h1 h2 h3 h4
 have i2:=evF_is h1.sI h2 (funs_all h1.sI h2) h4.2.1 h4.2.2 ⟨y0,y2⟩
 have q5:=ThenP_ok B i1 i2 rfl
 have hev:=before_ev (f:=f) (d:=d) h1 h2 ⟨y0,y2⟩
 change (befF f d).thn _=_ at hev
 rw [hev] at q5
 have q7:=sameFun9_self B (evF d (allF f.tgt d false) (ix f.ob y));subst hx
 generalize evF d (allF f.src d false) y=e1 at *
 generalize evF d (allF f.tgt d false) (ix f.ob y)=e2 at *
 generalize befF f d=bh at *
 have o:=o9;refine tt ?_;refine q3.go fun _=>tt ?_;refine ⟨by simp only [maxL]; omega,newRef_own o fun i11 H o=>?_⟩;refine tt ?_;refine sw o fun H o=>tt ?_;refine wk_ref 11 o rfl fun H o=>wkW_done ?_;refine tt ?_;refine q5.go fun _=>tt ?_;refine ⟨by simp only [maxL]; omega,newRef_own o fun i13 H o=>?_⟩;refine tt ?_;refine sw o fun H o=>tt ?_;refine wk_ref 13 o rfl fun H o=>wkW_done ?_;refine tt ?_;refine ⟨hyo,_,q4.run,tt ?_⟩;refine ⟨by simp only [maxL]; omega,newRef_own o fun i15 H o=>?_⟩;refine tt ?_;refine sw o fun H o=>tt ?_;refine wk_ref 15 o rfl fun H o=>wkW_done ?_
 have w0 : IntKind.i64.wrap (0+0)=0:=rfl;try simp only [go_sem,↓reduceIte,reduceEqDiff,reduceAdd,reduceMul,reduceLeDiff,reduceLT,w0,dTrue]
 refine q7.go fun _=>tt ?_;exact pure_ret rfl o.sub
end Go.Proofs.Shf
namespace Go.AW
def WN (P : AV→Prop) (a : AV) : Prop:=(∃ al : List AV,a=.sl al∧∀ x,x∈al→P x)∨∃ n,1048576<n∧n≤140737488355328∧a=.big n
def WB (a : AV) : Prop:=(∃ l : List UInt8,a=mL iB l)∨∃ n,1048576<n∧n≤140737488355328∧a=.big n
end Go.AW
namespace Go.Proofs.Shf
open Go.AW Go.Proofs Go.Shf
open Go.Deep
def gh0 (W : World) : Gh:=⟨fun b o=>W.cell? ⟨b,o,none⟩,fun _=>none,fun _=>none⟩
theorem wrel0 (W : World) : WRel (gh0 W) W.heap.size [] W where
 fz b o v h:=h
 fm b es h:=by cases h
 ob i o h:=by simp [Heap.get] at h
 inj i j b c c' n h:=by simp [Heap.get] at h
 injm i j b n h:=by simp [Heap.get] at h
 base:=Nat.le_refl _
 fin:=⟨0,fun i _=>rfl⟩
section
variable {H : Type} {enc : TypeId × Value→H} {W : World}
def RdV (enc : TypeId × Value→H) (W : World) (t : TypeId) (Q : AV→Prop) : Prop :=
 ∀ fuel v d ps,DataW.trod enc Tryz.prog W 0 (fun _=>true) true fuel t [v]=some (d,ps)→(∀ n,n∈d.weights Tryz.prog t→n≤reachBytes)→∃ a,Q a∧VRel (gh0 W) a v
theorem rd_byte : RdV enc W 5 fun a=>∃ b : UInt8,a=Go.AW.iB b:=by
 intro fuel v d ps h _
 cases fuel with
 | zero=>simp [DataW.trod] at h
 | succ fuel =>
  cases v <;> simp only [DataW.trod,Tryz.underlying5] at h <;> try (cases h; done)
  rename_i k n
  split at h
  ·rename_i hk
   obtain ⟨rfl,hf⟩:=hk
   have hr : 0≤n∧n≤255:=by
    simp only [Lit.wf,Bool.and_eq_true,decide_eq_true_eq] at hf;exact ⟨hf.1,hf.2⟩
   refine ⟨_,⟨UInt8.ofNat n.toNat,rfl⟩, ?_⟩
   have e : Go.AW.iB (UInt8.ofNat n.toNat)=.int .u8 n:=by
    have h1 : (UInt8.ofNat n.toNat).toNat=n.toNat:=by rw [UInt8.toNat_ofNat']; omega
    rw [Go.AW.iB,h1,Int.toNat_of_nonneg hr.1]
   rw [e];exact .int _ n
  ·cases h
theorem weightsAll_mem {P : Program} {e : TypeId} {l : List (DataW H)} {x : DataW H} (hx : x∈l) {n : Nat} (hn : n∈x.weights P e) : n∈DataW.weightsAll P e l:=by
 induction l with
 | nil=>simp at hx
 | cons y r ih =>
  simp only [DataW.weightsAll,List.mem_append]
  rcases List.mem_cons.mp hx with rfl | hx
  ·exact .inl hn
  ·exact .inr (ih hx)
theorem rd_slice {t e : TypeId} {Q : AV→Prop} (ht : Tryz.prog.underlying t=some (.slice e)) (hc : Tryz.prog.cellsOf e=1) (hb : 1≤Tryz.prog.bytesOf e) (hQ : ∀ a,Q a→a.cells=[a]) (h : RdV enc W e Q) : RdV enc W t (WN Q):=by
 intro fuel v d ps htr hw
 rcases open_slice1 ht hc htr with ⟨hv,hx⟩ | ⟨a,len,cap,m,n,V,D,Pl,hv,_,hl,hm,hmm,hx,hel⟩
 ·injection hv with hv
  subst hv;exact ⟨.sl [],.inl ⟨[],rfl,by simp⟩,.slnil none 0⟩
 ·injection hv with hv
  subst hv;simp only [if_true] at hmm;subst hmm;simp only [Prod.mk.injEq] at hx
  obtain ⟨rfl,rfl⟩:=hx
  have hw0 : (((List.range len).map D).length+((List.range (m - len)).map fun j=>D (len+j)).length)*Tryz.prog.bytesOf e≤reachBytes:=hw _ (by simp [DataW.weights,ht])
  have hlen : len≤140737488355328:=by
   simp only [List.length_map,List.length_range] at hw0
   have h1 : len*1≤(len+(m - len))*Tryz.prog.bytesOf e:=Nat.mul_le_mul (by omega) hb
   have h2 : reachBytes≤140737488355328:=by decide
   omega
  by_cases hbig : 1099511627776<len
  ·exact ⟨.big len,.inr ⟨len,by omega,hlen,rfl⟩,.big _ _ _ hlen⟩
  ·have hall : ∀ i,∃ x,i<len→Q x∧VRel (gh0 W) x (V i):=by
    intro i
    by_cases hi : i<len
    ·obtain ⟨x,q1,q2⟩:=h n (V i) (D i) (Pl i) (hel i (by omega)).2 fun k hk=>hw k (by
      simp only [DataW.weights,ht,List.mem_cons,List.mem_append];exact .inr (.inl (weightsAll_mem (List.mem_map.mpr ⟨i,List.mem_range.mpr hi,rfl⟩) hk)))
     exact ⟨x,fun _=>⟨q1,q2⟩⟩
    ·exact ⟨.nilp,fun h=>absurd h hi⟩
   obtain ⟨A,hA⟩:=Classical.axiomOfChoice hall
   have hget : ∀ i,i<len→((List.range len).map A).getD i nv=A i:=fun i hi=>getD_map_range A nv hi;refine ⟨.sl ((List.range len).map A),.inl ⟨_,rfl,fun x hx=>?_⟩, ?_⟩
   ·obtain ⟨i,hi,rfl⟩:=List.mem_map.mp hx;exact (hA i (List.mem_range.mp hi)).1
   ·by_cases h0 : len=0
    ·subst h0; exact .slnil _ _
    ·have hsp : a=⟨a.block,a.off,none⟩:=by
      have:=(hel 0 (by omega)).1
      obtain ⟨b,o,s⟩:=a
      cases s with
      | none=>rfl
      | some s=>exfalso; simp [Addr.add,World.cell?] at this; split at this <;> simp at this
     have hadd : ∀ i,a.add i=⟨a.block,a.off+i,none⟩:=by
      intro i;rw [hsp];unfold Addr.add
      split
      ·rename_i e; simp [e]
      ·rfl
     have key : VRel (gh0 W) (.sl ((List.range len).map A)) (.slice (some ⟨a.block,a.off,none⟩) ((List.range len).map A).length m):=by
      refine .sl _ a.block a.off 1 m V (by simp [maxL]; omega) (by simp; omega) (fun i hi=>?_) (fun i j hi hj=>?_) (fun i j hi hj=>?_)
      ·rw [hget i (by simpa using hi),hQ _ (hA i (by simpa using hi)).1]; rfl
      ·have hi' : i<len:=by simpa using hi
       have:=(hel i (by omega)).1;rw [hadd] at this
       have e : i*1+j=i:=by omega
       rw [e]; exact this
      ·have hi' : i<len:=by simpa using hi
       have e : i*1+j=i:=by omega
       obtain rfl : j=0:=by omega
       rw [e,hget i hi',hQ _ (hA i hi').1];exact (hA i hi').2
     rw [List.length_map,List.length_range,← hsp] at key;exact key
theorem WB.of {a : AV} (h : WN (fun a=>∃ b : UInt8,a=Go.AW.iB b) a) : WB a:=by
 rcases h with ⟨l,rfl,hl⟩ | h
 ·refine .inl ⟨l.map fun x=>match x with | .int _ n=>UInt8.ofNat n.toNat | _=>0, ?_⟩
  rw [mL,List.map_map]
  congr 1
  have : ∀ x,x∈l→(Go.AW.iB ∘ fun x : AV=>match x with | .int _ n=>UInt8.ofNat n.toNat | _=>0) x=x:=fun x hx=>by
   obtain ⟨n,rfl⟩:=hl x hx
   simp [Go.AW.iB]
  exact ((List.map_congr_left this).trans (by simp)).symm
 ·exact .inr h
theorem rd_bytes : ∀ fuel v d ps,DataW.trod enc Tryz.prog W 0 (fun _=>true) true fuel 22 [v]=some (d,ps)→(∀ n,n∈d.weights Tryz.prog 22→n≤reachBytes)→∃ a,WB a∧VRel (gh0 W) a v:=fun fuel v d ps k w=>by
 obtain ⟨a,q1,q2⟩:=rd_slice Tryz.underlying22 (by kernel_rfl) (of_decide_eq_true (by kernel_rfl)) (fun a ⟨n,e⟩=>by rw [e]; rfl) rd_byte fuel v d ps k w;exact ⟨a,WB.of q1,q2⟩
end
theorem big_big (B n : Nat) (hn : 1048576<n) : Pur Tryz.prog B 8 [.big n] (.bool true):=by
 refine ⟨fun H0=>c8 (by simp) fun hf=>?_⟩;unfold s8;refine tt ?_;exact pure_ret (by congr 1; simp; omega) (.refl _)
end Go.Proofs.Shf
namespace Go.Proofs.Shf
open Go.AW Go.Proofs Go.Shf
theorem fnPre_all (B : Nat) (a : AV) (h : WB a) : Pur Tryz.prog B 5 [a] (.bool true):=by
 rcases h with ⟨l,rfl⟩ | ⟨n,hn,_,rfl⟩
 ·exact fnPre_ok B l
 ·refine ⟨fun H0=>c5p (by simp) fun _=>?_⟩;unfold s5p;refine tt ?_;refine (big_big B n hn).go fun _=>tt ?_;exact pure_ret rfl (.refl _)
end Go.Proofs.Shf
