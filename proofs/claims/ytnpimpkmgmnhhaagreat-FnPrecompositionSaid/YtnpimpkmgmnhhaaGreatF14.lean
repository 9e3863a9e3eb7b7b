/- A part of a proof. -/
import Derived.Test.YtnpimpkmgmnhhaaGreatF13
import Derived.Maps.RangeRun
import Derived.Test.YtnpimpkmgmnhhaaGreatProg
set_option linter.unusedVariables false
set_option linter.unusedSimpArgs false
set_option linter.unusedSectionVars false
set_option maxRecDepth 100000
open Nat (reduceEqDiff reduceAdd reduceMul reduceLeDiff reduceLT)
namespace Go.Proofs.Shf
open Go.AW Go.Proofs Go.Shf
noncomputable def befF (f : FU) (d : Cat) : FU:=betw d d (allF f.tgt d false) (allF f.src d false) (fun k=>f.thn k) (fun t=>thenL f.ob t)
noncomputable def befV (f : FU) (d : Cat) : AV:=if dec (f.Is∧d.Is)=true then (if dec (SpOk f.tgt d∧SpOk f.src d)=true then .tup [.agg (befF f d).cells,iI 0] else .tup [.agg z12,iI 3]) else .tup [.agg z12,iI 1]
theorem ComposeBeforeS_ok (B : Nat) (f : FU) (d : Cat) : Pur Tryz.prog B 29 [.agg f.cells,.agg d.cells] (befV f d):=by
 refine ⟨fun H0=>c29p (by simp) fun _=>?_⟩;unfold s29p
 have o : Owns H0 H0 []:=.nil _;refine tt ?_;refine nb o fun i4 H o=>tt ?_
 have bad : ∀ (k : Int) (H : Heap) (l : Ob),Owns H0 H ((i4,.cells 12 z12 0)::l)→True:=fun _ _ _ _=>trivial;refine (l06Is_ok B f).go fun _=>?_
 by_cases h1 : f.Is
 rotate_left
 ·rw [dec_f h1]
  have hres : befV f d=.tup [.agg z12,iI 1]:=by rw [befV,dec_f (fun q=>h1 q.1),if_neg (by simp)]
  refine tt ?_;refine sw o fun H o=>tt ?_;rw [o.rc 12 0 (by simp)];refine tt ?_;exact pure_ret (by rw [hres]; rfl) o.sub
 rw [dec_t h1];refine tt ?_;refine (l02Is_ok B d).go fun _=>?_
 by_cases h2 : d.Is
 rotate_left
 ·rw [dec_f h2]
  have hres : befV f d=.tup [.agg z12,iI 1]:=by rw [befV,dec_f (fun q=>h2 q.2),if_neg (by simp)]
  refine tt ?_;refine sw o fun H o=>tt ?_;rw [o.rc 12 0 (by simp)];refine tt ?_;exact pure_ret (by rw [hres]; rfl) o.sub
 rw [dec_t h2]
 have hb:=l08BothX B h1.tI h2 h1.sI h2
 have hbh:=before_h h1 h2;refine tt ?_;refine hb.go fun _=>?_
 by_cases h3 : SpOk f.tgt d∧SpOk f.src d
 rotate_left
 ·have hres : befV f d=.tup [.agg z12,iI 3]:=by rw [befV,dec_t ⟨h1,h2⟩,if_pos rfl,dec_f h3,if_neg (by simp)]
  rw [spB,dec_f h3,if_neg (by simp)];refine tt ?_;refine nb o fun i6 H o=>tt ?_;refine nb o fun i7 H o=>tt ?_;refine st_cells (o.pull [_]) (by simp) (by simp [z7s]) (by simp [z7s,AV.one]) fun H o=>tt ?_;refine st_cells (o.pull [_]) (by simp) (by simp [z7s]) (by simp [z7s,AV.one]) fun H o=>?_
  have h30 : (!decide ((3 : Int)=0))=true:=rfl;refine tw h30 ?_;refine sw (o.pull [_,_]) fun H o=>tt ?_;rw [o.rc 12 0 (by simp)];refine tt ?_;exact pure_ret (by rw [hres]; rfl) o.sub
 rw [spB,dec_t h3,if_pos rfl]
 have hres : befV f d=.tup [.agg (befF f d).cells,iI 0]:=by rw [befV,dec_t ⟨h1,h2⟩,if_pos rfl,dec_t h3,if_pos rfl]
 obtain ⟨Fs,hFs⟩ : ∃ Fs,allF f.tgt d false=Fs:=⟨_,rfl⟩
 obtain ⟨Gs,hGs⟩ : ∃ Gs,allF f.src d false=Gs:=⟨_,rfl⟩
 have hFl : Fs.length≤8:=hFs ▸ h3.1.2.1
 have hGl : Gs.length≤8:=hGs ▸ h3.2.2.1
 have hAl : (arrN Fs).length≤40:=hFs ▸ h3.1.2.2
 have hres2 : befV f d=.tup [.agg (FU.cells ⟨fcat d Fs,fcat d Gs,(befF f d).ob,(befF f d).ar⟩),iI 0]:=by rw [hres]; subst hFs hGs; rfl
 clear hres;rw [hFs,hGs] at hbh
 have hob : (befF f d).ob=Fs.map fun k=>((posF Gs ((fun k : FU=>f.thn k) k) : Nat) : Int):=by subst hFs hGs; rfl
 have har : (befF f d).ar=(arrN Fs).map fun s=>indexOf (arrN Gs) (((posF Gs ((fun k : FU=>f.thn k) (Fs.getD (s.getD 0 default).toNat default)) : Nat) : Int)::((posF Gs ((fun k : FU=>f.thn k) (Fs.getD (s.getD 1 default).toNat default)) : Nat) : Int)::(fun t : List Int=>thenL f.ob t) (s.drop 2)):=by subst hFs hGs; rfl
 rw [hob,har] at hres2;clear hob har;rw [hFs,hGs]
 have hFF:=hbh.hF
 have hobj : ∀ k : Nat,k<Fs.length→objP Gs ((fun k : FU=>f.thn k) (Fs.getD k default))=((posF Gs ((fun k : FU=>f.thn k) (Fs.getD k default)) : Nat) : Int):=fun k hk=>by
  rw [objP,dec_t ⟨_,hbh.mem k hk,rfl,rfl⟩,if_pos rfl]
 have hAm : ∀ s,s∈arrN Fs→∃ (i j : Nat) (t : List Int),i<Fs.length∧j<Fs.length∧s=(i : Int)::(j : Int)::t∧NatF (Fs.getD i default) (Fs.getD j default) t:=fun s h=>arr_look (n:=f.tgt.objs) h1.tI.1.o.1 (fun i hi=>by rw [(hFF.f i hi).2.1]) h;refine tt ?_;refine nb o fun i6 H o=>tt ?_;refine nb o fun i7 H o=>tt ?_;refine st_cells (o.pull [_]) (by simp) rfl (spC_one d Fs) fun H o=>?_
 have o : Owns H0 H ((i6,.cells 7 (spC d Fs) 0)::(i7,.cells 7 z7s 0)::[(i4,.cells 12 z12 0)]):=o;refine tt ?_;refine st_cells (o.pull [_]) (by simp [z7s]) rfl (spC_one d Gs) fun H o=>?_
 have o : Owns H0 H ((i7,.cells 7 (spC d Gs) 0)::(i6,.cells 7 (spC d Fs) 0)::[(i4,.cells 12 z12 0)]):=o;try simp only [go_sem,↓reduceIte,reduceEqDiff,reduceAdd,reduceMul,reduceLeDiff,reduceLT,decide_true,Bool.not_true]
 refine wk_ref 7 o rfl fun H o=>wk_ref 6 o rfl fun H o=>wkW_done ?_;refine tt ?_;refine new_list iI o fun i38 H o=>tt ?_;refine new_list iI o fun i39 H o=>?_
 have o : Owns H0 H ((i38,.cells 1 (([] : List Int).map iI) 0)::(i39,.cells 1 (([] : List Int).map iI) 0)::[(i4,.cells 12 z12 0)]):=o.swap;refine tt ?_;refine awp_for [2,4,6,7,10] (G:=Nat) (fun i b=>[(9,some (.buf b i)),(11,some (.int .i64 (i : Int)))]) (fun i b H=>Owns H0 H ((b,.cells 1 (((Fs.take i).map fun k=>((posF Gs ((fun k : FU=>f.thn k) k) : Nat) : Int)).map iI) 0)::(i39,.cells 1 (([] : List Int).map iI) 0)::[(i4,.cells 12 z12 0)])) Fs.length i38 o rfl ?_;clear o
 rintro i b H hi o;dsimp only at o
 have hl1 : ((Fs.take i).map fun k=>((posF Gs ((fun k : FU=>f.thn k) k) : Nat) : Int)).length=i:=by rw [List.length_map,List.length_take]; omega
 refine tt ?_
 by_cases c1p : i<Fs.length
 ·rw [decide_eq_true c1p]
  have v1:=wsucc (k:=i) (by omega)
  have ht1 : ((Fs.take (i+1)).map fun k=>((posF Gs ((fun k : FU=>f.thn k) k) : Nat) : Int))=((Fs.take i).map fun k=>((posF Gs ((fun k : FU=>f.thn k) k) : Nat) : Int))++[((posF Gs ((fun k : FU=>f.thn k) (Fs.getD i default)) : Nat) : Int)]:=by
   rw [List.take_succ_eq_append_getElem c1p,List.map_append]
   simp [List.getD_eq_getElem?_getD,c1p]
  have q1:=l06ThenI B h1 (hFF.f i c1p).1 (hFF.f i c1p).2.1.symm
  have q2:=l08Object_ok B (iI (Gs.length : Int)) (iL (fcat d Gs).frm) (iL (fcat d Gs).to) (iL (fcat d Gs).idn) (iLL (fcat d Gs).comp) (iLL (arrN Gs)) rfl rfl rfl rfl rfl rfl Gs ((fun k : FU=>f.thn k) (Fs.getD i default)) (by omega);rw [hobj i c1p] at q2;refine tt ?_;refine ⟨c1p,_,q1.run,_,q2.run, ?_⟩;refine ⟨⟨rfl,fun c hc=>by obtain rfl:=List.mem_singleton.mp hc; rfl⟩, ?_⟩;refine app_own (f:=iI) (((posF Gs ((fun k : FU=>f.thn k) (Fs.getD i default)) : Nat) : Int)) o rfl hl1.symm (by rw [hl1]; simp only [maxL]; omega) fun b H o=>?_;rw [← ht1] at o
  have hl2 : (((Fs.take i).map fun k=>((posF Gs ((fun k : FU=>f.thn k) k) : Nat) : Int))++[((posF Gs ((fun k : FU=>f.thn k) (Fs.getD i default)) : Nat) : Int)]).length=i+1:=by rw [List.length_append,hl1]; rfl
  try simp only [go_sem,↓reduceIte,reduceEqDiff,reduceAdd,reduceMul,reduceLeDiff,reduceLT,v1,hl2]
  exact for_next b c1p o rfl
 rw [decide_eq_false c1p]
 have : i=Fs.length:=by omega
 subst this;rw [List.take_length] at o hl1;clear c1p
 obtain ⟨ob,hob⟩ : ∃ ob,(Fs.map fun k=>((posF Gs ((fun k : FU=>f.thn k) k) : Nat) : Int))=ob:=⟨_,rfl⟩
 have hobAt : ∀ k,k<Fs.length→ob.getD k default=((posF Gs ((fun k : FU=>f.thn k) (Fs.getD k default)) : Nat) : Int):=fun k hk=>by rw [← hob,map_getD _ hk]
 rw [hob] at o hl1 hres2;refine tt ?_;refine fz_own (f:=iI) o hl1.symm fun H o=>tt ?_;refine awp_for [2,4,6,7,9] (G:=Nat) (fun a b=>[(10,some (.buf b a)),(12,some (.int .i64 (a : Int)))]) (fun a b H=>Owns H0 H ((b,.cells 1 ((((arrN Fs).take a).map fun s=>indexOf (arrN Gs) (((posF Gs ((fun k : FU=>f.thn k) (Fs.getD (s.getD 0 default).toNat default)) : Nat) : Int)::((posF Gs ((fun k : FU=>f.thn k) (Fs.getD (s.getD 1 default).toNat default)) : Nat) : Int)::(fun t : List Int=>thenL f.ob t) (s.drop 2))).map iI) 0)::[(i4,.cells 12 z12 0)])) (arrN Fs).length i39 o rfl ?_;clear o
 rintro a b H ha o;dsimp only at o
 obtain ⟨R,hR⟩ : ∃ R,(((arrN Fs).take a).map fun s=>indexOf (arrN Gs) (((posF Gs ((fun k : FU=>f.thn k) (Fs.getD (s.getD 0 default).toNat default)) : Nat) : Int)::((posF Gs ((fun k : FU=>f.thn k) (Fs.getD (s.getD 1 default).toNat default)) : Nat) : Int)::(fun t : List Int=>thenL f.ob t) (s.drop 2)))=R:=⟨_,rfl⟩
 have hRl : R.length=a:=by rw [← hR,List.length_map,List.length_take]; omega
 rw [hR] at o;refine tt ?_
 by_cases c2p : a<(arrN Fs).length
 ·rw [decide_eq_true c2p]
  have v2:=wsucc (k:=a) (by omega)
  obtain ⟨i,j,t,hi,hj,hse,hn⟩:=hAm _ (mem_getD.mpr ⟨a,c2p,rfl⟩)
  have ht2 : (((arrN Fs).take (a+1)).map fun s=>indexOf (arrN Gs) (((posF Gs ((fun k : FU=>f.thn k) (Fs.getD (s.getD 0 default).toNat default)) : Nat) : Int)::((posF Gs ((fun k : FU=>f.thn k) (Fs.getD (s.getD 1 default).toNat default)) : Nat) : Int)::(fun t : List Int=>thenL f.ob t) (s.drop 2)))=R++[indexOf (arrN Gs) (ob.getD i default::ob.getD j default::(fun t : List Int=>thenL f.ob t) t)]:=by
   rw [List.take_succ_eq_append_getElem c2p,List.map_append,hR,hobAt i hi,hobAt j hj]
   have : (arrN Fs)[a]=(i : Int)::(j : Int)::t:=by rw [← hse]; simp [List.getD_eq_getElem?_getD,c2p]
   rw [this]; rfl
  have x0 : ix ((i : Int)::(j : Int)::t) 0=(i : Int):=rfl
  have x1 : ix ((i : Int)::(j : Int)::t) 1=(j : Int):=rfl
  have z1 : List.drop (Int.toNat 2) ((i : Int)::(j : Int)::t)=t:=rfl;refine tt ?_;refine ⟨c2p, ?_⟩;rw [hse];refine tt ?_
  have q3:=l01Then_ok B f.ob t fun y hy=>by
   have h5:=hn.len
   have h6:=h1.fit.obr y hy;rw [(hFF.f i hi).2.1] at h5;omega
  have q4:=l08Arrow_ok B (iI (Gs.length : Int)) (iL (fcat d Gs).frm) (iL (fcat d Gs).to) (iL (fcat d Gs).idn) (iLL (fcat d Gs).comp) (mL fuE Gs) rfl rfl rfl rfl rfl rfl (arrN Gs) (ob.getD i default) (ob.getD j default) (thenL f.ob t) (by
   have h5:=h1.fit.ol
   have h6:=h1.sI.1.o;simp only [thenL,List.length_map]; omega)
  rw [x0,x1,z1]
  have b0 : ix ob (i : Int)=ob.getD i default:=ix_nat _ _
  have b1 : ix ob (j : Int)=ob.getD j default:=ix_nat _ _;rw [b0,b1];refine ⟨⟨by decide,by simp⟩,⟨by omega,by rw [Int.toNat_natCast,hl1]; exact hi⟩,⟨by decide,by simp⟩,⟨by omega,by rw [Int.toNat_natCast,hl1]; exact hj⟩,⟨by decide,by omega⟩,_,q3.run,_,q4.run,⟨rfl,fun c hc=>by obtain rfl:=List.mem_singleton.mp hc; rfl⟩, ?_⟩;refine app_own (f:=iI) (indexOf (arrN Gs) (ob.getD i default::ob.getD j default::thenL f.ob t)) o rfl hRl.symm (by rw [hRl]; simp only [maxL]; omega) fun b H o=>?_
  have hl3 : (R++[indexOf (arrN Gs) (ob.getD i default::ob.getD j default::thenL f.ob t)]).length=a+1:=by rw [List.length_append,hRl]; rfl
  try simp only [go_sem,↓reduceIte,reduceEqDiff,reduceAdd,reduceMul,reduceLeDiff,reduceLT,v2,hl3]
  refine for_next b c2p ?_ rfl;rw [ht2];exact o
 rw [decide_eq_false c2p]
 have : a=(arrN Fs).length:=by omega
 subst this;rw [List.take_length] at hR;refine tt ?_;refine fz_own (f:=iI) o hRl.symm fun H o=>?_;rw [hR] at hres2
 have q5:=l06MakeP B (fcat d Fs) (fcat d Gs) ob R;refine tt ?_;refine q5.go fun _=>tt ?_;refine st_cells o (by simp [z12]) (by (try simp only [go_sem]); (try simp)) (by first | (simp only [go_sem]; done) | ((try simp only [go_sem]); simp [AV.one,one_mL])) fun H o=>?_;unfold z12 at o;simp only [wr_cons,wr_nil,List.set_cons_zero,List.set_cons_succ] at o;refine tt ?_;rw [o.rc 12 0 (by simp)];refine tt ?_;exact pure_ret (by rw [hres2]; rfl) o.sub
@[go_sem] def plA (A : List (List Int)) : AV:=.imap (plS A A.length).1 (plS A A.length).2
structure SmallL (A : List (List Int)) : Prop where
 nd : A.Nodup
 sm : ∀ l,l∈A→∀ y,y∈l→0≤y∧y<255
 ln : ∀ l,l∈A→l.length≤100
theorem arrow_ref (B : Nat) {A : List (List Int)} (hA : SmallL A) {i j : Int} {t : List Int} (hm : i::j::t∈A) {id fr : Nat} {H : Heap} {cs : List AV} (hg : H.get id=some (.cells 8 cs fr)) (h1 : 7<cs.length) (h2 : cs.getD 7 nv=plA A) :
  CallH Tryz.prog B 99 [.ref id 0,iI i,iI j,iL t] H fun r H'=>r=iI (indexOf A (i::j::t))∧H'=H:=by
 have hl:=hA.ln _ hm;simp only [List.length_cons] at hl;refine c99p (by simp) fun _=>?_;unfold s99p
 have o : Owns H H []:=.nil _;refine tt ?_;refine ⟨⟨_,_,hg⟩,rd_get hg h1 ?_⟩;rw [h2];refine tt ?_;refine newBuf_own o fun i15 H1 o=>?_
 have o : Owns H H1 [(i15,.cells 1 (([i,j] : List Int).map iI) 0)]:=o;refine tt ?_;refine app_list (f:=iI) (r:=t) o rfl (by rw [List.length_cons,List.length_cons,List.length_nil]; simp only [maxL]; omega) fun i17 H1 o=>tt ?_;refine newBuf_own o fun i18 H1 o=>?_
 have o : Owns H H1 ((i18,.cells 1 (([(i17,i::j::t)] : List (Nat × List Int)).map bufE) 0)::(inner iI [(i17,i::j::t)]++[])):=o
 have hk:=key_ok B [i::j::t] (by simp [keyB]; omega)
 have hpl:=plS_get hA.nd hA.sm hm;refine tt ?_;refine CallH.lentPure (es:=[iLL [i::j::t]]) (fun g g' v _ h=>by cases h; exact .str _) rfl (fun x hx=>?_) hk.run ⟨.refl _, ?_⟩
 ·obtain rfl : x=0:=by simp only [List.length_cons,List.length_nil] at hx; omega
  exact lent_nest o rfl
 refine tt ?_;refine ⟨okKey_plS A _ _, ?_⟩;rw [hpl];refine tt ?_;exact ⟨H,o.sub,rfl,rfl⟩
theorem arrow_ptr (B : Nat) {A : List (List Int)} (hA : SmallL A) {i j : Int} {t : List Int} (hm : i::j::t∈A) (x0 x1 x2 x3 x4 x5 x6 : AV) :
  Pur Tryz.prog B 99 [.ptr [x0,x1,x2,x3,x4,x5,x6,plA A],iI i,iI j,iL t] (iI (indexOf A (i::j::t))):=by
 have hl:=hA.ln _ hm;simp only [List.length_cons] at hl;refine ⟨fun H0=>c99q (by simp) fun _=>?_⟩;unfold s99q
 have o : Owns H0 H0 []:=.nil _;refine tt ?_;refine newBuf_own o fun i15 H1 o=>?_
 have o : Owns H0 H1 [(i15,.cells 1 (([i,j] : List Int).map iI) 0)]:=o;refine tt ?_;refine app_list (f:=iI) (r:=t) o rfl (by rw [List.length_cons,List.length_cons,List.length_nil]; simp only [maxL]; omega) fun i17 H1 o=>tt ?_;refine newBuf_own o fun i18 H1 o=>?_
 have o : Owns H0 H1 ((i18,.cells 1 (([(i17,i::j::t)] : List (Nat × List Int)).map bufE) 0)::(inner iI [(i17,i::j::t)]++[])):=o
 have hk:=key_ok B [i::j::t] (by simp [keyB]; omega)
 have hpl:=plS_get hA.nd hA.sm hm;refine tt ?_;refine CallH.lentPure (es:=[iLL [i::j::t]]) (fun g g' v _ h=>by cases h; exact .str _) rfl (fun x hx=>?_) hk.run ⟨.refl _, ?_⟩
 ·obtain rfl : x=0:=by simp only [List.length_cons,List.length_nil] at hx; omega
  exact lent_nest o rfl
 refine tt ?_;refine ⟨okKey_plS A _ _, ?_⟩;rw [hpl];refine tt ?_;exact pure_ret rfl o.sub
end Go.Proofs.Shf
namespace Go.Shf
open Go.AW
def rowG (φ : Nat→Nat→Int) (m a k : Nat) : List Int:=(List.range m).map fun b=>if b<k then φ a b else 0
def tabG (φ : Nat→Nat→Int) (m k : Nat) : List (List Int):=(List.range m).map fun a=>if a<k then (List.range m).map (φ a) else []
section
variable (φ : Nat→Nat→Int) (m : Nat)
theorem tabG_zero : tabG φ m 0=List.replicate m []:=by
 refine List.ext_getElem (by simp [tabG]) fun i h1 h2=>?_
 simp [tabG]
theorem tabG_full : tabG φ m m=tabC m φ:=by
 refine List.ext_getElem (by simp [tabG,tabC]) fun i h1 h2=>?_
 have hi : i<m:=by simpa [tabG] using h1
 simp only [tabG,tabC,List.getElem_map,List.getElem_range];rw [if_pos hi]
theorem rowG_zero (a : Nat) : rowG φ m a 0=List.replicate m 0:=by
 refine List.ext_getElem (by simp [rowG]) fun i h1 h2=>?_
 simp [rowG]
theorem rowG_len (a k : Nat) : (rowG φ m a k).length=m:=by simp [rowG]
theorem rowG_full (a : Nat) : rowG φ m a m=(List.range m).map (φ a):=by
 refine List.ext_getElem (by simp [rowG]) fun i h1 h2=>?_
 have hi : i<m:=by simpa [rowG] using h1
 simp only [rowG,List.getElem_map,List.getElem_range];rw [if_pos hi]
theorem rowG_succ (a : Nat) {k : Nat} (hk : k<m) : (rowG φ m a k).set k (φ a k)=rowG φ m a (k+1):=by
 refine List.ext_getElem (by simp [rowG]) fun i h1 h2=>?_;simp only [rowG,List.getElem_set,List.getElem_map,List.getElem_range]
 by_cases e : k=i
 ·subst e; rw [if_pos rfl,if_pos (by omega)]
 ·rw [if_neg e]
  by_cases e2 : i<k
  ·rw [if_pos e2,if_pos (by omega)]
  ·rw [if_neg e2,if_neg (by omega)]
theorem tabG_set {a : Nat} (R : List Int) (hR : R=(List.range m).map (φ a)) : (tabG φ m a).set a R=tabG φ m (a+1):=by
 refine List.ext_getElem (by simp [tabG]) fun i h1 h2=>?_;simp only [tabG,List.getElem_set,List.getElem_map,List.getElem_range]
 by_cases e : a=i
 ·subst e; rw [if_pos rfl,if_pos (by omega),hR]
 ·rw [if_neg e]
  by_cases e2 : i<a
  ·rw [if_pos e2,if_pos (by omega)]
  ·rw [if_neg e2,if_neg (by omega)]
end
@[go_sem] def gk8 (x : Int) (F T I : List Int) (E : AV × AV × AV) (X : AV) : MObj:=.cells 8 [iI x,iL F,iL T,iL I,X,E.1,E.2.1,E.2.2] 0
@[go_sem] def gkE (sz : Nat) (x : Int) (F T I : List Int) (E : List AV) (X : AV) : MObj:=.cells sz (iI x::iL F::iL T::iL I::X::E) 0
end Go.Shf
namespace Go.Proofs.Shf
open Go.AW Go.Proofs Go.Shf
theorem arrows8_ok (B : Nat) {idK sz : Nat} {H : Heap} {cs : List AV} {l : List Int} {fr : Nat} (hg : H.get idK=some (.cells sz cs fr)) (h1 : 1<cs.length) (h2 : cs.getD 1 nv=iL l) :
  CallH Tryz.prog B 98 [.ref idK 0] H fun r H'=>r=iI l.length∧H'=H:=by
 refine c98 (by simp) fun _=>?_;unfold s98;refine tt ?_;refine rd_get hg h1 ?_;rw [h2];refine tt ?_;exact ⟨H,.refl H,rfl,rfl⟩
theorem tableE_ok (B : Nat) {x : Int} {F T I : List Int} {sz : Nat} {E : List AV} {φ : Nat→Nat→Int} {m n : Nat} {env : List AV} (hfl : F.length=m) (htl : T.length=m) (hm : m≤4096) (hno : ∀ a b,a<m→b<m→T.getD a default≠F.getD b default→φ a b=-1) {idK : Nat}
  (hclo : ∀ a b : Nat,a<m→b<m→T.getD a default=F.getD b default→∀ H X,H.get idK=some (gkE sz x F T I E X)→CallH Tryz.prog B n (iI a::iI b::env) H fun r H'=>r=iI (φ a b)∧H'=H)
  {l : Ob} {H0 H : Heap} (o : Owns H0 H ((idK,gkE sz x F T I E .nilsl)::l)) :
  CallH Tryz.prog B 153 [.ref idK 0,.fn (.func n) env] H fun r H'=>∃ idT Xs ob,LsR iI Xs (tabC m φ) ob∧Xs.length=m∧Owns H0 H' ((idK,gkE sz x F T I E (.buf idT Xs.length))::(idT,.cells 1 Xs 0)::(ob++l)):=by
 refine c153p (by simp) fun _=>?_;unfold s153p;refine tt ?_;refine (arrows8_ok B (l:=F) o.h0 (by simp) rfl).mono ?_
 rintro r H' ⟨rfl,rfl⟩;rw [hfl];refine tt ?_;refine ⟨⟨by omega,by simp only [maxL]; omega⟩, ?_⟩;rw [rep_one];refine newBuf_own o fun idT H o=>tt ?_;refine sw o.swap fun H o=>tt ?_;refine rd_cells o (by simp) ?_;refine tt ?_
 have hr0 : LsR iI (List.replicate m .nilsl) (tabG φ m 0) []:=by rw [tabG_zero]; exact LsR.rep iI m
 have o : Owns H0 H ((idK,gkE sz x F T I E (.buf idT m))::(idT,.cells 1 (List.replicate m .nilsl) 0)::([]++l)):=o
 refine awp_for [0,1,4,18] (G:=List AV × Ob) (fun a _=>[(19,some (.int .i64 (a : Int)))])
  (fun a G H=>LsR iI G.1 (tabG φ m a) G.2∧G.1.length=m∧Owns H0 H ((idK,gkE sz x F T I E (.buf idT m))::(idT,.cells 1 G.1 0)::(G.2++l))) m (List.replicate m .nilsl,[]) ⟨hr0,by simp,o⟩ rfl ?_
 clear o hr0
 rintro a ⟨Xs,ob⟩ H ha ⟨hR,hXl,o⟩;dsimp only at hR hXl o;refine tt ?_;apply bk <;> intro h1
 ·have h1p : a<m:=by have:=of_decide h1; omega
  have w1:=wsucc (k:=a) (by omega);refine tt ?_;refine rd_cells o (by simp) ?_;refine tt ?_;refine ⟨⟨by omega,by simp only [maxL]; omega⟩,mks_list iI 0 rfl o fun idr H o=>?_⟩;refine tt ?_;refine ⟨h1p, ?_⟩;refine st_cells (o.pull [_,_]) (by omega) rfl (by simp [AV.one]) fun H o=>?_;simp only [wr_cons,wr_nil] at o
  have op : Owns H0 H ((idT,.cells 1 (Xs.set a (.buf idr m)) 0)::([(idr,.cells 1 ((List.replicate m (0 : Int)).map iI) 0)]++(ob++((idK,gkE sz x F T I E (.buf idT m))::l)))):=by
   simp only [gkE] at o ⊢;exact o.pm
  obtain ⟨ob2,hR2,o2⟩:=hR.put (i:=a) (by omega) (p:=[(idr,.cells 1 ((List.replicate m (0 : Int)).map iI) 0)]) (X:=.buf idr m) (A:=List.replicate m 0) (.inr ⟨idr,rfl,by simp⟩) op
  have hX2l : (Xs.set a (.buf idr m)).length=m:=by rw [List.length_set,hXl]
  have e0 : List.replicate m (0 : Int)=rowG φ m a 0:=by rw [rowG_zero]
  rw [e0] at hR2
  generalize hXX : Xs.set a (.buf idr m)=X2 at *
  have hXa : X2.getD a nv=.buf idr m:=by rw [← hXX]; simp [List.getD_eq_getElem?_getD,show a<Xs.length by omega]
  have o : Owns H0 H ((idK,gkE sz x F T I E (.buf idT m))::(idT,.cells 1 X2 0)::(ob2++l)):=by
   simp only [gkE] at o2 ⊢;exact o2.pm
  clear o2 op hR hXX;refine tt ?_;refine rd_cells o (by simp) ?_;refine tt ?_;refine ⟨h1p,rd_cells o.tl (by omega) ?_⟩;rw [hXa];refine tt ?_
  refine awp_for [0,1,4,5,18,19,37] (G:=Ob) (fun b _=>[(38,some (.int .i64 (b : Int)))])
   (fun b G H=>LsR iI X2 ((tabG φ m a).set a (rowG φ m a b)) G∧Owns H0 H ((idK,gkE sz x F T I E (.buf idT m))::(idT,.cells 1 X2 0)::(G++l))) m ob2 ⟨hR2,o⟩ rfl ?_
  clear o hR2
  rintro b ob H hb ⟨hR,o⟩
  have hrl:=rowG_len φ m a b
  have htl2 : (tabG φ m a).length=m:=by simp [tabG]
  have hgd : ((tabG φ m a).set a (rowG φ m a b)).getD a []=rowG φ m a b:=by simp [List.getD_eq_getElem?_getD,show a<(tabG φ m a).length by omega]
  refine tt ?_;apply bk <;> intro h2
  ·have h2p : b<m:=by have:=of_decide h2; omega
   have w2:=wsucc (k:=b) (by omega);refine tt ?_;refine rd_cells o (by simp) ?_;refine tt ?_;refine ⟨h1p,rd_cells o.tl (by omega) ?_⟩;rw [hXa];refine tt ?_;refine ⟨h2p, ?_⟩
   obtain ⟨idr',e1,hset⟩:=hR.row (i:=a) (by omega) (by rw [hgd,hrl]; omega)
   obtain ⟨rfl,_⟩:=AV.buf.inj (hXa.symm.trans e1)
   have oT : Owns H0 H ((idT,.cells 1 X2 0)::(ob++((idK,gkE sz x F T I E (.buf idT m))::l))):=by
    simp only [gkE] at o ⊢;exact o.pm
   refine hset oT b (by rw [hgd,hrl]; omega) (-1) rfl fun H ob hR o=>?_;clear hset oT;rw [hgd,List.set_set] at hR
   have o : Owns H0 H ((idK,gkE sz x F T I E (.buf idT m))::(idT,.cells 1 X2 0)::(ob++l)):=by
    simp only [gkE] at o ⊢;exact o.pm
   refine tt ?_;refine rd_cells o (by simp) ?_;refine tt ?_;refine ⟨by omega,rd_cells o (by simp) ?_⟩;refine tt ?_;refine ⟨by omega, ?_⟩
   by_cases hab : T.getD a default=F.getD b default
   ·rw [decide_eq_true hab];refine tt ?_;refine rd_cells o (by simp) ?_;refine tt ?_;refine ⟨h1p,rd_cells o.tl (by omega) ?_⟩;rw [hXa];refine tt ?_;refine (hclo a b (by omega) (by omega) hab _ (.buf idT m) o.h0).mono ?_
    rintro r H' ⟨rfl,rfl⟩;refine ⟨.refl _,tt ?_⟩;refine ⟨h2p, ?_⟩
    have hgd2 : ((tabG φ m a).set a ((rowG φ m a b).set b (-1))).getD a []=(rowG φ m a b).set b (-1):=by simp [List.getD_eq_getElem?_getD,show a<(tabG φ m a).length by omega]
    obtain ⟨idr',e1,hset⟩:=hR.row (i:=a) (by omega) (by rw [hgd2,List.length_set,hrl]; omega)
    obtain ⟨rfl,_⟩:=AV.buf.inj (hXa.symm.trans e1)
    have oT : Owns H0 H' ((idT,.cells 1 X2 0)::(ob++((idK,gkE sz x F T I E (.buf idT m))::l))):=by
     simp only [gkE] at o ⊢;exact o.pm
    refine hset oT b (by rw [hgd2,List.length_set,hrl]; omega) (φ a b) rfl fun H ob hR o=>?_;rw [hgd2,List.set_set,List.set_set,rowG_succ φ m a (by omega)] at hR;refine tw w2 ?_;refine for_next ob h2p ⟨hR, ?_⟩ rfl;simp only [gkE] at o ⊢;exact o.pm
   ·rw [decide_eq_false hab]
    have hno:=hno a b (by omega) (by omega) hab;rw [← hno,rowG_succ φ m a (by omega)] at hR;refine tw w2 ?_;exact for_next ob h2p ⟨hR,o⟩ rfl
  ·have h2p : b=m:=by have:=of_ndecide h2; omega
   refine tw w1 ?_;refine for_next (X2,ob) h1p ⟨?_,hX2l,o⟩ rfl;rw [h2p,rowG_full φ m,tabG_set φ m _ rfl] at hR;exact hR
 ·have h1p : a=m:=by have:=of_ndecide h1; omega
  rw [h1p,tabG_full] at hR;refine tt ?_;exact ⟨H,.refl H,idT,Xs,ob,hR,hXl,by rw [hXl]; exact o⟩
theorem table8_ok (B : Nat) {x : Int} {F T I : List Int} {E : AV × AV × AV} {φ : Nat→Nat→Int} {m n : Nat} {env : List AV} (hfl : F.length=m) (htl : T.length=m) (hm : m≤4096) (hno : ∀ a b,a<m→b<m→T.getD a default≠F.getD b default→φ a b=-1) {idK : Nat}
  (hclo : ∀ a b : Nat,a<m→b<m→T.getD a default=F.getD b default→∀ H X,H.get idK=some (gk8 x F T I E X)→CallH Tryz.prog B n (iI a::iI b::env) H fun r H'=>r=iI (φ a b)∧H'=H)
  {l : Ob} {H0 H : Heap} (o : Owns H0 H ((idK,gk8 x F T I E .nilsl)::l)) :
  CallH Tryz.prog B 153 [.ref idK 0,.fn (.func n) env] H fun r H'=>∃ idT Xs ob,LsR iI Xs (tabC m φ) ob∧Xs.length=m∧Owns H0 H' ((idK,gk8 x F T I E (.buf idT Xs.length))::(idT,.cells 1 Xs 0)::(ob++l)):=tableE_ok B (sz:=8) (E:=[E.1,E.2.1,E.2.2]) hfl htl hm hno hclo o
theorem composed_ok (B : Nat) {d : Cat} (hd : d.Is) {s t : List Int} (hl : t.length=s.length) (hn : s.length≤100) (hs : ∀ i : Nat,i<s.length→d.ArR (s.getD i default)) (ht : ∀ i : Nat,i<s.length→d.ArR (t.getD i default)) :
  Pur Tryz.prog B 155 [.ptr d.cells,iL s,iL t] (iL (vth d s t)):=by
 refine ⟨fun H0=>c155 (by simp) fun _=>?_⟩;unfold s155
 have o : Owns H0 H0 []:=.nil _
 have cl:=hd.1.cl
 obtain ⟨φ,hφ⟩ : ∃ φ : Nat→Nat→Int,(fun _ x=>d.th (s.getD x default) (t.getD x default))=φ:=⟨_,rfl⟩;refine tt ?_;refine ⟨by simp only [maxL]; omega,newBuf_own o fun i7 H o=>?_⟩
 have er : rep s.length [AV.int .i64 0]=(rowG φ s.length 0 0).map iI:=by rw [rep_one,rowG_zero,List.map_replicate]
 rw [er] at o;refine tt ?_;refine awp_for [0,1,2,7,13] (G:=Unit) (fun k _=>[(14,some (.int .i64 (k : Int)))]) (fun k _ H=>Owns H0 H [(i7,.cells 1 ((rowG φ s.length 0 k).map iI) 0)]) s.length () o rfl ?_;clear o
 rintro k _ H hk o
 have hrl:=rowG_len φ s.length 0 k;refine tt ?_;apply bk <;> intro h1
 ·have h1p : k<s.length:=of_decide h1
  have w1:=wsucc (k:=k) (by omega)
  have a1:=hs k h1p
  have a2:=ht k h1p
  have q1:=catThen_ok B d (s.getD k default) (t.getD k default) ⟨a1.1,by have:=a1.2; omega⟩ ⟨a2.1,by rw [hd.1.row' a1.2]; exact a2.2⟩
  have hsu:=rowG_succ φ s.length 0 h1p
  have hφk : φ 0 k=ix (ix d.comp (s.getD k default)) (t.getD k default):=by rw [← hφ]; rfl
  rw [hφk] at hsu;refine tt ?_;refine ⟨h1p,by omega,_,q1.run,h1p, ?_⟩;refine set_own (f:=iI) _ o rfl (by omega) fun H o=>?_;rw [hsu] at o;refine tw w1 ?_;exact for_next () h1p o rfl
 have h1p:=of_ndecide h1
 have : k=s.length:=by omega
 subst this;refine tt ?_;refine fz_own (f:=iI) o hrl.symm fun H o=>tt ?_;exact pure_ret (by rw [rowG_full,← hφ]; rfl) o.sub
end Go.Proofs.Shf
namespace Go.Shf
open Go.AW
theorem plS_app (A : List (List Int)) (s : List Int) : ∀ k,k≤A.length→plS (A++[s]) k=plS A k
 | 0,_=>rfl
 | k+1,h=>by
  have e : (A++[s]).getD k default=A.getD k default:=by
   rw [List.getD_eq_getElem?_getD,List.getD_eq_getElem?_getD,List.getElem?_append_left (by omega)]
  rw [plS,plS,plS_app A s k (by omega),e]
theorem plS_snoc (A : List (List Int)) (s : List Int) : plS (A++[s]) (A++[s]).length=mput (.str (keyS [s])) (iI (A.length : Int)) (plS A A.length).1 (plS A A.length).2:=by
 have e : (A++[s]).getD A.length default=s:=by simp [List.getD_eq_getElem?_getD]
 rw [List.length_append,List.length_singleton,plS,plS_app A s _ (Nat.le_refl _),e]
end Go.Shf
namespace Go.Proofs.Shf
open Go.AW Go.Proofs Go.Shf
abbrev fc8 (x0 V1 V2 V3 V4 x5 V6 x7 : AV) : MObj:=.cells 8 [x0,V1,V2,V3,V4,x5,V6,x7] 0
def mpA (A : List (List Int)) : MObj:=.map (plS A A.length).1 (plS A A.length).2
def AddK (x0 V3 V4 x5 : AV) (id mp : Nat) (L1 L2 : List Int) (A : List (List Int)) (H0 : Heap) (l : Ob) : Kont:=fun r H'=>∃ V1 V2 V6 p1 p2 p6,LsP iI p1 V1 L1∧LsP iI p2 V2 L2∧LsP iL p6 V6 A ∧
 Owns H0 H' ((id,fc8 x0 V1 V2 V3 V4 x5 V6 (.mref mp))::(mp,mpA A)::(p1++(p2++(p6++l))))
theorem add_ok (B : Nat) {x0 V1 V2 V3 V4 x5 V6 : AV} {id mp : Nat} {L1 L2 : List Int} {A : List (List Int)} {H0 H : Heap} {p1 p2 p6 l : Ob} (i j : Int) (t : List Int) (ht : t.length≤100) (h1 : L1.length≤1000) (h2 : L2.length≤1000) (h6 : A.length≤1000)
  (hp1 : LsP iI p1 V1 L1) (hp2 : LsP iI p2 V2 L2) (hp6 : LsP iL p6 V6 A) (o : Owns H0 H ((id,fc8 x0 V1 V2 V3 V4 x5 V6 (.mref mp))::(mp,mpA A)::(p1++(p2++(p6++l))))) :
  CallH Tryz.prog B 152 [.ref id 0,iI i,iI j,iL t] H (AddK x0 V3 V4 x5 id mp (L1++[i]) (L2++[j]) (A++[i::j::t]) H0 l):=by
 refine c152p (by simp) fun _=>?_;unfold s152p;refine tt ?_;refine newBuf_own o fun i11 H o=>?_
 have o : Owns H0 H ((i11,.cells 1 (([i,j] : List Int).map iI) 0)::(id,fc8 x0 V1 V2 V3 V4 x5 V6 (.mref mp))::(mp,mpA A)::(p1++(p2++(p6++l)))):=o;refine tt ?_;refine app_list (f:=iI) (r:=t) o rfl (by rw [List.length_cons,List.length_cons,List.length_nil]; simp only [maxL]; omega) fun i13 H o=>tt ?_;refine fz_own (f:=iI) o rfl fun H o=>?_
 have es : ([i,j] : List Int)++t=i::j::t:=rfl;rw [es];refine tt ?_;refine rd_cells o (by simp) ?_
 have hk:=key_ok B [i::j::t] (by simp [keyB]; omega)
 have eL : lenE (some V6)=some (True,.int .i64 (A.length : Int)):=by
  rcases hp6 with ⟨rfl,rfl,rfl⟩ | ⟨z,rfl,rfl⟩ <;> rfl
 refine tt ?_;refine ⟨_,hk.run,rd_cells o (by simp) ?_⟩;refine tw eL ?_
 have hg : H.get mp=some (.map (plS A A.length).1 (plS A A.length).2):=o.tl.h0;rw [hg];refine tt ?_;refine ⟨okKey_plS A _ _, ?_⟩
 have hps:=plS_snoc A (i::j::t)
 have o : Owns H0 (H.set mp (mpA (A++[i::j::t]))) ((id,fc8 x0 V1 V2 V3 V4 x5 V6 (.mref mp))::(mp,mpA (A++[i::j::t]))::(p1++(p2++(p6++l)))):=(o.swap.put _).swap
 have em : (H.set mp (.map (mput (.str (keyS [i::j::t])) (iI (A.length : Int)) (plS A A.length).1 (plS A A.length).2).1 (mput (.str (keyS [i::j::t])) (iI (A.length : Int)) (plS A A.length).1 (plS A A.length).2).2))=H.set mp (mpA (A++[i::j::t])):=by rw [mpA,hps]
 rw [em]
 generalize H.set mp (mpA (A++[i::j::t]))=H at o;refine tt ?_;refine rd_cells o (by simp) ?_;refine tt ?_;refine LsO.app (f:=iL) (i::j::t) (LsO.mk (l:=(id,fc8 x0 V1 V2 V3 V4 x5 V6 (.mref mp))::(mp,mpA (A++[i::j::t]))::(p1++(p2++l))) (o.pm) hp6) rfl (by simp only [maxL]; omega) fun z6 H o=>?_
 have hp6 : LsP iL [(z6,.cells 1 ((A++[i::j::t]).map iL) 0)] (.buf z6 (A++[i::j::t]).length) (A++[i::j::t]):=.inr ⟨z6,rfl,rfl⟩;refine tt ?_;refine stc o.swap fun H o=>?_
 have o : Owns H0 H ((id,fc8 x0 V1 V2 V3 V4 x5 (.buf z6 (A++[i::j::t]).length) (.mref mp))::(z6,.cells 1 ((A++[i::j::t]).map iL) 0)::(mp,mpA (A++[i::j::t]))::(p1++(p2++l))):=o
 have o : Owns H0 H ((id,fc8 x0 V1 V2 V3 V4 x5 (.buf z6 (A++[i::j::t]).length) (.mref mp))::(mp,mpA (A++[i::j::t]))::(p1++(p2++([(z6,.cells 1 ((A++[i::j::t]).map iL) 0)]++l)))):=o.pm
 generalize [(z6,MObj.cells 1 (List.map iL (A++[i::j::t])) 0)]=p6 at o hp6
 generalize AV.buf z6 (A++[i::j::t]).length=V6 at o hp6;refine tt ?_;refine rd_cells o (by simp) ?_;refine tt ?_;refine LsO.app (f:=iI) i (LsO.mk (l:=(id,fc8 x0 V1 V2 V3 V4 x5 V6 (.mref mp))::(mp,mpA (A++[i::j::t]))::(p2++(p6++l))) (o.pm) hp1) rfl (by simp only [maxL]; omega) fun z1 H o=>?_
 have hp1 : LsP iI [(z1,.cells 1 ((L1++[i]).map iI) 0)] (.buf z1 (L1++[i]).length) (L1++[i]):=.inr ⟨z1,rfl,rfl⟩;refine tt ?_;refine stc o.swap fun H o=>?_
 have o : Owns H0 H ((id,fc8 x0 (.buf z1 (L1++[i]).length) V2 V3 V4 x5 V6 (.mref mp))::(z1,.cells 1 ((L1++[i]).map iI) 0)::(mp,mpA (A++[i::j::t]))::(p2++(p6++l))):=o
 have o : Owns H0 H ((id,fc8 x0 (.buf z1 (L1++[i]).length) V2 V3 V4 x5 V6 (.mref mp))::(mp,mpA (A++[i::j::t]))::([(z1,.cells 1 ((L1++[i]).map iI) 0)]++(p2++(p6++l)))):=o.pm
 generalize [(z1,MObj.cells 1 (List.map iI (L1++[i])) 0)]=p1 at o hp1
 generalize AV.buf z1 (L1++[i]).length=V1 at o hp1;refine tt ?_;refine rd_cells o (by simp) ?_;refine tt ?_;refine LsO.app (f:=iI) j (LsO.mk (l:=(id,fc8 x0 V1 V2 V3 V4 x5 V6 (.mref mp))::(mp,mpA (A++[i::j::t]))::(p1++(p6++l))) (o.pm) hp2) rfl (by simp only [maxL]; omega) fun z2 H o=>?_
 have hp2 : LsP iI [(z2,.cells 1 ((L2++[j]).map iI) 0)] (.buf z2 (L2++[j]).length) (L2++[j]):=.inr ⟨z2,rfl,rfl⟩;refine tt ?_;refine stc o.swap fun H o=>?_
 have o : Owns H0 H ((id,fc8 x0 V1 (.buf z2 (L2++[j]).length) V3 V4 x5 V6 (.mref mp))::(z2,.cells 1 ((L2++[j]).map iI) 0)::(mp,mpA (A++[i::j::t]))::(p1++(p6++l))):=o
 have o : Owns H0 H ((id,fc8 x0 V1 (.buf z2 (L2++[j]).length) V3 V4 x5 V6 (.mref mp))::(mp,mpA (A++[i::j::t]))::(p1++([(z2,.cells 1 ((L2++[j]).map iI) 0)]++(p6++l)))):=o.pm;refine tt ?_;exact ⟨_,.refl _,V1,_,V6,p1,_,p6,hp1,hp2,hp6,o⟩
def outN (out z : Nat) (L : List (List Int)) : Ob:=[(out,.cells 1 [.buf z L.length] 0),(z,.cells 1 (L.map iL) 0)]
abbrev fnN (out most : Nat) : AV:=.fn (.func 207) [.ref out 0,.ptr [iI (most : Int)]]
def ColN (Hb : Heap) (out most : Nat) (L l : List (List Int)) (r : Ob) : Kont:=fun v H'=>∃ z,v=.bool (decide ((L++l).length≤most))∧Owns Hb H' (outN out z (colF most L l)++r)
theorem foundN (B : Nat) {Hb : Heap} {r : Ob} {out most b n : Nat} {T : List Int} (hn : n=T.length) {L : List (List Int)} (hL : L.length≤most) (hmost : most≤1000) {z : Nat} {H0 : Heap}
  (o : Owns Hb H0 ((b,.cells 1 (T.map iI) 0)::(outN out z L++r))) :
  CallH Tryz.prog B 207 [.buf b n,.ref out 0,.ptr [iI (most : Int)]] H0 (ColN Hb out most L [T] ((b,.cells 1 (T.map iI) 0)::r)):=by
 refine c207p (by simp) fun _=>?_;unfold s207p;subst hn
 have o : Owns Hb H0 ((out,.cells 1 [.buf z L.length] 0)::(z,.cells 1 (L.map iL) 0)::(b,.cells 1 (T.map iI) 0)::r):=o.perm (by simp only [outN]; exact (permC fun x=>by (try dsimp only); simp only [List.append_eq,List.count_append,List.count_cons,List.count_nil,List.map_nil,List.length_nil,List.length_append,List.length_cons,List.length_set,Nat.zero_add,List.nil_append,iI,iL]; omega));refine tt ?_;refine rd_cells o (by simp) ?_;refine tt ?_;refine New.lentQ owL (cloneN B T) rfl (fun i hi=>?_) fun H hs=>⟨hs, ?_⟩
 ·obtain rfl : i=0:=by simp only [List.length_cons,List.length_nil] at hi; omega
  exact lent_arg (o.tl.tl) rfl
 have o:=o.ext hs;refine tt ?_;refine app_own (f:=iL) T o.swap rfl rfl (by simp only [maxL]; omega) fun z H o=>tt ?_;refine sw o.swap fun H o=>?_
 have hcol : colF most L [T]=L++[T]:=by rw [colF,List.take_of_length_le (by simp; omega)]
 refine tt ?_;refine rd_cells o (by simp) ?_;refine tt ?_;refine ⟨_,.refl _,z, ?_, ?_⟩
 ·exact congrArg AV.bool (decide_eq_decide.mpr (by omega))
 ·rw [hcol];exact o.perm (by simp only [outN]; exact (permC fun x=>by (try dsimp only); simp only [List.append_eq,List.count_append,List.count_cons,List.count_nil,List.map_nil,List.length_nil,List.length_append,List.length_cons,List.length_set,Nat.zero_add,List.nil_append,iI,iL]; omega))
theorem anyArrow_ok (B : Nat) (x : Int) : Pur Tryz.prog B 206 [iI x] (.bool true):=by
 refine ⟨fun H0=>c206 (by simp) fun _=>?_⟩;unfold s206;refine tt ?_;exact pure_ret rfl (.refl _)
theorem commutesP_ok (B : Nat) {f g : FU} (hf : f.Is) (hg : g.Is) (e1 : f.src=g.src) (e2 : f.tgt=g.tgt) {t : List Int} (hl : t.length=f.src.objs.toNat) {a : Nat} (ha : a<f.src.frm.length)
  (r3 : f.tgt.ArR (ix t (f.src.to.getD a default))) (r4 : f.tgt.ArR (ix t (f.src.frm.getD a default))) :
  Pur Tryz.prog B 244 [.ptr f.cells,.ptr g.cells,iL t,iI (a : Int)] (.bool (dec (SqA f g t a))):=by
 refine ⟨fun H0=>c244 (by simp) fun _=>?_⟩;unfold s244
 have hfa:=hf.fit.al
 have hga:=hg.fit.al;rw [← e1] at hga
 have htl:=hf.sI.1.tol
 have hy:=hf.sI.1.to _ (mem_getD.mpr ⟨a,(by omega : a<f.src.to.length),rfl⟩)
 have hx:=hf.sI.1.frm _ (mem_getD.mpr ⟨a,ha,rfl⟩)
 have r1:=hf.fit.arr _ (mem_getD.mpr ⟨a,(by omega : a<f.ar.length),rfl⟩)
 have r2:=hg.fit.arr _ (mem_getD.mpr ⟨a,(by omega : a<g.ar.length),rfl⟩);rw [← e2] at r2
 have cl:=hf.tI.1.cl
 have row : ∀ z : Int,0≤z∧z.toNat<f.tgt.frm.length→(ix f.tgt.comp z).length=f.tgt.frm.length:=fun z hz=>hf.tI.1.row' hz.2
 have x3:=r3.2
 have x4:=r4.2
 have q1:=catThen_ok B f.tgt (f.ar.getD a default) (ix t (f.src.to.getD a default)) ⟨r1.1,by omega⟩ ⟨r3.1,by rw [row _ ⟨r1.1,by omega⟩]; omega⟩
 have q2:=catThen_ok B f.tgt (ix t (f.src.frm.getD a default)) (g.ar.getD a default) ⟨r4.1,by omega⟩ ⟨r2.1,by rw [row _ r4]; omega⟩;refine tt ?_;refine ⟨by omega,by omega,⟨hy.1,by omega⟩,⟨_,q1.run, ?_⟩⟩;refine tt ?_;refine ⟨ha,⟨hx.1,by omega⟩,by omega,⟨_,q2.run, ?_⟩⟩;refine tt ?_;exact pure_ret (congrArg AV.bool (dec_of Iff.rfl)) (.refl _)
end Go.Proofs.Shf
namespace Go.Shf
open Go.AW
def knP (T : List Int) (x : Nat) : List Int:=T.take x++List.replicate (T.length - x) (-1)
theorem knP_len {T : List Int} {x : Nat} (hx : x≤T.length) : (knP T x).length=T.length:=by simp [knP]; omega
theorem knP_at {T : List Int} {x i : Nat} (hi : i<T.length) : (knP T x).getD i default=if i<x then T.getD i default else -1:=by
 rw [knP,List.getD_eq_getElem?_getD]
 by_cases e : i<x
 ·rw [if_pos e,List.getElem?_append_left (by simp; omega),List.getElem?_take_of_lt e,List.getD_eq_getElem?_getD]
 ·rw [if_neg e,List.getElem?_append_right (by simp; omega),List.getElem?_replicate,if_pos (by simp; omega)]; rfl
theorem list_ext' {A C : List Int} (hl : A.length=C.length) (h : ∀ i,i<A.length→A.getD i default=C.getD i default) : A=C :=
 List.ext_getElem hl fun i a b=>by
  have:=h i a
  rwa [List.getD_eq_getElem?_getD,List.getD_eq_getElem?_getD,List.getElem?_eq_getElem a,List.getElem?_eq_getElem b] at this
theorem knP_set {T : List Int} {x : Nat} {b : Int} (hx : x<T.length) : (knP T x).set x b=knP (T.set x b) (x+1):=by
 have l1:=knP_len (T:=T) (x:=x) (by omega)
 have l2:=knP_len (T:=T.set x b) (x:=x+1) (by rw [List.length_set]; omega);rw [List.length_set] at l2;refine list_ext' (by rw [List.length_set]; omega) fun i hi=>?_;rw [List.length_set] at hi
 have hi2 : i<T.length:=by omega
 rw [getD_setI (by omega),knP_at (T:=T.set x b) (by rw [List.length_set]; exact hi2),knP_at (T:=T) hi2,getD_setI hx]
 by_cases e : x=i
 ·subst e; simp
 ·rw [if_neg e,if_neg e]
  by_cases q : i<x
  ·rw [if_pos q,if_pos (by omega)]
  ·rw [if_neg q,if_neg (by omega)]
theorem knP_congr {T T' : List Int} {x : Nat} (hl : T'.length=T.length) (h : T'.take x=T.take x) : knP T' x=knP T x:=by rw [knP,knP,h,hl]
section
variable {f g : FU} {T : List Int} {x : Nat} {b : Int}
abbrev MaxA (f : FU) (x : Nat) (a : Nat) : Prop:=(if f.src.to.getD a default > f.src.frm.getD a default then f.src.to.getD a default else f.src.frm.getD a default)=(x : Int)
theorem fitP_iff (hf : f.src.Is) (hT : T.length=f.src.objs.toNat) (hx : x<T.length) (h0 : ∀ i,i<x→0≤T.getD i default) (hb : 0≤b) :
  FitZ f g (knP T x) (x : Int) b↔∀ a : Nat,a<f.src.frm.length→MaxA f x a→SqA f g (T.set x b) a:=by
 have hs : (knP T x).set ((x : Nat) : Int).toNat b=knP (T.set x b) (x+1):=by rw [Int.toNat_natCast]; exact knP_set hx
 have at_ : ∀ i,i<T.length→(knP (T.set x b) (x+1)).getD i default=if i<x+1 then (T.set x b).getD i default else -1:=fun i hi=>knP_at (by rw [List.length_set]; exact hi)
 have pos_ : ∀ i,i<x+1→0≤(T.set x b).getD i default:=fun i hi=>by
  rw [getD_setI hx]
  by_cases e : x=i
  ·rw [if_pos e]; exact hb
  ·rw [if_neg e]; exact h0 i (by omega)
 constructor
 ·intro h a ha hm
  have ka:=ar_nat (c:=f.src) (i:=a) ha
  have us:=ka.src hf
  have vs:=ka.tgt hf
  have hu : (f.src.frm.getD a default).toNat<x+1:=by rw [MaxA] at hm; split at hm <;> omega
  have hv : (f.src.to.getD a default).toNat<x+1:=by rw [MaxA] at hm; split at hm <;> omega
  have q:=h (a : Int) _ _ ka (by rw [MaxA] at hm; split at hm; exact .inr hm; exact .inl hm);rw [hs,ix,ix,at_ _ (by omega),at_ _ (by omega),if_pos hu,if_pos hv,ix_nat,ix_nat] at q;exact q (pos_ _ hu) (pos_ _ hv)
 ·intro h a u v k huv h1 h2
  have us:=k.src hf
  have vs:=k.tgt hf;rw [hs,ix,at_ _ (by omega)] at h1 h2
  have hu : u.toNat<x+1:=by
   refine Classical.byContradiction fun q=>?_;rw [if_neg q] at h1; omega
  have hv : v.toNat<x+1:=by
   refine Classical.byContradiction fun q=>?_;rw [if_neg q] at h2; omega
  have es : f.src.frm.getD a.toNat default=u:=k.s
  have et : f.src.to.getD a.toNat default=v:=k.t
  have w:=h a.toNat k.r.2 (by rw [MaxA,es,et]; rcases huv with e | e <;> split <;> omega)
  rw [SqA,es,et] at w
  have iu : ix (knP (T.set x b) (x+1)) u=ix (T.set x b) u:=by rw [ix,at_ _ (by omega),if_pos hu]; rfl
  have iv : ix (knP (T.set x b) (x+1)) v=ix (T.set x b) v:=by rw [ix,at_ _ (by omega),if_pos hv]; rfl
  rw [hs,iu,iv];exact w
end
end Go.Shf
namespace Go.Proofs.Shf
open Go.AW Go.Proofs Go.Shf
theorem take_at {T : List Int} {x i : Nat} (h : i<x) : (T.take x).getD i default=T.getD i default:=by
 rw [List.getD_eq_getElem?_getD,List.getElem?_take_of_lt h,List.getD_eq_getElem?_getD]
theorem filter_flat {α β : Type} (p : α→Bool) (F : α→List β) : ∀ l : List α,(l.filter p).flatMap F=l.flatMap fun b=>if p b=true then F b else []
 | []=>rfl
 | a::l=>by
  by_cases h : p a=true
  ·rw [List.filter_cons_of_pos h,List.flatMap_cons,List.flatMap_cons,if_pos h,filter_flat p F l]
  ·rw [List.filter_cons_of_neg h,List.flatMap_cons,if_neg h,filter_flat p F l,List.nil_append]
abbrev capN (f g : FU) (out most b n ic : Nat) : List AV:=[.ptr [.ptr f.src.cells],.ptr [fnN out most],.ptr [.buf b n],.ptr [.ptr f.tgt.cells],.ptr [.ptr f.cells],.ptr [.ptr g.cells],.ptr [.fn (.func 206) []],.ref ic 0]
abbrev choN (f g : FU) (out most b n ic : Nat) : MObj:=.cells 1 [.fn (.func 243) (capN f g out most b n ic)] 0
def NatK (f g : FU) (out most b n ic : Nat) (T : List Int) (x : Nat) (L l : List (List Int)) (Hb : Heap) (r : Ob) : Kont:=fun v H'=>∃ (z : Nat) (T' : List Int),T'.length=n∧T'.take x=T.take x∧v=.bool (decide ((L++l).length≤most)) ∧
 Owns Hb H' ((ic,choN f g out most b n ic)::(b,.cells 1 (T'.map iI) 0)::(outN out z (colF most L l)++r))
theorem natGo_ok (B : Nat) {f g : FU} (hf : f.Is) (hg : g.Is) (e1 : f.src=g.src) (e2 : f.tgt=g.tgt) {out most bc ic : Nat} (hmost : most≤1000) {Hb : Heap} {r : Ob} : ∀ (d x : Nat),x+d=f.src.objs.toNat→∀ (T : List Int),T.length=f.src.objs.toNat→ConsZ f g (fun _=>False) (knP T x)→(∀ i,i<x→f.tgt.ArR (T.getD i default)) →
  ∀ {L : List (List Int)} {z : Nat} {H0 : Heap},L.length≤most→Owns Hb H0 ((ic,choN f g out most bc f.src.objs.toNat ic)::(bc,.cells 1 (T.map iI) 0)::(outN out z L++r)) →
  CallH Tryz.prog B 243 (iI (x : Int)::capN f g out most bc f.src.objs.toNat ic) H0 (NatK f g out most bc f.src.objs.toNat ic T x L (natZ f g (fun _=>False) (knP T x)) Hb r):=by
 intro d
 induction d with
 | zero =>
  intro x hx T hT cz hA L z H0 hL o;refine c243p (by simp) fun _=>?_;unfold s243p
  have hso:=hf.sI.1.o;refine tt ?_;rw [decide_eq_true (show (x : Int)=f.src.objs by omega)]
  have hkn : knP T x=T:=by rw [knP,show T.length - x=0 by omega,List.take_of_length_le (by omega)]; simp
  rw [hkn] at cz ⊢
  have hz : natZ f g (fun _=>False) T=[T]:=natZ_leaf cz hf.sI.1 fun i hi=>by have:=(hA i (by omega)).1; omega
  rw [hz];refine tt ?_
  have o2 : Owns Hb H0 ((bc,.cells 1 (T.map iI) 0)::(outN out z L++((ic,choN f g out most bc f.src.objs.toNat ic)::r))):=o.perm (by simp only [outN]; exact (permC fun x=>by (try dsimp only); simp only [List.append_eq,List.count_append,List.count_cons,List.count_nil,List.map_nil,List.length_nil,List.length_append,List.length_cons,List.length_set,Nat.zero_add,List.nil_append,iI,iL]; omega));refine (foundN B hT.symm hL hmost o2).mono ?_;clear o o2
  rintro v H ⟨z,rfl,o⟩;refine tt ?_;exact ⟨_,.refl _,z,T,hT,rfl,rfl,o.perm (by simp only [outN]; exact (permC fun x=>by (try dsimp only); simp only [List.append_eq,List.count_append,List.count_cons,List.count_nil,List.map_nil,List.length_nil,List.length_append,List.length_cons,List.length_set,Nat.zero_add,List.nil_append,iI,iL]; omega))⟩
 | succ d ih =>
  intro x hx T hT cz hA L z H0 hL o;refine c243p (by simp) fun _=>?_;unfold s243p
  have hso:=hf.sI.1.o
  have hsm:=hf.sI.1.m
  have htm:=hf.tI.1.m
  have stl:=hf.sI.1.tol
  have hfl:=hf.fit.ol
  have hgl:=hg.fit.ol;rw [← e1] at hgl;refine tt ?_;rw [decide_eq_false (show ¬ (x : Int)=f.src.objs by omega)]
  have hsp:=natZ_split cz hf.sI.1 (a:=x) (by rw [knP_len (by omega)]; omega) (by rw [knP_at (by omega),if_neg (by omega)]) (fun i hi=>by rw [knP_at (by omega),if_pos hi]; have:=(hA i hi).1; omega);refine tt ?_;refine ⟨by omega,by omega,_,(hom_ok B f.tgt hf.tI.1 (f.ob.getD x default) (g.ob.getD x default)).run, ?_⟩;rw [filter_flat] at hsp
  have hmA : ∀ w,w∈hom f.tgt (f.ob.getD x default) (g.ob.getD x default)→f.tgt.Ar w (ix f.ob x) (ix g.ob x):=fun w hw=>ar_hom.mp hw
  have hml : (hom f.tgt (f.ob.getD x default) (g.ob.getD x default)).length≤40:=by
   rw [hom_homC]; exact Nat.le_trans (homC_len _ _) htm
  rw [show hom f.tgt (ix f.ob (x : Int)) (ix g.ob (x : Int))=hom f.tgt (f.ob.getD x default) (g.ob.getD x default) from rfl] at hsp
  generalize hom f.tgt (f.ob.getD x default) (g.ob.getD x default)=W at hsp hmA hml
  obtain ⟨F,hF⟩ : ∃ F : Int→List (List Int),(fun w=>if dec (FitZ f g (knP T x) (x : Int) w)=true then natZ f g (fun _=>False) ((knP T x).set x w) else [])=F:=⟨_,rfl⟩
  rw [hF] at hsp;rw [hsp];refine tt ?_;refine awp_for [0,1,3,5,6,7,8,38,39] (G:=Nat × List Int) (fun k p=>[(40,some (.int .i64 (k : Int)))]) (fun k p H=>(p.2.length=f.src.objs.toNat∧p.2.take x=T.take x∧(L++(W.take k).flatMap F).length≤most)∧Owns Hb H ((ic,choN f g out most bc f.src.objs.toNat ic)::(bc,.cells 1 (p.2.map iI) 0)::(outN out p.1 (L++(W.take k).flatMap F)++r))) W.length (z,T) ⟨⟨hT,rfl,by rw [List.take_zero,List.flatMap_nil,List.append_nil]; exact hL⟩,by rw [List.take_zero,List.flatMap_nil,List.append_nil]; exact o⟩ rfl ?_;clear o
  rintro k ⟨z,T2⟩ H hk ⟨⟨hT2,htk,hLk⟩,o⟩;dsimp only at hT2 htk o;refine tt ?_;apply bk <;> intro h1
  rotate_left
  ·have h1p:=of_ndecide h1
   have : k=W.length:=by omega
   subst this;rw [List.take_length] at hLk o;refine tt ?_;exact ⟨_,.refl _,z,T2,hT2,htk,by rw [decide_eq_true hLk],by rw [colF_all hLk]; exact o⟩
  have h1p : k<W.length:=of_decide h1
  have w1:=wsucc (k:=k) (by omega)
  have hw:=hmA _ (mem_getD.mpr ⟨k,h1p,rfl⟩)
  have hnx:=flat_take (f:=F) h1p
  have hat:=flat_at (f:=F) h1p
  generalize hwe : W.getD k default=w at hw hnx hat;refine tt ?_;refine ⟨h1p, ?_⟩;rw [hwe];refine (anyArrow_ok B w).go fun _=>tt ?_;refine ⟨by omega,set_own w o.swap rfl (by omega) fun H o=>?_⟩
  obtain ⟨T3,hT3⟩ : ∃ T3,T2.set x w=T3:=⟨_,rfl⟩
  have hT3l : T3.length=f.src.objs.toNat:=by rw [← hT3,List.length_set]; exact hT2
  have h2A : ∀ i,i<x→f.tgt.ArR (T2.getD i default):=fun i hi=>by rw [← take_at hi,htk,take_at hi]; exact hA i hi
  have h3A : ∀ i,i<x+1→f.tgt.ArR (T3.getD i default):=fun i hi=>by
   rw [← hT3,getD_setI (by omega)]
   by_cases e : x=i
   ·rw [if_pos e]; exact hw.r
   ·rw [if_neg e]; exact h2A i (by omega)
  have hfk : FitZ f g (knP T x) (x : Int) w↔∀ a : Nat,a<f.src.frm.length→MaxA f x a→SqA f g T3 a:=by
   rw [← knP_congr (by omega) htk,← hT3];exact fitP_iff hf.sI hT2 (by omega) (fun i hi=>(h2A i hi).1) hw.r.1
  have hk3 : knP T3 (x+1)=(knP T x).set x w:=by rw [← hT3,← knP_set (by omega),knP_congr (by omega) htk]
  have ht3 : T3.take x=T.take x:=by rw [← hT3,List.take_set_of_le (by omega)]; exact htk
  rw [hT3] at o;refine tt ?_;refine awp_for [0,1,3,5,6,7,8,38,39,40,56] (G:=Unit) (fun a _=>[(57,some (.int .i64 (a : Int)))]) (fun a _ H'=>H'=H∧∀ i,i<a→MaxA f x i→SqA f g T3 i) f.src.frm.length () ⟨rfl,fun i hi=>by omega⟩ rfl ?_
  rintro a _ H' ha ⟨rfl,hall⟩;refine tt ?_;apply bk <;> intro h2
  ·have h2p : a<f.src.frm.length:=of_decide h2
   have w2:=wsucc (k:=a) (by omega);refine tt ?_;refine ⟨h2p,by omega, ?_⟩
   by_cases hM : MaxA f x a
   rotate_left
   ·rw [decide_eq_false hM];refine tw w2 ?_
    exact for_next () h2p ⟨rfl,fun i hi q=>by
     by_cases e : i=a
     ·rw [e] at q; exact absurd q hM
     ·exact hall i (by omega) q⟩ rfl
   rw [decide_eq_true hM]
   have ka:=ar_nat (c:=f.src) (i:=a) h2p
   have us:=ka.src hf.sI
   have vs:=ka.tgt hf.sI
   have hu : (f.src.frm.getD a default).toNat<x+1:=by have hM:=hM; rw [MaxA] at hM; split at hM <;> omega
   have hv : (f.src.to.getD a default).toNat<x+1:=by have hM:=hM; rw [MaxA] at hM; split at hM <;> omega
   have q1:=commutesP_ok B hf hg e1 e2 hT3l h2p (h3A _ hv) (h3A _ hu);refine tt ?_;refine call_lent (f:=iI) (A:=T3) 2 rfl o hT3l.symm (.bool _) q1.run ?_;refine tt ?_
   by_cases hS : SqA f g T3 a
   ·rw [dec_t hS];refine tw w2 ?_
    exact for_next () h2p ⟨rfl,fun i hi q=>by
     by_cases e : i=a
     ·rw [e]; exact hS
     ·exact hall i (by omega) q⟩ rfl
   ·rw [dec_f hS]
    have hFw : F w=[]:=by rw [← hF]; simp only; rw [dec_f fun q=>hS (hfk.mp q a h2p hM)]; simp
    rw [hFw,List.append_nil] at hnx;refine tw w1 ?_;refine for_next (z,T3) h1p ⟨⟨hT3l,ht3,by show (L++(W.take (k+1)).flatMap F).length≤most; rw [hnx]; exact hLk⟩, ?_⟩ rfl
    show Owns Hb H' ((ic,choN f g out most bc f.src.objs.toNat ic)::(bc,.cells 1 (T3.map iI) 0)::(outN out z (L++(W.take (k+1)).flatMap F)++r))
    rw [hnx]; exact o.swap
  have h2p:=of_ndecide h2
  have : a=f.src.frm.length:=by omega
  subst this
  have hFw : F w=natZ f g (fun _=>False) (knP T3 (x+1)):=by rw [← hF]; simp only; rw [dec_t (hfk.mpr fun i hi q=>hall i hi q),if_pos rfl,hk3]
  have wx:=wsucc (k:=x) (by omega)
  have cz3 : ConsZ f g (fun _=>False) (knP T3 (x+1)):=by
   rw [hk3]
   have:=cz.set hf.sI.1 (x:=(x : Int)) (b:=w) (by omega) (by rw [ix_nat,knP_at (by omega),if_neg (by omega)]) hw (hfk.mpr fun i hi q=>hall i hi q)
   rwa [toNat_nat] at this
  refine tt ?_;refine rd_cells o.tl (by simp) ?_;refine tw wx ?_;refine (ih (x+1) (by omega) T3 hT3l cz3 h3A hLk o.swap).mono ?_;clear o;rw [← hFw]
  rintro v H ⟨z,T4,hT4,ht4,rfl,o⟩
  have ht4' : T4.take x=T.take x:=by
   have:=congrArg (List.take x) ht4;rw [List.take_take,List.take_take,Nat.min_eq_left (by omega)] at this;rw [this,ht3]
  have hcf : colF most (L++(W.take k).flatMap F) (F w)=colF most L ((W.take k).flatMap F++F w):=(colF_app hLk).symm
  have hla : (L++(W.take k).flatMap F++F w).length=(L++(W.take (k+1)).flatMap F).length:=by rw [hnx,List.append_assoc]
  rw [hcf] at o
  by_cases h3 : (L++(W.take k).flatMap F++F w).length≤most
  ·rw [decide_eq_true h3];rw [hla] at h3;rw [← hnx,colF_all h3] at o;refine tw w1 ?_;exact for_next (z,T4) h1p ⟨⟨hT4,ht4',h3⟩,o⟩ rfl
  ·rw [decide_eq_false h3]
   have e1 : colF most L (W.flatMap F)=colF most L ((W.take k).flatMap F++F w):=by
    rw [hat,← List.append_assoc];exact colF_stop (by rw [← List.append_assoc]; omega)
   have e2 : decide ((L++W.flatMap F).length≤most)=false:=decide_eq_false fun q=>h3 (by
    rw [hat] at q;simp only [List.length_append] at q ⊢;omega)
   rw [← e1] at o;refine tt ?_;exact ⟨_,.refl _,z,T4,hT4,ht4',by rw [e2],o⟩
theorem knP_zero (T : List Int) : knP T 0=List.replicate T.length (-1):=by simp [knP]
theorem naturalLists_ok (B : Nat) {f g : FU} (hf : f.Is) (hg : g.Is) (e1 : f.src=g.src) (e2 : f.tgt=g.tgt) {out most z : Nat} (hmost : most≤1000) {Hb : Heap} {r : Ob} {L : List (List Int)} {H0 : Heap} (hL : L.length≤most) (o : Owns Hb H0 (outN out z L++r)) :
  CallH Tryz.prog B 205 [.ptr f.cells,.ptr g.cells,.fn (.func 206) [],fnN out most] H0 (ColN Hb out most L (natL f g) r):=by
 refine c205p (by simp) fun _=>?_;unfold s205p
 have hso:=hf.sI.1.o;refine tt ?_;refine ⟨⟨rfl,fun c hc=>by obtain rfl:=List.mem_singleton.mp hc; rfl⟩,⟨rfl,fun c hc=>by obtain rfl:=List.mem_singleton.mp hc; rfl⟩, ?_⟩;refine cut_at (fun σ H=>∃ i9 i10,σ=[(4,some (.ptr [.ptr f.cells])),(5,some (.ptr [.ptr g.cells])),(6,some (.ptr [.fn (.func 206) []])),(7,some (.ptr [fnN out most])),(9,some (.ref i9 0)),(10,some (.ref i10 0))]∧Owns Hb H ((i9,.cells 1 [.ptr f.src.cells] 0)::(i10,.cells 1 [.ptr f.tgt.cells] 0)::(outN out z L++r))) ?_ ?_
 ·refine tt ?_;refine ⟨?_, ?_⟩
  ·refine newRef_own o fun i7 H o=>tt ?_;refine newRef_own o fun i8 H o=>tt ?_;refine sw o.swap fun H o=>tt ?_;refine sw o.swap fun H o=>tt ?_;exact wkW_done ⟨i7,i8,rfl,o.swap⟩
  ·refine newRef_own o fun i8 H o=>tt ?_;refine newRef_own o fun i7 H o=>tt ?_;refine sw o fun H o=>tt ?_;refine sw o.swap fun H o=>tt ?_;exact wkW_done ⟨i7,i8,rfl,o.swap⟩
 clear o
 rintro σ H ⟨i7,i8,rfl,o⟩;refine tt ?_;refine wk_ref 9 o rfl fun H o=>wk_ref 10 o rfl fun H o=>wkW_done ?_;refine tt ?_;refine ⟨⟨by omega,by omega,by simp only [maxL]; omega,by simp only [maxL]; omega⟩,newBuf_own o fun b H o=>?_⟩
 have er : rep f.src.objs.toNat [AV.int .i64 0]=(List.replicate f.src.objs.toNat (0 : Int)).map iI:=by rw [rep_one,List.map_replicate]
 rw [er] at o;refine tt ?_;refine newRef_own o fun i11 H o=>tt ?_;refine sw o fun H o=>tt ?_;refine newRef_own o fun i12 H o=>tt ?_;refine wk_ref 11 o.swap rfl fun H o=>wkW_done ?_;refine tt ?_;refine st_cells o (by simp) rfl (fun c hc=>by obtain rfl:=List.mem_singleton.mp hc; rfl) fun H o=>?_
 have o : Owns Hb H ((i12,choN f g out most b f.src.objs.toNat i12)::(b,.cells 1 ((List.replicate f.src.objs.toNat (0 : Int)).map iI) 0)::(outN out z L++r)):=o;refine tt ?_;refine rd_cells o (by simp) ?_;refine tt ?_
 have hk0 : knP (List.replicate f.src.objs.toNat (0 : Int)) 0=List.replicate f.src.objs.toNat (-1):=by rw [knP_zero,List.length_replicate]
 have hz : natZ f g (fun _=>False) (knP (List.replicate f.src.objs.toNat (0 : Int)) 0)=natL f g:=by rw [hk0]; rfl
 refine (natGo_ok B hf hg e1 e2 hmost f.src.objs.toNat 0 (by omega) (List.replicate f.src.objs.toNat (0 : Int)) (by simp) (by rw [hk0]; exact free_cons hf.sI.1) (fun i hi=>by omega) hL o).mono ?_;clear o
 rintro v H ⟨z,T',_,_,rfl,o⟩;rw [hz] at o ⊢;refine tt ?_;exact ⟨_,.refl _,z,rfl,o.tl.tl⟩
theorem allNatural_ok (B : Nat) {f g : FU} (hf : f.Is) (hg : g.Is) (e1 : f.src=g.src) (e2 : f.tgt=g.tgt) {most : Nat} (hmost : most≤1000) : Pur Tryz.prog B 151 [.ptr f.cells,.ptr g.cells,iI (most : Int)]
  (.tup [mL iL ((natL f g).take (most+1)),.bool (decide ((natL f g).length≤most))]):=by
 refine ⟨fun H0=>c151 (by simp) fun _=>?_⟩;unfold s151
 have o : Owns H0 H0 []:=.nil _;refine tt ?_;refine new_list iL o fun z H o=>tt ?_;refine newRef_own o fun i8 H o=>tt ?_;refine sw o fun H o=>tt ?_
 have o : Owns H0 H (outN i8 z []++[]):=o;refine (naturalLists_ok B hf hg e1 e2 hmost (by simp) o).mono ?_;clear o
 rintro v H ⟨z,rfl,o⟩
 have hc : colF most [] (natL f g)=(natL f g).take (most+1):=rfl
 have o : Owns H0 H ((i8,.cells 1 [.buf z (colF most [] (natL f g)).length] 0)::(z,.cells 1 ((colF most [] (natL f g)).map iL) 0)::[]):=o;rw [hc] at o;rw [List.nil_append]
 generalize (natL f g).take (most+1)=R at o ⊢;refine tt ?_;refine rd_cells o (by simp) ?_;refine tt ?_;refine fz_own (f:=iL) o.tl rfl fun H o=>tt ?_;exact pure_ret rfl o.sub
end Go.Proofs.Shf
namespace Go.AW
theorem wk_imapc {F : Env→Heap→Prop} {σ : Env} {H0 H : Heap} {l : List (Nat × MObj)} {id mp sz fr : Nat} {cs ks vs : List AV} (k : Nat) (o : Owns H0 H ((id,.cells sz cs fr)::(mp,.map ks vs)::l)) (hc : cs[k]? = some (.mref mp))
  (hk : ∀ H',Owns H0 H' ((id,.cells sz (cs.set k (.imap ks vs)) fr)::l)→wkW F σ H') : wkW F σ H:=by
 have h1:=o.h0
 have h2:=o.tl.h0;simp only at h1 h2
 have hne : id≠mp:=by
  have:=o.nd;simp only [List.map_cons,List.nodup_cons,List.mem_cons,not_or] at this;exact this.1.1
 have o2:=(o.swap.del).put (.cells sz (cs.set k (.imap ks vs)) fr);refine wkW_step (σ1:=σ) ?_ (hk _ o2)
 intro g B w tm hW hE
 obtain ⟨p,hp,hr⟩:=hW.ob mp _ h2
 cases p with
 | nil=>simp [ObjRel] at hr
 | blk b cap=>simp [ObjRel] at hr
 | mp b =>
  obtain ⟨g',p1,p2,p3⟩:=hW.addM h2 hp;refine ⟨g',p1,p2.recell (by rw [Heap.get_del_ne _ hne]; exact h1) (by simp) fun j v hj hv=>?_,hE.mono p1⟩
  by_cases e : j=k
  ·subst e
   have e1 : cs.getD j nv=.mref mp:=by rw [List.getD_eq_getElem?_getD,hc]; rfl
   have e2 : (cs.set j (.imap ks vs)).getD j nv=.imap ks vs:=by simp [List.getD_eq_getElem?_getD,hj]
   rw [e1] at hv;rw [e2]
   have hio:=p1.io _ _ hp
   cases hv with
   | mref _ b' hq=>rw [hq] at hio; cases hio; exact p3
  ·have e2 : (cs.set k (.imap ks vs)).getD j nv=cs.getD j nv:=by
    rw [List.getD_eq_getElem?_getD,List.getElem?_set_ne (by omega),← List.getD_eq_getElem?_getD]
   rw [e2]; exact hv
end Go.AW
namespace Go.Proofs.Shf
open Go.AW Go.Proofs Go.Shf
theorem movable_ok (B : Nat) (c d : Cat) (hc : c.Is) : Pur Tryz.prog B 149 [.ptr c.cells,.ptr d.cells] (.bool (dec (SmallC c d))):=by
 refine ⟨fun H0=>c149 (by simp) fun _=>?_⟩;unfold s149
 have ho:=hc.1.o
 have hm:=hc.1.m
 have q1:=arrows_ok B c
 have q2:=arrows_ok B d
 have w : IntKind.i64.wrap ((c.frm.length : Int) - c.objs)=(c.frm.length : Int) - c.objs:=by rw [wrap_i64 (by omega) (by omega)]
 refine tt ?_;refine ⟨_,q1.run, ?_⟩;refine tw w ?_
 by_cases h : (c.frm.length : Int) - c.objs≤8
 ·rw [decide_eq_true h];refine tt ?_;refine ⟨_,q2.run,tt ?_⟩
  exact pure_ret (by rw [show dec (SmallC c d)=decide ((d.frm.length : Int)≤16) from by
   by_cases q : (d.frm.length : Int)≤16
   ·rw [decide_eq_true q,dec_t ⟨by omega,by omega⟩]
   ·rw [decide_eq_false q,dec_f fun z=>q (by have:=z.2; omega)]]) (.refl _)
 ·rw [decide_eq_false h];refine tt ?_;exact pure_ret (by rw [dec_f fun z=>h z.1]) (.refl _)
theorem small_arr {c d : Cat} (hc : c.Is) (hd : d.Is) {Fs : List FU} (hF : FunsOf c d Fs) (h8 : Fs.length≤8) : SmallL (arrN Fs):=by
 have look:=fun s h=>arr_look (Fs:=Fs) (n:=c.objs) hc.1.o.1 (fun i hi=>by rw [(hF.f i hi).2.1]) (s:=s) h
 have hco:=hc.1.o
 have hdm:=hd.1.m;refine ⟨arrN_nodup Fs,fun s hs y hy=>?_,fun s hs=>?_⟩
 ·obtain ⟨i,j,t,hi,hj,rfl,hn⟩:=look s hs
  rcases List.mem_cons.mp hy with rfl | hy
  ·omega
  rcases List.mem_cons.mp hy with rfl | hy
  ·omega
  obtain ⟨x,hx,rfl⟩:=mem_getD.mp hy
  have hl:=hn.len
  have:=(hn.ar (x : Int) (by omega)).r;rw [(hF.f i hi).2.2,ix_nat] at this;omega
 ·obtain ⟨i,j,t,hi,hj,rfl,hn⟩:=look s hs
  have hl:=hn.len;rw [(hF.f i hi).2.1] at hl;simp only [List.length_cons]; omega
theorem comp_clo (B : Nat) {c d : Cat} (hc : c.Is) (hd : d.Is) {Fs : List FU} (hF : FunsOf c d Fs) (h8 : Fs.length≤8) {idK : Nat} {x : Int} {I : List Int} {a b : Nat} (ha : a<(arrN Fs).length) (hb : b<(arrN Fs).length)
  (he : ((fcat d Fs).to).getD a default=((fcat d Fs).frm).getD b default) {H : Heap} {X : AV} (hg : H.get idK=some (gk8 x (fcat d Fs).frm (fcat d Fs).to I (mL fuE Fs,iLL (arrN Fs),plA (arrN Fs)) X)) :
  CallH Tryz.prog B 154 (iI (a : Int)::iI (b : Int)::[.ptr [.ref idK 0],.ptr [.ptr d.cells]]) H fun r H'=>r=iI (cmpT d (arrN Fs) ((arrN Fs).getD a default) ((arrN Fs).getD b default))∧H'=H:=by
 refine c154p (by simp) fun _=>?_;unfold s154p
 have hsm:=small_arr hc hd hF h8
 have look:=fun s h=>arr_look (Fs:=Fs) (n:=c.objs) hc.1.o.1 (fun i hi=>by rw [(hF.f i hi).2.1]) (s:=s) h
 obtain ⟨i,j,t,hi,hj,hsa,hn⟩:=look _ (mem_getD.mpr ⟨a,ha,rfl⟩)
 obtain ⟨j2,k,t2,hj2,hk,hsb,hn2⟩:=look _ (mem_getD.mpr ⟨b,hb,rfl⟩);rw [fcat_to,fcat_frm,map_getD _ ha,map_getD _ hb,hsa,hsb] at he
 obtain rfl : j=j2:=by have he : (j : Int)=j2:=he; omega
 refine tt ?_;refine rd_get hg (by simp) ?_;refine tt ?_;refine ⟨ha,rd_get hg (by simp) ?_⟩;refine tt ?_;refine ⟨hb, ?_⟩;rw [hsa,hsb];refine tt ?_
 have hm:=arr_mem hF hi hk (arr_comp hF hi hj hk hn hn2)
 have tl1:=hn.len
 have tl2:=hn2.len;rw [(hF.f i hi).2.1] at tl1;rw [(hF.f j hj).2.1] at tl2
 have hco:=hc.1.o
 have q1:=composed_ok B hd (s:=t) (t:=t2) (by omega) (by omega) (fun x hx=>by
  have:=(hn.ar (x : Int) (by rw [(hF.f i hi).2.1]; omega)).r;rw [(hF.f i hi).2.2,ix_nat] at this;exact this) (fun x hx=>by
  have:=(hn2.ar (x : Int) (by rw [(hF.f j hj).2.1]; omega)).r;rw [(hF.f j hj).2.2,ix_nat] at this;exact this)
 have z1 : List.drop (Int.toNat 2) ((i : Int)::(j : Int)::t)=t:=rfl
 have z2 : List.drop (Int.toNat 2) ((j : Int)::(k : Int)::t2)=t2:=rfl
 have x0 : ix ((i : Int)::(j : Int)::t) 0=(i : Int):=rfl
 have y1 : ix ((j : Int)::(k : Int)::t2) 1=(k : Int):=rfl
 have hct : cmpT d (arrN Fs) ((i : Int)::(j : Int)::t) ((j : Int)::(k : Int)::t2)=indexOf (arrN Fs) ((i : Int)::(k : Int)::vth d t t2):=if_pos (show (((i : Int)::(j : Int)::t).getD 1 default : Int)=((j : Int)::(k : Int)::t2).getD 0 default from rfl);rw [z1,z2,x0,y1,hct];refine ⟨⟨by decide,by simp⟩,⟨by decide,by simp⟩,⟨by decide,by omega⟩,⟨by decide,by omega⟩,_,q1.run, ?_⟩;refine (arrow_ref B hsm hm hg (by simp) rfl).mono ?_
 rintro r H' ⟨rfl,rfl⟩;refine tt ?_;exact ⟨H',.refl _,rfl,rfl⟩
@[go_sem] noncomputable def fcC (d : Cat) (Fs : List FU) : List AV:=[iI (Fs.length : Int),iL (fcat d Fs).frm,iL (fcat d Fs).to,iL (fcat d Fs).idn,iLL (fcat d Fs).comp,mL fuE Fs,iLL (arrN Fs),plA (arrN Fs)]
noncomputable def fcV (c d : Cat) : AV:=if dec (SpOk c d)=true then .tup [.ptr (fcC d (allF c d false)),.bool true] else .tup [.nilp,.bool false]
theorem fcV_no {c d : Cat} (h : ¬ SpOk c d) : fcV c d=.tup [.nilp,.bool false]:=by rw [fcV,dec_f h,if_neg (by simp)]
theorem functors_ok (B : Nat) {c d : Cat} (hc : c.Is) (hd : d.Is) : Pur Tryz.prog B 69 [.ptr c.cells,.ptr d.cells] (fcV c d):=by
 refine ⟨fun H0=>c69p (by simp) fun _=>?_⟩;unfold s69p
 have o : Owns H0 H0 []:=.nil _
 have q1:=movable_ok B c d hc
 have q2:=allFunctors_okG B hc hd (once:=false) (most:=8) (by omega);refine tt ?_;refine q1.go fun _=>?_
 by_cases hs : SmallC c d
 rotate_left
 ·rw [fcV_no (fun q=>hs q.1),dec_f hs];refine tt ?_;refine wkW_done ?_;refine tt ?_;exact pure_ret rfl (.refl _)
 rw [dec_t hs];refine tt ?_;refine q2.go fun _=>tt ?_
 by_cases h8 : (allF c d false).length≤8
 rotate_left
 ·rw [fcV_no (fun q=>h8 q.2.1),decide_eq_false h8];refine tt ?_;refine wkW_done ?_;refine tt ?_;exact pure_ret rfl (.refl _)
 rw [decide_eq_true h8]
 have eF : colF 8 [] (allF c d false)=allF c d false:=by rw [colF_all (by simpa using h8)]; rfl
 have hF:=funs_all hc hd
 have hFm : ∀ i,i<(allF c d false).length→((allF c d false).getD i default).Is∧((allF c d false).getD i default).src=c∧((allF c d false).getD i default).tgt=d:=fun i hi=>hF.f i hi;rw [eF]
 have hV : fcV c d=if dec ((arrN (allF c d false)).length≤40)=true then .tup [.ptr (fcC d (allF c d false)),.bool true] else .tup [.nilp,.bool false]:=by
  by_cases z : (arrN (allF c d false)).length≤40
  ·rw [fcV,dec_t ⟨hs,h8,z⟩,dec_t z]
  ·rw [fcV_no (fun q=>z q.2.2),dec_f z,if_neg (by simp)]
 rw [hV];clear hV eF q2
 generalize allF c d false=Fs at *
 have hFl:=h8;refine tt ?_;refine newMap_own o fun mp H o=>?_
 have em : (AV.mref mp).cells=[.mref mp]:=rfl
 have ew : wr [AV.int .i64 0,.nilsl,.nilsl,.nilsl,.nilsl,mL fuE Fs,.nilsl,.imap [] []] 7 [.mref mp]=[AV.int .i64 0,.nilsl,.nilsl,.nilsl,.nilsl,mL fuE Fs,.nilsl,.mref mp]:=rfl;try simp only [go_sem,↓reduceIte,reduceEqDiff,reduceAdd,reduceMul,reduceLeDiff,reduceLT,em,ew]
 refine nb o fun idK H o=>tt ?_;refine newRef_own o fun i9 H o=>tt ?_;refine sw o fun H o=>tt ?_;refine rd_cells o (by simp) ?_;refine tt ?_;refine ⟨⟨by omega,by simp only [maxL]; omega,by simp only [maxL]; omega⟩,newBuf_own o fun idI H o=>?_⟩
 have er : rep Fs.length [AV.int .i64 0]=(List.replicate Fs.length (0 : Int)).map iI:=by rw [rep_one,List.map_replicate]
 rw [er] at o;refine tt ?_;refine stc (o.pull [_,_]) fun H o=>?_
 have o : Owns H0 H ((idK,fc8 (iI (Fs.length : Int)) .nilsl .nilsl (.buf idI Fs.length) .nilsl (mL fuE Fs) .nilsl (.mref mp))::(idI,.cells 1 ((List.replicate Fs.length (0 : Int)).map iI) 0)::(i9,.cells 1 [.ref idK 0] 0)::[(mp,mpA [])]):=o
 obtain ⟨rest,hrest⟩ : ∃ rest,[(i9,MObj.cells 1 [.ref idK 0] 0),(idI,.cells 1 ((List.replicate Fs.length (0 : Int)).map iI) 0)]=rest:=⟨_,rfl⟩
 have o : Owns H0 H ((idK,fc8 (iI (Fs.length : Int)) .nilsl .nilsl (.buf idI Fs.length) .nilsl (mL fuE Fs) .nilsl (.mref mp))::(mp,mpA [])::([]++([]++([]++rest)))):=by rw [← hrest]; exact o.pm
 have r9 : (i9,MObj.cells 1 [.ref idK 0] 0)∈rest:=by rw [← hrest]; exact List.mem_cons_self
 refine tt ?_
 refine awp_for [3,6,9,43] (G:=(AV × Ob) × (AV × Ob) × (AV × Ob)) (fun i _=>[(44,some (.int .i64 (i : Int)))]) (fun i g H=>((arrA Fs i 0).length≤40∧LsP iI g.1.2 g.1.1 ((arrA Fs i 0).map fun s=>s.getD 0 default)∧LsP iI g.2.1.2 g.2.1.1 ((arrA Fs i 0).map fun s=>s.getD 1 default)∧LsP iL g.2.2.2 g.2.2.1 (arrA Fs i 0)) ∧
  Owns H0 H ((idK,fc8 (iI (Fs.length : Int)) g.1.1 g.2.1.1 (.buf idI Fs.length) .nilsl (mL fuE Fs) g.2.2.1 (.mref mp))::(mp,mpA (arrA Fs i 0))::(g.1.2++(g.2.1.2++(g.2.2.2++rest))))) Fs.length ((.nilsl,[]),(.nilsl,[]),(.nilsl,[])) ⟨⟨by simp [arrA_zero],.inl ⟨rfl,rfl,rfl⟩,.inl ⟨rfl,rfl,rfl⟩,.inl ⟨rfl,rfl,rfl⟩⟩,o⟩ rfl ?_
 clear o
 rintro i ⟨⟨V1,p1⟩,⟨V2,p2⟩,⟨V6,p6⟩⟩ H hi ⟨⟨hlen,hp1,hp2,hp6⟩,o⟩;dsimp only at hlen hp1 hp2 hp6 o;refine tt ?_;apply bk <;> intro b1
 ·have b1p : i<Fs.length:=of_decide b1
  have w1:=wsucc (k:=i) (by omega)
  have f1:=hFm i b1p;refine tt ?_
  refine awp_for [3,6,9,10,43,44,48] (G:=(AV × Ob) × (AV × Ob) × (AV × Ob)) (fun j _=>[(49,some (.int .i64 (j : Int)))]) (fun j g H=>((arrA Fs i j).length≤40∧LsP iI g.1.2 g.1.1 ((arrA Fs i j).map fun s=>s.getD 0 default)∧LsP iI g.2.1.2 g.2.1.1 ((arrA Fs i j).map fun s=>s.getD 1 default)∧LsP iL g.2.2.2 g.2.2.1 (arrA Fs i j)) ∧
   Owns H0 H ((idK,fc8 (iI (Fs.length : Int)) g.1.1 g.2.1.1 (.buf idI Fs.length) .nilsl (mL fuE Fs) g.2.2.1 (.mref mp))::(mp,mpA (arrA Fs i j))::(g.1.2++(g.2.1.2++(g.2.2.2++rest))))) Fs.length ((V1,p1),(V2,p2),(V6,p6)) ⟨⟨hlen,hp1,hp2,hp6⟩,o⟩ rfl ?_
  clear o hlen hp1 hp2 hp6
  rintro j ⟨⟨V1,p1⟩,⟨V2,p2⟩,⟨V6,p6⟩⟩ H hj ⟨⟨hlen,hp1,hp2,hp6⟩,o⟩;dsimp only at hlen hp1 hp2 hp6 o;refine tt ?_;apply bk <;> intro b2
  ·have b2p : j<Fs.length:=of_decide b2
   have w2:=wsucc (k:=j) (by omega)
   have f2:=hFm j b2p
   have qn:=allNatural_ok B f1.1 f2.1 (by rw [f1.2.1,f2.2.1]) (by rw [f1.2.2,f2.2.2]) (most:=40) (by omega)
   have hrow : (rowA Fs i j).length=(natL (Fs.getD i default) (Fs.getD j default)).length:=by rw [rowA,List.length_map]
   have hrowE : rowA Fs i j=(natL (Fs.getD i default) (Fs.getD j default)).map fun t=>(i : Int)::(j : Int)::t:=rfl
   have hstep:=arrA_step Fs i j
   have hsl : (arrA Fs i (j+1)).length=(arrA Fs i j).length+(natL (Fs.getD i default) (Fs.getD j default)).length:=by rw [hstep,List.length_append,hrow]
   have hpre:=arrA_pre Fs b1p (show j+1≤Fs.length by omega)
   have eL : lenE (some V6)=some (True,.int .i64 ((arrA Fs i j).length : Int)):=by
    rcases hp6 with ⟨_,rfl,e⟩ | ⟨z,_,rfl⟩
    ·rw [e]; rfl
    ·rfl
   have hmN : ∀ t,t∈natL (Fs.getD i default) (Fs.getD j default)→t.length≤8:=fun t ht=>by
    have h1:=(mem_natL (by rw [f1.2.1]; exact hc.1.o.1)).mp ht
    have h2:=h1.len
    have h3:=hc.1.o.2;rw [f1.2.1] at h2;omega
   generalize natL (Fs.getD i default) (Fs.getD j default)=N at qn hrow hrowE hsl hmN;refine tt ?_;refine ⟨b1p,b2p,_,qn.run,tt ?_⟩
   by_cases hN : N.length≤40
   rotate_left
   ·rw [decide_eq_false hN];refine tt ?_;refine wkW_done ?_;refine tt ?_;exact pure_ret (by rw [dec_f (fun q=>by omega),if_neg (by simp)]) o.sub
   rw [decide_eq_true hN]
   have hNt : N.take (40+1)=N:=List.take_of_length_le (by omega);rw [hNt]
   have h9 : H.get i9=some (.cells 1 [.ref idK 0] 0):=o.get (i9,_) (List.mem_cons_of_mem _ (List.mem_cons_of_mem _ (List.mem_append_right _ (List.mem_append_right _ (List.mem_append_right _ r9)))))
   have wl : IntKind.i64.wrap (((arrA Fs i j).length : Int)+(N.length : Int))=(((arrA Fs i (j+1)).length : Nat) : Int):=by rw [hsl,wrap_i64 (by omega) (by omega)]; omega
   refine tt ?_;refine rd_get h9 (by simp) ?_;refine tt ?_;refine rd_cells o (by simp) ?_;try simp only [go_sem,↓reduceIte,reduceEqDiff,reduceAdd,reduceMul,reduceLeDiff,reduceLT,eL,wl]
   by_cases hT : (40 : Int)<(((arrA Fs i (j+1)).length : Nat) : Int)
   ·rw [decide_eq_true hT];refine tt ?_;refine wkW_done ?_;refine tt ?_;exact pure_ret (by rw [dec_f (fun q=>by omega),if_neg (by simp)]) o.sub
   rw [decide_eq_false hT];refine tt ?_
   refine awp_for [3,6,9,10,11,43,44,48,49,75,76] (G:=(AV × Ob) × (AV × Ob) × (AV × Ob)) (fun k _=>[(77,some (.int .i64 (k : Int)))]) (fun k g H=>(LsP iI g.1.2 g.1.1 ((arrA Fs i j++(N.take k).map fun t=>(i : Int)::(j : Int)::t).map fun s=>s.getD 0 default)∧LsP iI g.2.1.2 g.2.1.1 ((arrA Fs i j++(N.take k).map fun t=>(i : Int)::(j : Int)::t).map fun s=>s.getD 1 default)∧LsP iL g.2.2.2 g.2.2.1 (arrA Fs i j++(N.take k).map fun t=>(i : Int)::(j : Int)::t)) ∧
    Owns H0 H ((idK,fc8 (iI (Fs.length : Int)) g.1.1 g.2.1.1 (.buf idI Fs.length) .nilsl (mL fuE Fs) g.2.2.1 (.mref mp))::(mp,mpA (arrA Fs i j++(N.take k).map fun t=>(i : Int)::(j : Int)::t))::(g.1.2++(g.2.1.2++(g.2.2.2++rest))))) N.length ((V1,p1),(V2,p2),(V6,p6)) (by simp only [List.take_zero,List.map_nil,List.append_nil]; exact ⟨⟨hp1,hp2,hp6⟩,o⟩) rfl ?_
   clear o hp1 hp2 hp6 eL h9
   rintro k ⟨⟨V1,p1⟩,⟨V2,p2⟩,⟨V6,p6⟩⟩ H hk ⟨⟨hp1,hp2,hp6⟩,o⟩;dsimp only at hp1 hp2 hp6 o
   obtain ⟨A,hA⟩ : ∃ A,arrA Fs i j++((N.take k).map fun t=>(i : Int)::(j : Int)::t)=A:=⟨_,rfl⟩
   have hAl : A.length≤40+k:=by rw [← hA,List.length_append,List.length_map,List.length_take]; omega
   rw [hA] at hp1 hp2 hp6 o;refine tt ?_
   by_cases b3p : k<N.length
   ·rw [decide_eq_true b3p]
    have w3:=wsucc (k:=k) (by omega)
    have htm:=hmN _ (mem_getD.mpr ⟨k,b3p,rfl⟩)
    have hA2 : arrA Fs i j++((N.take (k+1)).map fun t=>(i : Int)::(j : Int)::t)=A++[(i : Int)::(j : Int)::N.getD k default]:=by
     rw [List.take_succ_eq_append_getElem b3p,List.map_append,← List.append_assoc,hA]
     simp [List.getD_eq_getElem?_getD,b3p]
    have h9 : H.get i9=some (.cells 1 [.ref idK 0] 0):=o.get (i9,_) (List.mem_cons_of_mem _ (List.mem_cons_of_mem _ (List.mem_append_right _ (List.mem_append_right _ (List.mem_append_right _ r9)))));refine tt ?_;refine ⟨b3p,rd_get h9 (by simp) ?_⟩;refine tt ?_;refine (add_ok B (i : Int) (j : Int) (N.getD k default) (by omega) (by rw [List.length_map]; omega) (by rw [List.length_map]; omega) (by omega) hp1 hp2 hp6 o).mono ?_;clear o hp1 hp2 hp6 h9
    rintro r H ⟨V1,V2,V6,p1,p2,p6,hp1,hp2,hp6,o⟩
    have e1 : (A.map fun s=>s.getD 0 default)++[(i : Int)]=(A++[(i : Int)::(j : Int)::N.getD k default]).map fun s=>s.getD 0 default:=by rw [List.map_append]; rfl
    have e2 : (A.map fun s=>s.getD 1 default)++[(j : Int)]=(A++[(i : Int)::(j : Int)::N.getD k default]).map fun s=>s.getD 1 default:=by rw [List.map_append]; rfl
    rw [e1,← hA2] at hp1;rw [e2,← hA2] at hp2;rw [← hA2] at hp6 o;refine tw w3 ?_;exact for_next ((V1,p1),(V2,p2),(V6,p6)) b3p ⟨⟨hp1,hp2,hp6⟩,o⟩ rfl
   rw [decide_eq_false b3p]
   have : k=N.length:=by omega
   subst this;rw [List.take_length,← hrowE,← hstep] at hA;subst hA;refine tw w2 ?_;exact for_next ((V1,p1),(V2,p2),(V6,p6)) b2p ⟨⟨by omega,hp1,hp2,hp6⟩,o⟩ rfl
  have b2p:=of_ndecide b2
  have : j=Fs.length:=by omega
  subst this;rw [← arrA_row] at hlen hp1 hp2 hp6 o;refine tw w1 ?_;exact for_next ((V1,p1),(V2,p2),(V6,p6)) b1p ⟨⟨hlen,hp1,hp2,hp6⟩,o⟩ rfl
 have b1p:=of_ndecide b1
 have : i=Fs.length:=by omega
 subst this;rw [arrA_all] at hlen hp1 hp2 hp6 o;refine tt ?_;rw [← fcat_frm d Fs] at hp1;rw [← fcat_to d Fs] at hp2;refine wk_ls (f:=iI) (A:=(fcat d Fs).frm) 1 (LsO.mk (l:=(idK,fc8 (iI (Fs.length : Int)) V1 V2 (.buf idI Fs.length) .nilsl (mL fuE Fs) V6 (.mref mp))::(mp,mpA (arrN Fs))::(p2++(p6++rest))) (o.pm) hp1) rfl fun H o=>?_
 have o : Owns H0 H ((idK,fc8 (iI (Fs.length : Int)) (iL (fcat d Fs).frm) V2 (.buf idI Fs.length) .nilsl (mL fuE Fs) V6 (.mref mp))::(mp,mpA (arrN Fs))::(p2++(p6++rest))):=o;refine wk_ls (f:=iI) (A:=(fcat d Fs).to) 2 (LsO.mk (l:=(idK,fc8 (iI (Fs.length : Int)) (iL (fcat d Fs).frm) V2 (.buf idI Fs.length) .nilsl (mL fuE Fs) V6 (.mref mp))::(mp,mpA (arrN Fs))::(p6++rest)) (o.pm) hp2) rfl fun H o=>?_
 have o : Owns H0 H ((idK,fc8 (iI (Fs.length : Int)) (iL (fcat d Fs).frm) (iL (fcat d Fs).to) (.buf idI Fs.length) .nilsl (mL fuE Fs) V6 (.mref mp))::(mp,mpA (arrN Fs))::(p6++rest)):=o;refine wk_ls (f:=iL) (A:=arrN Fs) 6 (LsO.mk (l:=(idK,fc8 (iI (Fs.length : Int)) (iL (fcat d Fs).frm) (iL (fcat d Fs).to) (.buf idI Fs.length) .nilsl (mL fuE Fs) V6 (.mref mp))::(mp,mpA (arrN Fs))::rest) (o.pm) hp6) rfl fun H o=>?_
 have o : Owns H0 H ((idK,fc8 (iI (Fs.length : Int)) (iL (fcat d Fs).frm) (iL (fcat d Fs).to) (.buf idI Fs.length) .nilsl (mL fuE Fs) (iLL (arrN Fs)) (.mref mp))::(mp,.map (plS (arrN Fs) (arrN Fs).length).1 (plS (arrN Fs) (arrN Fs).length).2)::rest):=o;refine wk_imapc 7 o rfl fun H o=>wkW_done ?_
 have o : Owns H0 H ((idK,fc8 (iI (Fs.length : Int)) (iL (fcat d Fs).frm) (iL (fcat d Fs).to) (.buf idI Fs.length) .nilsl (mL fuE Fs) (iLL (arrN Fs)) (plA (arrN Fs)))::rest):=o;clear hp1 hp2 hp6
 have hsm:=small_arr hc hd hF hFl
 obtain ⟨φ,hφ⟩ : ∃ φ : Nat→Nat→Int,(fun (_ x : Nat)=>indexOf (arrN Fs) ((x : Int)::(x : Int)::idT (Fs.getD x default)))=φ:=⟨_,rfl⟩
 have hr0 : List.replicate Fs.length (0 : Int)=rowG φ Fs.length 0 0:=by rw [rowG_zero]
 rw [← hrest,hr0] at o
 replace o : Owns H0 H ((idI,.cells 1 ((rowG φ Fs.length 0 0).map iI) 0)::(idK,fc8 (iI (Fs.length : Int)) (iL (fcat d Fs).frm) (iL (fcat d Fs).to) (.buf idI Fs.length) .nilsl (mL fuE Fs) (iLL (arrN Fs)) (plA (arrN Fs)))::[(i9,.cells 1 [.ref idK 0] 0)]):=o.pm;clear hr0 hrest r9;refine tt ?_;refine awp_for [3,6,9,90] (G:=Unit) (fun x _=>[(91,some (.int .i64 (x : Int)))]) (fun x _ H=>Owns H0 H ((idI,.cells 1 ((rowG φ Fs.length 0 x).map iI) 0)::(idK,fc8 (iI (Fs.length : Int)) (iL (fcat d Fs).frm) (iL (fcat d Fs).to) (.buf idI Fs.length) .nilsl (mL fuE Fs) (iLL (arrN Fs)) (plA (arrN Fs)))::[(i9,.cells 1 [.ref idK 0] 0)])) Fs.length () o rfl ?_;clear o
 rintro x _ H hx o
 have hrl:=rowG_len φ Fs.length 0 x;refine tt ?_;apply bk <;> intro b4
 ·have b4p : x<Fs.length:=of_decide b4
  have w4:=wsucc (k:=x) (by omega)
  have f1:=hFm x b4p
  have hsu:=rowG_succ φ Fs.length 0 b4p
  have hφx : φ 0 x=indexOf (arrN Fs) ((x : Int)::(x : Int)::idT (Fs.getD x default)):=by rw [← hφ]
  rw [hφx] at hsu
  have hidT : ((Fs.getD x default).ob.map fun y=>ix d.idn y)=idT (Fs.getD x default):=by rw [idT,f1.2.2]; rfl
  have qt:=then_ok B (Fs.getD x default).ob d.idn (fun y hy=>by
   have h1:=f1.1.fit.obr y hy
   have h2:=hd.1.il;rw [f1.2.2] at h1;omega)
  rw [hidT] at qt
  have qa:=arrow_ref B hsm (arr_id hF b4p) (id:=idK) (fr:=0) (H:=H) (o.tl.h0) (by simp) rfl;refine tt ?_;refine rd_cells o.tl.tl (by simp) ?_;refine tt ?_;refine rd_cells o.tl (by simp) ?_;refine tt ?_;refine rd_cells o.tl.tl (by simp) ?_;refine tt ?_;refine ⟨b4p,_,qt.run, ?_⟩;refine qa.mono ?_
  rintro r H' ⟨rfl,rfl⟩;refine ⟨.refl _,tt ?_⟩;refine ⟨b4p, ?_⟩;refine set_own (f:=iI) (indexOf (arrN Fs) ((x : Int)::(x : Int)::idT (Fs.getD x default))) o rfl (by omega) fun H o=>?_;rw [hsu] at o;refine tw w4 ?_;exact for_next () b4p o rfl
 have b4p:=of_ndecide b4
 have : x=Fs.length:=by omega
 subst this
 have hidn : rowG φ Fs.length 0 Fs.length=(fcat d Fs).idn:=by rw [rowG_full,← hφ]; rfl
 rw [hidn] at o hrl;refine tt ?_;refine wk_cell (f:=iI) (A:=(fcat d Fs).idn) 3 o.swap rfl hrl.symm fun H o=>?_
 have o : Owns H0 H ((i9,.cells 1 [.ref idK 0] 0)::[(idK,gk8 (Fs.length : Int) (fcat d Fs).frm (fcat d Fs).to (fcat d Fs).idn (mL fuE Fs,iLL (arrN Fs),plA (arrN Fs)) .nilsl)]):=o.swap;refine wk_ref 9 o rfl fun H o=>wkW_done ?_;refine tt ?_
 have hfl : (fcat d Fs).frm.length=(arrN Fs).length:=by rw [fcat_frm,List.length_map]
 have htl : (fcat d Fs).to.length=(arrN Fs).length:=by rw [fcat_to,List.length_map]
 obtain ⟨ψ,hψ⟩ : ∃ ψ : Nat→Nat→Int,(fun a b=>cmpT d (arrN Fs) ((arrN Fs).getD a default) ((arrN Fs).getD b default))=ψ:=⟨_,rfl⟩
 have htab : tabC (arrN Fs).length ψ=(fcat d Fs).comp:=by
  rw [fcat_comps,tabC,← hψ];refine List.ext_getElem (by simp) fun a h1 h2=>?_
  have ha : a<(arrN Fs).length:=by simpa using h1
  simp only [List.getElem_map,List.getElem_range];refine List.ext_getElem (by simp) fun b h3 h4=>?_
  have hb : b<(arrN Fs).length:=by simpa using h3
  simp only [List.getElem_map,List.getElem_range]
  simp [List.getD_eq_getElem?_getD,ha,hb]
 refine (table8_ok B (φ:=ψ) (env:=[.ptr [.ref idK 0],.ptr [.ptr d.cells]]) hfl htl (by omega) (fun a b ha hb he=>?_) (fun a b ha hb he H X hg=>?_) (l:=[]) o).mono ?_
 ·rw [fcat_to,fcat_frm,map_getD _ ha,map_getD _ hb] at he;rw [← hψ];exact if_neg he
 ·rw [← hψ];exact comp_clo B hc hd hF hFl ha hb he hg
 clear o
 rintro r H ⟨idT,Xs,ob,hR,hXl,o⟩;rw [htab] at hR;refine tt ?_
 have hlX:=hR.len
 have od : Owns H0 H ((idT,.cells 1 (([] : List (List Int)).map iL++Xs) 0)::(ob++[(idK,gk8 (Fs.length : Int) (fcat d Fs).frm (fcat d Fs).to (fcat d Fs).idn (mL fuE Fs,iLL (arrN Fs),plA (arrN Fs)) (.buf idT Xs.length))])):=by
  have o3 : Owns H0 H ((idT,.cells 1 Xs 0)::(ob++[(idK,gk8 (Fs.length : Int) (fcat d Fs).frm (fcat d Fs).to (fcat d Fs).idn (mL fuE Fs,iLL (arrN Fs),plA (arrN Fs)) (.buf idT Xs.length))])):=o.pm;exact o3
 refine wk_rows hR [] H od fun H o=>?_;rw [List.nil_append] at o;refine wk_cell (f:=iL) (A:=(fcat d Fs).comp) 4 o.swap rfl hlX fun H o=>?_
 have o : Owns H0 H [(idK,.cells 8 (fcC d Fs) 0)]:=o;refine wk_ref 4 o rfl fun H o=>wkW_done ?_;rw [dec_t hlen,if_pos rfl];refine tt ?_;exact pure_ret rfl o.sub
end Go.Proofs.Shf
namespace Go.Shf
open Go.AW
theorem keyS_two (a b : List Int) : keyS [a,b]=keyS [a]++keyS [b]:=by simp [keyS,keyB]
theorem keyS_inj2 {a b a' b' : List Int} (ha : ∀ y,y∈a→0≤y∧y<255) (hb : ∀ y,y∈b→0≤y∧y<255) (ha' : ∀ y,y∈a'→0≤y∧y<255) (hb' : ∀ y,y∈b'→0≤y∧y<255) (h : keyS [a,b]=keyS [a',b']) : a=a'∧b=b':=by
 rw [keyS_two,keyS_two] at h
 have hk : ∀ l : List Int,keyS [l]=l.map (fun y=>UInt8.ofNat (IntKind.u8.wrap y).toNat)++[255]:=fun l=>by
  simp only [keyS,keyB,List.flatMap_cons,List.flatMap_nil,List.append_nil,List.map_append,List.map_map]; rfl
 have hw : ∀ y : Int,0≤y∧y<255→IntKind.u8.wrap y=y:=fun y hy=>by
  have e : y % 256=y:=by omega
  simp only [IntKind.wrap,IntKind.bits,IntKind.signed]
  simpa using e
 have hc : ∀ y : Int,0≤y∧y<255→(UInt8.ofNat (IntKind.u8.wrap y).toNat).toNat=y.toNat:=fun y hy=>by
  rw [hw y hy,UInt8.toNat_ofNat']; omega
 have key : ∀ (a a' : List Int),(∀ y,y∈a→0≤y∧y<255)→(∀ y,y∈a'→0≤y∧y<255)→keyS [a]++keyS [b]=keyS [a']++keyS [b']→a=a'∧keyS [b]=keyS [b']:=by
  intro a
  induction a with
  | nil =>
   intro a' _ h' h
   cases a' with
   | nil=>exact ⟨rfl,List.append_cancel_left h⟩
   | cons y a' =>
    exfalso
    rw [hk [],hk (y::a')] at h;simp only [List.map_nil,List.nil_append,List.map_cons,List.cons_append,List.cons.injEq] at h
    have h1:=congrArg UInt8.toNat h.1
    have hy:=h' y (by simp);rw [hc y hy] at h1
    have : (255 : UInt8).toNat=255:=rfl;omega
  | cons x a ih =>
   intro a' h1 h' h
   cases a' with
   | nil =>
    exfalso
    rw [hk [],hk (x::a)] at h;simp only [List.map_nil,List.nil_append,List.map_cons,List.cons_append,List.cons.injEq] at h
    have h2:=congrArg UInt8.toNat h.1
    have hy:=h1 x (by simp);rw [hc x hy] at h2
    have : (255 : UInt8).toNat=255:=rfl;omega
   | cons y a' =>
    rw [hk (x::a),hk (y::a')] at h;simp only [List.map_cons,List.cons_append,List.cons.injEq] at h
    have hx:=h1 x (by simp)
    have hy:=h' y (by simp)
    have h2:=congrArg UInt8.toNat h.1;rw [hc x hx,hc y hy] at h2
    have e : x=y:=by omega
    subst e
    have:=ih a' (fun z hz=>h1 z (by simp [hz])) (fun z hz=>h' z (by simp [hz])) (by rw [hk a,hk a']; exact h.2);exact ⟨by rw [this.1],this.2⟩
 obtain ⟨e1,e2⟩:=key a a' ha ha' h;exact ⟨e1,keyS_inj hb hb' e2⟩
def plO (Gs : List FU) : Nat→List AV × List AV
 | 0=>([],[])
 | k+1=>mput (.str (keyS [(Gs.getD k default).ob,(Gs.getD k default).ar])) (iI (k : Int)) (plO Gs k).1 (plO Gs k).2
def SmallF (Gs : List FU) : Prop:=∀ k,k∈Gs→(∀ y,y∈k.ob→0≤y∧y<255)∧∀ y,y∈k.ar→0≤y∧y<255
theorem plO_eq {L : List FU} (nd : L.Pairwise FuNe) (hb : SmallF L) : ∀ k,k≤L.length→plO L k=(((L.take k).map fun l=>keyS [l.ob,l.ar]).map AV.str,(List.range k).map fun i : Nat=>iI (i : Int)):=by
 intro k
 induction k with
 | zero=>intro _; rfl
 | succ k ih =>
  intro hk
  have hk : k<L.length:=by omega
  rw [plO,ih (by omega),mput_new]
  ·rw [Go.Proofs.Shf.take_succ_getD L hk,List.range_succ]; simp
  ·intro a ha;simp only [List.map_map,List.mem_map,Function.comp_apply] at ha
   obtain ⟨l,hl,rfl⟩:=ha;simp only [AV.keq,decide_eq_false_iff_not]
   intro e
   have hm : L.getD k default∈L:=mem_getD.mpr ⟨k,hk,rfl⟩
   have hm2:=List.mem_of_mem_take hl
   have:=keyS_inj2 (hb _ hm).1 (hb _ hm).2 (hb _ hm2).1 (hb _ hm2).2 e
   obtain ⟨j,hj,e2⟩:=mem_getD.mp hl;rw [List.length_take] at hj
   have e3 : L.getD j default=l:=by
    rw [← e2]; simp [List.getD_eq_getElem?_getD,List.getElem?_take,show j<k by omega]
   have h1:=posF_eq nd (m:=l) (i:=j) (by omega) (by rw [e3]; exact ⟨rfl,rfl⟩)
   have h2:=posF_eq nd (m:=l) hk this;omega
  ·simp
   omega
theorem plO_get {L : List FU} (nd : L.Pairwise FuNe) (hb : SmallF L) {m : FU} (hm : m∈L) : mget (.str (keyS [m.ob,m.ar])) (plO L L.length).1 (plO L L.length).2=some (iI ((posF L m : Nat) : Int)):=by
 obtain ⟨k,hk,rfl⟩:=mem_getD.mp hm;rw [plO_eq nd hb _ (Nat.le_refl _),List.take_length,mget_str (by simp),posF_eq nd hk ⟨rfl,rfl⟩]
 have : (L.map fun l=>keyS [l.ob,l.ar]).idxOf (keyS [(L.getD k default).ob,(L.getD k default).ar])=k:=by
  have hnd : (L.map fun l=>keyS [l.ob,l.ar]).Nodup:=by
   rw [List.Nodup,List.pairwise_map];refine List.Pairwise.imp_of_mem ?_ nd
   intro a b ha hb2 hne e
   have:=keyS_inj2 (hb a ha).1 (hb a ha).2 (hb b hb2).1 (hb b hb2).2 e
   rcases hne with q | q
   ·exact q this.1
   ·exact q this.2
  have hk2 : k<(L.map fun l=>keyS [l.ob,l.ar]).length:=by simpa using hk
  have:=hnd.idxOf_getElem k hk2
  simpa [List.getD_eq_getElem?_getD,hk] using this
 rw [this]
 simp [hk]
theorem mput_keys {k x : AV} : ∀ {ks vs : List AV} {a : AV},a∈(mput k x ks vs).1→a=k∨a∈ks
 | [],vs,a,h=>by
  simp only [mput,List.mem_singleton] at h; exact .inl h
 | b::ks,[],a,h=>by
  simp only [mput,List.mem_singleton] at h; exact .inl h
 | b::ks,v::vs,a,h=>by
  simp only [mput] at h
  split at h
  ·rcases List.mem_cons.mp h with q | q
   ·exact .inl q
   ·exact .inr (List.mem_cons_of_mem _ q)
  ·rcases List.mem_cons.mp h with q | q
   ·exact .inr (q ▸ List.mem_cons_self)
   ·rcases mput_keys q with w | w
    ·exact .inl w
    ·exact .inr (List.mem_cons_of_mem _ w)
theorem okKey_plO (L : List FU) (s : List UInt8) : ∀ k,okKey 1 (.str s) (plO L k).1
 | 0=>⟨rfl,by simp [plO]⟩
 | k+1=>⟨rfl,fun a ha=>by
  rw [plO] at ha
  rcases mput_keys ha with rfl | q
  ·rfl
  ·exact (okKey_plO L s k).2 a q⟩
end Go.Shf
namespace Go.AW
open Go.RowKit Go.ChangeMaps
theorem WRel.otherB {g : Gh} {B : Nat} {H : Heap} {w : World} (h : WRel g B H w) {r : Nat} (o' : Obj) (h1 : ∀ o,g.fz r o=none) (h2 : g.fm r=none) (h3 : ∀ i p,(H.get i).isSome→g.io i=some p→p.block≠some r) :
  WRel g B H { w with heap:=w.heap.setIfInBounds r o' }:=by
 have ho : ∀ k,k≠r→(w.heap.setIfInBounds r o')[k]? = w.heap[k]? := fun k hk=>by rw [Array.getElem?_setIfInBounds_ne (by omega)]
 constructor
 ·intro b o v e
  have : b≠r:=by rintro rfl; rw [h1] at e; cases e
  rw [World.cell?_of_block (w:=w) (a:=⟨b,o,none⟩) (ho b this)]; exact h.fz _ _ _ e
 ·intro b es e
  obtain ⟨clk,hc,hbo⟩:=h.fm b es e
  have : b≠r:=by rintro rfl; rw [h2] at e; cases e
  exact ⟨clk,by rw [← hc]; exact ho b this,hbo⟩
 ·intro i o e
  obtain ⟨p,hp,hr⟩:=h.ob i o e;refine ⟨p,hp,hr.keep (Gh.le.refl g) (fun b hb=>ho b ?_) (fun _ _ _ h=>h) (fun _ _ h=>h)⟩
  rintro rfl;exact h3 i p (by simp [e]) hp hb
 ·exact h.inj
 ·exact h.injm
 ·simpa using h.base
 ·exact h.fin
theorem mget_erase (k : AV) : ∀ (ks vs : List AV) (j : Nat),vs.length=ks.length→k.keq (ks.getD j nv)=false→mget k (ks.eraseIdx j) (vs.eraseIdx j)=mget k ks vs
 | [],[],_,_,_=>by simp
 | [],_::_,_,h,_=>by simp at h
 | _::_,[],_,h,_=>by simp at h
 | a::ks,v::vs,0,h,hq=>by
  have hq : k.keq a=false:=by simpa using hq
  simp only [List.eraseIdx_cons_zero,mget,hq,Bool.false_eq_true,if_false]
 | a::ks,v::vs,j+1,h,hq=>by
  have:=mget_erase k ks vs j (by simpa using h) (by simpa using hq);simp only [List.eraseIdx_cons_succ,mget,this]
theorem getD_erase {α : Type} (l : List α) (d : α) (j i : Nat) (hj : j<l.length) : (l.eraseIdx j).getD i d=if i<j then l.getD i d else l.getD (i+1) d:=by
 simp only [List.getD_eq_getElem?_getD,List.getElem?_eraseIdx]
 split <;> rfl
theorem BirthOk.erase {es : Array MapEntry} {clk j : Nat} (h : BirthOk es clk) : BirthOk (es.eraseIdxIfInBounds j) clk:=by
 have hs : (es.eraseIdxIfInBounds j).toList.Sublist es.toList:=by
  rw [Array.eraseIdxIfInBounds]
  split
  ·rw [Array.toList_eraseIdx]; exact List.eraseIdx_sublist _ _
  ·exact List.Sublist.refl _
 exact ⟨fun x hx=>h.1 x (hs.subset hx),h.2.sublist (hs.map _)⟩
theorem wpOps_value {P : Program} {ops : Array Oper} {Q : Exit→Act→World→Prop} {i : Nat} {rest : List Nat} {a : Act} {w w' : World} {o : Oper} {v : Value} (ho : ops[i]? = some o) (hg : o.guard=none)
  (hr : (execOp a.eval o).run P w=.ok (.value v) w') (hk : wpOps P ops Q rest (a.put o.dst v) w') : wpOps P ops Q (i::rest) a w:=by
 simp only [wpOps,ho,Region.wanted,hg,if_true];refine .inl ?_;simp only [Oper.wp,hr,Oper.upon];exact hk
theorem tm_same {a : Act} {d : Nat} (v : Value) (h : d<a.tmps.size) : (a.put (some d) v).tmps.getD d undef=v:=by
 simp [Act.put,Array.getD,h]
theorem tm_ne {a : Act} {d t : Nat} (v : Value) (h : t≠d) : (a.put (some d) v).tmps.getD t undef=a.tmps.getD t undef:=by
 simp only [Act.put,Array.getD_eq_getD_getElem?];rw [Array.getElem?_setIfInBounds_ne (by omega)]
theorem tm_size {a : Act} (d : Option Nat) (v : Value) : (a.put d v).tmps.size=a.tmps.size:=put_size a d v
theorem wpOps_v {P : Program} {ops : Array Oper} {Q : Exit→Act→World→Prop} {i : Nat} {rest : List Nat} {a : Act} {w w' : World} {o : Oper} {d : Option Nat} {v : Value} {φ : Prop} (q : o.dst=d∧o.guard=none∧φ) (ho : ops[i]? = some o)
  (hr : (execOp a.eval o).run P w=.ok (.value v) w') (hk : wpOps P ops Q rest (a.put d v) w') : wpOps P ops Q (i::rest) a w :=
 wpOps_value ho q.2.1 hr (by rw [q.1]; exact hk)
theorem ex_move {P : Program} {o : Oper} {t : Nat} {a : Act} {w : World} {v : Value} (ho : o.op=.move (.tmp t)∨o.op=.assign (.tmp t)) (hv : a.tmps.getD t undef=v) : (execOp a.eval o).run P w=.ok (.value v) w:=by
 subst hv
 rcases ho with ho | ho <;> simp only [execOp,ho] <;> rfl
theorem ex_of {P : Program} {o : Oper} {a : Act} {w w' : World} {v : Value} {s : Sem Value} (he : execOp a.eval o=(do pure (.value (← s)))) (hs : s.run P w=.ok v w') : (execOp a.eval o).run P w=.ok (.value v) w':=by
 rw [he]; simp only [Sem.run_bind,hs,Result.andThen_ok,Sem.run_pure]
theorem leftOf_erase (es : Array MapEntry) (seen : Array Nat) (j : Nat) : (leftOf (es.eraseIdxIfInBounds j) seen).size≤(leftOf es seen).size:=by
 have e1 : ∀ (q : MapEntry→Bool) (es : Array MapEntry),(es.filter q).size=(es.toList.filter q).length:=fun q es=>by rw [← Array.toList_filter,Array.length_toList]
 have hs : (es.eraseIdxIfInBounds j).toList.Sublist es.toList:=by
  rw [Array.eraseIdxIfInBounds]
  split
  ·rw [Array.toList_eraseIdx]; exact List.eraseIdx_sublist _ _
  ·exact List.Sublist.refl _
 unfold leftOf;rw [e1,e1];exact (hs.filter _).length_le
theorem keq_str {S : List UInt8} {k : AV} (h : AV.keyLike 1 (.str S) k=true) : ∃ l,k=.str l:=by
 cases k <;> first | exact ⟨_,rfl⟩ | (simp [AV.keyLike] at h; done)
def RI (g : Gh) (B : Nat) (S : List UInt8) (bm r mp N : Nat) (df : List Deferred) (H : Heap) (w0 : World) (ks0 vs0 : List AV) (n : Nat) (a : Act) (w : World) : Prop :=
 ∃ ks vs es seen c0 clk since,WRel g B (H.set mp (.map ks vs)) w∧w.heap[bm]? = some (.map es clk)∧w.heap[r]? = some (.mapIter (some bm) since seen c0)∧(∀ x∈es.toList,x.born<since)∧since≤c0∧since≤clk ∧
  (∀ k∈ks,AV.keyLike 1 (.str S) k=true)∧mget (.str S) ks vs=mget (.str S) ks0 vs0∧(leftOf es seen).size=n∧Below B w0 w∧a.tmps.size=N∧a.defers=df ∧
  a.tmps.getD 7 undef=.map (some bm)∧a.tmps.getD 10 undef=.string ⟨S.toArray⟩∧a.tmps.getD 37 undef=.pointer (some ⟨r,0,none⟩)
theorem del_run {P : Program} {g : Gh} {B : Nat} {w : World} {mt kt et : TypeId} (ht : P.underlying mt=some (.map kt et)) (hk : P.underlying kt=some .string) {bm clk : Nat} {es : Array MapEntry} {S l : List UInt8} {ks : List AV}
  (hb : w.heap[bm]? = some (.map es clk)) (hsz : es.size=ks.length) (hrel : ∀ i,i<ks.length→VRel g (ks.getD i nv) (es.getD i default).key) (hl : ∀ k∈ks,AV.keyLike 1 (.str S) k=true) {j : Nat} (hf : mfind (.str l) ks 0=some j) (tys : TypeId) (ty : TypeId) :
  (Builtin.delete_ #[mt,ty] tys #[.map (some bm),.string ⟨l.toArray⟩]).run P w=.ok (.tuple #[]) { w with heap:=w.heap.setIfInBounds bm (.map (es.eraseIdxIfInBounds j) clk) }:=by
 have hko : keyOk P 1 kt:=⟨_,hk,.inl rfl⟩
 have hself : AV.keyLike 1 (.str l) (.str l)=true:=rfl
 have hlike : ∀ a,a∈ks→AV.keyLike 1 (.str l) a=true:=fun a ha=>by
  obtain ⟨x,rfl⟩:=keq_str (hl a ha)
  rfl
 have hfn:=find_run (P:=P) (w:=w) hko (VRel.str (g:=g) l) ks es.toList (by simpa using hsz) (fun j hj=>by simpa using hrel j hj) hlike
 have hck : ∀ em,(Instr.checkKey em 10000 kt (.string ⟨l.toArray⟩)).run P w=.ok () w:=fun em=>checkKey_run (g:=g) hko (VRel.str l) hself em;rw [hf] at hfn;unfold Builtin.delete_;simp only [List.getElem?_toArray,List.getElem?_cons_zero,List.getElem?_cons_succ,Sem.run_bind,run_underlying ht,Result.andThen_ok,run_getObj_map' hb,hck,hfn,Option.map_some,run_setObj_map' _ hb,Sem.run_pure]
theorem leave_wp {P : Program} {B N : Nat} {df : List Deferred} {mt kt et t9 ty : TypeId} (ht : P.underlying mt=some (.map kt et)) (hk : P.underlying kt=some .string) (h9 : P.underlying t9=some .string) (hN47 : 47≤N)
  {i8 i9 i10 i11 i12 b2 b3 : Nat} {o36 o37 o38 o39 o40 o41 o11 o42 o43 o44 o45 o46 od : Oper} {y9 : TypeId} {cl : Call}
  (q36 : o36.dst=some 36∧o36.guard=none∧o36.op=.move (.tmp 7)) (q37 : o37.dst=some 37∧o37.guard=none∧o37.op=.range mt (.tmp 36))
  (q38 : o38.dst=some 38∧o38.guard=none∧o38.op=.next (.tmp 37) false) (q39 : o39.dst=some 39∧o39.guard=none∧o39.op=.extract (.tmp 38) 0)
  (q40 : o40.dst=some 40∧o40.guard=none∧o40.op=.entry (.tmp 37)) (q41 : o41.dst=some 41∧o41.guard=none∧o41.op=.extract (.tmp 40) 0) (q11 : o11.dst=some 11∧o11.guard=none∧o11.op=.assign (.tmp 41))
  (q42 : o42.dst=some 42∧o42.guard=none∧o42.op=.move (.tmp 11)) (q43 : o43.dst=some 43∧o43.guard=none∧o43.op=.move (.tmp 10)) (q44 : o44.dst=some 44∧o44.guard=none∧o44.op=.binOp .neq t9 (.tmp 42) (.tmp 43) y9)
  (q45 : o45.dst=some 45∧o45.guard=none∧o45.op=.move (.tmp 7)) (q46 : o46.dst=some 46∧o46.guard=none∧o46.op=.move (.tmp 11)) (qd : od.dst=none∧od.guard=none∧od.op=.call cl)
  (qc : cl.callee=.builtin .delete∧cl.args=#[.tmp 45,.tmp 46]∧cl.argTypes=#[mt,ty])
  {Q : AQ} {g : Gh} {H : Heap} {w : World} {σ : Env} {a : Act} {mp : Nat} {S : List UInt8} {ks0 vs0 : List AV} (hW : WRel g B H w) (hE : ERel g σ a.tmps) (hN : a.tmps.size=N) (hd : a.defers=df)
  (h7 : σ.get 7=some (.mref mp)) (h10 : σ.get 10=some (.str S)) (hH : H.get mp=some (.map ks0 vs0)) (hl0 : ∀ k∈ks0,AV.keyLike 1 (.str S) k=true)
  (hQ : ∀ ks vs,(∀ k∈ks,AV.keyLike 1 (.str S) k=true)→mget (.str S) ks vs=mget (.str S) ks0 vs0→Q .norm [(7,some (.mref mp)),(10,some (.str S))] (H.set mp (.map ks vs))) :
  (Code.seq (.region i8 #[o36,o37] false) (.block b2 (.loop (.seq (.region i9 #[o38,o39] false) (.seq (.cond (.tmp 39) .skip (.exit b2)) (.block b3 (.seq (.region i10 #[o40,o41,o11] false) (.seq (.region i11 #[o42,o43,o44] false) (.cond (.tmp 44) (.region i12 #[o45,o46,od] false) .skip))))))))).wp P (Post Q g B w N df) a w:=by
 obtain ⟨-,z7⟩:=hE 7 _ h7
 obtain ⟨-,z10⟩:=hE 10 _ h10
 generalize e7 : a.tmps.getD 7 undef=u7 at z7
 generalize e10 : a.tmps.getD 10 undef=u10 at z10
 cases z7
 rename_i bm hio
 cases z10
 obtain ⟨p,hp,hr⟩:=hW.ob mp _ hH;rw [hio] at hp; cases hp;simp only [ObjRel] at hr
 obtain ⟨hBb,hfm,es,clk,hb,hsz,hvl,hkr,hvr⟩:=hr
 have hbl : bm<w.heap.size:=(Array.getElem?_eq_some_iff.1 hb).1
 have hrN : bm≠w.heap.size:=by omega
 refine wp_seq (wp_region ?_)
 show wpOps P #[o36,o37] _ [0,1] a w
 refine wpOps_v (v:=.map (some bm)) q36 rfl (ex_move (.inl q36.2.2) e7) ?_;refine wpOps_v q37 rfl (ex_of (s:=Instr.range mt (.map (some bm))) (by simp only [execOp,q37.2.2]; rw [show (a.put (some 36) (.map (some bm))).eval (.tmp 36)=.map (some bm) from tm_same _ (by omega)]) (run_range_map w mt kt et bm es clk ht hb)) ?_;simp only [wpOps,Exit.then]
 have hfr : ∀ o,g.fz w.heap.size o=none:=fun o=>hW.fz_new _ o (Nat.le_refl _)
 have hmr : g.fm w.heap.size=none:=hW.fm_new _ (Nat.le_refl _)
 have hpr : ∀ i p,(H.get i).isSome→g.io i=some p→p.block≠some w.heap.size:=fun i p hi hp hpb=>by
  obtain ⟨o,ho⟩:=Option.isSome_iff_exists.1 hi
  obtain ⟨p',hp',hr'⟩:=hW.ob i o ho;rw [hp] at hp'; cases hp'
  have:=(hr'.lt hpb).2;omega
 have hWs : WRel g B (H.set mp (.map ks0 vs0)) w:=hW.sub (fun k o e=>by
  by_cases hk : k=mp
  ·subst hk; simp at e; subst e; exact hH
  ·rwa [Heap.get_set_ne _ _ hk] at e)
 generalize hrr : w.heap.size=r at hfr hmr hpr hrN;refine wp_block (wp_loop' (RI g B S bm r mp N df H w ks0 vs0) (n:=(leftOf es #[]).size) ⟨ks0,vs0,es,#[],clk,clk,clk,hWs.alloc _,by rw [heap_alloc_old w _ hbl]; exact hb,by rw [← hrr]; exact heap_alloc_new w _,hsz.2.1,Nat.le_refl _,Nat.le_refl _,hl0,rfl,rfl,(Below.refl B w).alloc hW.base _,by simp only [tm_size]; exact hN,by simp only [put_defers]; exact hd,by rw [tm_ne _ (by omega),tm_ne _ (by omega)]; exact e7,by rw [tm_ne _ (by omega),tm_ne _ (by omega)]; exact e10,by rw [← hrr]; exact tm_same _ (by rw [tm_size]; omega)⟩ ?_);clear hb hsz hvl hkr hvr hE e7 e10 hN hd
 rintro n a1 w1 ⟨ks,vs,es,seen,c0,clk,since,hW1,hb,hit,hold,hs0,hs1,hl,hm,hn,hbel,hN,hd,e7,e10,e37⟩
 obtain ⟨p,hp,hr⟩:=hW1.ob mp _ (by simp : (H.set mp (.map ks vs)).get mp=some (.map ks vs));rw [hio] at hp; cases hp;simp only [ObjRel] at hr
 obtain ⟨-,-,es',clk',hb',hsz,hvl,hkr,hvr⟩:=hr;rw [hb] at hb'; cases hb'
 have hpr1 : ∀ ks vs i p,((H.set mp (.map ks vs)).get i).isSome→g.io i=some p→p.block≠some r:=fun ks vs i p hi hp=>by
  by_cases e : i=mp
  ·subst e; exact hpr i p (by simp [hH]) hp
  ·rw [Heap.get_set_ne _ _ e] at hi; exact hpr i p hi hp
 refine wp_seq (wp_region ?_)
 show wpOps P #[o38,o39] _ [0,1] a1 w1
 have hex : ∀ {w2 : World} {v : Value},(Instr.next (.pointer (some ⟨r,0,none⟩)) false o38.type).run P w1=.ok v w2→(execOp a1.eval o38).run P w1=.ok (.value v) w2:=fun h=>ex_of (by simp only [execOp,q38.2.2]; rw [show a1.eval (.tmp 37)=.pointer (some ⟨r,0,none⟩) from e37]) h
 rcases run_next_at (P:=P) w1 o38.type r bm since c0 seen es clk hit hb hold hs0 with ⟨h0,hrun⟩ | ⟨e,he,w2,hw2,hrun⟩
 ·refine wpOps_v q38 rfl (hex hrun) ?_;refine wpOps_v q39 rfl (ex_of (s:=Instr.extract (.tuple #[.bool false]) 0) (v:=.bool false) (w':=w1) (by simp only [execOp,q39.2.2]; rw [show (a1.put (some 38) (.tuple #[.bool false])).eval (.tmp 38)=.tuple #[.bool false] from tm_same _ (by omega)]) rfl) ?_;simp only [wpOps,Exit.then]
  refine wp_seq (wp_cond_split (t:=false) (tm_same _ (by rw [tm_size]; omega)) (fun h=>by cases h) fun _=>wp_exit ?_);simp only [Exit.then,Exit.inBlock,if_true,Post]
  refine ⟨g,_,_,.refl g,hQ ks vs hl hm,hW1, ?_,hbel,by simp only [tm_size]; exact hN,by simp only [put_defers]; exact hd⟩
  intro t v ht;simp only [Env.get] at ht
  split at ht
  ·rename_i h; subst h; cases ht
   exact ⟨by simp only [tm_size]; omega,by rw [tm_ne _ (by omega),tm_ne _ (by omega),e7]; exact .mref mp bm hio⟩
  ·split at ht
   ·rename_i h; subst h; cases ht
    exact ⟨by simp only [tm_size]; omega,by rw [tm_ne _ (by omega),tm_ne _ (by omega),e10]; exact .str S⟩
   ·cases ht
 obtain ⟨hes,hns⟩:=mem_left he
 have hdrew : ∀ {G : Heap},WRel g B G w1→WRel g B G w2:=fun h=>by
  rcases hw2 with rfl | rfl
  ·exact h
  ·exact h.drew
 have hheap : w2.heap=w1.heap:=by rcases hw2 with rfl | rfl <;> rfl
 have hbel2 : Below B w w2:=by
  rcases hw2 with rfl | rfl
  ·exact hbel
  ·exact hbel.drew
 have hrlt : r<w2.heap.size:=by rw [hheap]; exact (Array.getElem?_eq_some_iff.1 hit).1
 have hWn:=(hdrew hW1).otherB (r:=r) (.mapIter (some bm) since (seen.push e.born) clk) hfr hmr (hpr1 ks vs)
 have hb3 : (ChangeMaps.setBlock w2 r (.mapIter (some bm) since (seen.push e.born) clk)).heap[bm]? = some (.map es clk):=by
  simp only [ChangeMaps.setBlock];rw [Array.getElem?_setIfInBounds_ne (by omega),hheap]; exact hb
 have hi3 : (ChangeMaps.setBlock w2 r (.mapIter (some bm) since (seen.push e.born) clk)).heap[r]? = some (.mapIter (some bm) since (seen.push e.born) clk):=by
  simp [ChangeMaps.setBlock,hrlt]
 have hbel3 : Below B w (ChangeMaps.setBlock w2 r (.mapIter (some bm) since (seen.push e.born) clk)):=by
  refine hbel2.trans ⟨rfl,rfl,rfl,by simp [ChangeMaps.setBlock],fun k hk=>?_,Nat.le_refl _⟩;simp only [ChangeMaps.setBlock];rw [Array.getElem?_setIfInBounds_ne]
  rintro rfl;omega
 change WRel g B _ (ChangeMaps.setBlock w2 r (.mapIter (some bm) since (seen.push e.born) clk)) at hWn
 have hshr:=left_shrinks es seen e he
 generalize ChangeMaps.setBlock w2 r (.mapIter (some bm) since (seen.push e.born) clk)=w3 at *
 obtain ⟨l,hl1⟩ : ∃ l,e.key=.string ⟨l.toArray⟩∧∃ j,j<ks.length∧ks.getD j nv=.str l:=by
  obtain ⟨j,hj,hje⟩:=List.getElem_of_mem hes
  have hj' : j<ks.length:=by rw [← hsz.1]; simpa using hj
  have h1:=hkr j hj'
  have h2 : es.getD j default=e:=by
   rw [← hje]; simp [Array.getD,hsz.1,hj']
  rw [h2] at h1
  have h3 : ks.getD j nv∈ks:=by
   rw [List.getD_eq_getElem?_getD,List.getElem?_eq_getElem hj']; exact List.getElem_mem hj'
  obtain ⟨l,hl⟩:=keq_str (hl _ h3);rw [hl] at h1
  cases h1' : e.key <;> rw [h1'] at h1 <;> cases h1
  exact ⟨l,rfl,j,hj',hl⟩
 obtain ⟨hkey,j0,hj0,hj0e⟩:=hl1;refine wpOps_v q38 rfl (hex hrun) ?_;refine wpOps_v q39 rfl (ex_of (s:=Instr.extract (.tuple #[.bool true,e.key,e.val]) 0) (v:=.bool true) (w':=w3) (by simp only [execOp,q39.2.2]; rw [show (a1.put (some 38) (.tuple #[.bool true,e.key,e.val])).eval (.tmp 38)=.tuple #[.bool true,e.key,e.val] from tm_same _ (by omega)]) rfl) ?_;simp only [wpOps,Exit.then]
 refine wp_seq (wp_cond_split (t:=true) (tm_same _ (by rw [tm_size]; omega)) (fun _=>wp_skip ?_) (fun h=>by cases h));simp only [Exit.then]
 have e7' : ((a1.put (some 38) (.tuple #[.bool true,e.key,e.val])).put (some 39) (.bool true)).tmps.getD 7 undef=.map (some bm):=by rw [tm_ne _ (by omega),tm_ne _ (by omega)]; exact e7
 have e10' : ((a1.put (some 38) (.tuple #[.bool true,e.key,e.val])).put (some 39) (.bool true)).tmps.getD 10 undef=.string ⟨S.toArray⟩:=by rw [tm_ne _ (by omega),tm_ne _ (by omega)]; exact e10
 have e37' : ((a1.put (some 38) (.tuple #[.bool true,e.key,e.val])).put (some 39) (.bool true)).tmps.getD 37 undef=.pointer (some ⟨r,0,none⟩):=by rw [tm_ne _ (by omega),tm_ne _ (by omega)]; exact e37
 have hN' : ((a1.put (some 38) (.tuple #[.bool true,e.key,e.val])).put (some 39) (.bool true)).tmps.size=N:=by simp only [tm_size]; exact hN
 have hd' : ((a1.put (some 38) (.tuple #[.bool true,e.key,e.val])).put (some 39) (.bool true)).defers=df:=by simp only [put_defers]; exact hd
 generalize (a1.put (some 38) (.tuple #[.bool true,e.key,e.val])).put (some 39) (.bool true)=a2 at *;refine wp_block (wp_seq (wp_region ?_))
 show wpOps P #[o40,o41,o11] _ [0,1,2] a2 w3
 refine wpOps_v q40 rfl (ex_of (s:=Instr.entry (.pointer (some ⟨r,0,none⟩))) (by simp only [execOp,q40.2.2]; rw [show a2.eval (.tmp 37)=.pointer (some ⟨r,0,none⟩) from e37']) (run_entry_at w3 r bm since seen es clk e hi3 hb3 hes hsz.2.2)) ?_;refine wpOps_v q41 rfl (ex_of (s:=Instr.extract (.tuple #[e.key,e.val]) 0) (v:=e.key) (w':=w3) (by simp only [execOp,q41.2.2]; rw [show (a2.put (some 40) (.tuple #[e.key,e.val])).eval (.tmp 40)=.tuple #[e.key,e.val] from tm_same _ (by omega)]) rfl) ?_;refine wpOps_v q11 rfl (ex_move (.inr q11.2.2) (tm_same _ (by rw [tm_size]; omega))) ?_;simp only [wpOps,Exit.then]
 have e7 : (((a2.put (some 40) (.tuple #[e.key,e.val])).put (some 41) e.key).put (some 11) e.key).tmps.getD 7 undef=.map (some bm):=by rw [tm_ne _ (by omega),tm_ne _ (by omega),tm_ne _ (by omega)]; exact e7'
 have e10 : (((a2.put (some 40) (.tuple #[e.key,e.val])).put (some 41) e.key).put (some 11) e.key).tmps.getD 10 undef=.string ⟨S.toArray⟩:=by rw [tm_ne _ (by omega),tm_ne _ (by omega),tm_ne _ (by omega)]; exact e10'
 have e37 : (((a2.put (some 40) (.tuple #[e.key,e.val])).put (some 41) e.key).put (some 11) e.key).tmps.getD 37 undef=.pointer (some ⟨r,0,none⟩):=by rw [tm_ne _ (by omega),tm_ne _ (by omega),tm_ne _ (by omega)]; exact e37'
 have hN : (((a2.put (some 40) (.tuple #[e.key,e.val])).put (some 41) e.key).put (some 11) e.key).tmps.size=N:=by simp only [tm_size]; exact hN'
 have hd : (((a2.put (some 40) (.tuple #[e.key,e.val])).put (some 41) e.key).put (some 11) e.key).defers=df:=by simp only [put_defers]; exact hd'
 have e11 : (((a2.put (some 40) (.tuple #[e.key,e.val])).put (some 41) e.key).put (some 11) e.key).tmps.getD 11 undef=.string ⟨l.toArray⟩:=by rw [tm_same _ (by simp only [tm_size]; omega)]; exact hkey
 generalize ((a2.put (some 40) (.tuple #[e.key,e.val])).put (some 41) e.key).put (some 11) e.key=a3 at *;refine wp_seq (wp_region ?_)
 show wpOps P #[o42,o43,o44] _ [0,1,2] a3 w3
 refine wpOps_v q42 rfl (ex_move (.inl q42.2.2) e11) ?_;refine wpOps_v q43 rfl (ex_move (.inl q43.2.2) (v:=.string ⟨S.toArray⟩) (by rw [tm_ne _ (by omega)]; exact e10)) ?_
 obtain ⟨u,hu,hur⟩:=int_run (P:=P) (g:=g) (w:=w3) (op:=.neq) (k:=.i64) (t:=t9) (x:=.tmp 42) (y:=.tmp 43) (VRel.str l) (VRel.str S) (p:=True) (r:=.bool (!decide (l=S))) (by simp [arE,strI]) trivial
 cases hur
 have v42 : ((a3.put (some 42) (.string ⟨l.toArray⟩)).put (some 43) (.string ⟨S.toArray⟩)).eval (.tmp 42)=.string ⟨l.toArray⟩:=by
  show Array.getD _ _ _=_
  rw [tm_ne _ (by omega)]; exact tm_same _ (by omega)
 have v43 : ((a3.put (some 42) (.string ⟨l.toArray⟩)).put (some 43) (.string ⟨S.toArray⟩)).eval (.tmp 43)=.string ⟨S.toArray⟩:=tm_same _ (by rw [tm_size]; omega);refine wpOps_v q44 rfl (ex_of (by simp only [execOp,q44.2.2]; rw [v42,v43]) hu) ?_;simp only [wpOps,Exit.then]
 have f7 : ((((a3.put (some 42) (.string ⟨l.toArray⟩)).put (some 43) (.string ⟨S.toArray⟩)).put (some 44) (.bool (!decide (l=S))))).tmps.getD 7 undef=.map (some bm):=by rw [tm_ne _ (by omega),tm_ne _ (by omega),tm_ne _ (by omega)]; exact e7
 have f10 : ((((a3.put (some 42) (.string ⟨l.toArray⟩)).put (some 43) (.string ⟨S.toArray⟩)).put (some 44) (.bool (!decide (l=S))))).tmps.getD 10 undef=.string ⟨S.toArray⟩:=by rw [tm_ne _ (by omega),tm_ne _ (by omega),tm_ne _ (by omega)]; exact e10
 have f11 : ((((a3.put (some 42) (.string ⟨l.toArray⟩)).put (some 43) (.string ⟨S.toArray⟩)).put (some 44) (.bool (!decide (l=S))))).tmps.getD 11 undef=.string ⟨l.toArray⟩:=by rw [tm_ne _ (by omega),tm_ne _ (by omega),tm_ne _ (by omega)]; exact e11
 have f37 : ((((a3.put (some 42) (.string ⟨l.toArray⟩)).put (some 43) (.string ⟨S.toArray⟩)).put (some 44) (.bool (!decide (l=S))))).tmps.getD 37 undef=.pointer (some ⟨r,0,none⟩):=by rw [tm_ne _ (by omega),tm_ne _ (by omega),tm_ne _ (by omega)]; exact e37
 have f44 : ((((a3.put (some 42) (.string ⟨l.toArray⟩)).put (some 43) (.string ⟨S.toArray⟩)).put (some 44) (.bool (!decide (l=S))))).tmps.getD 44 undef=.bool (!decide (l=S)):=tm_same _ (by simp only [tm_size]; omega)
 have gN : ((((a3.put (some 42) (.string ⟨l.toArray⟩)).put (some 43) (.string ⟨S.toArray⟩)).put (some 44) (.bool (!decide (l=S))))).tmps.size=N:=by simp only [tm_size]; exact hN
 have gd : ((((a3.put (some 42) (.string ⟨l.toArray⟩)).put (some 43) (.string ⟨S.toArray⟩)).put (some 44) (.bool (!decide (l=S))))).defers=df:=by simp only [put_defers]; exact hd
 clear e7 e10 e11 e37 hN hd e7' e10' e37' hN' hd' v42 v43
 generalize ((a3.put (some 42) (.string ⟨l.toArray⟩)).put (some 43) (.string ⟨S.toArray⟩)).put (some 44) (.bool (!decide (l=S)))=a4 at *;refine wp_cond_split (t:=!decide (l=S)) f44 (fun hne=>?_) (fun heq=>?_)
 ·have hne : l≠S:=by simpa using hne
  have hko : ∃ j,mfind (.str l) ks 0=some j:=by
   have : ∀ (ks : List AV) (i j : Nat),j<ks.length→ks.getD j nv=.str l→∃ q,mfind (.str l) ks i=some q:=by
    intro ks
    induction ks with
    | nil=>intro i j h; simp at h
    | cons k ks ih =>
     intro i j h hj;simp only [mfind]
     split
     ·exact ⟨_,rfl⟩
     ·rename_i hq
      cases j with
      | zero=>rw [List.getD_cons_zero] at hj; subst hj; simp [AV.keq] at hq
      | succ j=>exact ih _ j (by simpa using h) (by simpa using hj)
   exact this ks 0 j0 hj0 hj0e
  obtain ⟨j,hj⟩:=hko
  obtain ⟨-,hjl,hjq⟩:=mfind_lt _ _ _ _ hj;simp only [Nat.zero_add,Nat.sub_zero] at hjl hjq
  have hjs : AV.keq (.str S) (ks.getD j nv)=false:=by
   have : ks.getD j nv∈ks:=by
    rw [List.getD_eq_getElem?_getD,List.getElem?_eq_getElem hjl]; exact List.getElem_mem hjl
   obtain ⟨x,hx⟩:=keq_str (hl _ this);rw [hx] at hjq ⊢
   have : l=x:=by simpa [AV.keq] using hjq
   subst this;simp only [AV.keq,decide_eq_false_iff_not];exact fun h=>hne h.symm
  refine wp_region ?_
  show wpOps P #[o45,o46,od] _ [0,1,2] a4 w3
  refine wpOps_v q45 rfl (ex_move (.inl q45.2.2) f7) ?_;refine wpOps_v q46 rfl (ex_move (.inl q46.2.2) (v:=.string ⟨l.toArray⟩) (by rw [tm_ne _ (by omega)]; exact f11)) ?_
  have v45 : ((a4.put (some 45) (.map (some bm))).put (some 46) (.string ⟨l.toArray⟩)).eval (.tmp 45)=.map (some bm):=by
   show Array.getD _ _ _=_
   rw [tm_ne _ (by omega)]; exact tm_same _ (by omega)
  have v46 : ((a4.put (some 45) (.map (some bm))).put (some 46) (.string ⟨l.toArray⟩)).eval (.tmp 46)=.string ⟨l.toArray⟩:=tm_same _ (by rw [tm_size]; omega)
  have hdel:=del_run (P:=P) (g:=g) (B:=B) (S:=S) ht hk hb3 hsz.1 hkr hl hj od.type ty;refine wpOps_v (v:=.tuple #[]) qd rfl (w':={ w3 with heap:=w3.heap.setIfInBounds bm (.map (es.eraseIdxIfInBounds j) clk) }) ?_ ?_
  ·simp only [execOp,qd.2.2];simp only [resolve,qc.1,qc.2.1,qc.2.2,Go.invoke,builtin,Sem.run_bind,Sem.run_pure,Result.andThen_ok,List.map_toArray,List.map_cons,List.map_nil,v45,v46,hdel]
  simp only [wpOps,Exit.then]
  have hjE : j<es.size:=by rw [hsz.1]; exact hjl
  have hes2 : ∀ i,(es.eraseIdxIfInBounds j).getD i default=if i<j then es.getD i default else es.getD (i+1) default:=fun i=>by
   have h1 : ∀ (q : Array MapEntry) i,q.getD i default=q.toList.getD i default:=fun q i=>by simp [Array.getD,List.getD_eq_getElem?_getD]; split <;> simp_all
   rw [h1,h1,h1,Array.eraseIdxIfInBounds,dif_pos hjE,Array.toList_eraseIdx];exact getD_erase _ _ j i (by simpa using hjE)
  have hsz2 : (es.eraseIdxIfInBounds j).size=(ks.eraseIdx j).length:=by
   rw [Array.eraseIdxIfInBounds,dif_pos hjE,Array.size_eraseIdx,List.length_eraseIdx,if_pos hjl,hsz.1]
  have hlen2 : (ks.eraseIdx j).length=ks.length - 1:=by rw [List.length_eraseIdx,if_pos hjl]
  have hlv2 : (vs.eraseIdx j).length=(ks.eraseIdx j).length:=by rw [List.length_eraseIdx,if_pos (by omega),hlen2,hvl]
  obtain ⟨hW4,hbel4⟩:=hWn.writeMap mp bm ks vs (ks.eraseIdx j) (vs.eraseIdx j) es (es.eraseIdxIfInBounds j) clk clk (by simp) hio hb3 ⟨hsz2,hsz.2.erase⟩ hlv2 (fun i hi=>by
   rw [hes2,getD_erase _ _ j i hjl]
   split
   ·exact hkr i (by omega)
   ·exact hkr (i+1) (by omega)) (fun i hi=>by
   rw [hes2,getD_erase _ _ j i (by omega)]
   split
   ·exact hvr i (by omega)
   ·exact hvr (i+1) (by omega))
  have hbl3 : bm<w3.heap.size:=(Array.getElem?_eq_some_iff.1 hb3).1
  have hsub : ∀ x∈(es.eraseIdxIfInBounds j).toList,x∈es.toList:=fun x hx=>by
   rw [Array.eraseIdxIfInBounds,dif_pos hjE,Array.toList_eraseIdx] at hx;exact (List.eraseIdx_sublist _ _).subset hx
  refine ⟨(leftOf (es.eraseIdxIfInBounds j) (seen.push e.born)).size,by have:=leftOf_erase es (seen.push e.born) j; omega,ks.eraseIdx j,vs.eraseIdx j,_,seen.push e.born,clk,clk,since,hW4.sub (fun k o e=>?_),by simp [hbl3], ?_,fun x hx=>hold x (hsub x hx),hs1,hs1,fun k hk=>hl k ((List.eraseIdx_sublist _ _).subset hk), ?_,rfl,hbel3.trans hbel4,by simp only [tm_size]; exact gN,by simp only [put_defers]; exact gd, ?_, ?_, ?_⟩
  ·by_cases hk : k=mp
   ·subst hk; simpa using e
   ·rw [Heap.get_set_ne _ _ hk] at e;rw [Heap.get_set_ne _ _ hk,Heap.get_set_ne _ _ hk]; exact e
  ·rw [Array.getElem?_setIfInBounds_ne (by omega)]; exact hi3
  ·rw [mget_erase _ _ _ _ hvl hjs]; exact hm
  ·rw [show ∀ v,(((a4.put (some 45) (.map (some bm))).put (some 46) (.string ⟨l.toArray⟩)).put none v)=((a4.put (some 45) (.map (some bm))).put (some 46) (.string ⟨l.toArray⟩)) from fun _=>rfl,tm_ne _ (by omega),tm_ne _ (by omega)]; exact f7
  ·rw [show ∀ v,(((a4.put (some 45) (.map (some bm))).put (some 46) (.string ⟨l.toArray⟩)).put none v)=((a4.put (some 45) (.map (some bm))).put (some 46) (.string ⟨l.toArray⟩)) from fun _=>rfl,tm_ne _ (by omega),tm_ne _ (by omega)]; exact f10
  ·rw [show ∀ v,(((a4.put (some 45) (.map (some bm))).put (some 46) (.string ⟨l.toArray⟩)).put none v)=((a4.put (some 45) (.map (some bm))).put (some 46) (.string ⟨l.toArray⟩)) from fun _=>rfl,tm_ne _ (by omega),tm_ne _ (by omega)]; exact f37
 ·refine wp_skip ?_
  show ∃ m,_∧RI _ _ _ _ _ _ _ _ _ _ _ _ _ _ _
  exact ⟨_,by omega,ks,vs,es,seen.push e.born,clk,clk,since,hWn,hb3,hi3,hold,hs1,hs1,hl,hm,rfl,hbel3,gN,gd,f7,f10,f37⟩
end Go.AW
namespace Go.AW
section
variable {P : Program} {B : Nat}
theorem CallH.of_wp {f : FuncId} {fn : Func} {c : Code} {rvs : List RV} (hf : P.funcs[f]? = some fn) (hb : fn.body = some c) (hn : (fn.name == "runtime.NumGoroutine") = false)
  (hr : compileRs P fn.results.toList=some rvs) {args : List AV} (hargs : args.length≤fn.ntmps) {H : Heap} {K : Kont}
  (hk : ∀ g w a,WRel g B H w→ERel g (envOf 0 args) a.tmps→a.tmps.size=fn.ntmps→a.defers=[]→c.wp P (Post (retQ rvs K) g B w fn.ntmps []) a w) : CallH P B f args H K:=by
 refine ⟨⟨fn,hf,by simp [hb],hn⟩,fun g w vs hW hv=>?_⟩;refine calls_of_wp hf hb ?_
 have hsz : (vs++Array.replicate (fn.ntmps - vs.size) undef).size=fn.ntmps:=by simp [hv.1]; omega
 have hE : ERel g (envOf 0 args) (vs++Array.replicate (fn.ntmps - vs.size) undef):=by
  intro t v ht
  obtain ⟨h1,h2,h3⟩:=envOf_get args 0 t v ht;simp only [Nat.zero_add,Nat.sub_zero] at h2 h3;refine ⟨by rw [hsz]; omega, ?_⟩
  have : (vs++Array.replicate (fn.ntmps - vs.size) undef).getD t undef=vs.getD t undef:=by
   simp only [Array.getD_eq_getD_getElem?];rw [Array.getElem?_append_left (by rw [hv.1]; exact h2)]
  rw [this,h3];exact hv.2 t h2
 have hwp:=hk g w { tmps:=vs++Array.replicate (fn.ntmps - vs.size) undef,defers:=[] } hW hE hsz rfl
 have hres : ∀ (e : AEx) σ' H' g' (a' : Act) w',retQ rvs K e σ' H'→g.le g'→WRel g' B H' w'→ERel g' σ' a'.tmps→Below B w w'→∃ v,(results fn a'.tmps).run P w'=.ok v w'∧FinV g B w K v w':=by
  intro e σ' H' g' a' w' hq hle hW' hE' hbel
  have hq' : retV (rvVs σ' H' rvs) (subW K) H':=by cases e <;> first | exact hq | exact hq.elim
  cases hvs : rvVs σ' H' rvs with
  | none=>simp [hvs,retV] at hq'
  | some avs =>
   rw [hvs] at hq'
   obtain ⟨us,p1,p2,p3⟩:=rvs_run (P:=P) hW' hE' hr hvs
   have hrun : (results fn a'.tmps).run P w'=.ok (if h : us.toArray.size=1 then us.toArray[0] else .tuple us.toArray) w':=by
    unfold results;rw [Array.mapM_eq_mapM_toList]
    have p1' : ((fn.results.toList.mapM fun r=>(match r with
     | .tmp t=>pure (a'.tmps.getD t undef)
     | .cell ad t=>do loadVar t (← asAddr (a'.tmps.getD ad undef)) : Sem Value)) : Sem (List Value)).run P w'=.ok us w':=p1
    simp only [Sem.run_bind,Sem.run_map];refine Eq.trans (congrArg (fun r=>Result.andThen (Result.andThen r _) _) p1') ?_
    rfl
   refine ⟨_,hrun, ?_⟩
   by_cases hone : avs.length=1
   ·obtain ⟨v,rfl⟩:=List.length_eq_one_iff.1 hone;simp only [retV] at hq'
    obtain ⟨H2,hs2,hk2⟩:=hq'
    obtain ⟨u,rfl⟩:=List.length_eq_one_iff.1 (p2.trans rfl);refine ⟨g',v,H2,hle,hk2, ?_,hW'.sub hs2,hbel⟩
    simpa using p3 0 (by simp)
   ·have hq2 : subW K (.tup avs) H':=by
     cases avs with
     | nil=>exact hq'
     | cons v1 r=>cases r with
      | nil=>exact absurd rfl hone
      | cons v2 r=>exact hq'
    obtain ⟨H2,hs2,hk2⟩:=hq2
    have hne : ¬ us.toArray.size=1:=by simp; omega
    refine ⟨g',.tup avs,H2,hle,hk2, ?_,hW'.sub hs2,hbel⟩;rw [dif_neg hne];exact .tup avs us.toArray (by simp [p2]) fun i hi=>by simpa using p3 i hi
 refine wp_mono hwp fun e a' w' hp=>?_
 cases e with
 | normal =>
  obtain ⟨g',σ',H',q1,q2,q3,q4,q5,q6,q7⟩:=hp
  obtain ⟨v,r1,r2⟩:=hres .norm σ' H' g' a' w' q2 q1 q3 q4 q5;exact ⟨q7,v,r1,v,rfl,r2⟩
 | ret =>
  obtain ⟨g',σ',H',q1,q2,q3,q4,q5,q6,q7⟩:=hp
  obtain ⟨v,r1,r2⟩:=hres .ret σ' H' g' a' w' q2 q1 q3 q4 q5;exact ⟨q7,v,r1,v,rfl,r2⟩
 | exit id =>
  obtain ⟨g',σ',H',q1,q2,_⟩:=hp;exact q2.elim
 | goto l=>exact hp.elim
 | panic ch=>exact hp.elim
 | outgrown=>exact hp.elim
theorem seqQ_seqQ (F G : Env→Heap→Prop) (Q : AQ) : seqQ F (seqQ G Q)=seqQ F Q:=by
 funext e; cases e <;> rfl
theorem CallH.of_six {f : FuncId} {fn : Func} {c0 c1 c2 c3 L T : Code} {s0 s1 s2 s3 sT : SC} {l1 l2 l3 : List Nat} {hA hT : Hints} {rvs : List RV} (hf : P.funcs[f]? = some fn) (hb : fn.body = some (.seq c0 (.seq c1 (.seq c2 (.seq c3 (.seq L T)))))) (hn : (fn.name == "runtime.NumGoroutine") = false)
  (hcA : compileC P fn.ntmps hA (.seq c0 (.seq c1 (.seq c2 c3)))=some (SC.strip (.seq s0 (.keep l1 (.seq s1 (.keep l2 (.seq s2 (.keep l3 s3)))))))) (hcT : compileC P fn.ntmps hT T=some sT.strip)
  (hr : compileRs P fn.results.toList=some rvs) {args : List AV} (hargs : args.length≤fn.ntmps) {H : Heap} {K : Kont} (M M' : Env→Heap→Prop)
  (kA : awp P B (.seq s0 (.keep l1 (.seq s1 (.keep l2 (.seq s2 (.keep l3 s3)))))) (seqQ M (retQ rvs K)) (envOf 0 args) H)
  (kL : ∀ g w a σ H,WRel g B H w→ERel g σ a.tmps→a.tmps.size=fn.ntmps→a.defers=[]→M σ H→L.wp P (Post (seqQ M' (retQ rvs K)) g B w fn.ntmps []) a w)
  (kT : ∀ σ H,M' σ H→awp P B sT (retQ rvs K) σ H) : CallH P B f args H K:=by
 refine CallH.of_wp hf hb hn hr hargs fun g w a hW hE hN hd=>?_
 obtain ⟨a0,b0,e,m0,hcA⟩:=inv_seq hcA
 injection e with e1 e2; subst e1; subst e2
 obtain ⟨a0,b0,e,m1,hcA⟩:=inv_seq hcA
 injection e with e1 e2; subst e1; subst e2
 obtain ⟨a0,b0,e,m2,m3⟩:=inv_seq hcA
 injection e with e1 e2; subst e1; subst e2
 simp only [awp,seqQ_seqQ] at kA;refine seq_sound' (hs:=hA) (awp_sound (df:=[]) s0 _ m0 _ g H w (envOf 0 args) a hW hE hN hd kA) ?_;clear kA hW hE hN hd
 intro g σ H w a hW hE hN hd kA;refine seq_sound' (hs:=hA) (awp_sound (df:=[]) s1 _ m1 _ g H w _ a hW (hE.keep l1) hN hd kA) ?_;clear kA hW hE hN hd
 intro g σ H w a hW hE hN hd kA;refine seq_sound' (hs:=hA) (awp_sound (df:=[]) s2 _ m2 _ g H w _ a hW (hE.keep l2) hN hd kA) ?_;clear kA hW hE hN hd
 intro g σ H w a hW hE hN hd kA;refine seq_sound' (hs:=hA) (awp_sound (df:=[]) s3 _ m3 _ g H w _ a hW (hE.keep l3) hN hd kA) ?_;clear kA hW hE hN hd
 intro g σ H w a hW hE hN hd kA;refine seq_sound' (hs:=hA) (kL g w a σ H hW hE hN hd kA) ?_;clear kA hW hE hN hd
 intro g σ H w a hW hE hN hd kA;exact awp_sound (df:=[]) sT _ hcT _ g H w _ a hW hE hN hd (kT σ H kA)
end
end Go.AW
namespace Go.Proofs.Shf
open Go.AW Go.Proofs Go.Shf
def s97a : SC :=
 (.seq (.reg [⟨(some 6),none,.mv (.c (.int .i64 0))⟩])
 (.keep [0,1,2] (.seq (.reg [⟨(some 12),none,.mkm⟩,
 ⟨(some 7),none,.mv (.t 12)⟩])
 (.keep [0,1,2,7] (.seq (.seq (.reg [⟨(some 13),none,.mv (.t 0)⟩,
 ⟨(some 14),none,.nck (.t 13)⟩,
 ⟨(some 15),none,.fld 5 1 (.t 14)⟩,
 ⟨(some 16),none,.ld none (.t 15)⟩,
 ⟨(some 17),none,.len (.t 16)⟩,
 ⟨(some 18),none,.mv (.c (.int .i64 0))⟩])
 (.keep [1,2,7,16,17,18] (.block 0
 (.loop [18,1,2,7,16,17]
 (.seq (.reg [⟨(some 19),none,.ar .lss .i64 (.t 18) (.t 17)⟩])
 (.keep [1,2,7,16,17,18,19] (.seq (.cond (.t 19)
 .skip
 (.exit 0))
 (.keep [1,2,7,16,17,18] (.seq (.block 1
 (.seq (.reg [⟨(some 20),none,.mv (.t 18)⟩,
 ⟨(some 21),none,.idx 12 (.t 16) (.t 18)⟩,
 ⟨(some 22),none,.ld (some 12) (.t 21)⟩,
 ⟨(some 9),none,.alc [(.int .i64 0),.nilsl,.nilsl,.nilsl,.nilsl,(.int .i64 0),.nilsl,.nilsl,.nilsl,.nilsl,.nilsl,.nilsl]⟩,
 ⟨(some 8),none,.mv (.t 20)⟩,
 ⟨none,none,.st 12 (.t 9) (.t 22)⟩])
 (.keep [1,2,7,8,9,16,17,18] (.reg [⟨(some 23),none,.mv (.t 7)⟩,
 ⟨(some 24),none,.fld 10 1 (.t 9)⟩,
 ⟨(some 25),none,.ld none (.t 24)⟩,
 ⟨(some 26),none,.fld 11 1 (.t 9)⟩,
 ⟨(some 27),none,.ld none (.t 26)⟩,
 ⟨(some 28),none,.litP 1 [(.t 25),(.t 27)]⟩,
 ⟨(some 29),none,.call (.c (.fn (.func 170) [])) [(.t 28)]⟩,
 ⟨(some 30),none,.mv (.t 8)⟩,
 ⟨none,none,.upd 1 (.t 23) (.t 29) (.t 30)⟩]))))
 (.keep [1,2,7,16,17,18] (.reg [⟨(some 31),none,.ar .add .i64 (.t 18) (.c (.int .i64 1))⟩,
 ⟨(some 18),none,.mv (.t 31)⟩])))))))))))
 (.keep [1,2,7] (.reg [⟨(some 32),none,.mv (.t 1)⟩,
 ⟨(some 33),none,.mv (.t 2)⟩,
 ⟨(some 34),none,.litP 1 [(.t 32),(.t 33)]⟩,
 ⟨(some 35),none,.call (.c (.fn (.func 170) [])) [(.t 34)]⟩,
 ⟨(some 10),none,.mv (.t 35)⟩])))))))
def h97a : Hints:=[(5,[],[0,0,0,0,0,1,0,0,0]),(7,[],[0,0,1,0,0])]
def s97t : SC :=
 (.seq (.reg [⟨(some 47),none,.mv (.t 7)⟩,
 ⟨(some 48),none,.mv (.t 10)⟩,
 ⟨(some 49),none,.lkm 1 false (.int .i64 0) (.t 47) (.t 48)⟩,
 ⟨(some 6),none,.mv (.t 49)⟩])
 .ret)
def h97t : Hints:=[]
def MapM (H0 : Heap) (v : AV) (σ : Env) (H : Heap) : Prop:=∃ mp S ks vs,σ.get 7=some (.mref mp)∧σ.get 10=some (.str S)∧(∀ k,k∈ks→AV.keyLike 1 (.str S) k=true)∧mget (.str S) ks vs=some v∧Owns H0 H [(mp,.map ks vs)]
theorem c97p {B : Nat} {args : List AV} {H : Heap} {K : Kont} (ha : args.length≤50) (v : AV) (hk : awp Tryz.prog B s97a (seqQ (MapM H v) (retQ [.tmp 6] K)) (envOf 0 args) H)
  (kT : ∀ σ H',MapM H v σ H'→awp Tryz.prog B s97t (retQ [.tmp 6] K) σ H') : CallH Tryz.prog B 97 args H K:=by
 refine CallH.of_six (hA:=h97a) (hT:=h97t) (sT:=s97t) (rvs:=[.tmp 6]) Tryz.func97 rfl (by kernel_rfl) (by kernel_rfl) (by kernel_rfl) (by kernel_rfl) ha (MapM H v) (MapM H v) hk ?_ kT
 intro g w a σ H' hW hE hN hd hM
 obtain ⟨mp,S,ks,vs,h7,h10,hl,hm,o⟩:=hM;refine leave_wp (kt:=9) (et:=2) (by kernel_rfl) (by kernel_rfl) (by kernel_rfl) (show 47≤50 by omega) ⟨rfl,rfl,rfl⟩ ⟨rfl,rfl,rfl⟩ ⟨rfl,rfl,rfl⟩ ⟨rfl,rfl,rfl⟩ ⟨rfl,rfl,rfl⟩ ⟨rfl,rfl,rfl⟩ ⟨rfl,rfl,rfl⟩ ⟨rfl,rfl,rfl⟩ ⟨rfl,rfl,rfl⟩ ⟨rfl,rfl,rfl⟩ ⟨rfl,rfl,rfl⟩ ⟨rfl,rfl,rfl⟩ ⟨rfl,rfl,rfl⟩ ⟨rfl,rfl,rfl⟩ hW hE hN hd h7 h10 o.h0 hl ?_
 intro ks' vs' hl' hm';exact ⟨mp,S,ks',vs',rfl,rfl,hl',by rw [hm']; exact hm,o.put _⟩
theorem keyB_two (a b : List Int) (ha : a.length≤1000) (hb : b.length≤1000) : (keyB [a,b]).length≤1000000:=by simp [keyB]; omega
theorem object_ok (B : Nat) {d : Cat} {Gs : List FU} {m : FU} (h8 : Gs.length≤8) (hne : Gs.Pairwise FuNe) (hs : SmallF Gs) (hl : ∀ k,k∈Gs→k.ob.length≤1000∧k.ar.length≤1000) (hm : m∈Gs) :
  Pur Tryz.prog B 97 [.ptr (fcC d Gs),iL m.ob,iL m.ar] (iI ((posF Gs m : Nat) : Int)):=by
 refine ⟨fun H0=>c97p (by simp) (iI ((posF Gs m : Nat) : Int)) ?_ ?_⟩
 ·unfold s97a
  have o : Owns H0 H0 []:=.nil _;refine tt ?_;refine newMap_own o fun mp H o=>tt ?_;refine awp_for [1,2,7,16,17] (G:=Unit) (fun i _=>[(18,some (.int .i64 (i : Int)))]) (fun i _ H=>Owns H0 H [(mp,.map (plO Gs i).1 (plO Gs i).2)]) Gs.length () o rfl ?_;clear o
  rintro i _ H hi o;refine tt ?_;apply bk <;> intro b1
  ·have b1p : i<Gs.length:=of_decide b1
   have w1:=wsucc (k:=i) (by omega)
   have hmem : Gs.getD i default∈Gs:=mem_getD.mpr ⟨i,b1p,rfl⟩
   have hll:=hl _ hmem
   have hk:=key_ok B [(Gs.getD i default).ob,(Gs.getD i default).ar] (keyB_two _ _ hll.1 hll.2);refine tt ?_;refine ⟨b1p,tt ?_⟩;refine ⟨by simp only [maxL]; omega,newRef_own o fun i9 H o=>?_⟩;refine tt ?_;refine sw o fun H o=>tt ?_;refine rd_cells o (by simp) ?_;refine tt ?_;refine rd_cells o (by simp) ?_;refine tt ?_;refine hk.go fun _=>tt ?_;rw [o.tl.h0];refine tt ?_;refine ⟨okKey_plO Gs _ _, ?_⟩
   have o : Owns H0 (H.set mp (.map (plO Gs (i+1)).1 (plO Gs (i+1)).2)) [(mp,.map (plO Gs (i+1)).1 (plO Gs (i+1)).2)]:=o.tl.put _
   have em : (H.set mp (.map (mput (.str (keyS [(Gs.getD i default).ob,(Gs.getD i default).ar])) (iI (i : Int)) (plO Gs i).1 (plO Gs i).2).1 (mput (.str (keyS [(Gs.getD i default).ob,(Gs.getD i default).ar])) (iI (i : Int)) (plO Gs i).1 (plO Gs i).2).2))=H.set mp (.map (plO Gs (i+1)).1 (plO Gs (i+1)).2):=rfl;rw [em]
   generalize H.set mp (.map (plO Gs (i+1)).1 (plO Gs (i+1)).2)=H at o;refine tw w1 ?_;exact for_next () b1p o rfl
  have b1p:=of_ndecide b1
  have : i=Gs.length:=by omega
  subst this
  have hll:=hl _ hm
  have hk:=key_ok B [m.ob,m.ar] (keyB_two _ _ hll.1 hll.2);refine tt ?_;refine hk.go fun _=>tt ?_;exact ⟨mp,_,_,_,rfl,rfl,(okKey_plO Gs _ _).2,plO_get hne hs hm,o⟩
 ·rintro σ H ⟨mp,S,ks,vs,h7,h10,hl,hg,o⟩;unfold s97t;try simp only [go_sem,↓reduceIte,reduceEqDiff,reduceAdd,reduceMul,reduceLeDiff,reduceLT,h7,h10]
  rw [o.h0];refine tt ?_;refine ⟨⟨rfl,hl⟩, ?_⟩;rw [hg];refine tt ?_;exact pure_ret rfl o.sub
end Go.Proofs.Shf
