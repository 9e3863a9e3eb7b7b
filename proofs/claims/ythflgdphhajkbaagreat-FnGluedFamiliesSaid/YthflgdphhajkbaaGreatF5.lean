/- Contracts, part 5. -/
import Derived.Test.YthflgdphhajkbaaGreatF4
set_option linter.unusedVariables false
set_option linter.unusedSimpArgs false
set_option linter.unusedSectionVars false
open Nat (reduceEqDiff reduceAdd reduceMul reduceLeDiff reduceLT)
namespace Go.Shf
open Go.AW
structure Cov where
 shape : Cat
 sizes : List Int
 pulls : List (List Int)
 sieves : List (List (List Int))
 marks : List (List Bool)
@[go_sem] def Cov.cls (v : Cov) : List AV:=[iI v.shape.objs,iL v.shape.frm,iL v.shape.to,iL v.shape.idn,iLL v.shape.comp,iL v.sizes,iLL v.pulls,iLLL v.sieves]
@[go_sem] def Cov.cells (v : Cov) (cnt : AV) : List AV:=[.ptr v.cls,.ptr v.shape.cells,mL (mL AV.bool) v.marks,cnt]
def chkP (S : List (List Int)) (m : List Bool) (f : Int) (k : Nat) : Bool:=(List.range k).all fun n=>!(m.getD n default) || decide (f∈S.getD n default)
theorem chkP_succ (S : List (List Int)) (m : List Bool) (f : Int) (k : Nat) : chkP S m f (k+1)=(chkP S m f k && (!(m.getD k default) || decide (f∈S.getD k default))):=by
 simp [chkP,List.range_succ,List.all_append]
def leastM (v : Cov) (x : Nat) : List Int:=(outs v.shape x).filter fun f=>chkP (v.sieves.getD x default) (v.marks.getD x default) f (v.marks.getD x default).length
theorem filter_take_succ {α : Type} [Inhabited α] (p : α→Bool) (l : List α) {k : Nat} (hk : k<l.length) : (l.take (k+1)).filter p=(l.take k).filter p++if p (l.getD k default) then [l.getD k default] else []:=by
 have hN : l[k]=l.getD k default:=by simp [List.getD_eq_getElem?_getD,hk]
 have ht : l.take (k+1)=l.take k++[l.getD k default]:=by rw [← hN]; exact (List.take_append_getElem hk).symm
 rw [ht,List.filter_append]
 congr 1
 simp only [List.filter_cons,List.filter_nil]
end Go.Shf
namespace Go.Proofs.Shf
open Go.AW Go.Proofs Go.Shf
theorem leastM_ok (B : Nat) (v : Cov) (cnt : AV) (x : Nat) (hx : x<v.marks.length) (hs : x<v.sieves.length) (hl : (v.marks.getD x default).length≤(v.sieves.getD x default).length) (hm : v.shape.frm.length≤40) (hml : (v.marks.getD x default).length≤1000000) :
  Pur Tryz.prog B 254 [.ptr (v.cells cnt),.int .i64 x] (iL (leastM v x)):=by
 refine ⟨fun H0=>c254.go fun hfi=>?_⟩;refine tt ?_;refine newBuf_own (.nil _) fun id5 H o=>tt ?_
 have hLl : (outs v.shape x).length≤40:=by
  rw [outs,List.length_map];refine Nat.le_trans (List.length_filter_le _ _) ?_;rw [List.length_range]; omega
 refine (outOf_ok B v.shape x).go fun _=>?_
 generalize hL : outs v.shape x=L at *
 generalize hP : (fun f=>chkP (v.sieves.getD x default) (v.marks.getD x default) f (v.marks.getD x default).length)=P
 have hR : leastM v x=L.filter P:=by rw [leastM,hL,hP]
 rw [hR]
 generalize hM : v.marks.getD x default=M at *
 generalize hS : v.sieves.getD x default=S at *;refine tt ?_
 refine awp_for [0,1,17,18] (G:=Nat) (fun k g=>[(5,some (.buf g ((L.take k).filter P).length)),(19,some (.int .i64 (k : Int)))])
  (fun k g H=>Owns H0 H [(g,.cells 1 (((L.take k).filter P).map iI) 0)]) L.length id5 o rfl ?_
 clear o
 rintro k id5 H hk o
 replace o : Owns H0 H [(id5,.cells 1 (((L.take k).filter P).map iI) 0)]:=o;refine tt ?_;apply bk <;> intro h1
 ·have h1p:=of_decide h1
  have w:=wsucc (k:=k) (by omega);refine tt ?_;refine ⟨h1p, ?_⟩
  generalize hf : L.getD k default=f at *
  have hPf : P f=chkP S M f M.length:=by rw [← hP]
  refine ⟨hx, ?_⟩;rw [hM]
  refine awp_for [0,1,5,7,17,18,19,29,30] (G:=Unit) (fun j _=>[(8,some (.bool (chkP S M f j))),(31,some (.int .i64 (j : Int)))])
   (fun j _ H'=>H'=H) M.length () rfl rfl ?_
  rintro j _ H' hj rfl;refine tt ?_;apply bk <;> intro h2
  ·have h2p:=of_decide h2
   have w2:=wsucc (k:=j) (by omega)
   have hsc:=chkP_succ S M f j
   cases hc : chkP S M f j with
   | false =>
    rw [hc,Bool.false_and] at hsc;refine tt ?_;refine ⟨h2p, ?_⟩;refine tw w2 ?_;exact for_next () h2p rfl (by rw [hsc])
   | true =>
    rw [hc,Bool.true_and] at hsc
    cases hmk : M.getD j default with
    | false =>
     rw [hmk] at hsc;refine tw hmk ?_;refine ⟨h2p, ?_⟩;refine tw w2 ?_;exact for_next () h2p rfl (by rw [hsc]; rfl)
    | true =>
     rw [hmk] at hsc;refine tw hmk ?_;refine ⟨h2p,hs, ?_⟩;rw [hS];refine ⟨by omega, ?_⟩;refine (has_ok B (S.getD j default) f).go fun _=>?_
     have hdd : dec (f∈S.getD j default)=decide (f∈S.getD j default):=by
      by_cases e : f∈S.getD j default
      ·rw [dec_iff.mpr e,decide_eq_true e]
      ·rw [dec_niff.mpr e,decide_eq_false e]
     rw [hdd];refine tw w2 ?_;exact for_next () h2p rfl (by rw [hsc]; rfl)
  ·have h2p:=of_ndecide h2
   obtain rfl : j=M.length:=by omega
   rw [← hPf]
   have hfs:=filter_take_succ P L h1p;rw [hf] at hfs
   cases hPv : P f with
   | false =>
    refine tw w ?_;rw [hPv] at hfs;simp only [Bool.false_eq_true,if_false,List.append_nil] at hfs;rw [← hfs] at o ⊢;exact for_next id5 h1p o rfl
   | true =>
    refine tt ?_;rw [hPv] at hfs;simp only [if_true] at hfs;refine app_own (f:=iI) f o rfl rfl (by have:=List.length_filter_le P (L.take k); rw [List.length_take] at this; simp only [maxL]; omega) fun id9 H o=>?_;rw [← hfs] at o ⊢;refine tw w ?_;exact for_next id9 h1p o rfl
 ·have h1p:=of_ndecide h1
  obtain rfl : k=L.length:=by omega
  rw [List.take_length] at o ⊢;refine tt ?_;refine fz_own o rfl fun H o=>tt ?_;exact pure_ret rfl o.sub
end Go.Proofs.Shf
namespace Go.Shf
open Go.AW
theorem mput_new {k x : AV} : ∀ {ks vs : List AV},(∀ a,a∈ks→k.keq a=false)→vs.length=ks.length→mput k x ks vs=(ks++[k],vs++[x])
 | [],vs,_,h=>by
  have : vs=[]:=List.eq_nil_of_length_eq_zero h;subst this; rfl
 | b::ks,[],_,h=>by simp at h
 | b::ks,v::vs,h1,h=>by
  simp only [mput,h1 b (by simp),Bool.false_eq_true,if_false];rw [mput_new (fun a ha=>h1 a (by simp [ha])) (by simpa using h)]
  rfl
theorem mget_str : ∀ {ks : List (List UInt8)} {vs : List AV},vs.length=ks.length→∀ s,mget (.str s) (ks.map AV.str) vs=vs[ks.idxOf s]?
 | [],vs,h,i=>by
  have : vs=[]:=List.eq_nil_of_length_eq_zero h;subst this; rfl
 | k::ks,[],h,i=>by simp at h
 | k::ks,v::vs,h,i=>by
  simp only [List.map_cons,mget,AV.keq,decide_eq_true_eq,List.idxOf_cons]
  by_cases e : i=k
  ·subst e; simp
  ·have h2 : (k == i)=false:=by simpa using fun h=>e h.symm
   rw [if_neg e,mget_str (by simpa using h),h2]; simp
theorem keyS_inj {a b : List Int} (ha : ∀ y,y∈a→0≤y∧y<255) (hb : ∀ y,y∈b→0≤y∧y<255) (h : keyS [a]=keyS [b]) : a=b:=by
 have h1 : a.map (fun y=>UInt8.ofNat (IntKind.u8.wrap y).toNat)=b.map (fun y=>UInt8.ofNat (IntKind.u8.wrap y).toNat):=by
  simp only [keyS,keyB,List.flatMap_cons,List.flatMap_nil,List.append_nil,List.map_append,List.map_map] at h;exact List.append_cancel_right h
 have hw : ∀ y : Int,0≤y∧y<255→IntKind.u8.wrap y=y:=fun y hy=>by
  have e : y % 256=y:=by omega
  simp only [IntKind.wrap,IntKind.bits,IntKind.signed]
  simpa using e
 clear h
 induction a generalizing b with
 | nil=>cases b with
  | nil=>rfl
  | cons y b=>simp at h1
 | cons x a ih=>cases b with
  | nil=>simp at h1
  | cons y b =>
   simp only [List.map_cons,List.cons.injEq] at h1
   have hx:=ha x (by simp)
   have hy:=hb y (by simp);rw [hw x hx,hw y hy] at h1
   have e : x=y:=by
    have h2:=congrArg UInt8.toNat h1.1;simp only [UInt8.toNat_ofNat'] at h2;omega
   rw [e,ih (fun z hz=>ha z (by simp [hz])) (fun z hz=>hb z (by simp [hz])) h1.2]
theorem plS_eq {L : List (List Int)} (nd : L.Nodup) (hb : ∀ l,l∈L→∀ y,y∈l→0≤y∧y<255) : ∀ k,k≤L.length→plS L k=(((L.take k).map fun l=>keyS [l]).map AV.str,(List.range k).map fun i : Nat=>iI (i : Int)):=by
 intro k
 induction k with
 | zero=>intro _; rfl
 | succ k ih =>
  intro hk
  have hk : k<L.length:=by omega
  rw [plS,ih (by omega),mput_new]
  ·rw [Go.Proofs.Shf.take_succ_getD L hk,List.range_succ]; simp
  ·intro a ha;simp only [List.map_map,List.mem_map,Function.comp_apply] at ha
   obtain ⟨l,hl,rfl⟩:=ha;simp only [AV.keq,decide_eq_false_iff_not]
   intro e
   have hm : L.getD k default∈L:=mem_getD.mpr ⟨k,hk,rfl⟩
   have:=keyS_inj (hb _ hm) (hb _ (List.mem_of_mem_take hl)) e;rw [← this] at hl
   obtain ⟨j,hj,e2⟩:=mem_getD.mp hl;rw [List.length_take] at hj
   have e3 : L.getD j default=L.getD k default:=by
    rw [← e2]; simp [List.getD_eq_getElem?_getD,List.getElem?_take,show j<k by omega]
   have h1:=indexOf_nodup nd (k:=j) (by omega)
   have h2:=indexOf_nodup nd hk;rw [e3,h2] at h1;omega
  ·simp
   omega
theorem plS_get {L : List (List Int)} (nd : L.Nodup) (hb : ∀ l,l∈L→∀ y,y∈l→0≤y∧y<255) {m : List Int} (hm : m∈L) : mget (.str (keyS [m])) (plS L L.length).1 (plS L L.length).2=some (iI (indexOf L m)):=by
 obtain ⟨k,hk,rfl⟩:=mem_getD.mp hm;rw [plS_eq nd hb _ (Nat.le_refl _),List.take_length,mget_str (by simp),indexOf_nodup nd hk]
 have : (L.map fun l=>keyS [l]).idxOf (keyS [L.getD k default])=k:=by
  have hnd : (L.map fun l=>keyS [l]).Nodup:=by
   rw [List.Nodup,List.pairwise_map];refine List.Pairwise.imp_of_mem ?_ nd
   intro a b ha hb2 hne e;exact hne (keyS_inj (hb a ha) (hb b hb2) e)
  have hk2 : k<(L.map fun l=>keyS [l]).length:=by simpa using hk
  have:=hnd.idxOf_getElem k hk2
  simpa [List.getD_eq_getElem?_getD,hk] using this
 rw [this]
 simp [hk]
end Go.Shf
namespace Go.AW
theorem LsO.focus {α β : Type} {f : α→AV} {g : β→AV} {H0 H : Heap} {x : Nat × MObj} {p r : List (Nat × MObj)} {X Y : AV} {A : List α} {C : List β} (h : LsO f H0 H (x::(p++r)) X A) (hp : LsP g p Y C) :
  ∃ q,LsP f q X A∧LsO g H0 H (x::(r++q)) Y C:=by
 obtain ⟨q,o,hq⟩:=h.split;refine ⟨q,hq,LsO.mk (p:=p) (o.perm ?_) hp⟩
 have:=perm_cba q [x] p r;refine (by simpa using this : (q++x::(p++r)).Perm (p++x::(q++r))).trans ?_;exact List.Perm.append_left p (.cons _ List.perm_append_comm)
end Go.AW
namespace Go.Shf
open Go.AW
def plE (L : List (List Int)) : AV:=.imap (plS L L.length).1 (plS L L.length).2
instance : One plE:=⟨fun _=>rfl,fun _=>rfl⟩
def leastV (v : Cov) : List (List Int):=(List.range v.marks.length).map (leastM v)
end Go.Shf
namespace Go.Proofs.Shf
open Go.AW Go.Proofs Go.Shf
@[go_sem] noncomputable def stepVal (f : SF) (V : List (List Int)) : AV:=.ptr [.ptr f.cells,iI f.shape.objs,iL f.shape.frm,iL f.shape.to,iL f.shape.idn,iLL f.shape.comp,iL (stepSizes f V),iLL (stepActs f V),iLL V,iLLL (famsOf f V),mL plE (famsOf f V)]
open Classical in
noncomputable def stepOr (f : SF) (V : List (List Int)) : AV:=if StepFew f V then stepVal f V else .nilp
theorem step_ok (B : Nat) (v : Cov) (cnt : AV) (f : SF) (h : f.Shape) (hsh : v.shape=f.shape) (hml : (v.marks.length : Int)=f.shape.objs) (hsl : v.sieves.length=v.marks.length)
  (hms : ∀ x,x<v.marks.length→(v.marks.getD x default).length≤(v.sieves.getD x default).length∧(v.marks.getD x default).length≤1000000)
  (c : CovOk f.shape (leastV v)) : Pur Tryz.prog B 177 [.ptr (v.cells cnt),.ptr f.cells] (.tup [stepOr f (leastV v),.bool (dec (StepFew f (leastV v)))]):=by
 obtain ⟨c0,sz,pl,sv,mk⟩:=v
 obtain rfl : c0=f.shape:=hsh;refine ⟨fun H0=>c177p.go fun hfi=>?_⟩
 have hm:=h.is.1.m
 have hob:=h.is.1.o
 have htl:=h.is.1.tol
 have hfl:=h.sl
 have hal:=h.al;simp only at hml hsl hms
 generalize hv : (⟨f.shape,sz,pl,sv,mk⟩ : Cov)=v at c ⊢
 have hvm : v.marks=mk:=by rw [← hv]
 have hvs : v.shape=f.shape:=by rw [← hv]
 have hvv : v.sieves=sv:=by rw [← hv]
 have hVl : (leastV v).length=mk.length:=by simp [leastV,hvm]
 have hLx : ∀ x,x<mk.length→(leastV v).getD x default=leastM v x:=fun x hx=>by rw [leastV,getD_map_range _ _ (by rw [hvm]; exact hx)]
 generalize hV : leastV v=V at *
 have hvc : v.cells cnt=[.ptr v.cls,.ptr f.shape.cells,mL (mL AV.bool) mk,cnt]:=by rw [Cov.cells,hvs,hvm]
 generalize hcls : v.cls=cls at hvc;rw [hvc];refine tt ?_;refine (catCopy_ok B f.shape).go fun _=>tt ?_
 let st : AV→AV→AV→AV→AV→MObj:=fun x6 x7 x8 x9 x10=>.cells 11 [.ptr f.cells,iI f.shape.objs,iL f.shape.frm,iL f.shape.to,iL f.shape.idn,iLL f.shape.comp,x6,x7,x8,x9,x10] 0
 refine nb (.nil _) fun id7 H o=>tt ?_
 refine awp_for [0,1,6,7] (G:=(AV × AV × AV × AV) × List (Nat × MObj) × List (Nat × MObj) × List (Nat × MObj)) (fun k g=>[(8,some (.int .i64 (k : Int)))])
  (fun k g H=>LsO iL H0 H ((id7,st g.1.1 .nilsl g.1.2.1 g.1.2.2.1 g.1.2.2.2)::(g.2.1++(g.2.2.1++g.2.2.2))) g.1.2.1 (V.take k)∧LsP iLL g.2.1 g.1.2.2.1 ((List.range k).map (famAt f V)) ∧
   LsP plE g.2.2.1 g.1.2.2.2 ((List.range k).map (famAt f V))∧LsP iI g.2.2.2 g.1.1 ((List.range k).map (sizeAt f V))∧∀ x,x<k→(famAt f V x).length≤16)
  f.shape.objs.toNat ((.nilsl,.nilsl,.nilsl,.nilsl),[],[],[]) ⟨.inl ⟨rfl,rfl,o⟩,.inl ⟨rfl,rfl,rfl⟩,.inl ⟨rfl,rfl,rfl⟩,.inl ⟨rfl,rfl,rfl⟩,by simp⟩ rfl ?_
 clear o
 rintro k ⟨⟨X6,X8,X9,X10⟩,p9,p10,p6⟩ H hk ⟨hX,h9,h10,h6,hall⟩;dsimp only at hX h9 h10 h6;refine tt ?_;apply bk <;> intro h1
 ·have h1p:=of_decide h1
  have hkm : k<mk.length:=by omega
  have w:=wsucc (k:=k) (by omega);refine tt ?_
  have hk2:=hms k hkm;rw [← hvm,← hvv] at hk2
  have hcv : AV.ptr [.ptr cls,.ptr f.shape.cells,mL (mL AV.bool) mk,cnt]=.ptr (v.cells cnt):=by rw [hvc]
  refine (show Pur Tryz.prog B 254 [.ptr [.ptr cls,.ptr f.shape.cells,mL (mL AV.bool) mk,cnt],.int .i64 k] (iL (leastM v k)) from by
   rw [hcv]; exact leastM_ok B v cnt k (by rw [hvm]; exact hkm) (by rw [hvv]; omega) hk2.1 (by rw [hvs]; exact hm) hk2.2).go fun _=>?_
  rw [← hLx k hkm];refine tt ?_;refine (families_ok B f h k (V.getD k default) (c.sv k (by omega)) 16 (by omega)).go fun _=>?_
  have hfa : famS f (V.getD k default)=famAt f V k:=rfl;rw [hfa]
  generalize hF : famAt f V k=F at *;refine tt ?_;apply bk <;> intro h2
  ·refine tt ?_
   have h2p : 16<F.length:=by simpa using h2
   have hno : ¬ StepFew f V:=fun e=>by have:=e k (by omega); rw [hF] at this; omega
   have hsub : H0.sub H:=by obtain ⟨_,oo,_⟩:=hX.split; exact oo.sub
   refine pure_ret ?_ hsub;rw [stepOr,if_neg hno,dec_f hno]
  ·have h2p : F.length≤16:=by simpa using h2
   have htk : F.take 17=F:=List.take_of_length_le (by omega);rw [htk];refine tt ?_;refine rd_get hX.obj (by simp [st]) ?_;refine tt ?_;refine hX.app (V.getD k default) rfl (by rw [List.length_take]; simp only [maxL]; omega) fun idn H o=>?_;rw [← take_succ_getD V (by omega)] at o ⊢;refine tt ?_;refine sw o.swap fun H o=>?_
   have hX : LsO iL H0 H ((id7,st X6 .nilsl (.buf idn (V.take (k+1)).length) X9 X10)::(p9++(p10++p6))) (.buf idn (V.take (k+1)).length) (V.take (k+1)):=.inr ⟨idn,rfl,o.swap⟩
   generalize (AV.buf idn (V.take (k+1)).length)=X8 at hX;clear o
   obtain ⟨p8,h8,hX⟩:=hX.focus h9;refine tt ?_;refine rd_get hX.obj (by simp [st]) ?_;refine tt ?_
   obtain ⟨Fk,hFk⟩ : ∃ Fk,Fk=(List.range (k+1)).map (famAt f V):=⟨_,rfl⟩
   obtain ⟨Sk,hSk⟩ : ∃ Sk,Sk=(List.range (k+1)).map (sizeAt f V):=⟨_,rfl⟩
   have e9 : (List.range k).map (famAt f V)++[F]=Fk:=by rw [hFk,List.range_succ,List.map_append,← hF]; rfl
   have e6 : (List.range k).map (sizeAt f V)++[(F.length : Int)]=Sk:=by
    rw [hSk,List.range_succ,List.map_append,← hF]; rfl
   have hsk:=c.sv k (by omega)
   have hsn:=hsk.len;rw [List.append_assoc] at hX;refine hX.app F rfl (by simp only [List.length_map,List.length_range,maxL]; omega) fun idn H o=>?_;rw [e9] at o ⊢;refine tt ?_;refine sw o.swap fun H o=>?_
   have hX : LsO iLL H0 H ((id7,st X6 .nilsl X8 (.buf idn Fk.length) X10)::(p10++(p6++p8))) (.buf idn Fk.length) Fk:=.inr ⟨idn,rfl,o.swap⟩
   generalize (AV.buf idn Fk.length)=X9 at hX;clear o
   obtain ⟨p9,h9,hX⟩:=hX.focus h10;rw [List.append_assoc] at hX;refine tt ?_;refine rd_get hX.obj (by simp [st]) ?_;refine tt ?_;refine ⟨_,(places_ok B F (by omega) fun l hl=>?_).run, ?_⟩
   ·rw [← hF] at hl
    have:=(((famS_is h hsk).mem l).mp hl).len;omega
   refine tt ?_;refine ⟨⟨rfl,fun c hc=>by cases List.mem_singleton.mp hc; rfl⟩, ?_⟩;refine hX.app (f:=plE) F rfl (by simp only [List.length_map,List.length_range,maxL]; omega) fun idn H o=>?_;rw [e9] at o ⊢;refine tt ?_;refine sw o.swap fun H o=>?_
   have hX : LsO plE H0 H ((id7,st X6 .nilsl X8 X9 (.buf idn Fk.length))::(p6++(p8++p9))) (.buf idn Fk.length) Fk:=.inr ⟨idn,rfl,o.swap⟩
   generalize (AV.buf idn Fk.length)=X10 at hX;clear o
   obtain ⟨p10,h10,hX⟩:=hX.focus h6;rw [List.append_assoc] at hX;refine tt ?_;refine rd_get hX.obj (by simp [st]) ?_;refine tt ?_;refine hX.app (F.length : Int) rfl (by simp only [List.length_map,List.length_range,maxL]; omega) fun idn H o=>?_;rw [e6] at o ⊢;refine tt ?_;refine sw o.swap fun H o=>?_
   have hX : LsO iI H0 H ((id7,st (.buf idn Sk.length) .nilsl X8 X9 X10)::(p8++(p9++p10))) (.buf idn Sk.length) Sk:=.inr ⟨idn,rfl,o.swap⟩
   generalize (AV.buf idn Sk.length)=X6 at hX;clear o
   obtain ⟨p6,h6,hX⟩:=hX.focus h8;rw [List.append_assoc] at hX;rw [hFk] at h9 h10;rw [hSk] at h6;refine tw w ?_;refine for_next ((X6,X8,X9,X10),p9,p10,p6) (by omega) ⟨hX,h9,h10,h6,fun x hx=>?_⟩ rfl
   by_cases e : x=k
   ·subst e; rw [hF]; exact h2p
   ·exact hall x (by omega)
 ·have h1p:=of_ndecide h1;refine tt ?_
  have hkn : k=V.length:=by omega
  have hfew : StepFew f V:=fun x hx=>hall x (by omega);rw [stepOr,if_pos hfew,dec_t hfew]
  have hVk : V.take k=V:=List.take_of_length_le (by omega);rw [hVk] at hX
  have hFk : (List.range k).map (famAt f V)=famsOf f V:=by rw [hkn]; rfl
  have hSk : (List.range k).map (sizeAt f V)=stepSizes f V:=by rw [hkn]; rfl
  rw [hFk] at h9 h10;rw [hSk] at h6;refine wk_ls 8 hX rfl fun H o=>?_;clear hX;simp only [List.set_cons_zero,List.set_cons_succ] at o
  have hX:=LsO.mk (o.perm List.perm_middle.symm) h9;clear o;refine wk_ls 9 hX rfl fun H o=>?_;clear hX;simp only [List.set_cons_zero,List.set_cons_succ] at o
  have hX:=LsO.mk (o.perm List.perm_middle.symm) h10;clear o;refine wk_ls 10 hX rfl fun H o=>?_;clear hX;simp only [List.set_cons_zero,List.set_cons_succ] at o
  have hX:=LsO.mk (p:=p6) (l:=[_]) (o.perm (List.perm_append_singleton _ _).symm) h6;clear o;refine wk_ls 6 hX rfl fun H o=>wkW_done ?_;clear hX;simp only [List.set_cons_zero,List.set_cons_succ] at o
  generalize hst : st=st2;clear hall h9 h10 h6 hst st2 st
  let st : AV→MObj:=fun x7=>.cells 11 [.ptr f.cells,iI f.shape.objs,iL f.shape.frm,iL f.shape.to,iL f.shape.idn,iLL f.shape.comp,iL (stepSizes f V),x7,iLL V,iLLL (famsOf f V),mL plE (famsOf f V)] 0
  refine tt ?_
  refine awp_for [6,7,98] (G:=AV) (fun a g=>[(99,some (.int .i64 (a : Int)))])
   (fun a X H=>LsO iL H0 H [(id7,st X)] X ((List.range a).map (actAt f V))) f.shape.frm.length .nilsl (.inl ⟨rfl,rfl,o⟩) rfl ?_
  clear o
  rintro a X H ha hX
  replace hX : LsO iL H0 H [(id7,st X)] X ((List.range a).map (actAt f V)):=hX;refine tt ?_;apply bk <;> intro h2
  ·have h2p:=of_decide h2
   have w2:=wsucc (k:=a) (by omega)
   have haa : 0≤(a : Int)∧(a : Int).toNat<f.shape.frm.length:=⟨by omega,by simpa using h2p⟩
   have hfo:=h.is.1.frmObj haa.2
   have hto:=h.is.1.toObj haa.2;simp only [ix_nat] at hfo hto
   obtain ⟨q,o,hq⟩:=hX.split;clear hX;refine tt ?_;refine ⟨h2p,by omega, ?_⟩;refine new_list iI o fun idr H o=>tt ?_
   have hF0 : ix (famsOf f V) (f.shape.frm.getD a default)=famAt f V (f.shape.frm.getD a default).toNat:=by rw [ix,famsOf,getD_map_range _ _ (by omega)]
   have hF1 : ix (famsOf f V) (f.shape.to.getD a default)=famAt f V (f.shape.to.getD a default).toNat:=by rw [ix,famsOf,getD_map_range _ _ (by omega)]
   have hfl2 : (famsOf f V).length=V.length:=by simp [famsOf]
   have hfs0 : (famAt f V (f.shape.frm.getD a default).toNat).length≤16:=hfew _ (by omega)
   have hv0:=c.frm h.is haa
   have hv1:=c.to h.is haa;simp only [ix_nat] at hv0 hv1
   have hl1:=hv1.len
   have hact : actAt f V a=(famAt f V (f.shape.frm.getD a default).toNat).map fun t=>indexOf (famAt f V (f.shape.to.getD a default).toNat) (movedF f.shape V a t):=rfl
   have hm0 : ∀ t,t∈famAt f V (f.shape.frm.getD a default).toNat→Fam f (ix V (f.shape.frm.getD a default)) t:=fun t ht=>((famS_is h hv0).mem t).mp ht
   have hm1 : ∀ t,t∈famAt f V (f.shape.to.getD a default).toNat↔Fam f (ix V (f.shape.to.getD a default)) t:=fun t=>(famS_is h hv1).mem t
   have hnd1 : (famAt f V (f.shape.to.getD a default).toNat).Nodup:=(famS_is h hv1).nodup
   have hmv : ∀ t,t∈famAt f V (f.shape.frm.getD a default).toNat→movedF f.shape V a t∈famAt f V (f.shape.to.getD a default).toNat:=fun t ht=>by
    rw [hm1]
    have:=moved_fam h c haa (t:=t) (by simp only [ix_nat]; exact hm0 t ht)
    simpa only [ix_nat] using this
   have hent : ∀ t,t∈famAt f V (f.shape.to.getD a default).toNat→∀ y,y∈t→0≤y∧y<255:=fun t ht y hy=>by
    have hft:=(hm1 t).mp ht
    obtain ⟨j,hj,rfl⟩:=mem_getD.mp hy
    have hj2 : j<(ix V (f.shape.to.getD a default)).length:=by rw [← hft.len]; exact hj
    have h1:=hft.ran j hj2
    have h2:=(fam_size h hv1 (i:=j) hj2);rw [h2.1] at h2;omega
   have hg7 : H.get id7=some (st X):=o.get (id7,st X) (by simp);refine rd_get hg7 (by simp [st]) ?_;refine tt ?_;refine ⟨⟨hfo.1,by omega⟩, ?_⟩;rw [hF0]
   generalize hF0v : famAt f V (f.shape.frm.getD a default).toNat=F0 at *
   generalize hF1v : famAt f V (f.shape.to.getD a default).toNat=F1 at *
   refine awp_for [6,7,12,13,14,98,99,123,124] (G:=Nat × List Int) (fun i g=>[(15,some (.buf g.1 g.2.length)),(125,some (.int .i64 (i : Int)))])
    (fun i g H=>g.2=(F0.take i).map (fun t=>indexOf F1 (movedF f.shape V a t))∧Owns H0 H ((g.1,.cells 1 (g.2.map iI) 0)::(q++[(id7,st X)]))) F0.length (idr,[]) ⟨by simp,o⟩ rfl ?_
   clear o hg7
   rintro i ⟨idr,row⟩ H hi ⟨hrow,o⟩;dsimp only at hrow o
   have hrl : row.length=i:=by rw [hrow,List.length_map,List.length_take]; omega
   refine tt ?_;apply bk <;> intro h3
   ·have h3p:=of_decide h3
    have w3:=wsucc (k:=i) (by omega);refine tt ?_;refine ⟨h3p, ?_⟩;refine new_list iI o fun idm H o=>?_
    have hg7 : H.get id7=some (st X):=o.get (id7,st X) (by simp);refine tt ?_;refine rd_get hg7 (by simp [st]) ?_;refine tt ?_;refine ⟨⟨hto.1,by omega⟩, ?_⟩
    have hTm : F0.getD i default∈F0:=mem_getD.mpr ⟨i,h3p,rfl⟩
    generalize hT : F0.getD i default=T at *
    have hTf:=hm0 T hTm
    generalize hW : ix V (f.shape.to.getD a default)=W at *
    generalize hU : ix V (f.shape.frm.getD a default)=U at *
    have hWs : f.shape.Sieve (f.shape.to.getD a default) W:=hv1
    have hUs : f.shape.Sieve (f.shape.frm.getD a default) U:=hv0
    have hWl:=hWs.len
    have hTl:=hTf.len
    refine awp_for [6,7,12,13,14,15,17,98,99,123,124,125,136,137] (G:=Nat × List Int) (fun n g=>[(18,some (.buf g.1 g.2.length)),(138,some (.int .i64 (n : Int)))])
     (fun n g H=>g.2=(W.take n).map (fun b=>ix T (indexOf U (ix (ix f.shape.comp a) b)))∧Owns H0 H ((g.1,.cells 1 (g.2.map iI) 0)::(idr,.cells 1 (row.map iI) 0)::(q++[(id7,st X)]))) W.length (idm,[]) ⟨by simp,o⟩ rfl ?_
    clear o hg7
    rintro n ⟨idm,mv⟩ H hnn ⟨hmvv,o⟩;dsimp only at hmvv o
    have hml2 : mv.length=n:=by rw [hmvv,List.length_map,List.length_take]; omega
    have hg7 : H.get id7=some (st X):=o.get (id7,st X) (by simp);refine tt ?_;apply bk <;> intro h4
    ·have h4p:=of_decide h4
     have w4:=wsucc (k:=n) (by omega);refine tt ?_
     have hb : W.getD n default∈W:=mem_getD.mpr ⟨n,h4p,rfl⟩
     have hbv:=hWs.arr hb
     have hst:=c.st a haa (W.getD n default) (by simp only [ix_nat]; rw [hW]; exact hb);simp only [ix_nat] at hst;rw [hU] at hst
     have hin:=indexOf_in hst
     have hrow:=h.is.1.row' (a:=(a : Int)) haa.2;simp only [ix_nat] at hrow;refine ⟨h4p, ?_⟩;refine rd_get hg7 (by simp [st]) ?_;refine tt ?_;refine ⟨⟨hfo.1,by omega⟩, ?_⟩;rw [hU];refine ⟨_,(catThen_ok B f.shape a (W.getD n default) ⟨by omega,by rw [h.is.1.cl]; exact haa.2⟩ ⟨hbv.1.1,by rw [ix_nat]; omega⟩).run,tt ?_⟩;refine ⟨_,(index_ok B U _).run,tt ?_⟩;try simp only [ix_nat] at hin
     refine ⟨⟨hin.1,by omega⟩, ?_⟩;refine app_own (f:=iI) (ix T (indexOf U (ix (ix f.shape.comp a) (W.getD n default)))) o (by simp only [ix_nat]) rfl (by simp only [maxL]; omega) fun idm H o=>?_;refine tw w4 ?_;exact for_next (_,_) (by omega) ⟨by rw [take_succ_getD W h4p,List.map_append,hmvv]; rfl,o⟩ rfl
    ·have h4p:=of_ndecide h4
     obtain rfl : n=W.length:=by omega
     rw [List.take_length] at hmvv
     have hmv2 : mv=movedF f.shape V a T:=by
      rw [hmvv,movedF];simp only [ix_nat];rw [hW,hU]
     refine tt ?_;refine fz_own o rfl fun H o=>?_
     have hg7 : H.get id7=some (st X):=o.get (id7,st X) (by simp);refine tt ?_;refine rd_get hg7 (by simp [st]) ?_;refine tt ?_;refine ⟨⟨hto.1,by omega⟩,_,(key_ok B [mv] (by simp [keyB]; omega)).run, ?_⟩;rw [hF1];simp only [plE];refine tt ?_;refine ⟨okKey_plS _ _ _, ?_⟩
     have hmm:=hmv T hTm;rw [← hmv2] at hmm;rw [plS_get hnd1 hent hmm];simp only [Option.getD_some];refine ⟨⟨rfl,fun c hc=>by cases List.mem_singleton.mp hc; rfl⟩, ?_⟩;refine app_own (f:=iI) (indexOf F1 mv) o rfl rfl (by simp only [maxL]; omega) fun idr H o=>?_;refine tw w3 ?_;exact for_next (_,_) (by omega) ⟨by rw [take_succ_getD F0 h3p,List.map_append,hT,hrow,hmv2]; rfl,o⟩ rfl
   ·have h3p:=of_ndecide h3
    obtain rfl : i=F0.length:=by omega
    rw [List.take_length,← hact] at hrow;refine tt ?_;refine fz_own o rfl fun H o=>tt ?_
    have hX : LsO iL H0 H [(id7,st X)] X ((List.range a).map (actAt f V)):=LsO.mk o hq;clear o;refine rd_get hX.obj (by simp [st]) ?_;refine tt ?_;refine hX.app row rfl (by simp only [List.length_map,List.length_range,maxL]; omega) fun idn H o=>tt ?_;refine sw o.swap fun H o=>?_
    have e7 : (List.range a).map (actAt f V)++[row]=(List.range (a+1)).map (actAt f V):=by rw [List.range_succ,List.map_append,hrow]; rfl
    have hX : LsO iL H0 H [(id7,st (.buf idn ((List.range a).map (actAt f V)++[row]).length))] (.buf idn ((List.range a).map (actAt f V)++[row]).length) ((List.range a).map (actAt f V)++[row]):=.inr ⟨idn,rfl,o.swap⟩
    generalize (AV.buf idn ((List.range a).map (actAt f V)++[row]).length)=X7 at hX;rw [e7] at hX;refine tw w2 ?_;exact for_next X7 (by omega) hX rfl
  ·have h2p:=of_ndecide h2
   obtain rfl : a=f.shape.frm.length:=by omega
   refine tt ?_;refine wk_ls 7 hX rfl fun H o=>?_;simp only [List.set_cons_zero,List.set_cons_succ] at o;refine wk_ref 7 o rfl fun H o=>wkW_done ?_;refine tt ?_;exact pure_ret rfl o.sub
end Go.Proofs.Shf
namespace Go.Shf
open Go.AW
def constF (c : Cat) (n : Int) : SF:=⟨c,List.replicate c.objs.toNat n,List.replicate c.frm.length ((List.range n.toNat).map Int.ofNat)⟩
theorem rep_succ {α : Type} (k : Nat) (a : α) : List.replicate (k+1) a=List.replicate k a++[a]:=List.replicate_succ'
end Go.Shf
namespace Go.Proofs.Shf
open Go.AW Go.Proofs Go.Shf
abbrev z7 : List AV:=[.int .i64 0,.nilsl,.nilsl,.nilsl,.nilsl,.nilsl,.nilsl]
theorem l19ConstG_ok (B : Nat) (c : Cat) (hob : 0≤c.objs∧c.objs≤4096) (hm : c.frm.length≤4096) (n : Int) (hn : 0≤n∧n≤100) : Pur Tryz.prog B 265 [.agg c.cells,iI n] (.agg (constF c n).cells):=by
 refine ⟨fun H0=>c265p.go fun hfi=>?_⟩
 have o : Owns H0 H0 []:=.nil _;refine tt ?_;refine nb o fun id4 H o=>tt ?_;refine (l02Own_ok B c).go fun _=>tt ?_;refine nb o fun id5 H o=>tt ?_;refine sw o fun H o=>?_
 let st : AV→AV→MObj:=fun x5 x6=>.cells 7 [iI c.objs,iL c.frm,iL c.to,iL c.idn,iLL c.comp,x5,x6] 0
 refine tt ?_;refine awp_for [1,2,4,5] (G:=AV) (fun k X=>[(6,some (.int .i64 (k : Int)))]) (fun k X H=>LsO iI H0 H ((id5,st X .nilsl)::[(id4,.cells 7 z7 0)]) X (List.replicate k n)) c.objs.toNat .nilsl (.inl ⟨rfl,rfl,o⟩) rfl ?_;clear o
 rintro k X H hk hX;refine tt ?_;apply bk <;> intro h1
 ·have h1p:=of_decide h1
  have w:=wsucc (k:=k) (by omega);refine tt ?_;refine rd_get hX.obj (by simp [st]) ?_;refine tt ?_;refine hX.app n rfl (by simp only [List.length_replicate,maxL]; omega) fun idn H o=>?_;rw [← rep_succ] at o ⊢;refine tt ?_;refine sw o.swap fun H o=>?_;refine tw w ?_;exact for_next _ (by omega) (.inr ⟨idn,rfl,o.swap⟩) rfl
 ·have h1p:=of_ndecide h1
  obtain rfl : k=c.objs.toNat:=by omega
  obtain ⟨p5,o,h5⟩:=hX.split
  have o : Owns H0 H ((id5,st X .nilsl)::(p5++[(id4,.cells 7 z7 0)])):=o.perm List.perm_middle;clear hX;refine tt ?_;refine awp_for [1,2,4,5] (G:=AV) (fun a Y=>[(7,some (.int .i64 (a : Int)))]) (fun a Y H=>LsO iL H0 H ((id5,st X Y)::(p5++[(id4,.cells 7 z7 0)])) Y (List.replicate a ((List.range n.toNat).map Int.ofNat))) c.frm.length .nilsl (.inl ⟨rfl,rfl,o⟩) rfl ?_;clear o
  rintro a Y H ha hY
  replace hY : LsO iL H0 H ((id5,st X Y)::(p5++[(id4,.cells 7 z7 0)])) Y (List.replicate a ((List.range n.toNat).map Int.ofNat)):=hY;refine tt ?_;apply bk <;> intro h2
  ·have h2p:=of_decide h2
   have w2:=wsucc (k:=a) (by omega)
   obtain ⟨q,o,hq⟩:=hY.split;clear hY;refine tt ?_;refine new_list iI o fun id8 H o=>tt ?_
   refine awp_for [1,2,4,5,7] (G:=Nat × List Int) (fun e g=>[(8,some (.buf g.1 g.2.length)),(9,some (.int .i64 (e : Int)))])
    (fun e g H=>g.2=(List.range e).map Int.ofNat∧Owns H0 H ((g.1,.cells 1 (g.2.map iI) 0)::(q++((id5,st X Y)::(p5++[(id4,.cells 7 z7 0)]))))) n.toNat (id8,[]) ⟨rfl,o⟩ rfl ?_
   clear o
   rintro e ⟨id8,row⟩ H he ⟨hrow,o⟩;dsimp only at hrow o
   have hrl : row.length=e:=by rw [hrow]; simp
   refine tt ?_;apply bk <;> intro h3
   ·have h3p:=of_decide h3
    have w3:=wsucc (k:=e) (by omega);refine tt ?_;refine app_own (e : Int) o rfl rfl (by simp only [maxL]; omega) fun id8 H o=>?_;refine tw w3 ?_;exact for_next (_,_) (by omega) ⟨by rw [hrow,List.range_succ]; simp,o⟩ rfl
   ·have h3p:=of_ndecide h3
    obtain rfl : e=n.toNat:=by omega
    refine tt ?_;refine fz_own o rfl fun H o=>?_
    have hY:=LsO.mk o hq;clear o;refine tt ?_;refine rd_get hY.obj (by simp [st]) ?_;refine tt ?_;refine hY.app row rfl (by simp only [List.length_replicate,maxL]; omega) fun idn H o=>?_;rw [hrow,← rep_succ] at o ⊢;refine tt ?_;refine sw o.swap fun H o=>?_;refine tw w2 ?_;exact for_next _ (by omega) (.inr ⟨idn,rfl,o.swap⟩) rfl
  ·have h2p:=of_ndecide h2
   obtain rfl : a=c.frm.length:=by omega
   refine tt ?_;refine wk_ls 6 hY rfl fun H o=>?_;simp only [List.set_cons_zero,List.set_cons_succ] at o
   have hX:=LsO.mk (o.perm List.perm_middle.symm) h5;clear o;refine wk_ls 5 hX rfl fun H o=>wkW_done ?_;simp only [List.set_cons_zero,List.set_cons_succ] at o;refine tt ?_;refine rd_celln o (by simp) ?_;refine tt ?_;refine sw o.swap fun H o=>tt ?_
   have hr:=o.rc 7 0 (by simp);simp only [List.drop_zero] at hr;rw [hr];exact pure_ret rfl o.sub
theorem l19Constant_ok (B : Nat) (c : Cat) (hc : c.Shape) (n : Int) (hn : 0≤n∧n≤100) : Pur Tryz.prog B 265 [.agg c.cells,iI n] (.agg (constF c n).cells) :=
 l19ConstG_ok B c (by have:=hc.o; omega) (by have:=hc.m; omega) n hn
def PreQ (c : Cat) (N : Nat) (r : AV) : Prop:=∃ f : SF,r=.agg f.cells∧f.Pre c N
theorem l19Free_ok (B : Nat) (c : Cat) (hc : c.Is) (os : List Int) (hos : os.length≤3) : Rets B 263 [.agg c.cells,iL os] (PreQ c 120):=by
 intro H0;refine c263p.go fun _=>?_
 have hm:=hc.1.m
 have hob:=hc.1.o
 have htl:=hc.1.tol
 have o : Owns H0 H0 []:=.nil _;refine tt ?_;refine nb o fun id4 H o=>tt ?_;refine ⟨⟨by omega,by simp only [maxL]; omega⟩, ?_⟩;rw [rep_one];refine newBuf_own o fun idL H o=>tt ?_
 refine awp_for [1,2,4,5] (G:=List AV × List (List (List Int)) × List (Nat × MObj)) (fun k _=>[(6,some (.int .i64 (k : Int)))])
  (fun k g H=>Owns H0 H ((idL,.cells 1 g.1 0)::(g.2.2++[(id4,.cells 7 z7 0)]))∧LsR iL g.1 g.2.1 g.2.2∧FreeI c os k 0 g.2.1) os.length (List.replicate c.objs.toNat .nilsl,List.replicate c.objs.toNat [],[]) ⟨o,LsR.rep iL _,.zero hob.1⟩ rfl ?_
 clear o
 rintro k ⟨Xs,LL,ob⟩ H hk ⟨o,hR,hI⟩;dsimp only at o hR hI;refine tt ?_;apply bk <;> intro h1
 ·have h1p:=of_decide h1
  have w1:=wsucc (k:=k) (by omega);refine tt ?_
  refine awp_for [1,2,4,5,6] (G:=List AV × List (List (List Int)) × List (Nat × MObj)) (fun h _=>[(7,some (.int .i64 (h : Int)))])
   (fun h g H=>Owns H0 H ((idL,.cells 1 g.1 0)::(g.2.2++[(id4,.cells 7 z7 0)]))∧LsR iL g.1 g.2.1 g.2.2∧FreeI c os k h g.2.1) c.frm.length (Xs,LL,ob) ⟨o,hR,hI⟩ rfl ?_
  clear o hR hI Xs LL ob
  rintro h ⟨Xs,LL,ob⟩ H hh ⟨o,hR,hI⟩;dsimp only at o hR hI;refine tt ?_;apply bk <;> intro h2
  ·have h2p:=of_decide h2
   have w2:=wsucc (k:=h) (by omega)
   have hto:=hc.1.toObj (f:=(h : Int)) (by simpa using h2p);rw [ix_nat] at hto
   have hXl:=hR.len
   have hLl:=hI.len
   have hbd:=hI.bd (c.to.getD h default).toNat
   have hkm : k*c.frm.length≤2*40:=Nat.mul_le_mul (by omega) hm;refine tt ?_;refine ⟨h2p,h1p, ?_⟩;apply bk <;> intro h3
   ·have h3p : c.frm.getD h default=os.getD k default:=of_decide h3;refine tt ?_;refine ⟨by omega,by omega,⟨hto.1,by omega⟩,rd_get o.h0 (by omega) ?_⟩;refine tt ?_;refine rows_app o hR (by omega) [(k : Int),(h : Int)] rfl (by show (LL.getD _ default).length+1≤maxL; simp only [maxL]; omega) fun X' o' H hX1 hR o=>?_;try simp only [go_sem,↓reduceIte,reduceEqDiff,reduceAdd,reduceMul,reduceLeDiff,reduceLT,AV.cells_one hX1]
    refine ⟨⟨hto.1,by omega⟩,st_cells o (by omega) rfl (by simp only [memcons,memnil]; exact ⟨hX1,trivial⟩) fun H o=>?_⟩;simp only [wr_cons,wr_nil] at o;refine tw w2 ?_;exact for_next (_,_,_) (by omega) ⟨o,hR,hI.hit hc.1 h1p h2p h3p⟩ rfl
   ·refine tw w2 ?_;exact for_next (_,_,_) (by omega) ⟨o,hR,hI.skip (of_ndecide h3)⟩ rfl
  ·have h2p:=of_ndecide h2
   obtain rfl : h=c.frm.length:=by omega
   refine tw w1 ?_;exact for_next (_,_,_) (by omega) ⟨o,hR,hI.next⟩ rfl
 ·have h1p:=of_ndecide h1
  obtain rfl : k=os.length:=by omega
  have hLl:=hI.len;refine tt ?_;refine wk_rows hR [] H o fun H o=>wkW_done ?_;rw [List.nil_append] at o;clear hR;refine tt ?_;refine fz_own (f:=iLL) o (by omega) fun H o=>tt ?_;refine (l02Own_ok B c).go fun _=>tt ?_;refine nb o fun id8 H o=>tt ?_;refine sw o fun H o=>?_
  let st : AV→AV→MObj:=fun x5 x6=>.cells 7 [iI c.objs,iL c.frm,iL c.to,iL c.idn,iLL c.comp,x5,x6] 0
  refine tt ?_
  have hpre:=free_pre hc hI (N:=120) (by have:=Nat.mul_le_mul hos hm; omega)
  have hof:=hI.of;clear hI;refine awp_for [2,4,5,8] (G:=AV) (fun k X=>[(9,some (.int .i64 (k : Int)))]) (fun k X H=>LsO iI H0 H ((id8,st X .nilsl)::[(id4,.cells 7 z7 0)]) X ((LL.take k).map fun l=>(l.length : Int))) LL.length .nilsl (.inl ⟨rfl,rfl,o⟩) rfl ?_;clear o
  rintro k X H hk hX;refine tt ?_;apply bk <;> intro h4
  ·have h4p:=of_decide h4
   have w:=wsucc (k:=k) (by omega);refine tt ?_;refine rd_get hX.obj (by simp [st]) ?_;refine tt ?_;refine ⟨h4p, ?_⟩;refine hX.app ((LL.getD k default).length : Int) rfl (by simp only [List.length_map,List.length_take,maxL]; omega) fun idn H o=>?_
   have e5 : ((LL.take k).map fun l=>(l.length : Int))++[((LL.getD k default).length : Int)]=(LL.take (k+1)).map fun l=>(l.length : Int):=by rw [take_one LL h4p]; simp
   rw [e5] at o ⊢;refine tt ?_;refine sw o.swap fun H o=>?_;refine tw w ?_;exact for_next _ (by omega) (.inr ⟨idn,rfl,o.swap⟩) rfl
  ·have h4p:=of_ndecide h4
   obtain rfl : k=LL.length:=by omega
   rw [List.take_length] at hX
   obtain ⟨p5,o,hp5⟩:=hX.split
   have o : Owns H0 H ((id8,st X .nilsl)::(p5++[(id4,.cells 7 z7 0)])):=o.perm List.perm_middle;clear hX;refine tt ?_;refine awp_for [2,4,5,8] (G:=AV) (fun a Y=>[(10,some (.int .i64 (a : Int)))]) (fun a Y H=>LsO iL H0 H ((id8,st X Y)::(p5++[(id4,.cells 7 z7 0)])) Y ((List.range a).map (freeAct c LL))) c.frm.length .nilsl (.inl ⟨rfl,rfl,o⟩) rfl ?_;clear o
   rintro a Y H ha hY
   replace hY : LsO iL H0 H ((id8,st X Y)::(p5++[(id4,.cells 7 z7 0)])) Y ((List.range a).map (freeAct c LL)):=hY;refine tt ?_;apply bk <;> intro h5
   ·have h5p:=of_decide h5
    have w2:=wsucc (k:=a) (by omega)
    have hfr:=hc.1.frmObj (f:=(a : Int)) (by simpa using h5p)
    have hto:=hc.1.toObj (f:=(a : Int)) (by simpa using h5p);rw [ix_nat] at hfr hto
    obtain ⟨q,o,hq⟩:=hY.split;clear hY;refine tt ?_;refine new_list iI o fun id11 H o=>tt ?_;refine ⟨h5p,⟨hfr.1,by omega⟩,by omega,⟨hto.1,by omega⟩, ?_⟩
    have eF : ix LL (c.frm.getD a default)=LL.getD (c.frm.getD a default).toNat default:=rfl
    have eT : ix LL (c.to.getD a default)=LL.getD (c.to.getD a default).toNat default:=rfl
    have hact : freeAct c LL a=(LL.getD (c.frm.getD a default).toNat default).map fun q=>indexOf (LL.getD (c.to.getD a default).toNat default) [ix q 0,(ix c.comp (ix q 1)).getD a default]:=rfl
    have hofF:=hof (c.frm.getD a default).toNat (by omega);rw [eF,eT]
    generalize hF : LL.getD (c.frm.getD a default).toNat default=F at *
    generalize hT : LL.getD (c.to.getD a default).toNat default=T at *
    have hFl : F.length≤200:=by
     have:=hpre.sz (F.length : Int) (List.mem_map.mpr ⟨F,by rw [← hF]; exact mem_getD.mpr ⟨_,by omega,rfl⟩,rfl⟩);omega
    refine awp_for [2,4,5,8,10,12,13] (G:=Nat × List Int) (fun e g=>[(11,some (.buf g.1 g.2.length)),(14,some (.int .i64 (e : Int)))])
     (fun e g H=>g.2=(F.take e).map (fun q=>indexOf T [ix q 0,(ix c.comp (ix q 1)).getD a default])∧Owns H0 H ((g.1,.cells 1 (g.2.map iI) 0)::(q++((id8,st X Y)::(p5++[(id4,.cells 7 z7 0)]))))) F.length (id11,[]) ⟨by simp,o⟩ rfl ?_
    clear o
    rintro e ⟨id11,row⟩ H he ⟨hrow,o⟩;dsimp only at hrow o
    have hrl : row.length=e:=by rw [hrow,List.length_map,List.length_take]; omega
    refine tt ?_;apply bk <;> intro h6
    ·have h6p:=of_decide h6
     have w3:=wsucc (k:=e) (by omega)
     obtain ⟨i,j,eq,hi,hj,_,_⟩:=hofF (F.getD e default) (mem_getD.mpr ⟨e,h6p,rfl⟩)
     have e0 : ix (F.getD e default) 0=(i : Int):=by rw [eq]; rfl
     have e1 : ix (F.getD e default) 1=(j : Int):=by rw [eq]; rfl
     have el : (F.getD e default).length=2:=by rw [eq]; rfl
     have hcl:=hc.1.cl
     have hrw:=hc.1.row' (a:=(j : Int)) (by simpa using hj);refine tt ?_;refine ⟨h6p,⟨by omega,by rw [el]; decide⟩,h6p,⟨by omega,by rw [el]; decide⟩, ?_⟩;rw [e0,e1];refine ⟨_,(l02Then_ok B c (j : Int) (a : Int) ⟨by omega,by rw [Int.toNat_natCast,hcl]; exact hj⟩ ⟨by omega,by rw [hrw]; simpa using h5p⟩).run,tt ?_⟩;refine ⟨_,(l05Place_ok B T [(i : Int),(ix c.comp (j : Int)).getD a default]).run,tt ?_⟩;refine app_own (indexOf T [(i : Int),(ix c.comp (j : Int)).getD a default]) o rfl rfl (by simp only [maxL]; omega) fun id11 H o=>?_;refine tw w3 ?_;refine for_next (_,_) (by omega) ⟨?_,o⟩ rfl;rw [take_one F h6p,List.map_append,← hrow,List.map_cons,List.map_nil,e0,e1]
    ·have h6p:=of_ndecide h6
     obtain rfl : e=F.length:=by omega
     rw [List.take_length,← hact] at hrow;refine tt ?_;refine fz_own o rfl fun H o=>?_
     have hY:=LsO.mk o hq;clear o;refine tt ?_;refine rd_get hY.obj (by simp [st]) ?_;refine tt ?_
     have e7 : (List.range a).map (freeAct c LL)++[row]=(List.range (a+1)).map (freeAct c LL):=by rw [map_range_succ,hrow]
     refine hY.app row rfl (by simp only [List.length_map,List.length_range,maxL]; omega) fun idn H o=>tt ?_;refine sw o.swap fun H o=>?_
     have hY : LsO iL H0 H ((id8,st X (.buf idn ((List.range a).map (freeAct c LL)++[row]).length))::(p5++[(id4,.cells 7 z7 0)])) (.buf idn ((List.range a).map (freeAct c LL)++[row]).length) ((List.range a).map (freeAct c LL)++[row]):=.inr ⟨idn,rfl,o.swap⟩
     generalize (AV.buf idn ((List.range a).map (freeAct c LL)++[row]).length)=Y' at hY;rw [e7] at hY;refine tw w2 ?_;exact for_next Y' (by omega) hY rfl
   ·have h5p:=of_ndecide h5
    obtain rfl : a=c.frm.length:=by omega
    refine tt ?_;refine wk_ls 6 hY rfl fun H o=>?_;simp only [List.set_cons_zero,List.set_cons_succ] at o
    have hX:=LsO.mk (o.perm List.perm_middle.symm) hp5;clear o;refine wk_ls 5 hX rfl fun H o=>wkW_done ?_;simp only [List.set_cons_zero,List.set_cons_succ] at o;refine tt ?_;refine rd_celln o (by simp) ?_;refine tt ?_;refine sw o.swap fun H o=>tt ?_
    have hr:=o.rc 7 0 (by simp);simp only [List.drop_zero] at hr;rw [hr];exact rets_ret ⟨freeF c LL,rfl,hpre⟩ o.sub
def AnyF (r : AV) : Prop:=∃ f : SF,r=.agg f.cells
def AnyFc (c : Cat) (r : AV) : Prop:=∃ f : SF,r=.agg f.cells∧f.shape=c∧f.acts.length≤40
def PairsOk (sz : List Int) (PP : List (List (List Int))) : Prop:=PP.length=sz.length∧∀ x : Nat,x<sz.length→∀ q,q∈PP.getD x default→2≤q.length∧(0≤q.getD 0 default∧q.getD 0 default<sz.getD x default)∧(0≤q.getD 1 default∧q.getD 1 default<sz.getD x default)
theorem l19Glue_ok (B : Nat) (f : SF) (c : Cat) (hc : c.Is) (hf : f.Pre c 120) (PP : List (List (List Int))) (hP : PairsOk f.sizes PP) : Rets B 264 [.agg f.cells,iLLL PP] (AnyFc c):=by
 intro H0;refine c264p.go fun _=>?_
 obtain ⟨rfl,hsl,hal,hsz,hact⟩:=hf
 have hm:=hc.1.m
 have hob:=hc.1.o
 have htl:=hc.1.tol
 have o : Owns H0 H0 []:=.nil _
 have hz0 : ∀ x,x<f.sizes.length→0≤f.sizes.getD x default∧f.sizes.getD x default≤120:=fun x hx=>hsz _ (mem_getD.mpr ⟨x,hx,rfl⟩);refine tt ?_;refine nb o fun id4 H o=>tt ?_;refine new_list iL o fun id5 H o=>tt ?_
 refine awp_for [1,2,4] (G:=Nat × List (List Int)) (fun k g=>[(5,some (.buf g.1 g.2.length)),(6,some (.int .i64 (k : Int)))])
  (fun k g H=>g.2=(List.range k).map (clsAt f.sizes PP)∧Owns H0 H [(g.1,.cells 1 (g.2.map iL) 0),(id4,.cells 7 z7 0)]) f.sizes.length (id5,[]) ⟨rfl,o⟩ rfl ?_
 clear o
 rintro k ⟨id5,CC⟩ H hk ⟨hCC,o⟩
 replace hCC : CC=(List.range k).map (clsAt f.sizes PP):=hCC
 replace o : Owns H0 H [(id5,.cells 1 (CC.map iL) 0),(id4,.cells 7 z7 0)]:=o
 have hCl : CC.length=k:=by rw [hCC]; simp
 refine tt ?_;apply bk <;> intro h1
 ·have h1p:=of_decide h1
  have w1:=wsucc (k:=k) (by omega)
  have hzk:=hz0 k h1p
  obtain ⟨n,hn⟩ : ∃ n : Nat,f.sizes.getD k default=n:=⟨_,(Int.toNat_of_nonneg hzk.1).symm⟩
  have hPk:=hP.2 k h1p
  have hcl : clsAt f.sizes PP k=joinL n (PP.getD k default):=by rw [clsAt,hn,Int.toNat_natCast]
  rw [hn] at hPk hzk;refine tt ?_;refine ⟨h1p,by rw [hP.1]; exact h1p, ?_⟩;rw [hn];refine ⟨_,(join_pok B n (by omega) (PP.getD k default) fun q hq=>?_).run, ?_⟩
  ·have:=hPk q hq; omega
  refine tt ?_;refine app_own (joinL n (PP.getD k default)) o rfl rfl (by simp only [maxL]; omega) fun id5 H o=>?_;refine tw w1 ?_;exact for_next (_,_) (by omega) ⟨by rw [hCC,map_range_succ,hcl],o⟩ rfl
 ·have h1p:=of_ndecide h1
  obtain rfl : k=f.sizes.length:=by omega
  have hK : ClsOk f.sizes CC:=by rw [hCC]; exact cls_join (fun y hy=>(hsz y hy).1) PP
  clear hCC;refine tt ?_;rw [hCl];refine tt ?_
  refine awp_while [2,4,5] (G:=Bool × List (List Int)) (fun g=>[(7,some (.bool g.1))]) (fun m g H=>(m=pot g.2+(if g.1=true then 1 else 0)∧ClsOk f.sizes g.2)∧Owns H0 H [(id5,.cells 1 (g.2.map iL) 0),(id4,.cells 7 z7 0)])
   (pot CC+1) (true,CC) ⟨⟨by simp,hK⟩,o⟩ rfl ?_
  clear o hK hCl CC
  rintro m ⟨more,CC⟩ H ⟨⟨hmm,hK⟩,o⟩
  replace hmm : m=pot CC+(if more=true then 1 else 0):=hmm
  replace hK : ClsOk f.sizes CC:=hK
  replace o : Owns H0 H [(id5,.cells 1 (CC.map iL) 0),(id4,.cells 7 z7 0)]:=o
  cases more;rotate_left 1
  ·refine tt ?_
   obtain ⟨P0,hP0⟩ : ∃ P0,P0=pot CC:=⟨_,rfl⟩;rw [← hP0] at hmm
   refine awp_for [2,4,5] (G:=Bool × List (List Int)) (fun a g=>[(7,some (.bool g.1)),(8,some (.int .i64 (a : Int)))])
    (fun a g H=>(pot g.2≤P0∧(g.1=true→pot g.2<P0)∧ClsOk f.sizes g.2)∧Owns H0 H [(id5,.cells 1 (g.2.map iL) 0),(id4,.cells 7 z7 0)]) f.acts.length (false,CC) ⟨⟨by simp [hP0],by simp,hK⟩,o⟩ rfl ?_
   clear o hK hP0 CC
   rintro a ⟨more,CC⟩ H ha ⟨⟨hp1,hp2,hK⟩,o⟩
   replace hp1 : pot CC≤P0:=hp1
   replace hp2 : more=true→pot CC<P0:=hp2
   replace hK : ClsOk f.sizes CC:=hK
   replace o : Owns H0 H [(id5,.cells 1 (CC.map iL) 0),(id4,.cells 7 z7 0)]:=o;refine tt ?_;apply bk <;> intro h2
   ·have h2p:=of_decide h2
    have w2:=wsucc (k:=a) (by omega)
    have ham : a<f.shape.frm.length:=by omega
    have hfr:=hc.1.frmObj (f:=(a : Int)) (by simpa using ham)
    have hto:=hc.1.toObj (f:=(a : Int)) (by simpa using ham)
    have hac:=hact a ham;rw [ix_nat] at hfr hto
    obtain ⟨x,hx⟩ : ∃ x : Nat,f.shape.frm.getD a default=x:=⟨_,(Int.toNat_of_nonneg hfr.1).symm⟩
    obtain ⟨y,hy⟩ : ∃ y : Nat,f.shape.to.getD a default=y:=⟨_,(Int.toNat_of_nonneg hto.1).symm⟩;rw [hx,hy,ix_nat,ix_nat] at hac;rw [hx] at hfr;rw [hy] at hto
    have hxl : x<f.sizes.length:=by omega
    have hyl : y<f.sizes.length:=by omega
    have hzx:=hz0 x hxl
    have hzy:=hz0 y hyl
    obtain ⟨n,hn⟩ : ∃ n : Nat,f.sizes.getD x default=n:=⟨_,(Int.toNat_of_nonneg hzx.1).symm⟩
    obtain ⟨ny,hny⟩ : ∃ n : Nat,f.sizes.getD y default=n:=⟨_,(Int.toNat_of_nonneg hzy.1).symm⟩;rw [hn] at hac hzx;rw [hny] at hac hzy;refine tt ?_;refine ⟨ham,by omega, ?_⟩;rw [hx,hy];refine tt ?_
    refine awp_for [2,4,5,8,9,10] (G:=Bool × List (List Int)) (fun d g=>[(7,some (.bool g.1)),(11,some (.int .i64 (d : Int)))])
     (fun d g H=>(pot g.2≤P0∧(g.1=true→pot g.2<P0)∧ClsOk f.sizes g.2)∧Owns H0 H [(id5,.cells 1 (g.2.map iL) 0),(id4,.cells 7 z7 0)]) n (more,CC) ⟨⟨hp1,hp2,hK⟩,o⟩ rfl ?_
    clear o hp1 hp2 hK
    rintro d ⟨more,CC⟩ H hd ⟨⟨hp1,hp2,hK⟩,o⟩
    replace hp1 : pot CC≤P0:=hp1
    replace hp2 : more=true→pot CC<P0:=hp2
    replace hK : ClsOk f.sizes CC:=hK
    replace o : Owns H0 H [(id5,.cells 1 (CC.map iL) 0),(id4,.cells 7 z7 0)]:=o
    have hkx:=hK.row x hxl
    have hkl:=hK.len;rw [hn] at hkx;refine tt ?_;refine ⟨hxl,rd_own o (by omega) ?_⟩
    have ecl : (CC.getD x default).length=n:=by omega
    refine tw ecl ?_;apply bk <;> intro h3
    ·have h3p:=of_decide h3
     have w3:=wsucc (k:=d) (by omega);refine tt ?_
     refine awp_for [2,4,5,8,9,10,11] (G:=Bool × List (List Int)) (fun e g=>[(7,some (.bool g.1)),(12,some (.int .i64 (e : Int)))])
      (fun e g H=>(pot g.2≤P0∧(g.1=true→pot g.2<P0)∧ClsOk f.sizes g.2)∧Owns H0 H [(id5,.cells 1 (g.2.map iL) 0),(id4,.cells 7 z7 0)]) d (more,CC) ⟨⟨hp1,hp2,hK⟩,o⟩ rfl ?_
     clear o hp1 hp2 hK hkx hkl ecl
     rintro e ⟨more,CC⟩ H he ⟨⟨hp1,hp2,hK⟩,o⟩
     replace hp1 : pot CC≤P0:=hp1
     replace hp2 : more=true→pot CC<P0:=hp2
     replace hK : ClsOk f.sizes CC:=hK
     replace o : Owns H0 H [(id5,.cells 1 (CC.map iL) 0),(id4,.cells 7 z7 0)]:=o
     have hkx:=hK.row x hxl
     have hky:=hK.row y hyl
     have hkl:=hK.len;rw [hn] at hkx;rw [hny] at hky;refine tt ?_;apply bk <;> intro h4
     ·have h4p:=of_decide h4
      have w4:=wsucc (k:=e) (by omega)
      have hu:=hac.2 _ (mem_getD.mpr ⟨d,by omega,rfl⟩)
      have hv:=hac.2 _ (mem_getD.mpr ⟨e,by omega,rfl⟩);refine tt ?_;refine ⟨h2p,by omega,h2p,by omega, ?_⟩
      generalize (f.acts.getD a default).getD d default=u at hu ⊢
      generalize (f.acts.getD a default).getD e default=v at hv ⊢;refine tt ?_;refine ⟨hxl,rd_own o (by omega) ?_⟩;refine tt ?_;refine ⟨by omega,hxl,rd_own o (by omega) ?_⟩;refine tt ?_;refine ⟨by omega, ?_⟩;apply bk <;> intro h5
      ·refine tw h5 ?_
       have hlx : (CC.getD y default).length=ny:=by omega
       refine ⟨hyl,rd_own o (by omega) ?_⟩;refine tt ?_;refine ⟨⟨hu.1,by omega⟩,hyl,rd_own o (by omega) ?_⟩;refine tt ?_;refine ⟨⟨hv.1,by omega⟩, ?_⟩;apply bk <;> intro h6
       ·refine tt ?_
        have h6p:=dd h6
        have h6p : ix (CC.getD y default) u≠ix (CC.getD y default) v:=h6p
        have hul : 0≤u∧u.toNat<(CC.getD y default).length:=⟨hu.1,by omega⟩
        have hvl : 0≤v∧v.toNat<(CC.getD y default).length:=⟨hv.1,by omega⟩
        have hpo:=pairsOf_ok hul hvl;rw [hlx] at hpo
        have hgl:=joinL_glued (n:=ny) (ps:=pairsOf (CC.getD y default)++[[u,v]]) fun q hq=>⟨(hpo q hq).2.1.2,(hpo q hq).2.2.2⟩
        have hless:=glued_less (by rw [joinL_len,hlx]) hul hvl h6p hgl
        have hset:=hK.set hyl (m:=joinL ny (pairsOf (CC.getD y default)++[[u,v]])) (by rw [joinL_len,hny]) fun w hw=>by rw [hny]; exact joinL_ran hw
        have hpot:=pot_set CC y _ (by omega) hless;refine ⟨hyl,hyl,rd_own o (by omega) ?_⟩;rw [hny];refine tt ?_;refine (l01Pairs_own B (CC.getD y default) _ _ _ o).own fun idp A H o hA=>?_;subst hA
        have hpl : (pairsOf (CC.getD y default)).length=ny:=by rw [pairsOf,List.length_map,List.length_range,hlx]
        refine tt ?_;refine app_own [u,v] o rfl rfl (by simp only [maxL]; omega) fun idp H o=>tt ?_;refine call_fz 1 rfl o rfl fun H o=>?_;refine (join_pok B ny (by omega) (pairsOf (CC.getD y default)++[[u,v]]) hpo).go fun _=>tt ?_;refine ⟨hyl,set_own (f:=iL) (joinL ny (pairsOf (CC.getD y default)++[[u,v]])) o rfl (by omega) fun H o=>?_⟩;refine tw w4 ?_;exact for_next (true,_) (by omega) ⟨⟨Nat.le_trans (Nat.le_of_lt hpot) hp1,fun _=>Nat.lt_of_lt_of_le hpot hp1,hset⟩,o⟩ rfl
       ·refine tw w4 ?_;exact for_next (more,CC) (by omega) ⟨⟨hp1,hp2,hK⟩,o⟩ rfl
      ·try simp only [go_sem,↓reduceIte,reduceEqDiff,reduceAdd,reduceMul,reduceLeDiff,reduceLT,h5,w4]
       exact for_next (more,CC) (by omega) ⟨⟨hp1,hp2,hK⟩,o⟩ rfl
     ·have h4p:=of_ndecide h4
      obtain rfl : e=d:=by omega
      refine tw w3 ?_;exact for_next (more,CC) (by omega) ⟨⟨hp1,hp2,hK⟩,o⟩ rfl
    ·have h3p:=of_ndecide h3
     obtain rfl : d=n:=by omega
     refine tw w2 ?_;exact for_next (more,CC) (by omega) ⟨⟨hp1,hp2,hK⟩,o⟩ rfl
   ·have h2p:=of_ndecide h2
    obtain rfl : a=f.acts.length:=by omega
    refine tt ?_
    cases more
    ·exact while_next (pot CC) (false,CC) (by simp at hmm; omega) ⟨⟨by simp,hK⟩,o⟩ rfl
    ·have:=hp2 rfl;exact while_next (pot CC+1) (true,CC) (by simp at hmm; omega) ⟨⟨by simp,hK⟩,o⟩ rfl
  ·clear hmm
   have hkl:=hK.len
   have hcx : ∀ x,x<f.sizes.length→(CC.getD x default).length≤120:=fun x hx=>by have:=hK.row x hx; have:=hz0 x hx; omega
   have hmx : ∀ x,x<f.sizes.length→(0≤mxL (CC.getD x default)∧mxL (CC.getD x default)≤f.sizes.getD x default)∧∀ v,v∈CC.getD x default→v<mxL (CC.getD x default) :=
    fun x hx=>mxL_bd (hz0 x hx).1 (hK.ran x hx)
   refine tt ?_;refine fz_own o hkl.symm fun H o=>tt ?_;refine (l02Own_ok B f.shape).go fun _=>tt ?_;refine nb o fun id8 H o=>tt ?_;refine sw o fun H o=>?_
   let st : AV→AV→MObj:=fun x5 x6=>.cells 7 [iI f.shape.objs,iL f.shape.frm,iL f.shape.to,iL f.shape.idn,iLL f.shape.comp,x5,x6] 0
   refine tt ?_;refine awp_for [2,4,5,15] (G:=AV) (fun k X=>[(16,some (.int .i64 (k : Int)))]) (fun k X H=>LsO iI H0 H ((id8,st X .nilsl)::[(id4,.cells 7 z7 0)]) X ((CC.take k).map mxL)) CC.length .nilsl (.inl ⟨rfl,rfl,o⟩) rfl ?_;clear o
   rintro k X H hk hX;refine tt ?_;apply bk <;> intro h1
   ·have h1p:=of_decide h1
    have w1:=wsucc (k:=k) (by omega)
    obtain ⟨p,o,hp⟩:=hX.split;clear hX
    have hck:=hcx k (by omega)
    have hrk:=hK.ran k (by omega)
    have hzk:=hz0 k (by omega);refine tt ?_;refine awp_for [2,4,5,15,16] (G:=Unit) (fun e _=>[(17,some (.int .i64 (mxL ((CC.getD k default).take e)))),(18,some (.int .i64 (e : Int)))]) (fun e _ H=>Owns H0 H (p++((id8,st X .nilsl)::[(id4,.cells 7 z7 0)]))) (CC.getD k default).length () o rfl ?_;clear o
    rintro e _ H he o;refine tt ?_;refine ⟨h1p, ?_⟩;apply bk <;> intro h2
    ·have h2p:=of_decide h2
     have w2:=wsucc (k:=e) (by omega)
     have hv:=hrk _ (mem_getD.mpr ⟨e,h2p,rfl⟩)
     have w3 : IntKind.i64.wrap ((CC.getD k default).getD e default+1)=(CC.getD k default).getD e default+1:=wrap_i64 (by omega) (by omega)
     have hms:=mxL_succ (CC.getD k default) h2p;refine tt ?_;refine ⟨h1p,h2p, ?_⟩;rw [w3,← hms];refine tw w2 ?_;exact for_next () (by omega) o rfl
    ·have h2p:=of_ndecide h2
     obtain rfl : e=(CC.getD k default).length:=by omega
     rw [List.take_length]
     have hX:=LsO.mk o hp;clear o;refine tt ?_;refine rd_get hX.obj (by simp [st]) ?_;refine tt ?_
     have e7 : (CC.take k).map mxL++[mxL (CC.getD k default)]=(CC.take (k+1)).map mxL:=by rw [take_one CC h1p]; simp
     refine hX.app (mxL (CC.getD k default)) rfl (by simp only [List.length_map,List.length_take,maxL]; omega) fun idn H o=>?_;rw [e7] at o ⊢;refine tt ?_;refine sw o.swap fun H o=>?_;refine tw w1 ?_;exact for_next _ (by omega) (.inr ⟨idn,rfl,o.swap⟩) rfl
   ·have h1p:=of_ndecide h1
    obtain rfl : k=CC.length:=by omega
    rw [List.take_length] at hX
    obtain ⟨p5,o,hp5⟩:=hX.split
    have o : Owns H0 H ((id8,st X .nilsl)::(p5++[(id4,.cells 7 z7 0)])):=o.perm List.perm_middle;clear hX;refine tt ?_;refine awp_for [2,4,5,15] (G:=AV × List (List Int)) (fun a Y=>[(19,some (.int .i64 (a : Int)))]) (fun a Y H=>Y.2.length=a∧LsO iL H0 H ((id8,st X Y.1)::(p5++[(id4,.cells 7 z7 0)])) Y.1 Y.2) f.acts.length (.nilsl,[]) ⟨rfl,.inl ⟨rfl,rfl,o⟩⟩ rfl ?_;clear o
    rintro a ⟨Y,RR⟩ H ha ⟨hRR,hY⟩
    replace hRR : RR.length=a:=hRR
    replace hY : LsO iL H0 H ((id8,st X Y)::(p5++[(id4,.cells 7 z7 0)])) Y RR:=hY;refine tt ?_;apply bk <;> intro h2
    ·have h2p:=of_decide h2
     have w2:=wsucc (k:=a) (by omega)
     have ham : a<f.shape.frm.length:=by omega
     have hfr:=hc.1.frmObj (f:=(a : Int)) (by simpa using ham)
     have hto:=hc.1.toObj (f:=(a : Int)) (by simpa using ham)
     have hac:=hact a ham;rw [ix_nat] at hfr hto
     obtain ⟨x,hx⟩ : ∃ x : Nat,f.shape.frm.getD a default=x:=⟨_,(Int.toNat_of_nonneg hfr.1).symm⟩
     obtain ⟨y,hy⟩ : ∃ y : Nat,f.shape.to.getD a default=y:=⟨_,(Int.toNat_of_nonneg hto.1).symm⟩;rw [hx,hy,ix_nat,ix_nat] at hac;rw [hx] at hfr;rw [hy] at hto
     have hxl : x<f.sizes.length:=by omega
     have hyl : y<f.sizes.length:=by omega
     have hzx:=hz0 x hxl
     have hkx:=hK.row x hxl
     have hky:=hK.row y hyl
     have hmxx:=hmx x hxl;refine tt ?_;refine ⟨ham,by omega, ?_⟩;rw [hx,hy];refine tt ?_
     obtain ⟨idX,rfl,rfl⟩:=hp5.sub (i:=x) (by rw [List.length_map]; omega);refine rd_get hY.obj (by simp [st]) ?_;refine tt ?_;refine ⟨by rw [List.length_map]; omega,rd_inner (f:=iI) (hY.get (x:=(idX,.cells 1 ((CC.map mxL).map iI) 0)) (by simp)) (by rw [List.length_map]; omega) ?_⟩;rw [map_getD mxL (show x<CC.length by omega)]
     obtain ⟨n,hn⟩ : ∃ n : Nat,mxL (CC.getD x default)=n:=⟨_,(Int.toNat_of_nonneg hmxx.1.1).symm⟩;rw [hn] at hmxx ⊢
     obtain ⟨q,o,hq⟩:=hY.split;clear hY;refine tt ?_;refine ⟨⟨by omega,by simp only [maxL]; omega⟩,mks_list iI 0 rfl o fun id22 H o=>?_⟩;refine tt ?_
     have hrep : (List.replicate n (0 : Int)).length=n:=List.length_replicate
     refine awp_for [2,4,5,15,19,20,21,22] (G:=List Int) (fun e _=>[(23,some (.int .i64 (e : Int)))])
      (fun e A H=>A.length=n∧Owns H0 H ((id22,.cells 1 (A.map iI) 0)::(q++((id8,st (.buf idX (CC.map mxL).length) Y)::([(idX,.cells 1 ((CC.map mxL).map iI) 0)]++[(id4,.cells 7 z7 0)]))))) (CC.getD x default).length (List.replicate n 0) ⟨hrep,o⟩ rfl ?_
     clear o
     rintro e A H he ⟨hA,o⟩;refine tt ?_;refine ⟨by omega, ?_⟩;apply bk <;> intro h3
     ·have h3p:=of_decide h3
      have w3:=wsucc (k:=e) (by omega)
      have hcv:=hmxx.2 _ (mem_getD.mpr ⟨e,h3p,rfl⟩)
      have hcr:=hK.ran x hxl _ (mem_getD.mpr ⟨e,h3p,rfl⟩)
      have hav:=hac.2 _ (mem_getD.mpr ⟨e,by omega,rfl⟩);refine tt ?_;refine ⟨by omega,h3p,by omega,h2p,by omega,⟨hav.1,by omega⟩,⟨hcr.1,by omega⟩, ?_⟩;refine set_own (f:=iI) _ o rfl (by omega) fun H o=>?_;refine tw w3 ?_;exact for_next (A.set _ _) (by omega) ⟨by rw [List.length_set]; exact hA,o⟩ rfl
     ·have h3p:=of_ndecide h3
      obtain rfl : e=(CC.getD x default).length:=by omega
      refine tt ?_;refine fz_own o hA.symm fun H o=>?_
      have hY:=LsO.mk o hq;clear o;refine tt ?_;refine rd_get hY.obj (by simp [st]) ?_;refine tt ?_;refine hY.app A rfl (by simp only [maxL]; omega) fun idn H o=>tt ?_;refine sw o.swap fun H o=>?_;refine tw w2 ?_;exact for_next (.buf idn (RR++[A]).length,RR++[A]) (by omega) ⟨by show (RR++[A]).length=_; simp [hRR],.inr ⟨idn,rfl,o.swap⟩⟩ rfl
    ·have h2p:=of_ndecide h2
     obtain rfl : a=f.acts.length:=by omega
     refine tt ?_;refine wk_ls 6 hY rfl fun H o=>?_;simp only [List.set_cons_zero,List.set_cons_succ] at o
     have hX:=LsO.mk (o.perm List.perm_middle.symm) hp5;clear o;refine wk_ls 5 hX rfl fun H o=>wkW_done ?_;simp only [List.set_cons_zero,List.set_cons_succ] at o;refine tt ?_;refine rd_celln o (by simp) ?_;refine tt ?_;refine sw o.swap fun H o=>tt ?_
     have hr:=o.rc 7 0 (by simp);simp only [List.drop_zero] at hr;rw [hr];exact rets_ret ⟨⟨f.shape,CC.map mxL,RR⟩,rfl,rfl,by show RR.length≤40; omega⟩ o.sub
theorem rep_nil {α : Type} (n x : Nat) : (List.replicate n ([] : List α)).getD x default=[]:=by
 rw [List.getD_eq_getElem?_getD,List.getElem?_replicate]
 split <;> rfl
theorem PairsOk.add {sz : List Int} {PP : List (List (List Int))} (h : PairsOk sz PP) {x : Nat} (hx : x<sz.length) {a b : Int} (ha : 0≤a∧a<sz.getD x default) (hb : 0≤b∧b<sz.getD x default) :
  PairsOk sz (PP.set x (PP.getD x default++[[a,b]])):=by
 refine ⟨by rw [List.length_set]; exact h.1,fun y hy q hq=>?_⟩;rw [getD_setD _ _ (by rw [h.1]; exact hx)] at hq
 by_cases e : y=x
 ·rw [if_pos e] at hq;subst e
  rcases List.mem_append.mp hq with hq | hq
  ·exact h.2 y hy q hq
  ·rw [List.mem_singleton] at hq;subst hq;exact ⟨by simp,ha,hb⟩
 ·rw [if_neg e] at hq; exact h.2 y hy q hq
theorem l19Some_ok (B : Nat) (c : Cat) (hc : c.Is) (size : Int) (hsize : 0≤size∧size≤1000) : Rd B 196 [.agg c.cells,iI size] (AnyFc c):=by
 intro id s H0 H hs o;refine c196p.go fun _=>?_
 have hm:=hc.1.m
 have hob:=hc.1.o;refine tt ?_;refine nb o fun id6 H o=>tt ?_;refine awp_for [0,2,4,6] (G:=Src) (fun k _=>[(7,some (.int .i64 (k : Int)))]) (fun k s H=>s.Ok∧Owns H0 H [(id,s.obj),(id6,.cells 7 z7 0)]) 6 s ⟨hs,o.swap⟩ rfl ?_;clear o hs
 rintro k s H hk ⟨hs,o⟩;refine tt ?_;apply bk <;> intro h1
 ·have h1p:=of_decide h1
  have w1:=wsucc (k:=k) (by omega);refine tt ?_;refine new_list iI o fun id8 H o=>tt ?_;refine (l01Next_ok B 4).go hs o.swap fun r s H _ ⟨v,e,v0,v1,_⟩ hs o=>?_;subst e
  have hv:=v1 (by omega)
  obtain ⟨n,rfl⟩ : ∃ n : Nat,v=n:=⟨_,(Int.toNat_of_nonneg v0).symm⟩;clear v0 v1;refine tt ?_
  refine awp_while [0,2,4,6,7] (G:=Src × (Nat × List Int) × Nat) (fun g=>[(8,some (.buf g.2.1.1 g.2.1.2.length)),(9,some (.int .i64 (g.2.2 : Int)))])
   (fun m g H=>m=g.2.2∧g.1.Ok∧g.2.1.2.length+g.2.2≤3∧Owns H0 H [(id,g.1.obj),(g.2.1.1,.cells 1 (g.2.1.2.map iI) 0),(id6,.cells 7 z7 0)]) n (s,(id8,[]),n) ⟨rfl,hs,by simp; omega,o⟩ rfl ?_
  clear o hs
  rintro m ⟨s,⟨id8,os⟩,n⟩ H ⟨hmn,hs,hos,o⟩;dsimp only at hmn hs hos o;refine tt ?_;apply bk <;> intro h2
  focus
   refine tw h2 ?_;apply bk <;> intro h3
   focus
    have h2p:=of_decide h2
    have w2 : IntKind.i64.wrap ((n : Int) - 1)=((n - 1 : Nat) : Int):=by rw [wrap_i64 (by omega) (by omega)]; omega
    refine tw h3 ?_;refine (l01Next_ok B c.objs).go hs o fun r s H _ ⟨v,e,_⟩ hs o=>?_;subst e;refine tt ?_;refine app_own v o.swap rfl rfl (by simp only [maxL]; omega) fun id8 H o=>?_;refine tw w2 ?_;exact while_next (n - 1) (s,(id8,os++[v]),n - 1) (by omega) ⟨rfl,hs,by simp; omega,o.swap⟩ rfl
   refine tw h3 ?_
  rotate_left 1
  focus
   refine tw h2 ?_
  all_goals
   refine fz_own o.swap rfl fun H o=>tt ?_;refine (l19Free_ok B c hc os (by omega)).go fun r _ ⟨f,e,hf⟩=>?_;subst e;refine tt ?_;refine nb o fun id10 H o=>tt ?_;refine sw o fun H o=>tt ?_;refine ⟨⟨by omega,by simp only [maxL]; omega⟩, ?_⟩;rw [rep_one];refine newBuf_own o fun id11 H o=>tt ?_;refine (l01Next_ok B 4).go hs (o.pull [_,_]) fun r s H _ ⟨v,e,v0,v1,_⟩ hs o=>?_;subst e
   have hv:=v1 (by omega)
   obtain ⟨n,rfl⟩ : ∃ n : Nat,v=n:=⟨_,(Int.toNat_of_nonneg v0).symm⟩;clear v0 v1;refine tt ?_
   have hsl:=hf.sl
   have hzf : ∀ x,x<f.sizes.length→0≤f.sizes.getD x default∧f.sizes.getD x default≤120:=fun x hx=>hf.sz _ (mem_getD.mpr ⟨x,hx,rfl⟩)
   refine awp_while [0,2,4,6,7,10,11] (G:=Src × (List AV × List (List (List Int)) × Ob) × Nat) (fun g=>[(12,some (.int .i64 (g.2.2 : Int)))])
    (fun m g H=>m=g.2.2∧g.1.Ok∧LsR iL g.2.1.1 g.2.1.2.1 g.2.1.2.2∧PairsOk f.sizes g.2.1.2.1∧(∀ x,(g.2.1.2.1.getD x default).length+g.2.2≤3) ∧
     Owns H0 H ((id,g.1.obj)::(id11,.cells 1 g.2.1.1 0)::(g.2.1.2.2++[(id10,MObj.cells 7 f.cells 0),(id6,MObj.cells 7 z7 0)]))) n (s,(List.replicate c.objs.toNat .nilsl,List.replicate c.objs.toNat [],[]),n)
    ⟨rfl,hs,LsR.rep iL _,⟨by rw [List.length_replicate]; omega,fun x hx q hq=>by rw [show (List.replicate c.objs.toNat ([] : List (List Int))).getD x default=[] from rep_nil _ _] at hq; simp at hq⟩,fun x=>by
     rw [show (List.replicate c.objs.toNat ([] : List (List Int))).getD x default=[] from rep_nil _ _]; simp; omega,o⟩ rfl ?_
   clear o hs
   rintro m ⟨s,⟨Xs,PP,ob⟩,n⟩ H ⟨hmn,hs,hR,hPP,hPl,o⟩;dsimp only at hmn hs hR hPP hPl o
   have hXl:=hR.len
   have hPPl:=hPP.1
   have hn3 : n≤3:=by have:=hPl 0; omega
   refine tt ?_;apply bk <;> intro k2
   focus
    refine tw k2 ?_;apply bk <;> intro k3
    focus
     have k2p:=of_decide k2
     have k3p:=of_decide k3
     have w2 : IntKind.i64.wrap ((n : Int) - 1)=((n - 1 : Nat) : Int):=by rw [wrap_i64 (by omega) (by omega)]; omega
     refine tw k3 ?_;refine (l01Next_ok B c.objs).go hs o fun r s H _ ⟨x,e,x0,x1,_⟩ hs o=>?_;subst e
     have hx1:=x1 (by omega)
     obtain ⟨x,rfl⟩ : ∃ n : Nat,x=n:=⟨_,(Int.toNat_of_nonneg x0).symm⟩;clear x0 x1
     have hxl : x<f.sizes.length:=by omega
     have hzx:=hzf x hxl
     have hg10 : H.get id10=some (.cells 7 f.cells 0):=o.get (id10,_) (by simp);refine tt ?_;refine rd_get hg10 (by simp [SF.cells]) ?_;refine tt ?_;refine ⟨hxl, ?_⟩;apply bk <;> intro k4
     ·have k4p:=of_decide k4;refine tt ?_;refine ⟨by omega,⟨_,_,o.tl.h0⟩,rd_get o.tl.h0 (by omega) ?_⟩;refine tt ?_;refine ⟨⟨_,_,hg10⟩,rd_get hg10 (by simp [SF.cells]) ?_⟩;refine tt ?_;refine ⟨hxl,⟨_,_,hg10⟩,rd_get hg10 (by simp [SF.cells]) ?_⟩;refine tt ?_;refine ⟨hxl, ?_⟩;refine (l01Next_ok B _).goZ hs o fun r s H _ ⟨a,e,a0,a1,_⟩ hs o hz=>⟨hz, ?_⟩;subst e
      have ha1:=a1 (by omega);refine tt ?_;refine (l01Next_ok B _).goZ hs o fun r s H _ ⟨b,e,b0,b1,_⟩ hs o hz=>⟨hz, ?_⟩;subst e
      have hb1:=b1 (by omega);refine tt ?_
      have o : Owns H0 H ((id11,.cells 1 Xs 0)::(ob++[(id,s.obj),(id10,.cells 7 f.cells 0),(id6,.cells 7 z7 0)])):=o.pm;refine rows_app o hR (by omega) [a,b] rfl (by show (PP.getD _ default).length+1≤maxL; have:=hPl x; simp only [maxL]; omega) fun X' o' H hX1 hR o=>?_;try simp only [go_sem,↓reduceIte,reduceEqDiff,reduceAdd,reduceMul,reduceLeDiff,reduceLT,AV.cells_one hX1]
      refine ⟨by omega,st_cells o (by omega) rfl (by simp only [memcons,memnil]; exact ⟨hX1,trivial⟩) fun H o=>?_⟩;simp only [wr_cons,wr_nil] at o;refine tw w2 ?_;refine while_next (n - 1) (s,(Xs.set x X',PP.set x (PP.getD x default++[[a,b]]),o'),n - 1) (by omega) ⟨rfl,hs,hR,hPP.add hxl ⟨a0,ha1⟩ ⟨b0,hb1⟩,fun y=>?_,(by simp only [SF.cells] at o; exact o.pm)⟩ rfl
      show ((PP.set x (PP.getD x default++[[a,b]])).getD y default).length+(n - 1)≤3
      rw [getD_setD _ _ (by omega)]
      have:=hPl y
      split
      ·rename_i e; subst e; rw [List.length_append,List.length_singleton]; omega
      ·omega
     ·refine tw w2 ?_;exact while_next (n - 1) (s,(Xs,PP,ob),n - 1) (by omega) ⟨rfl,hs,hR,hPP,fun x=>by have:=hPl x; show (PP.getD x default).length+(n - 1)≤3; omega,o⟩ rfl
    refine tw k3 ?_
   rotate_left 1
   focus
    refine tw k2 ?_
   all_goals
    have o : Owns H0 H ((id11,.cells 1 Xs 0)::(ob++[(id,s.obj),(id10,.cells 7 f.cells 0),(id6,.cells 7 z7 0)])):=o.pm;refine wk_rows hR [] H o fun H o=>wkW_done ?_;rw [List.nil_append] at o
    have o : Owns H0 H ((id11,.cells 1 (PP.map iLL) 0)::[(id,s.obj),(id10,.cells 7 f.cells 0),(id6,.cells 7 z7 0)]):=o;refine tt ?_;refine fz_own (f:=iLL) o (by omega) fun H o=>tt ?_;refine rd_celln o.tl (by simp [SF.cells]) ?_;refine tt ?_;refine (l19Glue_ok B f c hc hf PP hPP).go fun r hfn ⟨f2,e,hf2⟩=>?_;subst e
    have hfl:=fine_mL_le (hfn.agg (c:=iL f2.sizes) (by simp [SF.cells]));simp only [maxL] at hfl;clear hfn;refine tt ?_;refine st_cells o.swap (by simp [SF.cells]) (by (try simp only [go_sem]); (try simp)) (by first | (simp only [go_sem]; done) | ((try simp only [go_sem]); simp [AV.one,one_mL])) fun H o=>?_;simp only [wr_cons,wr_nil,List.set_cons_zero,List.set_cons_succ] at o;refine tt ?_;refine awp_for [0,2,4,6,7,10] (G:=Bool) (fun k b=>[(14,some (.bool b)),(15,some (.int .i64 (k : Int)))]) (fun k _ H=>Owns H0 H [(id10,MObj.cells 7 f2.cells 0),(id,s.obj),(id6,MObj.cells 7 z7 0)]) f2.sizes.length true o rfl ?_;clear o
    rintro q sm H hq o
    replace o : Owns H0 H [(id10,.cells 7 f2.cells 0),(id,s.obj),(id6,.cells 7 z7 0)]:=o;refine tt ?_;refine rd_cells o (by simp [SF.cells]) ?_;refine tt ?_;apply bk <;> intro j1
    ·have j1p:=of_decide j1
     have w3:=wsucc (k:=q) (by omega);refine tt ?_
     cases sm
     ·refine tw w3 ?_;exact for_next false (by omega) o rfl
     ·refine tt ?_;refine rd_cells o (by simp [SF.cells]) ?_;refine tt ?_;refine ⟨j1p, ?_⟩;refine tw w3 ?_;exact for_next _ (by omega) o rfl
    ·have j1p:=of_ndecide j1;refine tt ?_
     cases sm
     ·refine tw w1 ?_;exact for_next s (by omega) ⟨hs,o.tl⟩ rfl
     ·refine tt ?_;refine rd_celln o (by simp [SF.cells]) ?_;refine tt ?_;refine sw (o.pull [_,_]) fun H o=>tt ?_
      have hr:=o.rc 7 0 (by simp);simp only [List.drop_zero] at hr;rw [hr];exact src_ret ⟨f2,rfl,hf2⟩ hs (o.pull [_,_])
 ·have h1p:=of_ndecide h1;refine tt ?_
  have hw : IntKind.i64.wrap ((if false=true then if 2 > size then 2 else size else if 2<size then 2 else size)+1)=min size 2+1:=by
   rw [if_neg (by decide)]
   split <;> rw [wrap_i64 (by omega) (by omega)] <;> omega
  rw [hw];refine (l01Next_ok B _).go hs o fun r s H _ ⟨v,e,v0,v1,_⟩ hs o=>?_;subst e
  have hv:=v1 (by omega);refine tt ?_;refine ⟨_,(l19Constant_ok B c hc.1 v ⟨v0,by omega⟩).run,tt ?_⟩;refine sw o.swap fun H o=>tt ?_
  have hr:=o.rc 7 0 (by simp);simp only [List.drop_zero] at hr;rw [hr];exact src_ret ⟨constF c v,rfl,rfl,by simp [constF]; omega⟩ hs o.swap
end Go.Proofs.Shf
namespace Go.Shf
open Go.AW
theorem Cat.Shape.sh {c : Cat} (h : c.Shape) : c.Sh 40:=⟨by have:=h.o; omega,h.il,h.m,h.tol,h.cl,h.row⟩
end Go.Shf
namespace Go.Proofs.Shf
open Go.AW Go.Proofs Go.Shf
theorem dTrue' (i : Decidable True) : @decide True i=true:=decide_eq_true trivial
def OFb (f : SF) (p : Ob) (X : AV) : Prop:=∃ z d Xs ob,X=.agg [iI f.shape.objs,iL f.shape.frm,iL f.shape.to,iL f.shape.idn,iLL f.shape.comp,.buf z f.sizes.length,.buf d Xs.length]∧LsR iI Xs f.acts ob ∧
 p=(z,.cells 1 (f.sizes.map iI) 0)::(d,.cells 1 Xs 0)::ob
theorem l19Own_new (B : Nat) (f : SF) : New Tryz.prog B 182 [.agg f.cells] (OFb f):=by
 refine ⟨fun H0=>c182p.go fun _=>?_⟩
 have o : Owns H0 H0 []:=.nil _;refine tt ?_;refine nb o fun id H o=>tt ?_;refine ⟨_,(l02Own_ok B f.shape).run,tt ?_⟩;refine New.go' (l01Own_new B f.sizes) o fun X1 p1 H ⟨z,e1,e2⟩ o hs=>⟨hs, ?_⟩;subst e1 e2;refine tt ?_;refine New.go' (l01Own2_new B f.acts) o fun X1 p1 H ⟨d,Xs,ob,e1,h,e2⟩ o hs=>⟨hs, ?_⟩;subst e1 e2;refine tt ?_
 have o : Owns H0 H ((id,MObj.cells 7 [.int .i64 0,.nilsl,.nilsl,.nilsl,.nilsl,.nilsl,.nilsl] 0)::(z,MObj.cells 1 (f.sizes.map iI) 0)::(d,MObj.cells 1 Xs 0)::ob):=o.pm;refine sw o fun H o=>tt ?_
 have hr:=o.rc 7 0 (by simp);simp only [List.drop_zero] at hr;rw [hr];exact ⟨H,.refl H,_,⟨z,d,Xs,ob,rfl,h,rfl⟩,o.tl⟩
theorem wk_sf {F : Env→Heap→Prop} {σ : Env} {H0 H : Heap} {l : Ob} {id fr : Nat} {c : Cat} {z d : Nat} {S : List Int} {Xs : List AV} {As : List (List Int)} {ob : Ob} (h : LsR iI Xs As ob)
  (o : Owns H0 H ((id,.cells 7 [iI c.objs,iL c.frm,iL c.to,iL c.idn,iLL c.comp,.buf z S.length,.buf d Xs.length] fr)::(z,.cells 1 (S.map iI) 0)::(d,.cells 1 Xs 0)::(ob++l)))
  (hk : ∀ H',Owns H0 H' ((id,.cells 7 (SF.cells ⟨c,S,As⟩) fr)::l)→wkW F σ H') : wkW F σ H:=by
 have hl:=h.len
 have od : Owns H0 H ((d,.cells 1 Xs 0)::(ob++((id,.cells 7 [iI c.objs,iL c.frm,iL c.to,iL c.idn,iLL c.comp,.buf z S.length,.buf d Xs.length] fr)::(z,.cells 1 (S.map iI) 0)::l))):=o.pm;refine wk_rows h [] H od fun H o=>?_;simp only [List.nil_append] at o;rw [hl] at o
 have o : Owns H0 H ((id,.cells 7 [iI c.objs,iL c.frm,iL c.to,iL c.idn,iLL c.comp,.buf z S.length,.buf d As.length] fr)::(z,.cells 1 (S.map iI) 0)::(d,.cells 1 (As.map iL) 0)::l):=o.pm;refine wk_cell 5 o rfl rfl fun H o=>?_;simp only [List.set_cons_zero,List.set_cons_succ] at o;refine wk_cell 6 o rfl rfl fun H o=>?_;simp only [List.set_cons_zero,List.set_cons_succ] at o;exact hk H o
@[go_sem] def bendF (id3 : Nat) (c : Cat) (z : Nat) (S : List Int) (d : Nat) (Xs : List AV) (l : Ob) : Ob :=
 (id3,.cells 7 [iI c.objs,iL c.frm,iL c.to,iL c.idn,iLL c.comp,.buf z S.length,.buf d Xs.length] 0)::(z,.cells 1 (S.map iI) 0)::(d,.cells 1 Xs 0)::l
theorem l19Bend_ok (B : Nat) (f : SF) (hc : f.shape.Shape) (hA40 : f.acts.length≤40) : Rd B 235 [.agg f.cells] AnyF:=by
 intro id s H0 H hs o
 obtain ⟨c,S,A⟩:=f;dsimp only at hA40;refine c235p.go fun hfi=>?_
 have hfl:=fine_mL_le (hfi.2.1.agg (c:=iL S) (by simp [SF.cells]))
 have hfl2:=fine_mL_le (hfi.2.1.agg (c:=iLL A) (by simp [SF.cells]));simp only [maxL] at hfl hfl2;clear hfi;refine tt ?_;refine nb o fun id3 H o=>tt ?_;refine nb o fun id4 H o=>tt ?_;refine rd_celln o.tl (by simp) ?_;refine tt ?_;refine New.go' (l19Own_new B ⟨c,S,A⟩) o fun X1 p1 H ⟨z,d,Xs,ob,e1,hX,e2⟩ o _=>?_;subst e1 e2
 have hXl:=hX.len;simp only at hX hXl;refine tt ?_
 have o : Owns H0 H ((id3,MObj.cells 7 [iI c.objs,iL c.frm,iL c.to,iL c.idn,iLL c.comp,iL S,iLL A] 0)::(z,.cells 1 (S.map iI) 0)::(d,.cells 1 Xs 0)::(ob++[(id,s.obj),(id4,MObj.cells 7 [.int .i64 0,.nilsl,.nilsl,.nilsl,.nilsl,.nilsl,.nilsl] 0)])):=o.pm;refine sw o fun H o=>tt ?_
 have hsrc : ∀ {H : Heap} {s : Src} {Xs : List AV} {ob : Ob} {c : Cat} {z d : Nat} {S : List Int},Owns H0 H (bendF id3 c z S d Xs (ob++[(id,s.obj),(id4,MObj.cells 7 [.int .i64 0,.nilsl,.nilsl,.nilsl,.nilsl,.nilsl,.nilsl] 0)])) →
   Owns H0 H ((id,s.obj)::bendF id3 c z S d Xs (ob++[(id4,MObj.cells 7 [.int .i64 0,.nilsl,.nilsl,.nilsl,.nilsl,.nilsl,.nilsl] 0)])):=by
  intro H s Xs ob c z d S o;unfold bendF at o ⊢;exact o.pm
 have o:=hsrc (by unfold bendF; exact o);refine (l01Next_ok B 5).go hs o fun r s H _ ⟨v,e,v0,v1,_⟩ hs o=>?_;subst e;unfold bendF at o;refine tt ?_
 have htup : ∀ {c' : Cat} {z' d' : Nat} {S' : List Int} {Xs' : List AV} {A' : List (List Int)} {ob' : Ob} {F : Env→Heap→Prop} {σ : Env} {H : Heap} {s : Src},LsR iI Xs' A' ob' →
   Owns H0 H ((id,s.obj)::bendF id3 c' z' S' d' Xs' (ob'++[(id4,MObj.cells 7 [.int .i64 0,.nilsl,.nilsl,.nilsl,.nilsl,.nilsl,.nilsl] 0)])) →
   (∀ H',Owns H0 H' ((id3,.cells 7 (SF.cells ⟨c',S',A'⟩) 0)::[(id,s.obj),(id4,MObj.cells 7 [.int .i64 0,.nilsl,.nilsl,.nilsl,.nilsl,.nilsl,.nilsl] 0)])→F σ H')→wkW F σ H:=by
  intro c' z' d' S' Xs' A' ob' F σ H s hR o hk;unfold bendF at o
  have od : Owns H0 H ((id3,.cells 7 [iI c'.objs,iL c'.frm,iL c'.to,iL c'.idn,iLL c'.comp,.buf z' S'.length,.buf d' Xs'.length] 0)::(z',.cells 1 (S'.map iI) 0)::(d',.cells 1 Xs' 0)::(ob'++[(id,s.obj),(id4,MObj.cells 7 [.int .i64 0,.nilsl,.nilsl,.nilsl,.nilsl,.nilsl,.nilsl] 0)])):=o.pm;exact wk_sf hR od fun H o=>wkW_done (hk H o)
 apply bk <;> intro h0
 focus
  refine tt ?_;refine rd_celln o.tl (by simp) ?_;refine tt ?_;refine (l02Bend_ok B 40 (by omega) c (show c.Shape from hc).sh).go hs o fun r s H _ ⟨c2,e⟩ hs o=>?_;subst e;refine tt ?_;refine sw o.swap fun H o=>?_
  have o : Owns H0 H ((id,s.obj)::bendF id3 c2 z S d Xs (ob++[(id4,MObj.cells 7 [.int .i64 0,.nilsl,.nilsl,.nilsl,.nilsl,.nilsl,.nilsl] 0)])):=by unfold bendF; exact o.swap
  refine tt ?_;refine htup hX o fun H o=>?_
 rotate_left 1
 focus
  refine tt ?_;apply bk <;> intro h1
  focus
   refine tt ?_;refine rd_cells o.tl (by simp) ?_;refine tt ?_;apply bk <;> intro h2
   focus
    have h2p:=of_decide h2;refine tt ?_
    have hg3:=o.tl.h0;simp only at hg3;refine ⟨⟨_,_,hg3⟩,rd_get hg3 (by simp) ?_⟩;refine tt ?_;refine ⟨⟨_,_,hg3⟩,rd_get hg3 (by simp) ?_⟩;refine tt ?_;refine (l01Next_ok B _).goZ hs o fun r s H _ ⟨i,e,i0,i1,_⟩ hs o hz=>⟨hz, ?_⟩;subst e
    have hi:=i1 (by omega);refine tt ?_;refine (l01Pick_ok B [-1,0,1,2,17] (by simp)).goZ hs o fun r s H _ ⟨y,e,_⟩ hs o hz=>⟨hz, ?_⟩;subst e;refine tt ?_;refine ⟨⟨i0,by omega⟩, ?_⟩;refine set_own (f:=iI) y (o.pull [_,_]) rfl (by omega) fun H o=>?_
    have o : Owns H0 H ((id,s.obj)::bendF id3 c z (S.set i.toNat y) d Xs (ob++[(id4,MObj.cells 7 [.int .i64 0,.nilsl,.nilsl,.nilsl,.nilsl,.nilsl,.nilsl] 0)])):=by unfold bendF; rw [List.length_set]; exact o.pm
    refine tt ?_;refine htup hX o fun H o=>?_
   rotate_left 1
   focus
    have o : Owns H0 H ((id,s.obj)::bendF id3 c z S d Xs (ob++[(id4,MObj.cells 7 [.int .i64 0,.nilsl,.nilsl,.nilsl,.nilsl,.nilsl,.nilsl] 0)])):=by unfold bendF; exact o
    refine tt ?_;refine htup hX o fun H o=>?_
  rotate_left 2
  focus
   have h0p:=of_ndecide h0
   have h1p:=of_ndecide h1
   have v5:=v1 (by omega)
   have c32 : decide ((3 : Int)=2)=false:=rfl
   have c42 : decide ((4 : Int)=2)=false:=rfl
   have c43 : decide ((4 : Int)=3)=false:=rfl
   obtain rfl | rfl | rfl : v=2∨v=3∨v=4:=by omega
   rotate_left 2
   focus
    try simp only [go_sem,↓reduceIte,reduceEqDiff,reduceAdd,reduceMul,reduceLeDiff,reduceLT,c42,c43,dTrue']
    refine rd_cells o.tl (by simp) ?_;refine tt ?_;refine newBuf_own o fun ide H o=>tt ?_
    have o : Owns H0 H ((d,.cells 1 Xs 0)::((ide,.cells 1 [] 0)::(id,s.obj)::(id3,.cells 7 [iI c.objs,iL c.frm,iL c.to,iL c.idn,iLL c.comp,.buf z S.length,.buf d Xs.length] 0)::(z,.cells 1 (S.map iI) 0)::(ob++[(id4,MObj.cells 7 [.int .i64 0,.nilsl,.nilsl,.nilsl,.nilsl,.nilsl,.nilsl] 0)]))):=o.pm;refine app_raw o rfl rfl rfl (by simp only [maxL]; omega) fun d H o=>tt ?_;refine sw (o.pull [_,_,_]) fun H o=>?_
    have hX2:=hX.snoc' (p:=[(ide,.cells 1 [] 0)]) (X:=.buf ide 0) (A:=[]) (.inr ⟨ide,rfl,rfl⟩)
    have o : Owns H0 H ((id,s.obj)::bendF id3 c z S d (Xs++[.buf ide 0]) ((ob++[(ide,.cells 1 [] 0)])++[(id4,MObj.cells 7 [.int .i64 0,.nilsl,.nilsl,.nilsl,.nilsl,.nilsl,.nilsl] 0)])):=by
     unfold bendF;rw [List.length_append,List.length_singleton];exact o.pm
    refine tt ?_;refine htup hX2 o fun H o=>tt ?_;refine rd_celln o (by simp [SF.cells]) ?_;refine tt ?_;refine sw (o.pull [_,_]) fun H o=>tt ?_
    have hr:=o.rc 7 0 (by simp);simp only [List.drop_zero] at hr;rw [hr];exact src_ret ⟨⟨_,_,_⟩,rfl⟩ hs (o.pull [_,_])
   all_goals
    try simp only [go_sem,↓reduceIte,reduceEqDiff,reduceAdd,reduceMul,reduceLeDiff,reduceLT,c32,dTrue']
    refine rd_cells o.tl (by simp) ?_;refine tt ?_;refine (l01Next_ok B _).go hs o fun r s H _ ⟨a,e,a0,a1,a2⟩ hs o=>?_;subst e
    obtain ⟨a,rfl⟩ : ∃ n : Nat,a=n:=⟨_,(Int.toNat_of_nonneg a0).symm⟩;clear a0 a2
    have hg3:=o.tl.h0;simp only at hg3
    have hgd : H.get d=some (.cells 1 Xs 0):=o.get (d,.cells 1 Xs 0) (by simp);refine tt ?_;refine rd_get hg3 (by simp) ?_;refine tt ?_;apply bk <;> intro k1
    focus
     have k1p:=of_decide k1
     have ha:=a1 (by omega)
     have hi : a<Xs.length:=by omega
     obtain ⟨pr,rr,_,hLs,_⟩:=hX.split a hi
     have hlr:=hLs.lenE;refine tw k1 ?_;refine rd_get hg3 (by simp) ?_;refine tt ?_;refine ⟨hi,rd_get hgd hi ?_⟩;refine tw hlr ?_;apply bk <;> intro k2
     focus
      have k2p:=of_decide k2
      obtain ⟨idr,er,hset⟩:=hX.row hi (by omega);refine tw k2 ?_;refine ⟨⟨_,_,hg3⟩,rd_get hg3 (by simp) ?_⟩;refine tt ?_;refine ⟨hi,⟨_,_,hgd⟩,rd_get hgd hi ?_⟩;refine tt ?_;refine ⟨⟨_,_,hg3⟩,rd_get hg3 (by simp) ?_⟩;refine tt ?_;refine ⟨hi,⟨_,_,hgd⟩,rd_get hgd hi ?_⟩;rw [er];refine tt ?_;refine (l01Next_ok B _).goZ hs o fun r s H _ ⟨i,e,i0,i1,_⟩ hs o hz=>⟨hz, ?_⟩;subst e
      have hi1:=i1 (by omega);refine (l01Next_ok B _).goZ hs o fun r s H _ ⟨y1,e,_⟩ hs o hz=>⟨hz, ?_⟩;subst e;refine (l01Next_ok B _).goZ hs o fun r s H _ ⟨y2,e,_⟩ hs o hz=>⟨hz, ?_⟩;subst e;refine tt ?_;refine ⟨by omega, ?_⟩
      generalize IntKind.i64.wrap (y1 - _)=y3;refine ⟨⟨i0,by omega⟩, ?_⟩
      have od : Owns H0 H ((d,.cells 1 Xs 0)::(ob++[(id,s.obj),(id3,.cells 7 [iI c.objs,iL c.frm,iL c.to,iL c.idn,iLL c.comp,.buf z S.length,.buf d Xs.length] 0),(z,.cells 1 (S.map iI) 0),(id4,MObj.cells 7 [.int .i64 0,.nilsl,.nilsl,.nilsl,.nilsl,.nilsl,.nilsl] 0)])):=o.pm;refine hset od i.toNat (by omega) y3 rfl fun H ob' hX' o=>?_
      have o : Owns H0 H ((id,s.obj)::bendF id3 c z S d Xs (ob'++[(id4,MObj.cells 7 [.int .i64 0,.nilsl,.nilsl,.nilsl,.nilsl,.nilsl,.nilsl] 0)])):=by unfold bendF; exact o.pm
      refine tt ?_;refine htup hX' o fun H o=>?_
     rotate_left 1
     focus
      refine tw k2 ?_
      have o : Owns H0 H ((id,s.obj)::bendF id3 c z S d Xs (ob++[(id4,MObj.cells 7 [.int .i64 0,.nilsl,.nilsl,.nilsl,.nilsl,.nilsl,.nilsl] 0)])):=by unfold bendF; exact o
      refine htup hX o fun H o=>?_
    rotate_left 2
    focus
     refine tw k1 ?_
     have o : Owns H0 H ((id,s.obj)::bendF id3 c z S d Xs (ob++[(id4,MObj.cells 7 [.int .i64 0,.nilsl,.nilsl,.nilsl,.nilsl,.nilsl,.nilsl] 0)])):=by unfold bendF; exact o
     refine htup hX o fun H o=>?_
 all_goals
  refine tt ?_;refine rd_celln o (by simp [SF.cells]) ?_;refine tt ?_;refine sw (o.pull [_,_]) fun H o=>tt ?_
  have hr:=o.rc 7 0 (by simp);simp only [List.drop_zero] at hr;rw [hr];exact src_ret ⟨⟨_,_,_⟩,rfl⟩ hs (o.pull [_,_])
theorem l19Draw_ok (B : Nat) (c : Cat) (size : Int) (hsize : 0≤size∧size≤1000) : Rd B 154 [.agg c.cells,iI size] AnyF:=by
 intro id s H0 H hs o;refine c154p.go fun _=>?_;refine tt ?_;refine nb o fun id6 H o=>tt ?_;refine (l02Is_ok B c).go fun _=>tt ?_
 by_cases hc : c.Is
 ·rw [dec_t hc];refine tt ?_;refine (l19Some_ok B c hc size hsize).go hs o.swap fun r s H _ ⟨f,e,hfc,hfa⟩ hs o=>?_;subst e;refine tt ?_;refine nb o fun id7 H o=>tt ?_;refine sw o fun H o=>tt ?_;refine (l01Next_ok B 40).go hs o.swap fun r s H _ ⟨v,e,_⟩ hs o=>?_;subst e;refine tt ?_;apply bk <;> intro h1
  ·refine tt ?_;refine rd_celln o.tl (by simp) ?_;refine tt ?_;refine (l19Bend_ok B f (by rw [hfc]; exact hc.1) hfa).go hs o fun r s H _ ⟨f2,e⟩ hs o=>?_;subst e;refine tt ?_;refine sw (o.pull [_,_]) fun H o=>tt ?_;refine wkW_done ?_
   have hr:=o.rc 7 0 (by simp);simp only [List.drop_zero] at hr;refine tt ?_;rw [hr];exact src_ret ⟨f2,rfl⟩ hs o.swap
  ·refine tt ?_;refine rd_celln o.tl (by simp) ?_;refine tt ?_;refine sw (o.pull [_,_]) fun H o=>tt ?_;refine wkW_done ?_
   have hr:=o.rc 7 0 (by simp);simp only [List.drop_zero] at hr;refine tt ?_;rw [hr];exact src_ret ⟨f,rfl⟩ hs o.swap
 ·rw [dec_f hc];refine tt ?_;refine sw o fun H o=>tt ?_;refine wk_nil 5 o rfl fun H o=>?_;simp only [List.set_cons_zero,List.set_cons_succ] at o;refine wk_nil 6 o rfl fun H o=>wkW_done ?_;simp only [List.set_cons_zero,List.set_cons_succ] at o
  have hr:=o.rc 7 0 (by simp);simp only [List.drop_zero] at hr;refine tt ?_;rw [hr];exact src_ret ⟨⟨c,[],[]⟩,rfl⟩ hs o.swap
end Go.Proofs.Shf
namespace Go.Shf
open Go.AW
noncomputable def unitAt (f : SF) (V : List (List Int)) (x : Nat) : List Int:=((List.range (ix f.sizes x).toNat).map Int.ofNat).map fun e=>indexOf (famAt f V x) (imgs f (V.getD x default) e)
noncomputable def unitS (f : SF) (V : List (List Int)) : List (List Int):=(List.range f.sizes.length).map (unitAt f V)
end Go.Shf
namespace Go.Proofs.Shf
open Go.AW Go.Proofs Go.Shf
theorem unit_ok (B : Nat) (f : SF) (h : f.Shape) (hc : f.CompL) (V : List (List Int)) (c : CovOk f.shape V) (hfew : StepFew f V) : Pur Tryz.prog B 180 [stepVal f V] (iLL (unitS f V)):=by
 refine ⟨fun H0=>c180p.go fun hfi=>?_⟩
 have hm:=h.is.1.m
 have hob:=h.is.1.o
 have htl:=h.is.1.tol
 have hfl:=h.sl
 have hal:=h.al
 have hvl:=c.len;refine tt ?_;refine new_list iL (.nil _) fun id3 H o=>tt ?_
 refine awp_for [0,15,16] (G:=Nat) (fun k g=>[(3,some (.buf g k)),(17,some (.int .i64 (k : Int)))])
  (fun k g H=>Owns H0 H [(g,.cells 1 (((List.range k).map (unitAt f V)).map iL) 0)]) f.sizes.length id3 o rfl ?_
 clear o
 rintro k id3 H hk o
 replace o : Owns H0 H [(id3,.cells 1 (((List.range k).map (unitAt f V)).map iL) 0)]:=o;refine tt ?_;apply bk <;> intro h1
 ·have h1p:=of_decide h1
  have w:=wsucc (k:=k) (by omega)
  have hsv:=c.sv k (by omega)
  have hsn:=hsv.len
  have hsz:=h.sizeAt (y:=(k : Int)) (by omega)
  have hixk : ix f.sizes k=f.sizes.getD k default:=by simp only [ix_nat]
  have hfk : (famsOf f V).getD k default=famAt f V k:=by rw [famsOf,getD_map_range _ _ (by omega)]
  have hfkl : (famAt f V k).length≤16:=hfew k (by omega)
  have hfll : (famsOf f V).length=V.length:=by simp [famsOf]
  refine tt ?_;refine ⟨h1p, ?_⟩;refine new_list iI o fun id6 H o=>tt ?_;rw [hixk] at hsz
  refine awp_for [0,3,4,15,16,17,23] (G:=Nat × List Int) (fun e g=>[(6,some (.buf g.1 g.2.length)),(24,some (.int .i64 (e : Int)))])
   (fun e g H=>g.2=((List.range e).map Int.ofNat).map (fun e=>indexOf (famAt f V k) (imgs f (V.getD k default) e))∧Owns H0 H [(g.1,.cells 1 (g.2.map iI) 0),(id3,.cells 1 (((List.range k).map (unitAt f V)).map iL) 0)]) (f.sizes.getD k default).toNat (id6,[]) ⟨rfl,o⟩ rfl ?_
  clear o
  rintro e ⟨id6,row⟩ H he ⟨hrow,o⟩;dsimp only at hrow o
  have hrl : row.length=e:=by rw [hrow]; simp
  refine tt ?_;apply bk <;> intro h2
  ·have h2p:=of_decide h2
   have w2:=wsucc (k:=e) (by omega)
   have hee : (0 : Int)≤(e : Int)∧(e : Int)<ix f.sizes (k : Int):=by rw [hixk]; omega
   have hfam:=imgs_fam h hc hsv hee
   have hmem : imgs f (V.getD k default) e∈famAt f V k:=((famS_is h hsv).mem _).mpr hfam
   have hnd : (famAt f V k).Nodup:=(famS_is h hsv).nodup
   have hent : ∀ t,t∈famAt f V k→∀ y,y∈t→0≤y∧y<255:=fun t ht y hy=>by
    have hft:=((famS_is h hsv).mem t).mp ht
    obtain ⟨j,hj,rfl⟩:=mem_getD.mp hy
    have hj2 : j<(V.getD k default).length:=by rw [← hft.len]; exact hj
    have h1:=hft.ran j hj2
    have h2:=(fam_size h hsv (i:=j) hj2);rw [h2.1] at h2;omega
   have hil : (imgs f (V.getD k default) e).length=(V.getD k default).length:=by simp [imgs]
   refine tt ?_;refine ⟨by omega,by omega,_,(restricted_ok B f (V.getD k default) e (fun a ha=>?_) (by omega) (fun a ha=>?_)).run,⟨rfl,fun c hc=>by cases List.mem_singleton.mp hc; rfl⟩, ?_⟩
   ·have:=hsv.arr ha; omega
   ·have hv:=hsv.arr ha
    have h1:=h.actLen hv.1.2;rw [hv.2,hixk] at h1;omega
   refine ⟨_,(key_ok B [imgs f (V.getD k default) e] (by simp only [keyB,List.flatMap_cons,List.flatMap_nil,List.append_nil,List.length_append,List.length_map,List.length_cons,List.length_nil]; omega)).run, ?_⟩;rw [hfk];simp only [plE];refine tt ?_;refine ⟨okKey_plS _ _ _, ?_⟩;rw [plS_get hnd hent hmem];simp only [Option.getD_some];refine ⟨⟨rfl,fun c hc=>by cases List.mem_singleton.mp hc; rfl⟩, ?_⟩;refine app_own (f:=iI) (indexOf (famAt f V k) (imgs f (V.getD k default) e)) o rfl rfl (by simp only [maxL]; omega) fun id9 H o=>?_
   have e8 : row++[indexOf (famAt f V k) (imgs f (V.getD k default) e)]=((List.range (e+1)).map Int.ofNat).map (fun e=>indexOf (famAt f V k) (imgs f (V.getD k default) e)):=by
    rw [hrow,List.range_succ]; simp
   refine tw w2 ?_;exact for_next (_,_) (by omega) ⟨e8,o⟩ rfl
  ·have h2p:=of_ndecide h2
   have hee : e=(f.sizes.getD k default).toNat:=by omega
   have hrow2 : row=unitAt f V k:=by rw [hrow,hee,unitAt,ix_nat]
   refine tt ?_;refine fz_own o rfl fun H o=>tt ?_;refine app_own (f:=iL) row o rfl (by simp) (by simp only [List.length_map,List.length_range,maxL]; omega) fun id9 H o=>?_
   have e7 : (List.range k).map (unitAt f V)++[row]=(List.range (k+1)).map (unitAt f V):=by rw [List.range_succ,List.map_append,hrow2]; rfl
   rw [e7] at o ⊢;refine tw w ?_;exact for_next id9 (by omega) o (by simp)
 ·have h1p:=of_ndecide h1
  obtain rfl : k=f.sizes.length:=by omega
  refine tt ?_;refine fz_own o (by simp) fun H o=>tt ?_;exact pure_ret rfl o.sub
end Go.Proofs.Shf
namespace Go.Shf
open Go.AW
@[go_sem] def clsCells (c : Cat) (S : List (List (List Int))) (sz : AV) (pl : AV) : List AV:=[iI c.objs,iL c.frm,iL c.to,iL c.idn,iLL c.comp,sz,pl,iLLL S]
def Cov.mark (v : Cov) (x : Int) (s : List Int) : Bool:=(ix v.marks x).getD (indexOf (ix v.sieves x) s).toNat default
end Go.Shf
namespace Go.Proofs.Shf
open Go.AW Go.Proofs Go.Shf
theorem number_ok (B : Nat) (c : Cat) (S : List (List (List Int))) (sz pl : AV) (x : Int) (hx : 0≤x∧x.toNat<S.length) (s : List Int) : Pur Tryz.prog B 312 [.ptr (clsCells c S sz pl),.int .i64 x,iL s] (.int .i64 (indexOf (ix S x) s)):=by
 refine ⟨fun H0=>c312.go fun hfi=>?_⟩;refine tt ?_;refine ⟨hx, ?_⟩;refine (indexFunc_ok B (ix S x) 326 [.ptr [iL s]] (fun t=>dec (s=t)) fun t _=>(same1_ok B s t).run).go fun _=>?_;rw [findIdx_same];refine tt ?_;exact pure_ret rfl (.refl _)
theorem isM_ok (B : Nat) (v : Cov) (cnt : AV) (x : Int) (s : List Int) (hx : 0≤x∧x.toNat<v.sieves.length) (hm : x.toNat<v.marks.length) (hs : s∈ix v.sieves x) (hl : (ix v.marks x).length=(ix v.sieves x).length) :
  Pur Tryz.prog B 338 [.ptr (v.cells cnt),.int .i64 x,iL s] (.bool (v.mark x s)):=by
 refine ⟨fun H0=>c338.go fun hfi=>?_⟩
 have hin:=indexOf_in hs;refine tt ?_;refine ⟨⟨hx.1,hm⟩, ?_⟩;refine ⟨_,(number_ok B v.shape v.sieves (iL v.sizes) (iLL v.pulls) x hx s).run,tt ?_⟩;exact ⟨⟨hin.1,by omega⟩,pure_ret rfl (.refl _)⟩
def locP (v : Cov) (s t : List Int) : Prop:=∀ a,a∈t→v.mark (ix v.shape.to a) (pullS v.shape a s)=true
theorem locally_ok (B : Nat) (v : Cov) (hc : v.shape.Is) (cnt : AV) (s t : List Int) (x : Int) (hs : v.shape.Sieve x s) (ht : ∀ a,a∈t→0≤a∧a.toNat<v.shape.frm.length∧ix v.shape.frm a=x) (hsl : (v.sieves.length : Int)=v.shape.objs) (hml : v.marks.length=v.sieves.length)
  (hall : ∀ y : Int,0≤y∧y<v.shape.objs→(ix v.marks y).length=(ix v.sieves y).length∧∀ s,v.shape.Sieve y s→s∈ix v.sieves y) (htn : t.length≤1000000) :
  Pur Tryz.prog B 329 [.ptr (v.cells cnt),iL s,iL t] (.bool (dec (locP v s t))):=by
 refine ⟨fun H0=>c329.go fun hfi=>?_⟩;refine tt ?_
 refine awp_for [0,1,9,10] (G:=Unit) (fun k _=>[(11,some (.int .i64 (k : Int)))])
  (fun k _ H=>H=H0∧∀ i,i<k→v.mark (ix v.shape.to (t.getD i default)) (pullS v.shape (t.getD i default) s)=true) t.length () ⟨rfl,by simp⟩ rfl ?_
 rintro k _ H hk ⟨rfl,hyes⟩;refine tt ?_;apply bk <;> intro h1
 ·have h1p:=of_decide h1
  have w:=wsucc (k:=k) (by omega)
  have ha:=ht _ (mem_getD.mpr ⟨k,h1p,rfl⟩)
  have hto:=hc.1.toObj ha.2.1
  have htl:=hc.1.tol;refine tt ?_;refine ⟨h1p,⟨ha.1,by omega⟩, ?_⟩
  generalize hav : t.getD k default=a at *;refine ⟨_,(pull_ok B v.shape hc.1 a ⟨ha.1,ha.2.1⟩ s).run, ?_⟩
  have hp:=hall _ hto;refine ⟨_,(isM_ok B v cnt (ix v.shape.to a) (pullS v.shape a s) ⟨hto.1,by omega⟩ (by omega) (hp.2 _ ?_) hp.1).run, ?_⟩
  ·exact pullS_sieve hc ⟨ha.1,ha.2.1⟩ (by rw [ha.2.2]; exact hs)
  cases hmk : v.mark (ix v.shape.to a) (pullS v.shape a s) with
  | true =>
   refine tw w ?_;exact for_next () h1p ⟨rfl,lt_succ_all hyes (by rw [hav]; exact hmk)⟩ rfl
  | false =>
   refine tt ?_;refine pure_ret ?_ (.refl _);rw [dec_f]
   intro e
   have:=e a (by rw [← hav]; exact mem_getD.mpr ⟨k,h1p,rfl⟩);rw [hmk] at this; cases this
 ·have h1p:=of_ndecide h1;refine tt ?_;refine pure_ret ?_ (.refl _);rw [dec_t]
  intro a ha
  obtain ⟨i,hi,rfl⟩:=mem_getD.mp ha;exact hyes i (by omega)
theorem codeF_z {j : Top} {f : SF} (h : codeF j f=0) : j.Form∧f.Is∧codeT j=0∧j.shape=f.shape:=by
 unfold codeF at h
 by_cases h1 : j.Form∧f.Is
 ·rw [if_neg (fun e=>e h1)] at h
  by_cases h2 : codeT j=0∧¬ j.shape=f.shape
  ·rw [if_pos h2] at h; cases h
  ·rw [if_neg h2] at h;exact ⟨h1.1,h1.2,h,Classical.byContradiction fun e=>h2 ⟨h,e⟩⟩
 ·rw [if_pos h1] at h; cases h
end Go.Proofs.Shf
namespace Go.Shf
open Go.AW
def thenS (s t : List (List Int)) : List (List Int):=(List.range s.length).map fun x=>(s.getD x default).map fun y=>ix (t.getD x default) y
def TwoFew (f : SF) (V : List (List Int)) : Prop:=StepFew f V∧StepFew (stepSF f V) V
theorem unit_ran {f : SF} {V : List (List Int)} (h : f.Shape) (hc : f.CompL) (v : CovOk f.shape V) {x : Nat} (hx : x<f.sizes.length) : ∀ y,y∈(unitS f V).getD x default→0≤y∧y.toNat<(famAt f V x).length:=by
 intro y hy
 have hfl:=h.sl
 have hvl:=v.len;rw [unitS,getD_map_range _ _ hx,unitAt] at hy
 obtain ⟨e,he,rfl⟩:=List.mem_map.mp hy
 obtain ⟨n,hn,rfl⟩:=List.mem_map.mp he
 have hn:=List.mem_range.mp hn
 have hs:=v.sv x (by omega)
 have hm:=imgs_fam (e:=(n : Int)) h hc hs ⟨by omega,by omega⟩
 have:=indexOf_in (((famS_is h hs).mem _).mpr hm);exact ⟨this.1,this.2.1⟩
theorem unit_len {f : SF} {V : List (List Int)} (h : f.Shape) (v : CovOk f.shape V) {x : Nat} (hx : x<f.sizes.length) : ((unitS (stepSF f V) V).getD x default).length=(famAt f V x).length:=by
 have hfl:=h.sl
 have hvl:=v.len
 have h1 : (stepSF f V).sizes.length=V.length:=by simp [stepSF,stepSizes]
 rw [unitS,getD_map_range _ _ (by omega),unitAt,List.length_map,List.length_map,List.length_range]
 have : ix (stepSF f V).sizes x=((famAt f V x).length : Int):=by
  show ix (stepSizes f V) x=_
  rw [ix_nat,stepSizes,getD_map_range _ _ (by omega)]; rfl
 rw [this]; rfl
theorem then_ran {f : SF} {V : List (List Int)} (h : f.Shape) (hc : f.CompL) (v : CovOk f.shape V) : (unitS f V).length≤(unitS (stepSF f V) V).length∧(unitS f V).length≤8 ∧
  ∀ x,x<(unitS f V).length→∀ y,y∈(unitS f V).getD x default→0≤y∧y.toNat<((unitS (stepSF f V) V).getD x default).length:=by
 have hfl:=h.sl
 have hvl:=v.len
 have ho:=h.is.1.o
 have h0 : (unitS f V).length=f.sizes.length:=by simp [unitS]
 have h1 : (unitS (stepSF f V) V).length=V.length:=by simp [unitS,stepSF,stepSizes]
 refine ⟨by omega,by omega,fun x hx y hy=>?_⟩;rw [unit_len h v (by omega)];exact unit_ran h hc v (by omega) y hy
end Go.Shf
namespace Go.Proofs.Shf
open Go.AW Go.Proofs Go.Shf
theorem thenParts_okS (B : Nat) {f : SF} {V : List (List Int)} (h : f.Shape) (hc : f.CompL) (v : CovOk f.shape V) : Pur Tryz.prog B 119 [iLL (unitS f V),iLL (unitS (stepSF f V) V)] (iLL (thenS (unitS f V) (unitS (stepSF f V) V))) :=
 thenParts_ok B _ _ (then_ran h hc v).1 (then_ran h hc v).2.2
open Classical in
noncomputable def bothB (f : SF) (V : List (List Int)) : List AV:=if TwoFew f V then stepCells (stepSF f V) V else tabZ
theorem stepA8 (f : SF) (V : List (List Int)) : ∃ a1 a2 a3 a4 a5 a6 a7 a8,stepA f V=[a1,a2,a3,a4,a5,a6,a7,a8]∧∀ c,c∈[a1,a2,a3,a4,a5,a6,a7,a8]→c.one=true:=by
 unfold stepA
 split
 ·exact ⟨_,_,_,_,_,_,_,_,rfl,by simp only [memcons,memnil]; exact ⟨rfl,rfl,rfl,rfl,rfl,rfl,rfl,rfl,trivial⟩⟩
 ·exact ⟨_,_,_,_,_,_,_,_,rfl,by simp only [memcons,memnil]; exact ⟨rfl,rfl,rfl,rfl,rfl,rfl,rfl,rfl,trivial⟩⟩
theorem l28Both_ok (B : Nat) (f : SF) (h : f.Shape) (V : List (List Int)) (c : CovOk f.shape V) : Pur Tryz.prog B 173 [.agg f.cells,iLL V] (.tup [.agg (stepA f V),.agg (bothB f V),.bool (dec (TwoFew f V))]):=by
 refine ⟨fun H0=>c173p.go fun hfi=>?_⟩;refine tt ?_;refine nb (.nil _) fun id4 H o=>tt ?_;refine nb o fun id5 H o=>tt ?_;refine (l28Make_ok B f h V c).go fun _=>?_
 by_cases h1 : StepFew f V
 ·rw [stepA_t h1,dec_t h1];refine tt ?_;refine nb o fun id7 H o=>tt ?_;refine sw o fun H o=>tt ?_;refine rd_celln o (by simp) ?_;refine tt ?_;refine (l28Make_ok B (stepSF f V) (step_shape h c h1) V c).go fun _=>?_
  obtain ⟨a1,a2,a3,a4,a5,a6,a7,a8,hA,h8⟩:=stepA8 (stepSF f V) V
  have hB : bothB f V=[a1,a2,a3,a4,a5,a6,a7,a8]:=by
   rw [← hA,bothB,stepA]
   by_cases h2 : StepFew (stepSF f V) V
   ·rw [if_pos ⟨h1,h2⟩,if_pos h2]
   ·rw [if_neg (fun e=>h2 e.2),if_neg h2]
  have hD : dec (TwoFew f V)=dec (StepFew (stepSF f V) V):=by
   by_cases h2 : StepFew (stepSF f V) V
   ·rw [dec_t h2,dec_t ⟨h1,h2⟩]
   ·rw [dec_f h2,dec_f (fun e=>h2 e.2)]
  rw [hA,hB,hD];refine tt ?_;refine nb o fun id9 H o=>tt ?_;refine st_cells o (by simp) (by (try simp only [go_sem]); (try simp)) h8 fun H o=>?_;simp only [wr_cons,wr_nil,List.set_cons_zero,List.set_cons_succ] at o;refine tt ?_;refine wk_ref 9 o rfl fun H o=>?_;refine wk_ref 7 o rfl fun H o=>wkW_done ?_;refine tt ?_;refine sw o.swap fun H o=>tt ?_;refine st_cells o.swap (by simp) (by (try simp only [go_sem]); (try simp)) h8 fun H o=>?_;simp only [wr_cons,wr_nil,List.set_cons_zero,List.set_cons_succ] at o;refine tt ?_
  have hr:=o.swap.rc 8 0 (by simp)
  have hr2:=o.rc 8 0 (by simp);simp only [List.drop_zero] at hr hr2;rw [hr,hr2];exact pure_ret rfl o.sub
 ·have hB : bothB f V=tabZ:=by rw [bothB,if_neg (fun e=>h1 e.1)]
  rw [stepA_f h1,dec_f h1,hB,dec_f (fun e=>h1 e.1)];refine tt ?_;refine nb o fun id7 H o=>tt ?_;refine sw o fun H o=>tt ?_;refine sw o.tl.swap fun H o=>tt ?_;refine sw o.swap fun H o=>tt ?_
  have hr:=o.swap.rc 8 0 (by simp)
  have hr2:=o.rc 8 0 (by simp);simp only [List.drop_zero] at hr hr2;rw [hr,hr2];exact pure_ret rfl o.sub
end Go.Proofs.Shf
