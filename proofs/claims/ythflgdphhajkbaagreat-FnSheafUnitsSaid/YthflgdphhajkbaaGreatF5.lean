/- Contracts, part 5. -/
import Derived.Test.YthflgdphhajkbaaGreatF4
import Derived.WalkSmall
import Derived.Test.YthflgdphhajkbaaGreatProg
import Derived.Recover
import Derived.Tactics
set_option linter.unusedVariables false
set_option linter.unusedSimpArgs false
set_option linter.unusedSectionVars false
open Nat (reduceEqDiff reduceAdd reduceMul reduceLeDiff reduceLT)
namespace Go.Proofs.Shf
open Go.AW Go.Proofs Go.Shf
theorem visit_own (B : Nat) (v : Cov) (cnt : AV) {H0 H : Heap} {l : Ob} {gid : Nat} {b : Bool} {K : Kont} {x s : Int} (o : Owns H0 H ((gid,.cells 1 [.bool b] 0)::l)) (hx : 0≤x∧x.toNat<v.marks.length) (hs : 0≤s∧s.toNat<(ix v.marks x).length)
  (hk : ∀ H',Owns H0 H' ((gid,.cells 1 [.bool (b && mg v.marks x s)] 0)::l)→K (.tup []) H') : CallH Tryz.prog B 314 [.int .i64 x,.int .i64 s,.ref gid 0,.ptr [.ptr (v.cells cnt)]] H K:=by
 refine c314.go fun _=>?_
 have hg : H.get gid=some (.cells 1 [.bool b] 0):=o.h0;refine tt ?_;refine rd_get hg (by simp) ?_
 have e : (ix v.marks x).getD s.toNat default=mg v.marks x s:=rfl
 cases b with
 | false =>
  refine tt ?_;refine sw o fun H o=>tt ?_;exact ⟨H,.refl H,hk H o⟩
 | true =>
  refine tt ?_;refine ⟨hx,hs, ?_⟩;refine sw o fun H o=>tt ?_;refine ⟨H,.refl H,hk H ?_⟩;rw [Bool.true_and,← e]; exact o
theorem follows_own (B : Nat) (j : Top) (hF : j.Form) (hf : AllFew j.shape) (cnt : AV) {H0 H : Heap} {l : Ob} {gid : Nat} {K : Kont} (o : Owns H0 H ((gid,.cells 1 [.bool true] 0)::l))
  (hk : ∀ b H',(b=true↔TopIs j.shape j.covers)→Owns H0 H' ((gid,.cells 1 [.bool b] 0)::l)→K (.tup []) H') :
  CallH Tryz.prog B 313 [.ptr ((covV j).cells cnt),.fn (.func 314) [.ref gid 0,.ptr [.ptr ((covV j).cells cnt)]]] H K:=by
 have tab:=tabOk hF.is hf
 have hc:=hF.is
 have hob:=hc.1.o
 have hm:=hc.1.m
 have htl:=hc.1.tol
 have hL:=tab.len
 have hcv:=form_covers hF hf
 have hmk : MarkOk (listsOf j.shape) (covV j).marks:=markOk
 have hfin:=cov_top hF hf hmk.len
 have hsv : (covV j).sieves=listsOf j.shape:=rfl
 have hsh : (covV j).shape=j.shape:=rfl
 have hcells : (covV j).cells cnt=[.ptr (clsCells j.shape (listsOf j.shape) (iL (lensOf (listsOf j.shape))) (iLL (pullsOf j.shape (listsOf j.shape)))),.ptr j.shape.cells,mL (mL AV.bool) (covV j).marks,cnt]:=rfl
 have htops:=tops_ok B j.shape (listsOf j.shape) tab (iL (lensOf (listsOf j.shape))) (iLL (pullsOf j.shape (listsOf j.shape)))
 have hvis:=fun (H0 H : Heap) (l : Ob) (gid : Nat) (b : Bool) (K : Kont) (x s : Int)=>visit_own B (covV j) cnt (H0:=H0) (H:=H) (l:=l) (gid:=gid) (b:=b) (K:=K) (x:=x) (s:=s)
 have hloc : ∀ x s t : Nat,x<(listsOf j.shape).length→s<((listsOf j.shape).getD x default).length→t<((listsOf j.shape).getD x default).length →
   Pur Tryz.prog B 329 [.ptr ((covV j).cells cnt),iL (((listsOf j.shape).getD x default).getD t default),iL (((listsOf j.shape).getD x default).getD s default)] (.bool (dec (locP (covV j) (((listsOf j.shape).getD x default).getD t default) (((listsOf j.shape).getD x default).getD s default)))):=by
  intro x s t hx hs ht;refine locally_ok B (covV j) hc cnt _ _ x (tab.sv hx ht) (fun a ha=>?_) hL hmk.len (fun y hy=>⟨?_,fun s hs=>?_⟩) ?_
  ·have:=(tab.sv hx hs).arr ha; exact ⟨this.1.1,this.1.2,this.2⟩
  ·have hy2 : 0≤y∧y<j.shape.objs:=hy
   have:=hmk.row y.toNat (by omega); exact this
  ·have hy2 : 0≤y∧y<j.shape.objs:=hy;exact ((tab.at hy2.1 (by omega)).mem s).mpr hs
  ·have:=(tab.sv hx hs).len; omega
 rw [hcells] at hvis hloc ⊢;refine c313p.go fun _=>?_
 have hml:=hmk.len
 have hrow:=hmk.row
 have hfew:=tab.few
 have htop : ∀ x : Nat,x<(listsOf j.shape).length→0≤(topsOf j.shape (listsOf j.shape)).getD x default∧((topsOf j.shape (listsOf j.shape)).getD x default).toNat<((listsOf j.shape).getD x default).length:=fun x hx=>(tab.top hx).1
 have htlen : (topsOf j.shape (listsOf j.shape)).length=(listsOf j.shape).length:=tops_len
 have hfr : ∀ a : Nat,a<j.shape.frm.length→0≤j.shape.frm.getD a default∧(j.shape.frm.getD a default).toNat<(listsOf j.shape).length:=fun a ha=>by
  have:=tab.frm (a:=a) ⟨by omega,by simpa using ha⟩
  rwa [ix_nat] at this
 have hto : ∀ a : Nat,a<j.shape.frm.length→0≤j.shape.to.getD a default∧(j.shape.to.getD a default).toNat<(listsOf j.shape).length:=fun a ha=>by
  have:=tab.to (a:=a) ⟨by omega,by simpa using ha⟩
  rwa [ix_nat] at this
 have hpl : ∀ a s : Nat,a<j.shape.frm.length→s<((listsOf j.shape).getD (j.shape.frm.getD a default).toNat default).length→(s<((pullsOf j.shape (listsOf j.shape)).getD a default).length) ∧
   0≤((pullsOf j.shape (listsOf j.shape)).getD a default).getD s default∧(((pullsOf j.shape (listsOf j.shape)).getD a default).getD s default).toNat<((listsOf j.shape).getD (j.shape.to.getD a default).toNat default).length:=fun a s ha hs=>by
  have haa : 0≤(a : Int)∧(a : Int).toNat<j.shape.frm.length:=⟨by omega,by simpa using ha⟩
  have h1:=tab.pull haa (k:=s) (by rw [ix_nat]; exact hs)
  have h2:=pulls_row (L:=listsOf j.shape) haa;simp only [ix_nat] at h1 h2;refine ⟨?_,h1.1⟩;rw [h2]; exact hs
 have hpll : (pullsOf j.shape (listsOf j.shape)).length=j.shape.frm.length:=pulls_len
 have hmgs : ∀ x s : Nat,mk2 (covV j).marks x s=((covV j).marks.getD x default).getD s default:=fun _ _=>rfl
 generalize hLv : listsOf j.shape=L at *
 have hP3 : ∀ x t i,P3s (covV j) x t i↔∀ s,s<i→mk2 (covV j).marks x s=true→mk2 (covV j).marks x t=false→locP (covV j) ((L.getD x default).getD t default) ((L.getD x default).getD s default)→mk2 (covV j).marks x t=true:=fun x t i=>by
  rw [P3s,hsv]
 have hP3f : ∀ x k,P3t (covV j) x k↔∀ t,t<k→P3s (covV j) x t ((covV j).marks.getD x default).length:=fun _ _=>Iff.rfl
 have hP3x : ∀ k,P3 (covV j) k↔∀ x,x<k→P3t (covV j) x (L.getD x default).length:=fun k=>by rw [P3,hsv]
 generalize hMv : (covV j).marks=M at *;refine tt ?_;refine htops.go fun _=>tt ?_
 refine awp_for [0,1,18,19] (G:=Bool) (fun k g=>[(20,some (.int .i64 (k : Int)))])
  (fun k b H=>(b=true↔P1 j.shape L M k)∧Owns H0 H ((gid,.cells 1 [.bool b] 0)::l)) (topsOf j.shape L).length true ⟨by simp [P1],o⟩ rfl ?_
 clear o
 rintro x b H hx ⟨hb,o⟩
 replace o : Owns H0 H ((gid,.cells 1 [.bool b] 0)::l):=o;refine tt ?_;apply bk <;> intro h1
 ·have h1p:=of_decide h1
  have w:=wsucc (k:=x) (by omega)
  have h2:=htop x (by omega);refine tt ?_;refine ⟨h1p, ?_⟩;refine hvis H0 H l gid b _ x _ o ⟨by omega,by simpa using (by omega : x<M.length)⟩ ⟨h2.1,by rw [ix_nat,hrow x (by omega)]; exact h2.2⟩ fun H o=>?_;refine tw w ?_;refine for_next (b && mg M x ((topsOf j.shape L).getD x default)) h1p ⟨?_,o⟩ rfl;rw [P1,all_succ,Bool.and_eq_true,hb,P1]
 have h1p:=of_ndecide h1
 obtain rfl : x=(topsOf j.shape L).length:=by omega
 rw [htlen] at hb;refine tt ?_
 refine awp_for [0,1,37] (G:=Bool) (fun k g=>[(38,some (.int .i64 (k : Int)))])
  (fun k b H=>(b=true↔P1 j.shape L M L.length∧P2 j.shape L M k)∧Owns H0 H ((gid,.cells 1 [.bool b] 0)::l)) j.shape.frm.length b ⟨by rw [hb,P2]; simp,o⟩ rfl ?_
 clear o hb h1 b hx H h1p
 rintro a b H ha ⟨hb,o⟩
 replace o : Owns H0 H ((gid,.cells 1 [.bool b] 0)::l):=o;refine tt ?_;apply bk <;> intro h1
 ·have h1p:=of_decide h1
  have w:=wsucc (k:=a) (by omega)
  have hfa:=hfr a h1p
  have hta:=hto a h1p;refine tt ?_;refine ⟨h1p,⟨hfa.1,by omega⟩,_,(cloneB_ok B (M.getD (j.shape.frm.getD a default).toNat default)).run, ?_⟩
  have hrl:=hrow _ hfa.2
  have hfw:=hfew _ hfa.2;refine tt ?_
  refine awp_for [0,1,6,37,38,57,58] (G:=Bool) (fun k g=>[(59,some (.int .i64 (k : Int)))])
   (fun i b H=>(b=true↔P1 j.shape L M L.length∧P2 j.shape L M a∧P2i j.shape L M a i)∧Owns H0 H ((gid,.cells 1 [.bool b] 0)::l)) (M.getD (j.shape.frm.getD a default).toNat default).length b ⟨by rw [hb,P2i]; simp,o⟩ rfl ?_
  clear o hb b H
  rintro s b H hs ⟨hb,o⟩
  replace o : Owns H0 H ((gid,.cells 1 [.bool b] 0)::l):=o;refine tt ?_;apply bk <;> intro h2
  ·have h2p:=of_decide h2
   have w2:=wsucc (k:=s) (by omega)
   have hp:=hpl a s h1p (by omega);refine tt ?_;refine ⟨h2p, ?_⟩
   cases hms : mk2 M (j.shape.frm.getD a default).toNat s with
   | false =>
    have hms2:=hms;rw [hmgs] at hms2;refine tw hms2 ?_;refine tw w2 ?_;refine for_next b h2p ⟨?_,o⟩ rfl
    have : P2i j.shape L M a (s+1)↔P2i j.shape L M a s:=by
     rw [P2i,all_succ,P2i,hms]; simp
    rw [this]; exact hb
   | true =>
    have hms2:=hms;rw [hmgs] at hms2;refine tw hms2 ?_;refine ⟨by omega,by omega,hp.1, ?_⟩;refine hvis H0 H l gid b _ _ _ o ⟨hta.1,by omega⟩ ⟨hp.2.1,by rw [ix,hrow _ hta.2]; exact hp.2.2⟩ fun H o=>?_;refine tw w2 ?_;refine for_next (b && mg M (j.shape.to.getD a default) (((pullsOf j.shape L).getD a default).getD s default)) h2p ⟨?_,o⟩ rfl
    have : P2i j.shape L M a (s+1)↔P2i j.shape L M a s∧mg M (j.shape.to.getD a default) (((pullsOf j.shape L).getD a default).getD s default)=true:=by
     rw [P2i,all_succ,P2i,hms]; simp
    rw [this,Bool.and_eq_true,hb,and_assoc,and_assoc]
  ·have h2p:=of_ndecide h2
   obtain rfl : s=(M.getD (j.shape.frm.getD a default).toNat default).length:=by omega
   refine tw w ?_;refine for_next b h1p ⟨?_,o⟩ rfl
   have : P2 j.shape L M (a+1)↔P2 j.shape L M a∧P2i j.shape L M a (M.getD (j.shape.frm.getD a default).toNat default).length:=by rw [P2,all_succ,P2]
   rw [this]; exact hb
 have h1p:=of_ndecide h1
 obtain rfl : a=j.shape.frm.length:=by omega
 refine tt ?_
 refine awp_for [0,1,99,100] (G:=Bool) (fun k g=>[(101,some (.int .i64 (k : Int)))])
  (fun k b H=>(b=true↔P1 j.shape L M L.length∧P2 j.shape L M j.shape.frm.length∧P3 (covV j) k)∧Owns H0 H ((gid,.cells 1 [.bool b] 0)::l)) L.length b ⟨by rw [hb,hP3x]; simp,o⟩ rfl ?_
 clear o hb h1 b ha H h1p
 rintro x b H hx ⟨hb,o⟩
 replace o : Owns H0 H ((gid,.cells 1 [.bool b] 0)::l):=o;refine tt ?_;apply bk <;> intro h1
 ·have h1p:=of_decide h1
  have w:=wsucc (k:=x) (by omega)
  have hrl:=hrow x h1p
  have hfw:=hfew x h1p;refine tt ?_;refine ⟨h1p, ?_⟩
  refine awp_for [0,1,9,10,99,100,101,107] (G:=Bool) (fun k g=>[(108,some (.int .i64 (k : Int)))])
   (fun t b H=>(b=true↔(P1 j.shape L M L.length∧P2 j.shape L M j.shape.frm.length∧P3 (covV j) x)∧P3t (covV j) x t)∧Owns H0 H ((gid,.cells 1 [.bool b] 0)::l)) (L.getD x default).length b ⟨by rw [hb,hP3f]; simp,o⟩ rfl ?_
  clear o hb b H
  rintro t b H ht ⟨hb,o⟩
  replace o : Owns H0 H ((gid,.cells 1 [.bool b] 0)::l):=o;refine tt ?_;apply bk <;> intro h2
  ·have h2p:=of_decide h2
   have w2:=wsucc (k:=t) (by omega);refine tt ?_;refine ⟨by omega, ?_⟩;refine (cloneB_ok B (M.getD x default)).go fun _=>tt ?_
   refine awp_for [0,1,9,10,11,99,100,101,107,108,118,119] (G:=Bool) (fun k g=>[(120,some (.int .i64 (k : Int)))])
    (fun i b H=>(b=true↔((P1 j.shape L M L.length∧P2 j.shape L M j.shape.frm.length∧P3 (covV j) x)∧P3t (covV j) x t)∧P3s (covV j) x t i)∧Owns H0 H ((gid,.cells 1 [.bool b] 0)::l)) (M.getD x default).length b ⟨by rw [hb,hP3]; simp,o⟩ rfl ?_
   clear o hb b H
   rintro s b H hs ⟨hb,o⟩
   replace o : Owns H0 H ((gid,.cells 1 [.bool b] 0)::l):=o;refine tt ?_;apply bk <;> intro h3
   ·have h3p:=of_decide h3
    have w3:=wsucc (k:=s) (by omega)
    have hlo:=hloc x s t h1p (by omega) h2p;refine tt ?_;refine ⟨h3p, ?_⟩
    have hstep : P3s (covV j) x t (s+1)↔P3s (covV j) x t s∧(mk2 M x s=true→mk2 M x t=false→locP (covV j) ((L.getD x default).getD t default) ((L.getD x default).getD s default)→mk2 M x t=true):=by
     rw [hP3,all_succ,hP3]
    cases hms : mk2 M x s with
    | false =>
     have hms2:=hms;rw [hmgs] at hms2;refine tw hms2 ?_;refine tw w3 ?_;refine for_next b h3p ⟨?_,o⟩ rfl;rw [hstep,hms]
     simpa using hb
    | true =>
     have hms2:=hms;rw [hmgs] at hms2
     cases hmt : mk2 M x t with
     | true =>
      have hmt2:=hmt;rw [hmgs] at hmt2;refine tw hms2 ?_;try simp only [go_sem,↓reduceIte,reduceEqDiff,reduceAdd,reduceMul,reduceLeDiff,reduceLT,hms2,hmt2]
      refine ⟨by omega,by omega, ?_⟩;refine tw w3 ?_;refine for_next b h3p ⟨?_,o⟩ rfl;rw [hstep,hmt]
      simpa using hb
     | false =>
      have hmt2:=hmt;rw [hmgs] at hmt2;refine tw hms2 ?_;try simp only [go_sem,↓reduceIte,reduceEqDiff,reduceAdd,reduceMul,reduceLeDiff,reduceLT,hms2,hmt2]
      refine ⟨by omega,by omega,h2p,by omega,_,hlo.run, ?_⟩
      by_cases hl : locP (covV j) ((L.getD x default).getD t default) ((L.getD x default).getD s default)
      ·rw [dec_t hl];refine tt ?_;refine hvis H0 H l gid b _ x t o ⟨by omega,by simpa using (by omega : x<M.length)⟩ ⟨by omega,by rw [ix_nat]; simpa using (by omega : t<(M.getD x default).length)⟩ fun H o=>?_
       have hmg : mg M (x : Int) (t : Int)=false:=by
        rw [mg,ix_nat,ix_nat]; exact hmt2
       rw [hmg,Bool.and_false] at o;refine tw w3 ?_;refine for_next false h3p ⟨?_,o⟩ rfl;rw [hstep];refine ⟨fun e=>(by cases e),fun e=>?_⟩
       have:=e.2.2 hms hmt hl;rw [hmt] at this; cases this
      ·rw [dec_f hl];refine tw w3 ?_;refine for_next b h3p ⟨?_,o⟩ rfl;rw [hstep,hb];exact ⟨fun e=>⟨e.1,e.2,fun _ _ h=>absurd h hl⟩,fun e=>⟨e.1,e.2.1⟩⟩
   ·have h3p:=of_ndecide h3
    obtain rfl : s=(M.getD x default).length:=by omega
    refine tw w2 ?_;refine for_next b h2p ⟨?_,o⟩ rfl
    have : P3t (covV j) x (t+1)↔P3t (covV j) x t∧P3s (covV j) x t (M.getD x default).length:=by rw [hP3f,all_succ,hP3f]
    rw [this,← and_assoc]; exact hb
  ·have h2p:=of_ndecide h2
   obtain rfl : t=(L.getD x default).length:=by omega
   refine tw w ?_;refine for_next b h1p ⟨?_,o⟩ rfl
   have : P3 (covV j) (x+1)↔P3 (covV j) x∧P3t (covV j) x (L.getD x default).length:=by rw [hP3x,all_succ,hP3x]
   rw [this,hb]
   constructor
   ·rintro ⟨⟨a1,a2,a3⟩,a4⟩; exact ⟨a1,a2,a3,a4⟩
   ·rintro ⟨a1,a2,a3,a4⟩; exact ⟨⟨a1,a2,a3⟩,a4⟩
 ·have h1p:=of_ndecide h1
  obtain rfl : x=L.length:=by omega
  refine tt ?_;exact ⟨H,.refl H,hk b H (by rw [hb]; exact hfin) o⟩
theorem isTopology_ok (B : Nat) (j : Top) (hF : j.Form) (hf : AllFew j.shape) (cnt : AV) : Pur Tryz.prog B 293 [.ptr ((covV j).cells cnt)] (.bool (dec (TopIs j.shape j.covers))):=by
 have hfol:=fun (H0 H : Heap) (l : Ob) (gid : Nat) (K : Kont)=>follows_own B j hF hf cnt (H0:=H0) (H:=H) (l:=l) (gid:=gid) (K:=K)
 generalize (covV j).cells cnt=cv at *;refine ⟨fun H0=>c293.go fun _=>?_⟩;refine tt ?_;refine newRef_own (.nil _) fun gid H o=>tt ?_;refine sw o fun H o=>tt ?_;refine hfol H0 H [] gid _ o fun b H hb o=>tt ?_;refine rd_cells o (by simp) ?_;refine tt ?_;refine pure_ret ?_ o.sub
 cases b with
 | true=>rw [dec_t (hb.mp rfl)]
 | false=>rw [dec_f (fun e=>by have:=hb.mpr e; cases this)]
def CovK (j : Top) (code : Int) (H0 : Heap) : Kont:=fun r H'=>H'=H0∧∃ X,r=.tup [X,.int .i64 code]∧(code=0→∃ cnt,X=.ptr ((covV j).cells cnt))
theorem cov_ret {j : Top} {code n : Int} {H0 H : Heap} {X : AV} (hs : H0.sub H) (hn : n=code) (h : code=0→∃ cnt,X=.ptr ((covV j).cells cnt)) : subW (CovK j code H0) (.tup [X,.int .i64 n]) H :=
 ⟨H0,hs,rfl,X,by rw [hn],h⟩
theorem limitCode_ok (B : Nat) (j : Top) (hF : j.Form) (H0 : Heap) : CallH Tryz.prog B 253 [.ptr j.cells] H0 (CovK j (codeT j) H0):=by
 refine c253p.go fun _=>?_;refine tt ?_;refine coverage_own B j hF (.nil H0) (fun hf X=>?_) fun hf id ic X n q H hX o=>?_
 ·have e : codeT j=3:=by rw [codeT,if_neg (fun e=>e hF),if_pos hf]
  refine tt ?_;exact cov_ret (.refl _) e.symm (fun e2=>by rw [e] at e2; cases e2)
 ·refine tt ?_;refine wk_cov 4 hX o rfl fun H o=>wkW_done ?_
  have hcv : [AV.ptr (clsV j.shape),.ptr j.shape.cells,mL (mL AV.bool) (marksOf (listsOf j.shape) j.covers),.ref ic 0]=(covV j).cells (.ref ic 0):=rfl
  have htop:=isTopology_ok B j hF hf (.ref ic 0);rw [hcv]
  generalize hcc : (covV j).cells (.ref ic 0)=cv at *;refine tt ?_;refine htop.go fun _=>?_
  by_cases ht : TopIs j.shape j.covers
  ·have e : codeT j=0:=by rw [codeT,if_neg (fun e=>e hF),if_neg (fun e=>e hf),if_pos ht]
   rw [dec_t ht];refine tt ?_;exact cov_ret o.sub e.symm fun _=>⟨_,by rw [hcc]⟩
  ·have e : codeT j=5:=by rw [codeT,if_neg (fun e=>e hF),if_neg (fun e=>e hf),if_neg ht]
   rw [dec_f ht];refine tt ?_;exact cov_ret o.sub e.symm (fun e2=>by rw [e] at e2; cases e2)
open Classical in
noncomputable def codeO (j : Top) (f : SF) : Int:=if codeT j=0∧¬ j.shape=f.shape then 5 else codeT j
open Classical in
theorem onCode_ok (B : Nat) (j : Top) (f : SF) (hF : j.Form) (H0 : Heap) : CallH Tryz.prog B 176 [.ptr j.cells,mL sfP [f]] H0 (CovK j (codeO j f) H0):=by
 refine c176.go fun _=>?_;refine tt ?_;refine (limitCode_ok B j hF H0).mono ?_
 rintro r H ⟨rfl,X,rfl,hX⟩
 by_cases h0 : codeT j=0
 ·obtain ⟨cnt,rfl⟩:=hX h0
  have e0 : codeO j f=if j.shape=f.shape then 0 else 5:=by
   rw [codeO]
   by_cases h : j.shape=f.shape
   ·rw [if_neg (fun e=>e.2 h),if_pos h,h0]
   ·rw [if_pos ⟨h0,h⟩,if_neg h]
  rw [h0]
  generalize hcc : (covV j).cells cnt=cv at *;refine tt ?_;refine ⟨fun e=>(by simp at e),fun _=>At.mk ?_⟩;refine tt ?_;refine awp_for [0,6,18,19] (G:=Unit) (fun k _=>[(20,some (.int .i64 (k : Int)))]) (fun k _ H'=>H'=H∧(0<k→j.shape=f.shape)) 1 () ⟨rfl,by simp⟩ rfl ?_
  rintro k _ H' hk ⟨rfl,hall⟩;refine tt ?_;apply bk <;> intro h1
  ·have h1p:=of_decide h1
   obtain rfl : k=0:=by simp at h1p; omega
   have w:=wsucc (k:=0) (by omega);refine tt ?_;refine ⟨_,(sameCategory_ok B j.shape f.shape).run, ?_⟩
   by_cases h : j.shape=f.shape
   ·rw [dec_t h];refine tw w ?_;exact for_next () (by omega) ⟨rfl,fun _=>h⟩ rfl
   ·rw [dec_f h];refine tt ?_;rw [if_neg h] at e0;exact cov_ret (.refl _) e0.symm (fun e2=>by rw [e0] at e2; cases e2)
  ·have h1p:=of_ndecide h1
   have hk1 : 0<k:=by simp at h1p; omega
   rw [if_pos (hall hk1)] at e0;refine tt ?_;exact cov_ret (.refl _) e0.symm fun _=>⟨_,by rw [hcc]⟩
 ·have e0 : codeO j f=codeT j:=by rw [codeO,if_neg (fun e=>h0 e.1)]
  refine tt ?_;refine ⟨fun _=>At.mk ?_,fun e=>?_⟩;rotate_left
  ·exact absurd (by simpa using e) h0
  refine tt ?_;exact cov_ret (.refl _) e0.symm (fun e2=>absurd (e0.symm.trans e2) h0)
theorem sheafCode_ok (B : Nat) (j : Top) (f : SF) (H0 : Heap) : CallH Tryz.prog B 96 [.ptr j.cells,mL sfP [f]] H0 (CovK j (codeF j f) H0):=by
 refine c96.go fun _=>?_;refine tt ?_;refine (hasForm_ok B j).go fun _=>?_
 by_cases hF : j.Form
 ·rw [dec_t hF];refine tt ?_;refine (areSetFunctors_ok B [f]).go fun _=>?_
  by_cases hf : f.Is
  ·have e0 : codeF j f=codeO j f:=by rw [codeF,if_neg (fun e=>e ⟨hF,hf⟩),codeO]
   rw [dec_t (by simpa using hf)];refine tt ?_;refine (onCode_ok B j f hF H0).mono ?_
   rintro r H ⟨rfl,X,rfl,hX⟩;refine tt ?_;rw [← e0] at hX ⊢;exact cov_ret (.refl _) rfl hX
  ·have e0 : codeF j f=1:=by rw [codeF,if_pos (fun e=>hf e.2)]
   rw [dec_f (by simpa using hf)];refine tt ?_;exact cov_ret (.refl _) e0.symm (fun e2=>by rw [e0] at e2; cases e2)
 ·have e0 : codeF j f=1:=by rw [codeF,if_pos (fun e=>hF e.1)]
  rw [dec_f hF];refine tt ?_;exact cov_ret (.refl _) e0.symm (fun e2=>by rw [e0] at e2; cases e2)
end Go.Proofs.Shf
namespace Go.AW
theorem New.go {P : Program} {B : Nat} {fn : FuncId} {args : List AV} {O : Ob→AV→Prop} {H0 H : Heap} {l : Ob} {K : Kont} (h : New P B fn args O) (o : Owns H0 H l) (hk : ∀ r p H',O p r→Owns H0 H' (p++l)→H.sub H'→K r H') : CallH P B fn args H K :=
 (h.run H).mono fun r H' ⟨p,q1,q2⟩=>hk r p H' q1 (o.trans q2) q2.sub
theorem Owns.last {H0 H : Heap} {q : Ob} {x : Nat × MObj} (o : Owns H0 H (q++[x])) : Owns H0 H (x::q):=o.perm List.perm_append_comm
end Go.AW
namespace Go.Proofs.Shf
open Go.AW Go.Proofs Go.Shf
theorem perm_rev3 (a b c : Ob) : (c++(b++a)).Perm (a++(b++c)):=by
 refine List.perm_append_comm.trans ?_;rw [← List.append_assoc];exact List.Perm.append_right c List.perm_append_comm
theorem perm_rev4 (a b c d : Ob) : (d++(c++(b++a))).Perm (a++(b++(c++d))):=by
 refine List.perm_append_comm.trans ?_
 have:=List.Perm.append_right d (perm_rev3 a b c)
 simpa only [List.append_assoc] using this
theorem clone_new (B : Nat) (l : List Int) : New Tryz.prog B 221 [iL l] fun p X=>OL p X l :=
 ⟨fun H=>(clone_own B l H H [] (.nil H)).mono fun r H' ⟨id,A,e,o,q⟩=>by
  subst e q;exact ⟨_,.inr ⟨id,_,[],rfl,by simp,rowsI _⟩,o⟩⟩
theorem clones_new (B : Nat) (l : List (List Int)) : New Tryz.prog B 179 [iLL l] fun p X=>OLL p X l:=by
 refine ⟨fun H0=>c179p.go fun ⟨hf,_⟩=>?_⟩
 have hl:=fine_mL_le hf;simp only [maxL] at hl;refine tt ?_;refine ⟨by simp only [maxL]; omega,newBuf_own (.nil _) fun id H o=>?_⟩;refine tt ?_
 refine awp_for [9,10] (G:=AV × Ob) (fun k g=>[(3,some g.1),(11,some (.int .i64 (k : Int)))])
  (fun k g H=>OLL g.2 g.1 (l.take k)∧Owns H0 H (g.2++[])) l.length (.buf id 0,[(id,.cells 1 [] 0)]) ⟨.inr ⟨id,[],[],rfl,rfl,.nil⟩,o⟩ rfl ?_
 clear o
 rintro k ⟨X,q⟩ H hk ⟨hX,o⟩;dsimp only at hX o;refine tt ?_;apply bk <;> intro h1
 ·have h1p:=of_decide h1
  have w:=wsucc (k:=k) (by omega);refine tt ?_;refine ⟨h1p, ?_⟩;refine (clone_new B (l.getD k default)).go o fun Y p H hY o _=>?_
  have hY1:=hY.one;refine tt ?_;refine ⟨by simp [okEls,AV.cells_one hY1,hY1], ?_⟩;refine hX.app hY ⟨AV.cells_one hY1,hY1⟩ o (by rw [List.length_take]; simp only [maxL]; omega) fun X' q' H hX1 hX' o=>?_;refine tw w ?_;refine for_next (X',q') h1p ⟨?_,o⟩ rfl
  simp only;rw [take_succ_getD l h1p]; exact hX'
 ·have h1p:=of_ndecide h1
  obtain rfl : k=l.length:=by omega
  rw [List.take_length] at hX;rw [List.append_nil] at o;refine tt ?_;exact ⟨H,.refl H,q,hX,o⟩
theorem catCopy_new (B : Nat) (c : Cat) : New Tryz.prog B 220 [.ptr c.cells] fun p X=>OCat p X c:=by
 refine ⟨fun H0=>c220p.go fun _=>?_⟩;refine tt ?_;refine nb (.nil _) fun id H o=>tt ?_;refine (clone_new B c.frm).go o fun X1 p1 H q1 o hs=>⟨hs, ?_⟩;refine tt ?_;refine (clone_new B c.to).go o fun X2 p2 H q2 o hs=>⟨hs, ?_⟩;refine tt ?_;refine (clone_new B c.idn).go o fun X3 p3 H q3 o hs=>⟨hs, ?_⟩;refine tt ?_;refine (clones_new B c.comp).go o fun X4 p4 H q4 o hs=>⟨hs, ?_⟩
 have v1:=q1.one
 have v2:=q2.one
 have v3:=q3.one
 have v4:=q4.one;try simp only [go_sem,↓reduceIte,reduceEqDiff,reduceAdd,reduceMul,reduceLeDiff,reduceLT,AV.cells_one v1,AV.cells_one v2,AV.cells_one v3,AV.cells_one v4]
 have o:=Owns.last (q:=p4++(p3++(p2++p1))) (by simpa only [List.append_assoc] using o);refine st_cells o (by simp) rfl (by simp only [memcons,memnil]; exact ⟨rfl,v1,v2,v3,v4,trivial⟩) fun H o=>?_;simp only [wr_cons,wr_nil,List.set_cons_zero,List.set_cons_succ] at o;refine tt ?_
 have hr:=o.rc 5 0 (by simp);simp only [List.drop_zero] at hr;rw [hr];exact ⟨H,.refl H,_,⟨X1,X2,X3,X4,p1,p2,p3,p4,rfl,rfl,q1,q2,q3,q4⟩,o.tl.perm (perm_rev4 _ _ _ _)⟩
theorem sfCopy_new (B : Nat) (f : SF) : New Tryz.prog B 178 [.ptr f.cells] fun p X=>OSF p X f:=by
 refine ⟨fun H0=>c178p.go fun _=>?_⟩;refine tt ?_;refine nb (.nil _) fun id H o=>tt ?_;refine (catCopy_new B f.shape).go o fun Z p1 H q1 o hs=>⟨hs, ?_⟩;refine tt ?_;refine (clone_new B f.sizes).go o fun X5 p2 H q2 o hs=>⟨hs, ?_⟩;refine tt ?_;refine (clones_new B f.acts).go o fun X6 p3 H q3 o hs=>⟨hs, ?_⟩
 have v5:=q2.one
 have v6:=q3.one
 obtain ⟨X1,X2,X3,X4,a1,a2,a3,a4,rfl,rfl,b1,b2,b3,b4⟩:=q1
 have v1:=b1.one
 have v2:=b2.one
 have v3:=b3.one
 have v4:=b4.one;try simp only [go_sem,↓reduceIte,reduceEqDiff,reduceAdd,reduceMul,reduceLeDiff,reduceLT,AV.cells_one v5,AV.cells_one v6]
 have o:=Owns.last (q:=p3++(p2++(a1++(a2++(a3++a4))))) (by simpa only [List.append_assoc] using o);refine st_cells o (by simp) rfl (by simp only [memcons,memnil]; exact ⟨rfl,v1,v2,v3,v4,v5,v6,trivial⟩) fun H o=>?_;simp only [wr_cons,wr_nil,List.set_cons_zero,List.set_cons_succ] at o;refine tt ?_
 have hr:=o.rc 7 0 (by simp);simp only [List.drop_zero] at hr;rw [hr];refine ⟨H,.refl H,_,⟨X1,X2,X3,X4,X5,X6,a1,a2,a3,a4,p2,p3,rfl,rfl,b1,b2,b3,b4,q2,q3⟩, ?_⟩
 have o:=o.tl.perm (perm_rev3 _ _ _)
 simpa only [List.append_assoc] using o
theorem OSF.seven {p : Ob} {X : AV} {f : SF} (h : OSF p X f) : ∃ X1 X2 X3 X4 X5 X6,X=.agg [iI f.shape.objs,X1,X2,X3,X4,X5,X6]∧X1.one=true∧X2.one=true∧X3.one=true∧X4.one=true∧X5.one=true∧X6.one=true:=by
 obtain ⟨X1,X2,X3,X4,X5,X6,a1,a2,a3,a4,a5,a6,rfl,rfl,b1,b2,b3,b4,b5,b6⟩:=h;exact ⟨_,_,_,_,_,_,rfl,b1.one,b2.one,b3.one,b4.one,b5.one,b6.one⟩
theorem setMap_new (B : Nat) (f g : SF) (t : List (List Int)) : New Tryz.prog B 98 [.ptr f.cells,.ptr g.cells,iLL t] fun p X=>OSM p X ⟨f,g,t⟩:=by
 refine ⟨fun H0=>c98.go fun _=>?_⟩;refine tt ?_;refine nb (.nil _) fun id H o=>tt ?_;refine (sfCopy_new B f).go o fun Z p1 H q1 o _=>tt ?_;refine (sfCopy_new B g).go o fun Y p2 H q2 o _=>tt ?_;refine (clones_new B t).go o fun W p3 H q3 o _=>?_
 obtain ⟨X1,X2,X3,X4,X5,X6,rfl,u1,u2,u3,u4,u5,u6⟩:=OSF.seven q1
 obtain ⟨Y1,Y2,Y3,Y4,Y5,Y6,rfl,v1,v2,v3,v4,v5,v6⟩:=OSF.seven q2
 have w:=q3.one;try simp only [go_sem,↓reduceIte,reduceEqDiff,reduceAdd,reduceMul,reduceLeDiff,reduceLT,AV.cells_one w]
 have o:=Owns.last (q:=p3++(p2++p1)) (by simpa only [List.append_assoc] using o);refine st_cells o (by simp) rfl (by simp only [memcons,memnil]; exact ⟨rfl,u1,u2,u3,u4,u5,u6,rfl,v1,v2,v3,v4,v5,v6,w,trivial⟩) fun H o=>?_;simp only [wr_cons,wr_nil,List.set_cons_zero,List.set_cons_succ] at o;refine tt ?_
 have hr:=o.rc 15 0 (by simp);simp only [List.drop_zero] at hr;rw [hr];exact ⟨H,.refl H,_,⟨[_,X1,X2,X3,X4,X5,X6],[_,Y1,Y2,Y3,Y4,Y5,Y6],W,p1,p2,p3,rfl,rfl,q1,q2,q3⟩,o.tl.perm (perm_rev3 _ _ _)⟩
end Go.Proofs.Shf
namespace Go.Shf
open Go.AW Go.Proofs.Shf
theorem leastV_eq {j : Top} (hF : j.Form) (hf : AllFew j.shape) : leastV (covV j)=leastL j.shape j.covers:=by
 have hcv:=form_covers hF hf
 have hml : (covV j).marks.length=(listsOf j.shape).length:=marks_len;rw [leastV,leastL,hml,hcv.1];apply List.map_congr_left
 intro x hx
 have hx' : x<(listsOf j.shape).length:=by have:=List.mem_range.mp hx; omega
 rw [leastM,leastAt];apply List.filter_congr
 intro a ha
 have hsv : (covV j).sieves=listsOf j.shape:=rfl
 have hmr : (covV j).marks.getD x default=((listsOf j.shape).getD x default).map fun s=>decide (s∈j.covers.getD x default):=marks_get hx';rw [hsv,hmr,List.length_map,leastP,Bool.eq_iff_iff,chkP,List.all_eq_true,decide_eq_true_eq]
 constructor
 ·intro h s hs
  obtain ⟨n,hn,rfl⟩:=mem_getD.mp (hcv.2 x hx' s hs).2
  have:=h n (List.mem_range.mpr hn);rw [map_getD _ hn] at this;simp only [Bool.or_eq_true,Bool.not_eq_true',decide_eq_true_eq,decide_eq_false_iff_not] at this;exact this.resolve_left fun e=>e hs
 ·intro h n hn
  have hn:=List.mem_range.mp hn;rw [map_getD _ hn]
  by_cases hs : ((listsOf j.shape).getD x default).getD n default∈j.covers.getD x default
  ·simp only [Bool.or_eq_true,decide_eq_true_eq];exact .inr (h _ hs)
  ·simp only [Bool.or_eq_true,Bool.not_eq_true',decide_eq_false_iff_not];exact .inl hs
def zSF : SF:=⟨⟨0,[],[],[],[]⟩,[],[]⟩
def zSM : SM:=⟨zSF,zSF,[]⟩
open Classical in
noncomputable def unitM (j : Top) (f : SF) : SM:=if codeF j f=0∧StepFew f (leastL j.shape j.covers) then ⟨f,stepSF f (leastL j.shape j.covers),unitS f (leastL j.shape j.covers)⟩ else zSM
theorem zSF_own : OSF [] (.agg [.int .i64 0,.nilsl,.nilsl,.nilsl,.nilsl,.nilsl,.nilsl]) zSF :=
 ⟨.nilsl,.nilsl,.nilsl,.nilsl,.nilsl,.nilsl,[],[],[],[],[],[],rfl,rfl,.inl ⟨rfl,rfl,rfl⟩,.inl ⟨rfl,rfl,rfl⟩,.inl ⟨rfl,rfl,rfl⟩,.inl ⟨rfl,rfl,rfl⟩,.inl ⟨rfl,rfl,rfl⟩,.inl ⟨rfl,rfl,rfl⟩⟩
theorem zSM_own : OSM [] (.agg [.int .i64 0,.nilsl,.nilsl,.nilsl,.nilsl,.nilsl,.nilsl,.int .i64 0,.nilsl,.nilsl,.nilsl,.nilsl,.nilsl,.nilsl,.nilsl]) zSM :=
 ⟨[_,_,_,_,_,_,_],[_,_,_,_,_,_,_],.nilsl,[],[],[],rfl,rfl,zSF_own,zSF_own,.inl ⟨rfl,rfl,rfl⟩⟩
end Go.Shf
namespace Go.AW
def OTc {α : Type} (O : Ob→AV→α→Prop) (code : Int) (p : Ob) (X : AV) (a : α) : Prop:=∃ Y,X=.tup [Y,.int .i64 code]∧O p Y a
theorem Ow.tupc {α : Type} {O : Ob→AV→α→Prop} {f : α→AV} (h : Ow O f) (code : Int) : Ow (OTc O code) fun a=>.tup [f a,.int .i64 code] :=
 (Ow.tup fun a=>[f a,.int .i64 code]).of fun p X a ⟨Y,e,hY⟩=>⟨_,e,by
  have:=Flds.cons h hY (fldI code .nil);rw [List.append_nil] at this; exact this⟩
end Go.AW
namespace Go.Proofs.Shf
open Go.AW Go.Proofs Go.Shf
theorem OSM.fifteen {p : Ob} {X : AV} {m : SM} (h : OSM p X m) : ∃ Xs,X=.agg Xs∧Xs.length=15∧∀ c,c∈Xs→c.one=true:=by
 obtain ⟨Xs,Ys,Z,p1,p2,p3,rfl,rfl,h1,h2,h3⟩:=h
 obtain ⟨X1,X2,X3,X4,X5,X6,e,u1,u2,u3,u4,u5,u6⟩:=OSF.seven h1
 obtain ⟨Y1,Y2,Y3,Y4,Y5,Y6,e2,v1,v2,v3,v4,v5,v6⟩:=OSF.seven h2
 injection e with e
 injection e2 with e2
 subst e e2;refine ⟨_,rfl,rfl, ?_⟩;simp only [List.cons_append,List.nil_append,memcons,memnil];exact ⟨rfl,u1,u2,u3,u4,u5,u6,rfl,v1,v2,v3,v4,v5,v6,h3.one,trivial⟩
theorem len15 {l : List AV} (h : l.length=15) : ∃ a b c d e f g h i j k m n o p,l=[a,b,c,d,e,f,g,h,i,j,k,m,n,o,p]:=by
 match l,h with
 | [a,b,c,d,e,f,g,h,i,j,k,m,n,o,p],_=>exact ⟨a,b,c,d,e,f,g,h,i,j,k,m,n,o,p,rfl⟩
theorem implStepUnit_new (B : Nat) (j : Top) (f : SF) : New Tryz.prog B 107 [.agg j.cells,.agg f.cells] fun p X=>OTc OSM (firstC j f) p X (unitM j f):=by
 refine ⟨fun H0=>c107p.go fun _=>?_⟩
 have hsc:=fun H=>sheafCode_ok B j f H;refine tt ?_;refine nb (.nil _) fun id H o=>tt ?_;refine (hsc H).mono ?_
 rintro r H ⟨rfl,X,rfl,hX⟩
 by_cases h0 : codeF j f=0
 ·obtain ⟨cnt,rfl⟩:=hX h0
  obtain ⟨hF,hf,hct,hsh⟩:=codeF_z h0
  have haf : AllFew j.shape:=by
   unfold codeT at hct;rw [if_neg (fun e=>e hF)] at hct;apply Classical.byContradiction; intro e;rw [if_pos e] at hct; cases hct
  have htop : TopIs j.shape j.covers:=by
   unfold codeT at hct;rw [if_neg (fun e=>e hF),if_neg (fun e=>e haf)] at hct;apply Classical.byContradiction; intro e;rw [if_neg e] at hct; cases hct
  have hcov:=least_cov hF.is hF.len (fun x hx s hs=>by
   obtain ⟨k,hk,rfl⟩:=mem_getD.mp hs;exact hF.sv x hx k hk) htop
  have tab:=tabOk hF.is haf
  have hml : (covV j).marks.length=(listsOf j.shape).length:=marks_len
  have hmk : MarkOk (listsOf j.shape) (covV j).marks:=markOk
  have hstep:=step_ok B (covV j) cnt f hf.1 hsh (by rw [hml,← hsh]; exact tab.len) hml.symm (fun x hx=>by
   have hx' : x<(listsOf j.shape).length:=by rw [← hml]; exact hx
   have h1:=hmk.row x hx'
   have h2:=tab.few x hx'
   have h3 : (covV j).sieves=listsOf j.shape:=rfl;rw [h1,h3];exact ⟨Nat.le_refl _,by omega⟩) (by rw [leastV_eq hF haf,← hsh]; exact hcov)
  rw [leastV_eq hF haf] at hstep;rw [h0];rw [hsh] at hcov
  generalize hcc : (covV j).cells cnt=cv at *
  generalize hV : leastL j.shape j.covers=V at *
  have hVs : leastL f.shape j.covers=V:=by rw [← hsh]; exact hV
  rw [hVs] at hcov
  have hunit:=fun hfew=>unit_ok B f hf.1 hf.compL V hcov hfew
  have hset:=setMap_new B f (stepSF f V) (unitS f V);refine tt ?_;refine ⟨fun e=>(by simp at e),fun _=>At.mk ?_⟩;refine tt ?_;refine hstep.go fun _=>?_
  by_cases hfew : StepFew f V
  ·have hM : unitM j f=⟨f,stepSF f V,unitS f V⟩:=by rw [unitM,hV,if_pos ⟨h0,hfew⟩]
   have hC : firstC j f=0:=by rw [firstC,hV,if_pos h0,if_pos hfew]
   rw [stepOr,if_pos hfew,dec_t hfew,hM,hC]
   replace hunit:=hunit hfew;refine tt ?_;refine ⟨_,hunit.run,tt ?_⟩;refine hset.go o fun Y p H q o _=>?_
   obtain ⟨Ys,rfl,hl,h1⟩:=OSM.fifteen q;refine tt ?_
   have o:=Owns.last o;refine st_cells o (by simp) hl h1 fun H o=>?_
   obtain ⟨y1,y2,y3,y4,y5,y6,y7,y8,y9,y10,y11,y12,y13,y14,y15,rfl⟩:=len15 hl;simp only [wr_cons,wr_nil,List.set_cons_zero,List.set_cons_succ] at o;refine tt ?_
   have hr:=o.rc 15 0 (by simp);simp only [List.drop_zero] at hr;rw [hr];exact ⟨H,.refl H,p,⟨_,rfl,q⟩,o.tl⟩
  ·have hM : unitM j f=zSM:=by rw [unitM,hV,if_neg (fun e=>hfew e.2)]
   have hC : firstC j f=3:=by rw [firstC,hV,if_pos h0,if_neg hfew]
   rw [stepOr,if_neg hfew,dec_f hfew,hM,hC];refine tt ?_;refine sw o fun H o=>tt ?_
   have hr:=o.rc 15 0 (by simp);simp only [List.drop_zero] at hr;rw [hr];exact ⟨H,.refl H,[],⟨_,rfl,zSM_own⟩,o.tl⟩
 ·have hM : unitM j f=zSM:=by rw [unitM,if_neg (fun e=>h0 e.1)]
  have hC : firstC j f=codeF j f:=by rw [firstC,if_neg h0]
  rw [hM,hC];refine tt ?_;refine ⟨fun _=>At.mk ?_,fun e=>?_⟩;rotate_left
  ·exact absurd (by simpa using e) h0
  refine tt ?_;refine sw o fun H o=>tt ?_
  have hr:=o.rc 15 0 (by simp);simp only [List.drop_zero] at hr;rw [hr];exact ⟨H,.refl H,[],⟨_,rfl,zSM_own⟩,o.tl⟩
theorem implSheafStep_new (B : Nat) (j : Top) (f : SF) : New Tryz.prog B 42 [.agg j.cells,.agg f.cells] fun p X=>OTc OSF (firstC j f) p X (unitM j f).tgt:=by
 refine ⟨fun H0=>c42.go fun _=>?_⟩
 have hsu:=implStepUnit_new B j f
 generalize unitM j f=m at *
 generalize firstC j f=code at *;refine tt ?_;refine nb (.nil _) fun id H o=>tt ?_;refine hsu.go o fun Z p H ⟨Y,e,q⟩ o _=>?_;subst e
 obtain ⟨Xs,Ys,W,p1,p2,p3,rfl,rfl,h1,h2,h3⟩:=q
 obtain ⟨X1,X2,X3,X4,X5,X6,e,u1,u2,u3,u4,u5,u6⟩:=OSF.seven h1
 obtain ⟨Y1,Y2,Y3,Y4,Y5,Y6,e2,v1,v2,v3,v4,v5,v6⟩:=OSF.seven h2
 have w:=h3.one
 injection e with e
 injection e2 with e2
 subst e e2;simp only [List.cons_append,List.nil_append];refine tt ?_;refine nb o fun id6 H o=>tt ?_;refine st_cells o (by simp) rfl (by simp only [memcons,memnil]; exact ⟨rfl,u1,u2,u3,u4,u5,u6,rfl,v1,v2,v3,v4,v5,v6,w,trivial⟩) fun H o=>?_;simp only [wr_cons,wr_nil,List.set_cons_zero,List.set_cons_succ] at o;refine tt ?_;refine rd_celln o (by simp) ?_;refine tt ?_
 have o:=Owns.last (q:=p1++(p2++p3)) (by simpa only [List.append_assoc] using o.tl);refine st_cells o (by simp) rfl (by simp only [memcons,memnil]; exact ⟨rfl,v1,v2,v3,v4,v5,v6,trivial⟩) fun H o=>?_;simp only [wr_cons,wr_nil,List.set_cons_zero,List.set_cons_succ] at o;refine tt ?_
 have hr:=o.rc 7 0 (by simp);simp only [List.drop_zero] at hr;rw [hr];refine ⟨H,.refl H,p2,⟨_,rfl,h2⟩, ?_⟩
 have o2 : Owns H0 H (p2++(p3++p1)):=by
  have:=o.tl.rot
  simpa only [List.append_assoc] using this
 exact ⟨o2.sub,fun x hx=>o2.get x (List.mem_append_left _ hx),(List.nodup_append.mp (by simpa using o2.nd)).1,fun x hx=>o2.out x (List.mem_append_left _ hx)⟩
end Go.Proofs.Shf
namespace Go.Shf
open Go.AW
def thenS (s t : List (List Int)) : List (List Int):=(List.range s.length).map fun x=>(s.getD x default).map fun y=>ix (t.getD x default) y
def TwoFew (f : SF) (V : List (List Int)) : Prop:=StepFew f V∧StepFew (stepSF f V) V
theorem unit_ran {f : SF} {V : List (List Int)} (h : f.Shape) (hc : f.CompL) (v : CovOk f.shape V) {x : Nat} (hx : x<f.sizes.length) : ∀ y,y∈(unitS f V).getD x default→0≤y∧y.toNat<(famAt f V x).length:=by
 intro y hy
 have hfl:=h.sl
 have hvl:=v.len;rw [unitS,getD_map_range _ _ hx,unitAt] at hy
 obtain ⟨e,he,rfl⟩:=List.mem_map.mp hy
 obtain ⟨n,hn,rfl⟩:=List.mem_map.mp he
 have hn:=List.mem_range.mp hn
 have hs:=v.sv x (by omega)
 have hm:=imgs_fam (e:=(n : Int)) h hc hs ⟨by omega,by omega⟩
 have:=indexOf_in (((famS_is h hs).mem _).mpr hm);exact ⟨this.1,this.2.1⟩
theorem unit_len {f : SF} {V : List (List Int)} (h : f.Shape) (v : CovOk f.shape V) {x : Nat} (hx : x<f.sizes.length) : ((unitS (stepSF f V) V).getD x default).length=(famAt f V x).length:=by
 have hfl:=h.sl
 have hvl:=v.len
 have h1 : (stepSF f V).sizes.length=V.length:=by simp [stepSF,stepSizes]
 rw [unitS,getD_map_range _ _ (by omega),unitAt,List.length_map,List.length_map,List.length_range]
 have : ix (stepSF f V).sizes x=((famAt f V x).length : Int):=by
  show ix (stepSizes f V) x=_
  rw [ix_nat,stepSizes,getD_map_range _ _ (by omega)]; rfl
 rw [this]; rfl
theorem then_ran {f : SF} {V : List (List Int)} (h : f.Shape) (hc : f.CompL) (v : CovOk f.shape V) : (unitS f V).length≤(unitS (stepSF f V) V).length∧(unitS f V).length≤8 ∧
  ∀ x,x<(unitS f V).length→∀ y,y∈(unitS f V).getD x default→0≤y∧y.toNat<((unitS (stepSF f V) V).getD x default).length:=by
 have hfl:=h.sl
 have hvl:=v.len
 have ho:=h.is.1.o
 have h0 : (unitS f V).length=f.sizes.length:=by simp [unitS]
 have h1 : (unitS (stepSF f V) V).length=V.length:=by simp [unitS,stepSF,stepSizes]
 refine ⟨by omega,by omega,fun x hx y hy=>?_⟩;rw [unit_len h v (by omega)];exact unit_ran h hc v (by omega) y hy
end Go.Shf
namespace Go.Proofs.Shf
open Go.AW Go.Proofs Go.Shf
theorem then_okS (B : Nat) {f : SF} {V : List (List Int)} (h : f.Shape) (hc : f.CompL) (v : CovOk f.shape V) : Pur Tryz.prog B 102 [iLL (unitS f V),iLL (unitS (stepSF f V) V)] (iLL (thenS (unitS f V) (unitS (stepSF f V) V))) :=
 l19Then_ok B _ _ (then_ran h hc v).1 (then_ran h hc v).2.2
theorem thenParts_okS (B : Nat) {f : SF} {V : List (List Int)} (h : f.Shape) (hc : f.CompL) (v : CovOk f.shape V) : Pur Tryz.prog B 119 [iLL (unitS f V),iLL (unitS (stepSF f V) V)] (iLL (thenS (unitS f V) (unitS (stepSF f V) V))) :=
 thenParts_ok B _ _ (then_ran h hc v).1 (then_ran h hc v).2.2
open Classical in
noncomputable def bothB (f : SF) (V : List (List Int)) : List AV:=if TwoFew f V then stepCells (stepSF f V) V else tabZ
theorem stepA8 (f : SF) (V : List (List Int)) : ∃ a1 a2 a3 a4 a5 a6 a7 a8,stepA f V=[a1,a2,a3,a4,a5,a6,a7,a8]∧∀ c,c∈[a1,a2,a3,a4,a5,a6,a7,a8]→c.one=true:=by
 unfold stepA
 split
 ·exact ⟨_,_,_,_,_,_,_,_,rfl,by simp only [memcons,memnil]; exact ⟨rfl,rfl,rfl,rfl,rfl,rfl,rfl,rfl,trivial⟩⟩
 ·exact ⟨_,_,_,_,_,_,_,_,rfl,by simp only [memcons,memnil]; exact ⟨rfl,rfl,rfl,rfl,rfl,rfl,rfl,rfl,trivial⟩⟩
theorem l28Both_ok (B : Nat) (f : SF) (h : f.Shape) (V : List (List Int)) (c : CovOk f.shape V) : Pur Tryz.prog B 173 [.agg f.cells,iLL V] (.tup [.agg (stepA f V),.agg (bothB f V),.bool (dec (TwoFew f V))]):=by
 refine ⟨fun H0=>c173p.go fun hfi=>?_⟩;refine tt ?_;refine nb (.nil _) fun id4 H o=>tt ?_;refine nb o fun id5 H o=>tt ?_;refine (l28Make_ok B f h V c).go fun _=>?_
 by_cases h1 : StepFew f V
 ·rw [stepA_t h1,dec_t h1];refine tt ?_;refine nb o fun id7 H o=>tt ?_;refine sw o fun H o=>tt ?_;refine rd_celln o (by simp) ?_;refine tt ?_;refine (l28Make_ok B (stepSF f V) (step_shape h c h1) V c).go fun _=>?_
  obtain ⟨a1,a2,a3,a4,a5,a6,a7,a8,hA,h8⟩:=stepA8 (stepSF f V) V
  have hB : bothB f V=[a1,a2,a3,a4,a5,a6,a7,a8]:=by
   rw [← hA,bothB,stepA]
   by_cases h2 : StepFew (stepSF f V) V
   ·rw [if_pos ⟨h1,h2⟩,if_pos h2]
   ·rw [if_neg (fun e=>h2 e.2),if_neg h2]
  have hD : dec (TwoFew f V)=dec (StepFew (stepSF f V) V):=by
   by_cases h2 : StepFew (stepSF f V) V
   ·rw [dec_t h2,dec_t ⟨h1,h2⟩]
   ·rw [dec_f h2,dec_f (fun e=>h2 e.2)]
  rw [hA,hB,hD];refine tt ?_;refine nb o fun id9 H o=>tt ?_;refine st_cells o (by simp) (by (try simp only [go_sem]); (try simp)) h8 fun H o=>?_;simp only [wr_cons,wr_nil,List.set_cons_zero,List.set_cons_succ] at o;refine tt ?_;refine wk_ref 9 o rfl fun H o=>?_;refine wk_ref 7 o rfl fun H o=>wkW_done ?_;refine tt ?_;refine sw o.swap fun H o=>tt ?_;refine st_cells o.swap (by simp) (by (try simp only [go_sem]); (try simp)) h8 fun H o=>?_;simp only [wr_cons,wr_nil,List.set_cons_zero,List.set_cons_succ] at o;refine tt ?_
  have hr:=o.swap.rc 8 0 (by simp)
  have hr2:=o.rc 8 0 (by simp);simp only [List.drop_zero] at hr hr2;rw [hr,hr2];exact pure_ret rfl o.sub
 ·have hB : bothB f V=tabZ:=by rw [bothB,if_neg (fun e=>h1 e.1)]
  rw [stepA_f h1,dec_f h1,hB,dec_f (fun e=>h1 e.1)];refine tt ?_;refine nb o fun id7 H o=>tt ?_;refine sw o fun H o=>tt ?_;refine sw o.tl.swap fun H o=>tt ?_;refine sw o.swap fun H o=>tt ?_
  have hr:=o.swap.rc 8 0 (by simp)
  have hr2:=o.rc 8 0 (by simp);simp only [List.drop_zero] at hr hr2;rw [hr,hr2];exact pure_ret rfl o.sub
open Classical in
noncomputable def twoA (j : Top) (f : SF) : List AV:=if codeF j f=0∧TwoFew f (leastL j.shape j.covers) then stepCells f (leastL j.shape j.covers) else tabZ
open Classical in
noncomputable def twoB (j : Top) (f : SF) : List AV:=if codeF j f=0∧TwoFew f (leastL j.shape j.covers) then stepCells (stepSF f (leastL j.shape j.covers)) (leastL j.shape j.covers) else tabZ
open Classical in
noncomputable def twoC (j : Top) (f : SF) : Int:=if codeF j f=0 then (if TwoFew f (leastL j.shape j.covers) then 0 else 3) else codeF j f
theorem code_cov {j : Top} {f : SF} (h : codeF j f=0) : j.Form∧f.Is∧j.shape=f.shape∧CovOk f.shape (leastL f.shape j.covers):=by
 obtain ⟨hF,hf,hct,hsh⟩:=codeF_z h
 have htop : TopIs j.shape j.covers:=by
  unfold codeT at hct;rw [if_neg (fun e=>e hF)] at hct
  split at hct
  ·cases hct
  ·split at hct
   ·assumption
   ·cases hct
 have hcov:=least_cov hF.is hF.len (fun x hx s hs=>by
  obtain ⟨k,hk,rfl⟩:=mem_getD.mp hs;exact hF.sv x hx k hk) htop
 rw [hsh] at hcov;exact ⟨hF,hf,hsh,hcov⟩
theorem l28Two_ok (B : Nat) (j : Top) (f : SF) : Pur Tryz.prog B 95 [.agg j.cells,.agg f.cells] (.tup [.agg (twoA j f),.agg (twoB j f),.int .i64 (twoC j f)]):=by
 refine ⟨fun H0=>c95p.go fun hfi=>?_⟩;refine tt ?_;refine nb (.nil _) fun id4 H o=>tt ?_;refine nb o fun id5 H o=>tt ?_;refine (l28Code_ok B j f).go fun _=>tt ?_;apply bk <;> intro h1
 ·have h1p : ¬ codeF j f=0:=by simpa using h1
  refine tt ?_;refine sw o.swap fun H o=>tt ?_;refine sw o.swap fun H o=>tt ?_
  have hr:=o.swap.rc 8 0 (by simp)
  have hr2:=o.rc 8 0 (by simp);simp only [List.drop_zero] at hr hr2;rw [hr,hr2];refine pure_ret ?_ o.sub;rw [twoA,twoB,twoC,if_neg (fun e=>h1p e.1),if_neg (fun e=>h1p e.1),if_neg h1p]; rfl
 ·have h1p : codeF j f=0:=by simpa using h1
  obtain ⟨hF,hf,hsh,hcov⟩:=code_cov h1p;refine tt ?_;refine ⟨_,(l27Least_ok B j).run, ?_⟩;rw [hsh];refine ⟨_,(l28Both_ok B f hf.1 (leastL f.shape j.covers) hcov).run, ?_⟩
  obtain ⟨a1,a2,a3,a4,a5,a6,a7,a8,hA,h8⟩:=stepA8 f (leastL f.shape j.covers)
  obtain ⟨b1,b2,b3,b4,b5,b6,b7,b8,hB,h8b⟩ : ∃ b1 b2 b3 b4 b5 b6 b7 b8,bothB f (leastL f.shape j.covers)=[b1,b2,b3,b4,b5,b6,b7,b8]∧∀ c,c∈[b1,b2,b3,b4,b5,b6,b7,b8]→c.one=true:=by
   unfold bothB
   split
   ·exact ⟨_,_,_,_,_,_,_,_,rfl,by simp only [memcons,memnil]; exact ⟨rfl,rfl,rfl,rfl,rfl,rfl,rfl,rfl,trivial⟩⟩
   ·exact ⟨_,_,_,_,_,_,_,_,rfl,by simp only [memcons,memnil]; exact ⟨rfl,rfl,rfl,rfl,rfl,rfl,rfl,rfl,trivial⟩⟩
  have hAA : TwoFew f (leastL f.shape j.covers)→twoA j f=[a1,a2,a3,a4,a5,a6,a7,a8]:=fun h=>by rw [twoA,hsh,if_pos ⟨h1p,h⟩,← hA,stepA,if_pos h.1]
  have hBB : TwoFew f (leastL f.shape j.covers)→twoB j f=[b1,b2,b3,b4,b5,b6,b7,b8]:=fun h=>by rw [twoB,hsh,if_pos ⟨h1p,h⟩,← hB,bothB,if_pos h]
  rw [hA,hB]
  by_cases hfew : TwoFew f (leastL f.shape j.covers)
  ·have hC : twoC j f=0:=by rw [twoC,hsh,if_pos h1p,if_pos hfew]
   rw [dec_t hfew];refine tt ?_;refine ⟨⟨by simp [maxL],newRef_own o fun id8 H o=>?_⟩,by simp [maxL],newRef_own o fun id9 H o=>?_⟩
   ·refine tt ?_;refine nb o fun id9 H o=>tt ?_;refine st_cells o.swap (by simp) (by (try simp only [go_sem]); (try simp)) h8 fun H o=>?_;simp only [wr_cons,wr_nil,List.set_cons_zero,List.set_cons_succ] at o;refine tt ?_;refine st_cells o.swap (by simp) (by (try simp only [go_sem]); (try simp)) h8b fun H o=>?_;simp only [wr_cons,wr_nil,List.set_cons_zero,List.set_cons_succ] at o;refine tt ?_;refine wk_ref 9 o rfl fun H o=>?_;refine wk_ref 8 o rfl fun H o=>wkW_done ?_;refine tt ?_;refine st_cells o.swap (by simp) (by (try simp only [go_sem]); (try simp)) h8 fun H o=>?_;simp only [wr_cons,wr_nil,List.set_cons_zero,List.set_cons_succ] at o;refine tt ?_;refine st_cells o.swap (by simp) (by (try simp only [go_sem]); (try simp)) h8b fun H o=>?_;simp only [wr_cons,wr_nil,List.set_cons_zero,List.set_cons_succ] at o;refine tt ?_
    have hr:=o.swap.rc 8 0 (by simp)
    have hr2:=o.rc 8 0 (by simp);simp only [List.drop_zero] at hr hr2;rw [hr,hr2];refine pure_ret ?_ o.sub;rw [hAA hfew,hBB hfew,hC]; rfl
   ·refine tt ?_;refine nb o fun id8 H o=>tt ?_;refine st_cells o (by simp) (by (try simp only [go_sem]); (try simp)) h8 fun H o=>?_;simp only [wr_cons,wr_nil,List.set_cons_zero,List.set_cons_succ] at o;refine tt ?_;refine st_cells o.swap (by simp) (by (try simp only [go_sem]); (try simp)) h8b fun H o=>?_;simp only [wr_cons,wr_nil,List.set_cons_zero,List.set_cons_succ] at o;refine tt ?_;refine wk_ref 9 o rfl fun H o=>?_;refine wk_ref 8 o rfl fun H o=>wkW_done ?_;refine tt ?_;refine st_cells o.swap (by simp) (by (try simp only [go_sem]); (try simp)) h8 fun H o=>?_;simp only [wr_cons,wr_nil,List.set_cons_zero,List.set_cons_succ] at o;refine tt ?_;refine st_cells o.swap (by simp) (by (try simp only [go_sem]); (try simp)) h8b fun H o=>?_;simp only [wr_cons,wr_nil,List.set_cons_zero,List.set_cons_succ] at o;refine tt ?_
    have hr:=o.swap.rc 8 0 (by simp)
    have hr2:=o.rc 8 0 (by simp);simp only [List.drop_zero] at hr hr2;rw [hr,hr2];refine pure_ret ?_ o.sub;rw [hAA hfew,hBB hfew,hC]; rfl
  ·have hC : twoC j f=3:=by rw [twoC,hsh,if_pos h1p,if_neg hfew]
   have hA0 : twoA j f=tabZ:=by rw [twoA,hsh,if_neg (fun e=>hfew e.2)]
   have hB0 : twoB j f=tabZ:=by rw [twoB,hsh,if_neg (fun e=>hfew e.2)]
   rw [dec_f hfew];refine tt ?_;refine ⟨⟨by simp [maxL],newRef_own o fun id8 H o=>?_⟩,by simp [maxL],newRef_own o fun id9 H o=>?_⟩
   ·refine tt ?_;refine nb o fun id9 H o=>tt ?_;refine st_cells o.swap (by simp) (by (try simp only [go_sem]); (try simp)) h8 fun H o=>?_;simp only [wr_cons,wr_nil,List.set_cons_zero,List.set_cons_succ] at o;refine tt ?_;refine st_cells o.swap (by simp) (by (try simp only [go_sem]); (try simp)) h8b fun H o=>?_;simp only [wr_cons,wr_nil,List.set_cons_zero,List.set_cons_succ] at o;refine tt ?_;refine sw o.tl.tl.swap fun H o=>tt ?_;refine sw o.swap fun H o=>tt ?_
    have hr:=o.swap.rc 8 0 (by simp)
    have hr2:=o.rc 8 0 (by simp);simp only [List.drop_zero] at hr hr2;rw [hr,hr2];refine pure_ret ?_ o.sub;rw [hA0,hB0,hC]; rfl
   ·refine tt ?_;refine nb o fun id8 H o=>tt ?_;refine st_cells o (by simp) (by (try simp only [go_sem]); (try simp)) h8 fun H o=>?_;simp only [wr_cons,wr_nil,List.set_cons_zero,List.set_cons_succ] at o;refine tt ?_;refine st_cells o.swap (by simp) (by (try simp only [go_sem]); (try simp)) h8b fun H o=>?_;simp only [wr_cons,wr_nil,List.set_cons_zero,List.set_cons_succ] at o;refine tt ?_;refine sw o.tl.tl.swap fun H o=>tt ?_;refine sw o.swap fun H o=>tt ?_
    have hr:=o.swap.rc 8 0 (by simp)
    have hr2:=o.rc 8 0 (by simp);simp only [List.drop_zero] at hr hr2;rw [hr,hr2];refine pure_ret ?_ o.sub;rw [hA0,hB0,hC]; rfl
theorem twoB8 (j : Top) (f : SF) : ∃ a1 a2 a3 a4 a5 a6 a7 a8,twoB j f=[a1,a2,a3,a4,a5,a6,a7,a8]∧∀ c,c∈[a1,a2,a3,a4,a5,a6,a7,a8]→c.one=true:=by
 unfold twoB
 split
 ·exact ⟨_,_,_,_,_,_,_,_,rfl,by simp only [memcons,memnil]; exact ⟨rfl,rfl,rfl,rfl,rfl,rfl,rfl,rfl,trivial⟩⟩
 ·exact ⟨_,_,_,_,_,_,_,_,rfl,by simp only [memcons,memnil]; exact ⟨rfl,rfl,rfl,rfl,rfl,rfl,rfl,rfl,trivial⟩⟩
theorem twoA8 (j : Top) (f : SF) : ∃ a1 a2 a3 a4 a5 a6 a7 a8,twoA j f=[a1,a2,a3,a4,a5,a6,a7,a8]∧∀ c,c∈[a1,a2,a3,a4,a5,a6,a7,a8]→c.one=true:=by
 unfold twoA
 split
 ·exact ⟨_,_,_,_,_,_,_,_,rfl,by simp only [memcons,memnil]; exact ⟨rfl,rfl,rfl,rfl,rfl,rfl,rfl,rfl,trivial⟩⟩
 ·exact ⟨_,_,_,_,_,_,_,_,rfl,by simp only [memcons,memnil]; exact ⟨rfl,rfl,rfl,rfl,rfl,rfl,rfl,rfl,trivial⟩⟩
open Classical in
noncomputable def shfA (j : Top) (f : SF) : List AV:=if codeF j f=0∧TwoFew f (leastL j.shape j.covers) then
  SM.cells ⟨f,stepSF (stepSF f (leastL j.shape j.covers)) (leastL j.shape j.covers),thenS (unitS f (leastL j.shape j.covers)) (unitS (stepSF f (leastL j.shape j.covers)) (leastL j.shape j.covers))⟩ else
 [.int .i64 0,.nilsl,.nilsl,.nilsl,.nilsl,.nilsl,.nilsl,.int .i64 0,.nilsl,.nilsl,.nilsl,.nilsl,.nilsl,.nilsl,.nilsl]
theorem two_z {j : Top} {f : SF} (hz : twoC j f=0) : codeF j f=0∧TwoFew f (leastL j.shape j.covers):=by
 have hcf : codeF j f=0:=by
  apply Classical.byContradiction; intro e;rw [twoC,if_neg e] at hz; exact e hz
 refine ⟨hcf, ?_⟩;rw [twoC,if_pos hcf] at hz;apply Classical.byContradiction; intro e;rw [if_neg e] at hz; cases hz
theorem SheafUnit_ok (B : Nat) (j : Top) (f : SF) : Pur Tryz.prog B 38 [.agg j.cells,.agg f.cells] (.tup [.agg (shfA j f),.int .i64 (twoC j f)]):=by
 refine ⟨fun H0=>c38p.go fun hfi=>?_⟩;refine tt ?_;refine nb (.nil _) fun id4 H o=>tt ?_;refine (l28Two_ok B j f).go fun _=>?_
 by_cases hz : twoC j f=0
 ·obtain ⟨hcf,hfew⟩:=two_z hz
  obtain ⟨hF,hf,hsh,hcov⟩:=code_cov hcf
  have hA : twoA j f=stepCells f (leastL j.shape j.covers):=by rw [twoA,if_pos ⟨hcf,hfew⟩]
  have hB : twoB j f=stepCells (stepSF f (leastL j.shape j.covers)) (leastL j.shape j.covers):=by rw [twoB,if_pos ⟨hcf,hfew⟩]
  have hU : shfA j f=SM.cells ⟨f,stepSF (stepSF f (leastL f.shape j.covers)) (leastL f.shape j.covers),thenS (unitS f (leastL f.shape j.covers)) (unitS (stepSF f (leastL f.shape j.covers)) (leastL f.shape j.covers))⟩:=by
   rw [shfA,if_pos ⟨hcf,hfew⟩,hsh]
  rw [hsh] at hfew hA hB
  have hl:=l27Least_ok B j;rw [hsh] at hl
  have hs2:=step_shape hf.1 hcov hfew.1;rw [hz,hA,hB,hU]
  generalize leastL f.shape j.covers=V at *
  have hu1:=l28Unit_ok B f hf.1 V hcov
  have hu2:=l28Unit_ok B (stepSF f V) hs2 V hcov
  have ht:=then_okS B hf.1 hf.compL hcov
  have hmk:=l19Make_ok B f (stepSF (stepSF f V) V) (thenS (unitS f V) (unitS (stepSF f V) V));refine tt ?_;refine nb o fun id6 H o=>tt ?_;refine nb o fun id7 H o=>tt ?_;refine sw o.swap fun H o=>tt ?_;refine sw o.swap fun H o=>tt ?_;refine ⟨fun e=>(by simp at e),fun _=>At.mk ?_⟩;refine tt ?_;refine hl.go fun _=>tt ?_;refine rd_celln o (by simp) ?_;refine tt ?_;refine rd_celln o.swap (by simp) ?_;refine tt ?_;refine ⟨_,hu1.run, ?_⟩;refine rd_celln o.swap (by simp) ?_;refine tt ?_;refine rd_celln o (by simp) ?_;refine tt ?_;refine ⟨_,hu2.run, ?_⟩;refine ⟨_,ht.run, ?_⟩;refine ⟨_,hmk.run,tt ?_⟩;refine sw o.tl.tl fun H o=>tt ?_
  have hr:=o.rc 15 0 (by simp);simp only [List.drop_zero] at hr;rw [hr];exact pure_ret rfl o.sub
 ·have hU : shfA j f=[.int .i64 0,.nilsl,.nilsl,.nilsl,.nilsl,.nilsl,.nilsl,.int .i64 0,.nilsl,.nilsl,.nilsl,.nilsl,.nilsl,.nilsl,.nilsl]:=by
   rw [shfA,if_neg]
   rintro ⟨e1,e2⟩;rw [twoC,if_pos e1,if_pos e2] at hz;exact hz rfl
  obtain ⟨a1,a2,a3,a4,a5,a6,a7,a8,hA,h1⟩:=twoA8 j f
  obtain ⟨b1,b2,b3,b4,b5,b6,b7,b8,hB,h2⟩:=twoB8 j f;rw [hA,hB,hU]
  generalize twoC j f=cd at *;refine tt ?_;refine nb o fun id6 H o=>tt ?_;refine nb o fun id7 H o=>tt ?_;refine st_cells o.swap (by simp) (by (try simp only [go_sem]); (try simp)) h1 fun H o=>?_;simp only [wr_cons,wr_nil,List.set_cons_zero,List.set_cons_succ] at o;refine tt ?_;refine st_cells o.swap (by simp) (by (try simp only [go_sem]); (try simp)) h2 fun H o=>?_;simp only [wr_cons,wr_nil,List.set_cons_zero,List.set_cons_succ] at o;refine tt ?_;refine ⟨fun _=>At.mk ?_,fun e=>absurd (by simpa using e) hz⟩;refine tt ?_;refine sw o.tl.tl fun H o=>tt ?_
  have hr:=o.rc 15 0 (by simp);simp only [List.drop_zero] at hr;rw [hr];exact pure_ret rfl o.sub
end Go.Proofs.Shf
namespace Go.Shf
open Go.AW Go.Proofs.Shf
open Classical in
noncomputable def shfM (j : Top) (f : SF) : SM:=if codeF j f=0∧TwoFew f (leastL j.shape j.covers) then
 ⟨f,stepSF (stepSF f (leastL j.shape j.covers)) (leastL j.shape j.covers),thenS (unitS f (leastL j.shape j.covers)) (unitS (stepSF f (leastL j.shape j.covers)) (leastL j.shape j.covers))⟩ else zSM
open Classical in
noncomputable def shfOr (f : SF) (V : List (List Int)) : AV:=if TwoFew f V then .ptr [stepVal f V,stepVal (stepSF f V) V] else .nilp
end Go.Shf
namespace Go.Proofs.Shf
open Go.AW Go.Proofs Go.Shf
theorem sheaf_ok (B : Nat) (v : Cov) (cnt : AV) (f : SF) (h : f.Shape) (hsh : v.shape=f.shape) (hml : (v.marks.length : Int)=f.shape.objs) (hsl : v.sieves.length=v.marks.length)
  (hms : ∀ x,x<v.marks.length→(v.marks.getD x default).length≤(v.sieves.getD x default).length∧(v.marks.getD x default).length≤1000000)
  (c : CovOk f.shape (leastV v)) : Pur Tryz.prog B 97 [.ptr (v.cells cnt),.ptr f.cells] (.tup [shfOr f (leastV v),.bool (dec (TwoFew f (leastV v)))]):=by
 refine ⟨fun H0=>c97.go fun hfi=>?_⟩
 have q1:=step_ok B v cnt f h hsh hml hsl hms c
 have q2:=fun h1=>step_ok B v cnt (stepSF f (leastV v)) (step_shape h c h1) hsh hml hsl hms c
 generalize v.cells cnt=cv at *
 generalize leastV v=V at *;refine tt ?_;refine q1.go fun _=>?_
 by_cases h1 : StepFew f V
 ·rw [stepOr,if_pos h1,dec_t h1];refine tt ?_;refine (q2 h1).go fun _=>?_
  by_cases h2 : StepFew (stepSF f V) V
  ·rw [stepOr,if_pos h2,dec_t h2,shfOr,if_pos ⟨h1,h2⟩,dec_t ⟨h1,h2⟩];refine tt ?_;exact pure_ret rfl (.refl _)
  ·rw [stepOr,if_neg h2,dec_f h2,shfOr,if_neg (fun e=>h2 e.2),dec_f (fun e=>h2 e.2)];refine tt ?_;exact pure_ret rfl (.refl _)
 ·rw [stepOr,if_neg h1,dec_f h1,shfOr,if_neg (fun e=>h1 e.1),dec_f (fun e=>h1 e.1)];refine tt ?_;exact pure_ret rfl (.refl _)
theorem sheafUnit_ok (B : Nat) (f : SF) (h : f.Shape) (hc : f.CompL) (V : List (List Int)) (c : CovOk f.shape V) (hfew : TwoFew f V) :
  Pur Tryz.prog B 99 [.ptr [stepVal f V,stepVal (stepSF f V) V]] (iLL (thenS (unitS f V) (unitS (stepSF f V) V))):=by
 refine ⟨fun H0=>c99.go fun hfi=>?_⟩
 have q1:=unit_ok B f h hc V c hfew.1
 have q2:=unit_ok B (stepSF f V) (step_shape h c hfew.1) (step_comp h c hfew.1) V c hfew.2
 have q3:=thenParts_okS B h hc c
 generalize hx1 : stepVal f V=x1 at *
 generalize hx2 : stepVal (stepSF f V) V=x2 at *
 generalize hu1 : unitS f V=u1 at *
 generalize hu2 : unitS (stepSF f V) V=u2 at *
 have o1 : x1.one=true:=by rw [← hx1]; rfl
 have o2 : x2.one=true:=by rw [← hx2]; rfl
 try simp only [go_sem,↓reduceIte,reduceEqDiff,reduceAdd,reduceMul,reduceLeDiff,reduceLT,o1,o2]
 refine ⟨_,q1.run, ?_⟩;try simp only [go_sem,↓reduceIte,reduceEqDiff,reduceAdd,reduceMul,reduceLeDiff,reduceLT,o1,o2]
 refine ⟨_,q2.run, ?_⟩;refine ⟨_,q3.run,tt ?_⟩;exact pure_ret rfl (.refl _)
theorem implSheafUnit_new (B : Nat) (j : Top) (f : SF) : New Tryz.prog B 37 [.agg j.cells,.agg f.cells] fun p X=>OTc OSM (twoC j f) p X (shfM j f):=by
 refine ⟨fun H0=>c37p.go fun _=>?_⟩
 have hsc:=fun H=>sheafCode_ok B j f H;refine tt ?_;refine nb (.nil _) fun id H o=>tt ?_;refine (hsc H).mono ?_
 rintro r H ⟨rfl,X,rfl,hX⟩
 by_cases h0 : codeF j f=0
 ·obtain ⟨cnt,rfl⟩:=hX h0
  obtain ⟨hF,hf,hct,hsh⟩:=codeF_z h0
  have haf : AllFew j.shape:=by
   unfold codeT at hct;rw [if_neg (fun e=>e hF)] at hct;apply Classical.byContradiction; intro e;rw [if_pos e] at hct; cases hct
  have htop : TopIs j.shape j.covers:=by
   unfold codeT at hct;rw [if_neg (fun e=>e hF),if_neg (fun e=>e haf)] at hct;apply Classical.byContradiction; intro e;rw [if_neg e] at hct; cases hct
  have hcov:=least_cov hF.is hF.len (fun x hx s hs=>by
   obtain ⟨k,hk,rfl⟩:=mem_getD.mp hs;exact hF.sv x hx k hk) htop
  have tab:=tabOk hF.is haf
  have hml : (covV j).marks.length=(listsOf j.shape).length:=marks_len
  have hmk : MarkOk (listsOf j.shape) (covV j).marks:=markOk
  have hstep:=sheaf_ok B (covV j) cnt f hf.1 hsh (by rw [hml,← hsh]; exact tab.len) hml.symm (fun x hx=>by
   have hx' : x<(listsOf j.shape).length:=by rw [← hml]; exact hx
   have h1:=hmk.row x hx'
   have h2:=tab.few x hx'
   have h3 : (covV j).sieves=listsOf j.shape:=rfl;rw [h1,h3];exact ⟨Nat.le_refl _,by omega⟩) (by rw [leastV_eq hF haf,← hsh]; exact hcov)
  rw [leastV_eq hF haf] at hstep;rw [h0];rw [hsh] at hcov
  generalize hcc : (covV j).cells cnt=cv at *
  generalize hV : leastL j.shape j.covers=V at *
  have hVs : leastL f.shape j.covers=V:=by rw [← hsh]; exact hV
  rw [hVs] at hcov
  have hunit:=fun hfew=>sheafUnit_ok B f hf.1 hf.compL V hcov hfew
  have hset:=setMap_new B f (stepSF (stepSF f V) V) (thenS (unitS f V) (unitS (stepSF f V) V));refine tt ?_;refine ⟨fun e=>(by simp at e),fun _=>At.mk ?_⟩;refine tt ?_;refine hstep.go fun _=>?_
  by_cases hfew : TwoFew f V
  ·have hM : shfM j f=⟨f,stepSF (stepSF f V) V,thenS (unitS f V) (unitS (stepSF f V) V)⟩:=by rw [shfM,hV,if_pos ⟨h0,hfew⟩]
   have hC : twoC j f=0:=by rw [twoC,hV,if_pos h0,if_pos hfew]
   rw [shfOr,if_pos hfew,dec_t hfew,hM,hC]
   replace hunit:=hunit hfew;refine tt ?_;refine ⟨_,hunit.run,tt ?_⟩;refine hset.go o fun Y p H q o _=>?_
   obtain ⟨Ys,rfl,hl,h1⟩:=OSM.fifteen q;refine tt ?_
   have o:=Owns.last o;refine st_cells o (by simp) hl h1 fun H o=>?_
   obtain ⟨y1,y2,y3,y4,y5,y6,y7,y8,y9,y10,y11,y12,y13,y14,y15,rfl⟩:=len15 hl;simp only [wr_cons,wr_nil,List.set_cons_zero,List.set_cons_succ] at o;refine tt ?_
   have hr:=o.rc 15 0 (by simp);simp only [List.drop_zero] at hr;rw [hr];exact ⟨H,.refl H,p,⟨_,rfl,q⟩,o.tl⟩
  ·have hM : shfM j f=zSM:=by rw [shfM,hV,if_neg (fun e=>hfew e.2)]
   have hC : twoC j f=3:=by rw [twoC,hV,if_pos h0,if_neg hfew]
   rw [shfOr,if_neg hfew,dec_f hfew,hM,hC];refine tt ?_;refine sw o fun H o=>tt ?_
   have hr:=o.rc 15 0 (by simp);simp only [List.drop_zero] at hr;rw [hr];exact ⟨H,.refl H,[],⟨_,rfl,zSM_own⟩,o.tl⟩
 ·have hM : shfM j f=zSM:=by rw [shfM,if_neg (fun e=>h0 e.1)]
  have hC : twoC j f=codeF j f:=by rw [twoC,if_neg h0]
  rw [hM,hC];refine tt ?_;refine ⟨fun _=>At.mk ?_,fun e=>?_⟩;rotate_left
  ·exact absurd (by simpa using e) h0
  refine tt ?_;refine sw o fun H o=>tt ?_
  have hr:=o.rc 15 0 (by simp);simp only [List.drop_zero] at hr;rw [hr];exact ⟨H,.refl H,[],⟨_,rfl,zSM_own⟩,o.tl⟩
theorem implSheafOf_new (B : Nat) (j : Top) (f : SF) : New Tryz.prog B 31 [.agg j.cells,.agg f.cells] fun p X=>OTc OSF (twoC j f) p X (shfM j f).tgt:=by
 refine ⟨fun H0=>c31.go fun _=>?_⟩
 have hsu:=implSheafUnit_new B j f
 generalize shfM j f=m at *
 generalize twoC j f=code at *;refine tt ?_;refine nb (.nil _) fun id H o=>tt ?_;refine hsu.go o fun Z p H ⟨Y,e,q⟩ o _=>?_;subst e
 obtain ⟨Xs,Ys,W,p1,p2,p3,rfl,rfl,h1,h2,h3⟩:=q
 obtain ⟨X1,X2,X3,X4,X5,X6,e,u1,u2,u3,u4,u5,u6⟩:=OSF.seven h1
 obtain ⟨Y1,Y2,Y3,Y4,Y5,Y6,e2,v1,v2,v3,v4,v5,v6⟩:=OSF.seven h2
 have w:=h3.one
 injection e with e
 injection e2 with e2
 subst e e2;simp only [List.cons_append,List.nil_append];refine tt ?_;refine nb o fun id6 H o=>tt ?_;refine st_cells o (by simp) rfl (by simp only [memcons,memnil]; exact ⟨rfl,u1,u2,u3,u4,u5,u6,rfl,v1,v2,v3,v4,v5,v6,w,trivial⟩) fun H o=>?_;simp only [wr_cons,wr_nil,List.set_cons_zero,List.set_cons_succ] at o;refine tt ?_;refine rd_celln o (by simp) ?_;refine tt ?_
 have o:=Owns.last (q:=p1++(p2++p3)) (by simpa only [List.append_assoc] using o.tl);refine st_cells o (by simp) rfl (by simp only [memcons,memnil]; exact ⟨rfl,v1,v2,v3,v4,v5,v6,trivial⟩) fun H o=>?_;simp only [wr_cons,wr_nil,List.set_cons_zero,List.set_cons_succ] at o;refine tt ?_
 have hr:=o.rc 7 0 (by simp);simp only [List.drop_zero] at hr;rw [hr];refine ⟨H,.refl H,p2,⟨_,rfl,h2⟩, ?_⟩
 have o2 : Owns H0 H (p2++(p3++p1)):=by
  have:=o.tl.rot
  simpa only [List.append_assoc] using this
 exact ⟨o2.sub,fun x hx=>o2.get x (List.mem_append_left _ hx),(List.nodup_append.mp (by simpa using o2.nd)).1,fun x hx=>o2.out x (List.mem_append_left _ hx)⟩
end Go.Proofs.Shf
namespace Go.AW
open Go.RowKit
def FinP (g : Gh) (B : Nat) (w : World) (X : Heap→Prop) (w' : World) : Prop:=∃ g' H',g.le g'∧X H'∧WRel g' B H' w'∧Below B w w'
def Chn (ch : List PanicEntry) : Prop:=∃ t v,ch=[{ v:=.iface t v,recovered:=false }]
def CallX (P : Program) (B : Nat) (f : FuncId) (args : List AV) (H : Heap) (K : Kont) (X : Heap→Prop) : Prop :=
 Enters P f∧∀ g w vs,WRel g B H w→VRels g args vs→Calls P f vs w fun e w'=>(∃ v,e=.returned v∧FinV g B w K v w')∨∃ ch,e=.panicked ch∧Chn ch∧FinP g B w X w'
theorem CallX.mono {P : Program} {B : Nat} {f : FuncId} {args : List AV} {H : Heap} {K K' : Kont} {X X' : Heap→Prop} (h : CallX P B f args H K X) (hk : ∀ r H,K r H→K' r H) (hx : ∀ H,X H→X' H) : CallX P B f args H K' X' :=
 ⟨h.1,fun g w vs hw hv=>(h.2 g w vs hw hv).mono fun _ _ hh=>by
  rcases hh with ⟨v,e,hf⟩ | ⟨ch,e,hc,g',H',a,b,c⟩
  ·exact .inl ⟨v,e,hf.mono hk⟩
  ·exact .inr ⟨ch,e,hc,g',H',a,hx _ b,c⟩⟩
def callXW (P : Program) (B : Nat) : Option AV→Option (List AV)→Kont→(Heap→Prop)→Heap→Prop
 | some (.fn (.func f) ca),some ais,K,X,H=>CallX P B f (ais++ca) H K X
 | _,_,_,_,_=>False
@[go_sem] theorem callXW_fn {P : Program} {B : Nat} {H : Heap} (f : FuncId) (ca ais : List AV) (K : Kont) (X : Heap→Prop) : callXW P B (some (.fn (.func f) ca)) (some ais) K X H=CallX P B f (ais++ca) H K X:=rfl
inductive XC where
 | sc (s : SC)
 | seq (a b : XC)
 | cond (x : X) (a b : XC)
 | block (id : Nat) (c : XC)
 | loop (l : List Nat) (c : XC)
 | keep (l : List Nat) (c : XC)
 | callx (pre : List SOp) (d : Option Nat) (f : X) (xs : List X)
 | pnc (pre : List SOp) (x : X)
def isI : Option AV→Prop
 | some (.ifc _ _)=>True
 | _=>False
@[go_sem] theorem isI_ifc (t : TypeId) (v : AV) : isI (some (.ifc t v))=True:=rfl
def pncW (x : X) (X0 : Heap→Prop) (σ : Env) (H : Heap) : Prop:=isI (val σ x)∧X0 H
def clxW (P : Program) (B : Nat) (d : Option Nat) (f : X) (xs : List X) (F : Env→Heap→Prop) (X0 : Heap→Prop) (σ : Env) (H : Heap) : Prop :=
 callXW P B (val σ f) (vals σ xs) (putK d F σ) X0 H
def xwp (P : Program) (B : Nat) : XC→AQ→(Heap→Prop)→Env→Heap→Prop
 | .sc s,Q,_,σ,H=>awp P B s Q σ H
 | .seq a b,Q,X0,σ,H=>xwp P B a (seqQ (xwp P B b Q X0) Q) X0 σ H
 | .cond x a b,Q,X0,σ,H=>cndW (val σ x) (xwp P B a Q X0) (xwp P B b Q X0) σ H
 | .block id c,Q,X0,σ,H=>xwp P B c (blkQ id Q) X0 σ H
 | .loop l c,Q,X0,σ,H=>loopW l (fun Q=>xwp P B c Q X0) Q (Env.keep l σ) H
 | .keep l c,Q,X0,σ,H=>xwp P B c Q X0 (Env.keep l σ) H
 | .callx pre d f xs,Q,X0,σ,H=>opsW P B pre (clxW P B d f xs (Q .norm) X0) σ H
 | .pnc pre x,_,X0,σ,H=>opsW P B pre (pncW x X0) σ H
section
variable {P : Program} {B : Nat} {Q : AQ} {X0 : Heap→Prop} {σ : Env} {H : Heap}
@[go_sem] theorem xwp_sc (s : SC) : xwp P B (.sc s) Q X0 σ H=awp P B s Q σ H:=rfl
@[go_sem] theorem xwp_seq (a b : XC) : xwp P B (.seq a b) Q X0 σ H=xwp P B a (seqQ (xwp P B b Q X0) Q) X0 σ H:=rfl
@[go_sem] theorem xwp_cond (x : X) (a b : XC) : xwp P B (.cond x a b) Q X0 σ H=cndW (val σ x) (xwp P B a Q X0) (xwp P B b Q X0) σ H:=rfl
@[go_sem] theorem xwp_block (id : Nat) (c : XC) : xwp P B (.block id c) Q X0 σ H=xwp P B c (blkQ id Q) X0 σ H:=rfl
@[go_sem] theorem xwp_keep (l : List Nat) (c : XC) : xwp P B (.keep l c) Q X0 σ H=xwp P B c Q X0 (Env.keep l σ) H:=rfl
@[go_sem] theorem xwp_callx (pre : List SOp) (d : Option Nat) (f : X) (xs : List X) : xwp P B (.callx pre d f xs) Q X0 σ H=opsW P B pre (clxW P B d f xs (Q .norm) X0) σ H:=rfl
@[go_sem] theorem xwp_pnc (pre : List SOp) (x : X) : xwp P B (.pnc pre x) Q X0 σ H=opsW P B pre (pncW x X0) σ H:=rfl
@[go_sem] theorem clxW_eq (d : Option Nat) (f : X) (xs : List X) (F : Env→Heap→Prop) : clxW P B d f xs F X0 σ H=callXW P B (val σ f) (vals σ xs) (putK d F σ) X0 H:=rfl
@[go_sem] theorem pncW_eq (x : X) : pncW x X0 σ H=(isI (val σ x)∧X0 H):=rfl
end
def lastX (P : Program) (N : Nat) (ops : Array Oper) (vs pm : List Nat) (draw : Bool) : Option (List SOp × SOp) :=
 let pm:=if pm.isEmpty then List.range ops.size else pm
 match compileIx P N ops vs pm with
 | some ss =>
  let k:=ops.size - 1
  if draw then
   if drawChk ops ss pm && P.follows .mixedOrders && decide (0<ops.size) && cls (ss.getD k default).i == 2 &&
    (List.range k).all (fun u=>((clos ops ops.size 0 []).getD (pm.getD k 0) []).contains (pm.getD u 0)) && (List.range k).all (fun u=>decide (cls (ss.getD u default).i<2)) then some (ss.take k,ss.getD k default) else none
  else if pm=List.range ops.size∧0<ops.size then some (ss.take k,ss.getD k default) else none
 | none=>none
def FitsX (P : Program) (N : Nat) (hs : Hints) : XC→Code→Prop
 | .sc s,c=>compileC P N hs c=some s.strip
 | .seq a b,.seq c d=>FitsX P N hs a c∧FitsX P N hs b d
 | .cond x a b,.cond o c d=>cx o=some x∧FitsX P N hs a c∧FitsX P N hs b d
 | .block i a,.block j c=>i=j∧FitsX P N hs a c
 | .loop _ a,.loop c=>FitsX P N hs a c
 | .keep _ a,c=>FitsX P N hs a c
 | .callx pre d f xs,.region id ops draw=>lastX P N ops ((hs.lookup id).elim [] (·.2)) ((hs.lookup id).elim [] (·.1)) draw=some (pre,⟨d,none,.call f xs⟩)
 | .pnc pre x,.region id ops false=>∃ o y,ops[pre.length]? = some o∧ops.size=pre.length+1∧compileIx P N ops ((hs.lookup id).elim [] (·.2)) (List.range pre.length)=some pre∧o.op=.panic y∧o.guard=none∧cx y=some x
 | _,_=>False
def PostX (Q : AQ) (X0 : Heap→Prop) (g : Gh) (B : Nat) (w0 : World) (N : Nat) (df : List Deferred) : Exit→Act→World→Prop
 | .panic ch=>fun a w=>Chn ch∧FinP g B w0 X0 w∧a.tmps.size=N∧a.defers=df
 | e=>Post Q g B w0 N df e
section
variable {P : Program} {B : Nat} {Q : AQ} {X0 : Heap→Prop}
theorem Post.toX {g : Gh} {w0 : World} {N : Nat} {df : List Deferred} {e : Exit} {a : Act} {w : World} (h : Post Q g B w0 N df e a w) : PostX Q X0 g B w0 N df e a w:=by
 cases e <;> first | exact h | exact h.elim
theorem PostX.from {g g1 : Gh} {w0 w1 : World} {N : Nat} {df : List Deferred} {e : Exit} {a : Act} {w : World} (hg : g.le g1) (hb : Below B w0 w1) (h : PostX Q X0 g1 B w1 N df e a w) : PostX Q X0 g B w0 N df e a w:=by
 cases e
 case panic ch =>
  obtain ⟨hc,⟨g',H',a1,a2,a3,a4⟩,h2⟩:=h;exact ⟨hc,⟨g',H',hg.trans a1,a2,a3,hb.trans a4⟩,h2⟩
 all_goals first | exact Post.from (e:=.normal) hg hb h | exact Post.from (e:=.exit _) hg hb h | exact Post.from (e:=.ret) hg hb h | exact h
theorem wpOps_append {ops : Array Oper} {R : Exit→Act→World→Prop} : ∀ (l1 l2 : List Nat) (a : Act) (w : World),
  wpOps P ops (fun e a w=>match e with | .normal=>wpOps P ops R l2 a w | e=>R e a w) l1 a w→wpOps P ops R (l1++l2) a w
 | [],l2,a,w,h=>h
 | i::r,l2,a,w,h=>by
  rw [wpOps_cons] at h;rw [List.cons_append,wpOps_cons];unfold wpOp at h ⊢
  have hlo : LetsOut (fun e a w=>match e with | .normal=>wpOps P ops R l2 a w | e=>R e a w)→LetsOut R:=fun ⟨a,w,q⟩=>⟨a,w,q⟩
  cases ho : ops[i]? with
  | none=>rw [ho] at h; exact wpOps_append r l2 a w h
  | some o =>
   rw [ho] at h;simp only at h ⊢
   split
   ·rename_i hw
    rw [if_pos hw] at h
    rcases h with h | ⟨h1,h2⟩
    ·refine .inl ?_;unfold Oper.wp at h ⊢
     generalize (execOp a.eval o).run P w=res at h
     cases res with
     | halt hh w' =>
      cases hh <;> exact h
     | ok n w' =>
      cases n <;> try exact wpOps_append r l2 _ _ h
      all_goals try exact h
      ·refine Calls.mono h fun e w'' q=>?_
       cases e with
       | returned v=>exact wpOps_append r l2 _ _ q
       | panicked ch=>exact q
       | outgrown=>exact hlo q
      ·exact Rows.mono h fun v w'' q=>wpOps_append r l2 _ _ q
    ·exact .inr ⟨h1,hlo h2⟩
   ·rename_i hw
    rw [if_neg hw] at h;exact wpOps_append r l2 _ _ h
end
end Go.AW
namespace Go.AW
open Go.RowKit
section
variable {P : Program} {B N : Nat} {ops : Array Oper} {hs : List Nat} {g : Gh} {H : Heap} {w : World}
theorem enter_run {o : Oper} {h : Nat} {f : X} {xs : List X} (hc : compileOp P h o.op=some (.call f xs)) {σ : Env} {a : Act} (hE : ERel g σ a.tmps) {fid : FuncId} {ca ais : List AV}
  (hf : val σ f=some (.fn (.func fid) ca)) (hx : vals σ xs=some ais) (he : Enters P fid) : ∃ vs,(execOp a.eval o).run P w=.ok (.enter fid vs) w∧VRels g (ais++ca) vs:=by
 cases hop : o.op
 case call c =>
  obtain ⟨callee,args,argTypes⟩:=c;rw [hop] at hc;simp only [compileOp] at hc
  cases callee with
  | value ff =>
   simp only at hc
   cases h1 : cx ff <;> cases h2 : cxs args.toList <;> simp [h1,h2] at hc
   rename_i f' xs'
   split at hc
   ·cases hc
   ·split at hc
    ·cases hc
    ·split at hc
     ·cases hc
     cases hc
     have hmap : (args.toList.map a.eval).toArray=args.map a.eval:=by apply Array.ext'; simp
     have hrf:=val_rel hE h1 hf
     have hrx:=vals_rels hE h2 hx;rw [hmap] at hrx
     obtain ⟨cv,hev,hcr⟩ : ∃ cv,a.eval ff=.func (.func fid) #[] cv∧VRels g ca cv:=by
      generalize a.eval ff=uf at hrf
      cases hrf
      rename_i cv hcs hcv
      exact ⟨cv,rfl,hcs,hcv⟩
     obtain ⟨fn,k1,k2,k3⟩:=he;refine ⟨args.map a.eval++cv, ?_,hrx.append hcr⟩;unfold execOp;rw [hop];simp only [resolve,hev,Deferred.ofValue,Sem.run_bind,Sem.run_pure,Result.andThen_ok,Go.invoke,Array.empty_append,callFunc,run_program,k1,k2,k3,Bool.false_eq_true,if_false]
  | invoke x n =>
   simp only at hc
   cases h1 : cx x <;> cases h2 : cxs args.toList <;> simp [h1,h2] at hc
  | builtin b =>
   cases b <;> simp only at hc <;> first | (cases hc; done) | (repeat' split at hc) <;> simp at hc
 all_goals
  rw [hop] at hc;simp only [compileOp] at hc
  first | (cases hc; done) | (simp at hc; done) | ((repeat' split at hc) <;> first | (simp at hc; done) | contradiction | (simp_all; done))
theorem keep_look {l : List Nat} {σ : Env} : ∀ t,t∈l→(Env.keep l σ).get t=σ.get t:=by
 intro t ht
 induction l with
 | nil=>simp at ht
 | cons x r ih =>
  simp only [Env.keep,Env.get]
  split
  ·rename_i e; rw [e]
  ·rename_i e
   rcases List.mem_cons.1 ht with h | h
   ·exact absurd h e
   ·exact ih h
theorem callXW_some {ov : Option AV} {oas : Option (List AV)} {K : Kont} {X0 : Heap→Prop} (h : callXW P B ov oas K X0 H) : ∃ fid ca ais,ov=some (.fn (.func fid) ca)∧oas=some ais∧CallX P B fid (ais++ca) H K X0:=by
 unfold callXW at h
 split at h
 ·exact ⟨_,_,_,rfl,rfl,h⟩
 ·exact h.elim
theorem callx_op {i : Nat} {d : Option Nat} {f : X} {xs : List X} (hof : Of P N ops hs i ⟨d,none,.call f xs⟩) {σ : Env} {a : Act} {Q : Exit→Act→World→Prop} {next : Act→World→Prop} {K : Kont} {X0 : Heap→Prop}
  (hW : WRel g B H w) (hE : ERel g (Env.keep (looks ⟨d,none,.call f xs⟩) σ) a.tmps) (hk : callXW P B (val σ f) (vals σ xs) K X0 H)
  (hrun : ∀ v w',FinV g B w K v w'→next (a.put d v) w') (hpan : ∀ ch w',Chn ch→FinP g B w X0 w'→Q (.panic ch) a w') : wpOp P ops Q i next a w:=by
 obtain ⟨o,ho,hd,hop,hg,hdk⟩:=hof.dst;simp only at hd hop hg
 have hgu : o.guard=none:=by
  cases hgu : o.guard with
  | none=>rfl
  | some jb =>
   rw [hgu] at hg
   obtain ⟨j,b⟩:=jb;simp only [compileG] at hg
   cases hj : (ops[j]?).bind (·.dst) with
   | none=>simp [hj] at hg
   | some t=>simp [hj] at hg
 obtain ⟨fid,ca,ais,e1,e2,hc⟩:=callXW_some hk
 have c1 : val σ f=val (Env.keep (looks ⟨d,none,.call f xs⟩) σ) f:=val_congr fun t ht=>(keep_look t (by simp [looks,rds,ht])).symm
 have c2 : vals σ xs=vals (Env.keep (looks ⟨d,none,.call f xs⟩) σ) xs:=vals_congr fun t ht=>(keep_look t (by simp [looks,rds,ht])).symm
 obtain ⟨vs,r1,r2⟩:=enter_run (w:=w) hop hE (c1.symm.trans e1) (c2.symm.trans e2) hc.1;unfold wpOp;simp only [ho,Region.wanted,hgu,if_true];refine .inl ?_;unfold Oper.wp;rw [r1,Oper.upon_enter];refine (hc.2 g w vs hW r2).mono fun e w' hh=>?_
 rcases hh with ⟨v,rfl,hf⟩ | ⟨ch,rfl,h1,h2⟩
 ·rw [hd]; exact hrun v w' hf
 ·exact hpan ch w' h1 h2
theorem compileIx_app : ∀ {l1 l2 : List Nat} {ss : List SOp},compileIx P N ops hs (l1++l2)=some ss→compileIx P N ops hs l1=some (ss.take l1.length)∧compileIx P N ops hs l2=some (ss.drop l1.length)
 | [],l2,ss,h=>⟨rfl,h⟩
 | i::r,l2,ss,h=>by
  rw [List.cons_append] at h;unfold compileIx at h
  cases ho : ops[i]? with
  | none=>simp [ho] at h
  | some o =>
   simp only [ho] at h
   cases hco : compileO P N ops (hs.getD i 0) o with
   | none=>simp only [hco,consS,reduceCtorEq] at h
   | some so =>
    cases hcr : compileIx P N ops hs (r++l2) with
    | none=>simp only [hco,hcr,consS,reduceCtorEq] at h
    | some sr =>
     simp only [hco,hcr,consS,Option.some.injEq] at h;subst h
     obtain ⟨h1,h2⟩:=compileIx_app hcr;refine ⟨?_,by simpa using h2⟩;unfold compileIx;simp only [ho,hco,h1,consS,List.length_cons,List.take_succ_cons]
theorem seqx_sound {pre : List SOp} {d : Option Nat} {f : X} {xs : List X} {pm : List Nat} (hc : lastX P N ops hs pm false=some (pre,⟨d,none,.call f xs⟩)) {Q : AQ} {X0 : Heap→Prop} {df : List Deferred} {σ : Env} {a : Act}
  (hW : WRel g B H w) (hE : ERel g σ a.tmps) (hN : a.tmps.size=N) (hd : a.defers=df) (hk : opsW P B pre (clxW P B d f xs (Q .norm) X0) σ H) (id : Nat) :
  (Code.region id ops false).wp P (PostX Q X0 g B w N df) a w:=by
 simp only [lastX] at hc
 generalize (if pm.isEmpty then List.range ops.size else pm)=pm' at hc
 cases hci : compileIx P N ops hs pm' with
 | none=>simp [hci] at hc
 | some ss =>
  simp only [hci,Bool.false_eq_true,if_false] at hc
  split at hc
  ·rename_i hh
   obtain ⟨rfl,h0⟩:=hh;simp only [Option.some.injEq,Prod.mk.injEq] at hc
   obtain ⟨hp1,hp2⟩:=hc
   have hr : List.range ops.size=List.range (ops.size - 1)++[ops.size - 1]:=by
    conv=>lhs; rw [show ops.size=ops.size - 1+1 by omega,List.range_succ]
   rw [hr] at hci
   obtain ⟨k1,k2⟩:=compileIx_app hci;rw [List.length_range] at k1 k2;rw [hp1] at k1
   have hof:=(compileIx_of hci).2 (ops.size - 1) (by simp);rw [hp2,List.getD_eq_getElem?_getD,List.getElem?_append_right (by simp)] at hof;simp only [List.length_range,Nat.sub_self,List.getElem?_cons_zero,Option.getD_some] at hof;refine wp_region ?_;rw [hr];refine wpOps_append _ _ _ _ ?_;refine ops_sound _ _ k1 _ g H w σ a _ hW hE hN hd hk fun a' w' hp=>?_
   obtain ⟨g',σ',H',q1,q2,q3,q4,q5,q6,q7⟩:=hp
   show wpOps P ops (PostX Q X0 g B w N df) [ops.size - 1] a' w'
   rw [wpOps_cons];refine callx_op hof q3 (q4.keep _) q2 (fun v w2 hf=>?_) (fun ch w2 h1 h2=>?_)
   ·obtain ⟨g2,r,H2,a1,a2,a3,a4,a5⟩:=hf
    obtain ⟨o,ho,hdo,hop,hg,hdk⟩:=hof.dst
    have hlt : ∀ t,d=some t→t<a'.tmps.size:=fun t ht=>by
     rw [ht] at hdk;simp only [dstOk,Bool.and_eq_true,decide_eq_true_eq] at hdk;rw [q6]; exact hdk.1
    refine ⟨g2,stepEnv d σ' (some r),H2,q1.trans a1,putK_step a2,a4, ?_,q5.trans a5,by rw [put_size]; exact q6,by rw [put_defers]; exact q7⟩
    cases d with
    | none=>exact q4.mono a1
    | some t=>exact (q4.mono a1).put (hlt t rfl) a3
   ·obtain ⟨g2,H2,a1,a2,a3,a4⟩:=h2;exact ⟨h1,⟨g2,H2,q1.trans a1,a2,a3,q5.trans a4⟩,q6,q7⟩
  ·cases hc
end
end Go.AW
namespace Go.AW
open Go.RowKit
section
variable {P : Program} {B N : Nat} {ops : Array Oper} {hs : List Nat} {n : Nat} {p : Nat→Nat} {s : Nat→SOp} {kx : Nat} {σ0 : Env}
theorem any_end {Q : Exit→Act→World→Prop} {D : Array Bool} {a : Act} {w : World} (hd : D.size=ops.size) (hall : ∀ i,i<ops.size→Lst D i) (hq : Q .normal a w) : ∀ fuel,wpAny P .any ops Q fuel D a w:=by
 have hnone : ∀ i,i ∉ Region.ready .any ops D:=fun i hi=>by
  rw [ready_iff hd] at hi;exact hi.2.1 (hall i hi.1)
 intro fuel
 cases fuel with
 | zero =>
  refine ⟨?_,hq⟩
  cases hr : Region.ready .any ops D with
  | nil=>rfl
  | cons i r=>exact absurd (by rw [hr]; simp) (hnone i)
 | succ fuel=>exact ⟨fun _=>hq,fun i hi=>absurd hi (hnone i)⟩
theorem draw_last {pre : List SOp} {d : Option Nat} {f : X} {xs : List X} {k : Nat} (pl : Plan P N ops hs n p s kx) (hk : k+1=n) (hpre : pre.length=k) (hlast : s k=⟨d,none,.call f xs⟩)
  (hneed : ∀ u,u<k→∀ D,Down ops D→(∀ e,e∈edges ops (p k)→Lst D e)→Lst D (p u)) {Q : AQ} {X0 : Heap→Prop} {g0 : Gh} {w0 : World} {df : List Deferred} :
  ∀ (fuel : Nat) (D : Array Bool) (σ : Env) (g : Gh) (H : Heap) (w : World) (a : Act),D.toList.count false=fuel →
   Inv P B N ops n p s pre (clxW P B d f xs (Q .norm) X0) σ0 D k σ g H w a→g0.le g→Below B w0 w→a.defers=df→wpAny P .any ops (PostX Q X0 g0 B w0 N df) fuel D a w
 | 0,D,σ,g,H,w,a,hc,I,hg,hb,hd=>by
  have:=I.pre k (by omega) (lst_all (I.dsz.trans pl.size) hc _ (pl.lt k (by omega)));omega
 | fuel+1,D,σ,g,H,w,a,hc,I,hg,hb,hd=>by
  refine ⟨fun hr=>?_,fun i hi=>?_⟩
  ·have:=I.pre k (by omega) (ready_nil_all pl I.dsz hr k (by omega));omega
  ·rw [ready_iff I.dsz] at hi
   obtain ⟨hi1,hnl,hrd⟩:=hi
   obtain ⟨u,hu,rfl⟩:=pl.sur i (by rw [← pl.size]; exact hi1)
   have hrdy:=lst_of hrd
   have hcnt:=count_put (by rw [I.dsz]; exact hi1) hnl hc
   by_cases huv : u<k
   ·refine at_pend pl I hu huv hnl hrdy fun x g' w' e1 e2 e3 e4=>?_;exact draw_last pl hk hpre hlast hneed fuel _ σ g' H w' _ hcnt (inv_pend pl I hu huv hnl hrdy x e1 e2 e4) (hg.trans e1) (hb.trans e3) (by rw [put_defers]; exact hd)
   ·have huk : u=k:=by omega
    subst huk
    have hgo : clxW P B d f xs (Q .norm) X0 σ H:=by
     have:=I.go;rw [List.drop_eq_nil_of_le (by omega)] at this;exact this
    have hE:=erel_look (σu:=σ) pl I hu (Nat.le_refl _) hnl hrdy fun t ht=>⟨fun _ _ _=>rfl,fun hno=>I.same t hno⟩
    have hof:=pl.of u hu;rw [hlast] at hE hof
    have hsz : p u<D.size:=by rw [I.dsz]; exact hi1
    have hall : ∀ i,i<ops.size→Lst (D.setIfInBounds (p u) true) i:=fun i hi=>by
     obtain ⟨u',h1,rfl⟩:=pl.sur i (by rw [← pl.size]; exact hi);rw [lst_set hsz]
     by_cases e : u'=u
     ·rw [e]; exact .inl rfl
     ·exact .inr (hneed u' (by omega) D I.down hrdy)
    refine callx_op hof I.rel hE hgo (fun v w' hf=>?_) (fun ch w' h1 h2=>?_)
    ·obtain ⟨g2,r,H2,a1,a2,a3,a4,a5⟩:=hf
     have I1 : Inv P B N ops n p s pre (fun _ _=>True) σ0 D u σ g H w a:=⟨I.dsz,I.down,I.vle,I.pre,I.wr,I.old,I.new,I.pend,I.same,by rw [List.drop_eq_nil_of_le (by omega)]; trivial,I.rel,I.size⟩
     have I2:=inv_write pl I1 hu (by rw [hlast]; rfl) hnl hrdy v (some r) a1 a4 (fun r' hr=>by cases hr; exact a3) ⟨fun hkp=>by rw [hlast] at hkp; simp [keeps] at hkp,fun z hkp=>by rw [hlast] at hkp; simp [kpz,keeps] at hkp⟩ (by rw [List.drop_eq_nil_of_le (by omega)]; trivial)
     have I3 : Inv P B N ops n p s (List.replicate n default) (fun _ _=>True) σ0 (D.setIfInBounds (p u) true) (u+1) (stepEnv (s u).d σ (some r)) g2 H2 w' (a.put (s u).d v) :=
      ⟨I2.dsz,I2.down,I2.vle,I2.pre,I2.wr,I2.old,I2.new,I2.pend,I2.same,by rw [List.drop_eq_nil_of_le (by simp; omega)]; trivial,I2.rel,I2.size⟩
     obtain ⟨-,b2,b3⟩:=inv_end pl (by simp) I3 fun i hi=>hall i (by rw [pl.size]; exact hi);rw [hlast] at b3;refine any_end (by simp [I.dsz]) hall ?_ fuel;exact ⟨g2,stepEnv d σ (some r),H2,hg.trans a1,putK_step a2,b2,b3,hb.trans a5,by rw [put_size]; exact I.size,by rw [put_defers]; exact hd⟩
    ·obtain ⟨g2,H2,a1,a2,a3,a4⟩:=h2;exact ⟨h1,⟨g2,H2,hg.trans a1,a2,a3,hb.trans a4⟩,I.size,hd⟩
theorem drawx_sound {pre : List SOp} {d : Option Nat} {f : X} {xs : List X} {pm : List Nat} (hc : lastX P N ops hs pm true=some (pre,⟨d,none,.call f xs⟩)) {Q : AQ} {X0 : Heap→Prop} {df : List Deferred} {σ : Env} {a : Act} {g : Gh} {H : Heap} {w : World}
  (hW : WRel g B H w) (hE : ERel g σ a.tmps) (hN : a.tmps.size=N) (hd : a.defers=df) (hk : opsW P B pre (clxW P B d f xs (Q .norm) X0) σ H) (id : Nat) :
  (Code.region id ops true).wp P (PostX Q X0 g B w N df) a w:=by
 simp only [lastX] at hc
 generalize (if pm.isEmpty then List.range ops.size else pm)=pm' at hc
 cases hci : compileIx P N ops hs pm' with
 | none=>simp [hci] at hc
 | some ss =>
  simp only [hci,if_true] at hc
  split at hc
  ·rename_i hh
   simp only [Option.some.injEq,Prod.mk.injEq] at hc
   obtain ⟨rfl,hp2⟩:=hc;simp only [Bool.and_eq_true,decide_eq_true_eq,List.all_eq_true,List.mem_range] at hh
   obtain ⟨⟨⟨⟨⟨hchk,hmix⟩,h0⟩,h2⟩,hcl⟩,hlow⟩:=hh
   obtain ⟨pl,hlen⟩:=plan_of hci hchk;refine wp_region_any hmix ?_
   have hmem : ∀ u,u<ops.size→pm'.getD u 0<ops.size:=pl.lt
   have hD : ∀ i,i<ops.size→¬ Lst (Array.replicate ops.size false) i:=by
    intro i hi h
    simp [Lst,Array.getD,hi] at h
   have hpl : (ss.take (ops.size - 1)).length=ops.size - 1:=by rw [List.length_take]; omega
   have hs' : ∀ u,u<ops.size→ss[u]? = some (ss.getD u default):=fun u hu=>by
    rw [List.getD_eq_getElem?_getD,List.getElem?_eq_getElem (by omega)]; rfl
   have hpre : ∀ u,u<ops.size - 1→(ss.take (ops.size - 1))[u]? = some (ss.getD u default):=fun u hu=>by rw [List.getElem?_take_of_lt hu,hs' u (by omega)]
   have I : Inv P B N ops ops.size (fun u=>pm'.getD u 0) (fun u=>ss.getD u default) (ss.take (ops.size - 1)) (clxW P B d f xs (Q .norm) X0) σ (Array.replicate ops.size false) 0 σ g H { w with drawn:=w.drawn+1 } a :=
    ⟨by simp,fun i hi h=>absurd h (hD i hi),Nat.zero_le _,fun u hu h=>absurd h (hD _ (pl.lt u hu)),fun u hu=>by omega,fun t x hx _=>hE t x hx,fun u hu=>by omega,fun u hu=>by omega,
     fun t _=>rfl,hk,hW.drew,hN⟩
   obtain ⟨v',σ',I',-,hle,hv'⟩:=advance pl (ops.size - 1) (by omega) (fun _=>by simpa using h2) hpre _ 0 σ rfl (Nat.zero_le _) I
   have hvk : v'=ops.size - 1:=by
    refine Classical.byContradiction fun hne=>?_
    have h1:=hlow v' (by omega)
    have h2 : cls (ss.getD v' default).i=2:=hv' (by omega);omega
   subst hvk;refine draw_last pl (by omega) hpl hp2 (fun u hu D hdn hrdy=>?_) ops.size _ σ' g H _ a (by simp) I' (.refl g) ((Below.refl B w).drew) hd;exact clos_sound hdn ops.size 0 [] rfl (fun k hk=>by omega) (by omega) _ (by rw [Nat.zero_add]; exact hmem _ (by omega)) _ (List.contains_iff_mem.mp (hcl u hu)) hrdy
  ·cases hc
theorem pnc_sound {hs' : Hints} {pre : List SOp} {x : X} {id : Nat} (hf : FitsX P N hs' (.pnc pre x) (.region id ops false)) {Q : AQ} {X0 : Heap→Prop} {df : List Deferred} {σ : Env} {a : Act} {g : Gh} {H : Heap} {w : World}
  (hW : WRel g B H w) (hE : ERel g σ a.tmps) (hN : a.tmps.size=N) (hd : a.defers=df) (hk : opsW P B pre (pncW x X0) σ H) : (Code.region id ops false).wp P (PostX Q X0 g B w N df) a w:=by
 obtain ⟨o,y,ho,hsz,hci,hop,hgu,hcx⟩:=hf;refine wp_region ?_;rw [hsz,List.range_succ];refine wpOps_append _ _ _ _ ?_;refine ops_sound _ _ hci _ g H w σ a _ hW hE hN hd hk fun a' w' hp=>?_
 obtain ⟨g',σ',H',q1,⟨q2,q2'⟩,q3,q4,q5,q6,q7⟩:=hp
 show wpOps P ops (PostX Q X0 g B w N df) [pre.length] a' w'
 rw [wpOps_cons];unfold wpOp;simp only [ho,Region.wanted,hgu,if_true];refine .inl ?_;unfold isI at q2
 split at q2
 ·rename_i t v hv
  have hr:=val_rel q4 hcx hv;unfold Oper.wp execOp;rw [hop]
  obtain ⟨u,hu⟩ : ∃ u,a'.eval y=.iface t u:=by
   generalize a'.eval y=uu at hr
   cases hr; exact ⟨_,rfl⟩
  simp only [hu,Sem.run_bind,run_panic_iface,Result.andThen_halt];exact ⟨⟨t,u,rfl⟩,⟨g',H',q1,q2',q3,q5⟩,q6,q7⟩
 ·exact q2.elim
theorem seqx_sound' {df : List Deferred} {x y : Code} {A : Env→Heap→Prop} {Q : AQ} {X0 : Heap→Prop} {g : Gh} {w : World} {a : Act}
  (h1 : x.wp P (PostX (seqQ A Q) X0 g B w N df) a w)
  (h2 : ∀ g' σ' H' w' a',WRel g' B H' w'→ERel g' σ' a'.tmps→a'.tmps.size=N→a'.defers=df→A σ' H'→y.wp P (PostX Q X0 g' B w' N df) a' w') :
  (Code.seq x y).wp P (PostX Q X0 g B w N df) a w:=by
 refine wp_seq (wp_mono h1 fun e a' w' hp=>?_)
 cases e with
 | normal =>
  obtain ⟨g',σ',H',q1,q2,q3,q4,q5,q6,q7⟩:=hp;exact wp_mono (h2 g' σ' H' w' a' q3 q4 q6 q7 q2) fun e2 a2 w2 hp2=>hp2.from q1 q5
 | exit id=>exact hp
 | ret=>exact hp
 | goto l=>exact hp.elim
 | panic ch=>exact hp
 | outgrown=>exact hp.elim
theorem xwp_sound {hs : Hints} {df : List Deferred} : ∀ (s : XC) (c : Code),FitsX P N hs s c →
  ∀ (Q : AQ) (X0 : Heap→Prop) (g : Gh) (H : Heap) (w : World) (σ : Env) (a : Act),WRel g B H w→ERel g σ a.tmps→a.tmps.size=N→a.defers=df →
   xwp P B s Q X0 σ H→c.wp P (PostX Q X0 g B w N df) a w:=by
 intro s
 induction s with
 | sc s =>
  intro c hc Q X0 g H w σ a hW hE hN hd hk;exact wp_mono (awp_sound s c hc Q g H w σ a hW hE hN hd hk) fun e a' w' hp=>hp.toX
 | seq x y ihx ihy =>
  intro c hc Q X0 g H w σ a hW hE hN hd hk
  cases c <;> try exact hc.elim
  obtain ⟨h1,h2⟩:=hc;exact seqx_sound' (ihx _ h1 _ X0 g H w σ a hW hE hN hd hk) fun g' σ' H' w' a' p1 p2 p3 p4 p5=>ihy _ h2 Q X0 g' H' w' σ' a' p1 p2 p3 p4 p5
 | cond z x y ihx ihy =>
  intro c hc Q X0 g H w σ a hW hE hN hd hk
  cases c <;> try exact hc.elim
  obtain ⟨hz,h1,h2⟩:=hc;simp only [xwp] at hk
  cases hv : val σ z with
  | none=>simp [hv,cndW] at hk
  | some v =>
   have hr:=val_rel hE hz hv;rw [hv] at hk
   cases v <;> try (simp [cndW] at hk; done)
   rename_i o _ _ b
   have hb : a.eval o=.bool b:=by
    generalize a.eval o=u at hr
    cases hr; rfl
   simp only [cndW,At] at hk;refine wp_cond_split hb (fun ht=>?_) (fun hf=>?_)
   ·exact ihx _ h1 Q X0 g H w σ a hW hE hN hd (hk.1 ht)
   ·exact ihy _ h2 Q X0 g H w σ a hW hE hN hd (hk.2 hf)
 | block id x ih =>
  intro c hc Q X0 g H w σ a hW hE hN hd hk
  cases c <;> try exact hc.elim
  obtain ⟨rfl,h1⟩:=hc;refine wp_block (wp_mono (ih _ h1 _ X0 g H w σ a hW hE hN hd hk) fun e a' w' hp=>?_)
  cases e with
  | normal=>exact hp
  | exit id' =>
   simp only [Exit.inBlock];simp only [PostX,Post,PostA,blkQ] at hp
   by_cases h : id'=id
   ·rw [if_pos h]; simp only [h,if_true] at hp; exact hp
   ·rw [if_neg h]; simp only [h,if_false] at hp; exact hp
  | ret=>exact hp
  | goto l=>exact hp.elim
  | panic ch=>exact hp
  | outgrown=>exact hp.elim
 | loop l x ih =>
  intro c hc Q X0 g H w σ a hW hE hN hd hk
  cases c <;> try exact hc.elim
  have h1:=hc
  obtain ⟨I,n,σ0,H0,k1,k2,k3⟩:=hk
  obtain ⟨g0,r1,r2,r3⟩:=k2 g B w a.tmps hW (hE.keep l);refine wp_loop' (fun n a' w'=>PostA (I n) g B w N df a' w') (n:=n) ⟨g0,σ0,H0,r1,k1,r2,r3,.refl B w,hN,hd⟩ ?_
  intro n a' w' ⟨g',σ',H',q1,q2,q3,q4,q5,q6,q7⟩;refine wp_mono (ih _ h1 _ X0 g' H' w' σ' a' q3 q4 q6 q7 (k3 n σ' H' q2)) fun e a2 w2 hp=>?_
  cases e with
  | normal =>
   obtain ⟨g2,σ2,H2,p1,⟨m,σ3,H3,hm,hI,hwk⟩,p3,p4,p5,p6,p7⟩:=hp
   obtain ⟨g3,s1,s2,s3⟩:=hwk g2 B w2 a2.tmps p3 (p4.keep l);exact ⟨m,hm,g3,σ3,H3,q1.trans (p1.trans s1),hI,s2,s3,q5.trans p5,p6,p7⟩
  | exit id'=>exact PostX.from (Q:=Q) (X0:=X0) (e:=.exit id') q1 q5 hp
  | ret=>exact PostX.from (Q:=Q) (X0:=X0) (e:=.ret) q1 q5 hp
  | goto l=>exact hp.elim
  | panic ch=>exact PostX.from (Q:=Q) (X0:=X0) (e:=.panic ch) q1 q5 hp
  | outgrown=>exact hp.elim
 | keep l x ih =>
  intro c hc Q X0 g H w σ a hW hE hN hd hk;exact ih c hc Q X0 g H w _ a hW (hE.keep l) hN hd hk
 | callx pre d f xs =>
  intro c hc Q X0 g H w σ a hW hE hN hd hk
  cases c <;> try exact hc.elim
  rename_i id ops draw
  cases draw with
  | true=>exact drawx_sound hc hW hE hN hd hk id
  | false=>exact seqx_sound hc hW hE hN hd hk id
 | pnc pre x =>
  intro c hc Q X0 g H w σ a hW hE hN hd hk
  cases c <;> try exact hc.elim
  rename_i id ops draw
  cases draw with
  | true=>exact hc.elim
  | false=>exact pnc_sound hc hW hE hN hd hk
end
end Go.AW
namespace Go.AW
open Go.RowKit
section
variable {P : Program} {B : Nat}
theorem erel_env {args : List AV} {g : Gh} {vs : Array Value} {n : Nat} (hv : VRels g args vs) (hargs : args.length≤n) : (vs++Array.replicate (n - vs.size) undef).size=n∧ERel g (envOf 0 args) (vs++Array.replicate (n - vs.size) undef):=by
 have hsz : (vs++Array.replicate (n - vs.size) undef).size=n:=by have:=hv.1; simp; omega
 refine ⟨hsz,fun t v ht=>?_⟩
 obtain ⟨h1,h2,h3⟩:=envOf_get args 0 t v ht;simp only [Nat.zero_add,Nat.sub_zero] at h2 h3;refine ⟨by rw [hsz]; omega, ?_⟩
 have : (vs++Array.replicate (n - vs.size) undef).getD t undef=vs.getD t undef:=by
  simp only [Array.getD_eq_getD_getElem?];rw [Array.getElem?_append_left (by rw [hv.1]; exact h2)]
 rw [this,h3];exact hv.2 t h2
theorem ret_run {fn : Func} {rvs : List RV} (hr : compileRs P fn.results.toList=some rvs) {K : Kont} {e : AEx} {σ : Env} {H : Heap} {g g' : Gh} {a : Act} {w w' : World} (hq : retQ rvs K e σ H) (hle : g.le g') (hW : WRel g' B H w') (hE : ERel g' σ a.tmps) (hbel : Below B w w') :
  ∃ v,(results fn a.tmps).run P w'=.ok v w'∧FinV g B w K v w':=by
 have hq' : retV (rvVs σ H rvs) (subW K) H:=by cases e <;> first | exact hq | exact hq.elim
 cases hvs : rvVs σ H rvs with
 | none=>simp [hvs,retV] at hq'
 | some avs =>
  rw [hvs] at hq'
  obtain ⟨us,p1,p2,p3⟩:=rvs_run (P:=P) hW hE hr hvs
  have hrun : (results fn a.tmps).run P w'=.ok (if h : us.toArray.size=1 then us.toArray[0] else .tuple us.toArray) w':=by
   unfold results;rw [Array.mapM_eq_mapM_toList]
   have p1' : ((fn.results.toList.mapM fun r=>(match r with
    | .tmp t=>pure (a.tmps.getD t undef)
    | .cell ad t=>do loadVar t (← asAddr (a.tmps.getD ad undef)) : Sem Value)) : Sem (List Value)).run P w'=.ok us w':=p1
   simp only [Sem.run_bind,Sem.run_map];refine Eq.trans (congrArg (fun r=>Result.andThen (Result.andThen r _) _) p1') ?_
   rfl
  refine ⟨_,hrun, ?_⟩
  by_cases hone : avs.length=1
  ·obtain ⟨v,rfl⟩:=List.length_eq_one_iff.1 hone;simp only [retV] at hq'
   obtain ⟨H2,hs2,hk2⟩:=hq'
   obtain ⟨u,rfl⟩:=List.length_eq_one_iff.1 (p2.trans rfl);refine ⟨g',v,H2,hle,hk2, ?_,hW.sub hs2,hbel⟩
   simpa using p3 0 (by simp)
  ·have hq2 : subW K (.tup avs) H:=by
    cases avs with
    | nil=>exact hq'
    | cons v1 r=>cases r with
     | nil=>exact absurd rfl hone
     | cons v2 r=>exact hq'
   obtain ⟨H2,hs2,hk2⟩:=hq2
   have hne : ¬ us.toArray.size=1:=by simp; omega
   refine ⟨g',.tup avs,H2,hle,hk2, ?_,hW.sub hs2,hbel⟩;rw [dif_neg hne];exact .tup avs us.toArray (by simp [p2]) fun i hi=>by simpa using p3 i hi
theorem CallX.of_xwp {f : FuncId} {fn : Func} {c : Code} {s : XC} {hs : Hints} {rvs : List RV} (hf : P.funcs[f]? = some fn) (hb : fn.body = some c) (hn : (fn.name == "runtime.NumGoroutine") = false)
  (hc : FitsX P fn.ntmps hs s c) (hr : compileRs P fn.results.toList=some rvs) {args : List AV} (hargs : args.length≤fn.ntmps) {H : Heap} {K : Kont} {X0 : Heap→Prop}
  (hk : fines args→xwp P B s (retQ rvs K) X0 (envOf 0 args) H) : CallX P B f args H K X0:=by
 refine ⟨⟨fn,hf,by simp [hb],hn⟩,fun g w vs hW hv=>?_⟩;refine calls_of_wp hf hb ?_
 have hfine : ∀ a,a∈args→a.fine:=by
  intro a ha
  obtain ⟨i,hi,rfl⟩:=List.getElem_of_mem ha
  have:=hv.2 i hi;rw [show args.getD i nv=args[i] by simp [List.getD_eq_getElem?_getD,hi]] at this;exact ⟨g,_,this⟩
 obtain ⟨hsz,hE⟩:=erel_env hv hargs
 have hwp:=xwp_sound (df:=[]) s c hc (retQ rvs K) X0 g H w (envOf 0 args) { tmps:=vs++Array.replicate (fn.ntmps - vs.size) undef,defers:=[] } hW hE hsz rfl (hk (fines_of hfine));refine wp_mono hwp fun e a' w' hp=>?_
 cases e with
 | normal =>
  obtain ⟨g',σ',H',q1,q2,q3,q4,q5,q6,q7⟩:=hp
  obtain ⟨v,r1,r2⟩:=ret_run hr (e:=.norm) q2 q1 q3 q4 q5;exact ⟨q7,v,r1,.inl ⟨v,rfl,r2⟩⟩
 | ret =>
  obtain ⟨g',σ',H',q1,q2,q3,q4,q5,q6,q7⟩:=hp
  obtain ⟨v,r1,r2⟩:=ret_run hr (e:=.ret) q2 q1 q3 q4 q5;exact ⟨q7,v,r1,.inl ⟨v,rfl,r2⟩⟩
 | exit id =>
  obtain ⟨g',σ',H',q1,q2,_⟩:=hp;exact q2.elim
 | goto l=>exact hp.elim
 | panic ch =>
  obtain ⟨h1,h2,-,h4⟩:=hp;exact ⟨h4,.inr ⟨ch,rfl,h1,h2⟩⟩
 | outgrown=>exact hp.elim
end
end Go.AW
namespace Go.Proofs.Shf
open Go.AW Go.Proofs
theorem catch_idle (p : Value) (w : World) : CallsD Tryz.prog 256 #[p] .returning w fun e u' w'=>e=.returned (.tuple #[])∧u'=.returning∧w'=w:=by
 refine callsD_of_wpS Tryz.func256 rfl fun c₀ cs hu=>?_;apply wpS_seq;apply wpS_region
 simp [wpOpsS,go_sem,recoverD,hu,Tryz.ntmps256,Exit.thenS];refine wpS_cond (t:=false) (by simp [Act.eval,Array.replicate]) ?_;simp only [Bool.false_eq_true,if_false];refine wpS_of_wp (wp_skip ?_)
 cases c₀
 simp_all [bodyPostS,results,Tryz.results256]
theorem catch_pan {B : Nat} {g : Gh} {H : Heap} {w : World} {id : Nat} {p : Value} (hW : WRel g B H w) (hO : H.get id=some (.cells 1 [.bool false] 0)) (hp : VRel g (.ref id 0) p) (t : TypeId) (v : Value) :
  CallsD Tryz.prog 256 #[p] (.panicking [{ v:=.iface t v,recovered:=false }]) w fun e u' w'=>e=.returned (.tuple #[])∧u'=.panicking [{ v:=.iface t v,recovered:=true }] ∧
   ∃ g',g.le g'∧WRel g' B (H.set id (.cells 1 [.bool false] 0)) w'∧Below B w w':=by
 refine callsD_of_wpS Tryz.func256 rfl fun c₀ cs hu=>?_;apply wpS_seq;apply wpS_region
 simp [wpOpsS,go_sem,recoverD,hu,Tryz.ntmps256,Exit.thenS];refine wpS_cond (t:=true) (by simp [Act.eval,Array.replicate]) ?_;simp only [if_true];refine wpS_of_wp ?_;refine wp_mono (awp_sound (B:=B) (N:=3) (hs:=[]) (df:=[]) (.reg [⟨none,none,.st 1 (.t 0) (.c (.bool false))⟩]) _ (by kernel_rfl) (fun e σ H'=>e=.norm∧H'=H.set id (.cells 1 [.bool false] 0)) g H w [(0,some (.ref id 0))] _ hW ?_ rfl rfl ?_) ?_
 ·intro t' x hx;simp only [Env.get] at hx
  split at hx
  ·rename_i e; subst e; cases hx
   exact ⟨by simp [Array.replicate],by simpa [Array.replicate] using hp⟩
  ·cases hx
 ·simp only [go_sem,hO,↓reduceIte]
  simp [maxL,wr,AV.one]
 ·intro e a' w' hq
  cases e with
  | normal =>
   obtain ⟨g',σ',H',q1,⟨-,rfl⟩,q3,q4,q5,q6,q7⟩:=hq;refine ⟨q7,.panicking [{ v:=.iface t v,recovered:=true }], ?_,.tuple #[], ?_,rfl,rfl,g',q1,q3,q5⟩
   ·cases c₀; rfl
   ·simp [results,Tryz.results256]
  | exit id =>
   obtain ⟨g',σ',H',q1,⟨q2,_⟩,_⟩:=hq
   cases q2
  | ret =>
   obtain ⟨g',σ',H',q1,⟨q2,_⟩,_⟩:=hq
   cases q2
  | goto l=>exact hq.elim
  | panic ch=>exact hq.elim
  | outgrown=>exact hq.elim
theorem glued_ok {B : Nat} {f : FuncId} {ca : List AV} {b : Bool} {H0 : Heap} {K : Kont} (h : ∀ H,H0.sub H→CallX Tryz.prog B f ca H (fun _ H'=>H.sub H'∧b=true) (fun H'=>H.sub H'∧b=false))
  (hk : K (.bool b) H0) : CallH Tryz.prog B 185 [.fn (.func f) ca] H0 K:=by
 refine ⟨⟨Tryz.f185,Tryz.func185,rfl,by kernel_rfl⟩,fun g w vs hW hv=>?_⟩;refine calls_of_wp_defers Tryz.func185 rfl ?_
 obtain ⟨hsz,hE⟩:=erel_env (n:=6) hv (by simp)
 change (Code.wp _ _ _ { tmps:=vs++Array.replicate (6 - vs.size) undef,defers:=[] } w)
 generalize vs++Array.replicate (6 - vs.size) undef=tm at hsz hE;refine wp_seq ?_;refine wp_mono (awp_sound (B:=B) (N:=6) (hs:=[]) (df:=[]) (.reg [⟨some 2,none,.alc [.bool false]⟩]) _ (by kernel_rfl) (fun e σ H'=>e=.norm∧∃ id,H0.get id=none∧σ=[(2,some (.ref id 0)),(0,some (.fn (.func f) ca))]∧H'=H0.set id (.cells 1 [.bool false] 0)) g H0 w _ _ hW hE hsz rfl ?_) ?_
 ·simp only [go_sem];refine ⟨by simp [maxL],fun id hn=>?_⟩;simp only [go_sem];exact ⟨id,hn,rfl,rfl⟩
 intro e a' w' hq
 cases e with
 | normal =>
  obtain ⟨g1,σ',H',q1,⟨-,id,hn,rfl,rfl⟩,q3,q4,q5,q6,q7⟩:=hq;refine wp_seq ?_;refine wp_region ?_
  change wpOps _ _ _ ([0]++[1]) _ _
  refine wpOps_append _ _ _ _ ?_;refine ops_sound (B:=B) (N:=6) (hs:=[]) (df:=[]) [0] [⟨some 3,none,.mkf (.func 256) [.t 2]⟩] (by kernel_rfl) (fun σ H'=>σ=[(3,some (.fn (.func 256) [.ref id 0])),(2,some (.ref id 0)),(0,some (.fn (.func f) ca))]∧H'=H0.set id (.cells 1 [.bool false] 0)) g1 _ w' _ a' _ q3 q4 q6 q7 ?_ ?_
  ·simp only [go_sem,↓reduceIte]
  intro a2 w2 hq
  obtain ⟨g2,σ',H',r1,⟨rfl,rfl⟩,r3,r4,r5,r6,r7⟩:=hq
  obtain ⟨cv,hev,hcr⟩ : ∃ cv,a2.tmps.getD 3 undef=.func (.func 256) #[] cv∧VRels g2 [.ref id 0] cv:=by
   have:=(r4 3 _ rfl).2
   generalize a2.tmps.getD 3 undef=u at this ⊢
   cases this;exact ⟨_,rfl,by assumption,by assumption⟩
  obtain ⟨pv,rfl,hpv⟩ : ∃ pv,cv=#[pv]∧VRel g2 (.ref id 0) pv:=by
   obtain ⟨l⟩:=cv
   obtain ⟨hs,hv⟩:=hcr
   match l,hs with
   | [x],_=>exact ⟨x,rfl,hv 0 (by simp)⟩
  simp only;rw [wpOps_cons];apply Or.inl
  have hrun : (execOp a2.eval { dst := none, op := Op.defer { callee := Callee.value (Operand.tmp 3), args := #[], argTypes := #[] }, type := 0, pos := "l28_sheaves.go:112", after := #[{ on := 0, ground := Ground.data }], guard := none }).run Tryz.prog w2 =
    .ok (.defer ⟨.fn (.func 256) #[pv],#[]⟩) w2:=by
   simp [execOp,resolve,Act.eval,hev,Deferred.ofValue]
  unfold Oper.wp
  erw [hrun]
  rw [Oper.upon_defer]
  obtain ⟨tm2,df2⟩:=a2;simp only at r4 r6 r7 hev;subst r7
  change Code.wp _ _ _ { tmps:=tm2,defers:=[⟨.fn (.func 256) #[pv],#[]⟩] } w2
  clear hrun hev
  have hn0 : H0.sub (H0.set id (.cells 1 [.bool false] 0)):=Heap.sub_set _ hn (.refl H0)
  have hres : ∀ (σ : Env) (H' : Heap) (g' : Gh) (tm' : Array Value) (w' : World),g.le g'→WRel g' B H' w'→ERel g' [(2,some (.ref id 0))] tm'→Below B w w'→H'.get id=some (.cells 1 [.bool b] 0)→H0.sub H' →
    ∃ v,(results Tryz.f185 tm').run Tryz.prog w'=.ok v w'∧FinV g B w K v w':=fun σ H' g' tm' w' e1 e2 e3 e4 e5 e6 =>
   ret_run (rvs:=[.cell 2 none]) (by kernel_rfl) (e:=.ret) (σ:=[(2,some (.ref id 0))]) (H:=H') (a:={ tmps:=tm',defers:=[] }) (by
    simp only [go_sem,↓reduceIte]
    try rw [show rcV none (some (.ref id 0)) H'=some (.bool b) by simp [rcV,e5]]
    try rw [e5]
    simp only [go_sem];exact ⟨H0,e6,hk⟩) e1 e2 e3 e4
  have hinv : ∀ w,(invoke (.fn (.func 256) #[pv]) #[]).run Tryz.prog w=.ok (.enter 256 #[pv]) w:=fun w=>by
   simp only [Go.invoke, callFunc, Sem.run_bind, run_program, Result.andThen_ok, Tryz.func256, show Tryz.f256.body.isNone = false from rfl, show (Tryz.f256.name == "runtime.NumGoroutine") = false by kernel_rfl, Bool.false_eq_true, if_false, Sem.run_pure, Array.empty_append]
  refine wp_seq ?_;refine wp_region ?_
  change wpOps _ _ _ ([0]++[1]) _ _
  refine wpOps_append _ _ _ _ ?_;refine ops_sound (B:=B) (N:=6) (hs:=[]) (df:=[⟨.fn (.func 256) #[pv],#[]⟩]) [0] [⟨some 4,none,.mv (.t 0)⟩] (by kernel_rfl) (fun σ H'=>σ=[(4,some (.fn (.func f) ca)),(0,some (.fn (.func f) ca)),(2,some (.ref id 0))]∧H'=H0.set id (.cells 1 [.bool false] 0)) g2 _ w2 [(0,some (.fn (.func f) ca)),(2,some (.ref id 0))] _ _ r3 ?_ r6 rfl ?_ ?_
  ·exact fun t x hx=>r4 t x (by
    simp only [Env.get_cons,get_nil] at hx ⊢
    by_cases e0 : t=0
    ·subst e0; simpa using hx
    ·by_cases e2 : t=2
     ·subst e2; simpa using hx
     ·simp [e0,e2] at hx)
  ·simp only [go_sem,↓reduceIte]
  intro a3 w3 hq
  obtain ⟨g3,σ',H',s1,⟨rfl,rfl⟩,s3,s4,s5,s6,s7⟩:=hq
  simp only;rw [wpOps_cons];refine callx_op (B:=B) (N:=6) (hs:=[]) (i:=1) (d:=some 5) (f:=.t 4) (xs:=[]) ⟨_,rfl,by kernel_rfl⟩ s3 (s4.keep _) (K:=fun _ H'=>(H0.set id (.cells 1 [.bool false] 0)).sub H'∧b=true) (X0:=fun H'=>(H0.set id (.cells 1 [.bool false] 0)).sub H'∧b=false) ?_ ?_ ?_
  ·simp only [go_sem,↓reduceIte];exact h _ hn0
  ·intro v w4 hf
   obtain ⟨g4,r,H4,u1,⟨u2,hb⟩,u3,u4,u5⟩:=hf;subst hb
   have e4 : ERel g4 [(2,some (.ref id 0))] a3.tmps:=fun t x hx=>(s4.mono u1) t x (by
    simp only [Env.get_cons,get_nil] at hx ⊢
    by_cases e2 : t=2
    ·subst e2; simpa using hx
    ·simp [e2] at hx)
   have e5 : ERel g4 [(2,some (.ref id 0))] (a3.put (some 5) v).tmps:=fun t x hx=>by
    have:=(e4.put (d:=5) (a:=r) (v:=v) (by omega) u3) t x (by
     simp only [Env.put,Env.get_cons,get_nil] at hx ⊢
     by_cases e2 : t=2
     ·subst e2; simpa using hx
     ·simp [e2] at hx)
    exact this
   change Code.wp _ _ _ (a3.put (some 5) v) w4
   have hg4:=u2 id _ (Heap.get_set_same _ _ _);refine wp_seq ?_;refine wp_mono (awp_sound (B:=B) (N:=6) (hs:=[]) (df:=[⟨.fn (.func 256) #[pv],#[]⟩]) (.reg [⟨none,none,.st 1 (.t 2) (.c (.bool true))⟩]) _ (by kernel_rfl) (fun e σ H'=>e=.norm∧σ=[(2,some (.ref id 0))]∧H'=H4.set id (.cells 1 [.bool true] 0)) g4 H4 w4 [(2,some (.ref id 0))] _ u4 e5 (by rw [put_size]; exact s6) (by rw [put_defers]; exact s7) ?_) ?_
   ·simp only [go_sem,hg4,↓reduceIte]
    simp [maxL,wr,AV.one]
   intro e a5 w5 hq
   cases e with
   | normal =>
    obtain ⟨g5,σ',H',v1,⟨-,rfl,rfl⟩,v3,v4,v5,v6,v7⟩:=hq;refine wp_ret ?_
    change Leaves Tryz.prog Tryz.f185 a5.tmps _ a5.defers .returning w5
    rw [v7];refine leaves_cons (f:=256) (args:=#[pv]) (by simp) (hinv w5) ?_;refine (catch_idle pv w5).mono ?_
    rintro e u' w'' ⟨rfl,rfl,rfl⟩
    obtain ⟨v,k1,k2⟩:=hres [] _ g5 a5.tmps w'' (q1.trans (r1.trans (s1.trans (u1.trans v1)))) v3 v4 (q5.trans (r5.trans (s5.trans (u5.trans v5)))) (Heap.get_set_same _ _ _) (Heap.sub_set _ hn (hn0.trans u2));exact ⟨v,k1,v,rfl,k2⟩
   | exit id =>
    obtain ⟨g',σ',H',q1,⟨q2,_⟩,_⟩:=hq
    cases q2
   | ret =>
    obtain ⟨g',σ',H',q1,⟨q2,_⟩,_⟩:=hq
    cases q2
   | goto l=>exact hq.elim
   | panic ch=>exact hq.elim
   | outgrown=>exact hq.elim
  ·intro ch w4 hc hp
   obtain ⟨g4,H4,u1,⟨u2,hb⟩,u3,u4⟩:=hp
   obtain ⟨t,v,rfl⟩:=hc;subst hb
   change Leaves Tryz.prog Tryz.f185 a3.tmps _ a3.defers (.panicking [{ v:=.iface t v,recovered:=false }]) w4
   rw [s7]
   have hg4:=u2 id _ (Heap.get_set_same _ _ _);refine leaves_cons (f:=256) (args:=#[pv]) (by simp) (hinv w4) ?_;refine (catch_pan u3 hg4 (hpv.mono (s1.trans u1)) t v).mono ?_
   rintro e u' w'' ⟨rfl,rfl,g5,v1,v2,v3⟩
   have e4 : ERel g5 [(2,some (.ref id 0))] a3.tmps:=fun t x hx=>(s4.mono (u1.trans v1)) t x (by
    simp only [Env.get_cons,get_nil] at hx ⊢
    by_cases e2 : t=2
    ·subst e2; simpa using hx
    ·simp [e2] at hx)
   obtain ⟨v,k1,k2⟩:=hres [] _ g5 a3.tmps w'' (q1.trans (r1.trans (s1.trans (u1.trans v1)))) v2 e4 (q5.trans (r5.trans (s5.trans (u4.trans v3)))) (Heap.get_set_same _ _ _) (Heap.sub_set _ hn (hn0.trans u2));exact ⟨v,k1,v,rfl,k2⟩
 | exit id =>
  obtain ⟨g',σ',H',q1,⟨q2,_⟩,_⟩:=hq
  cases q2
 | ret =>
  obtain ⟨g',σ',H',q1,⟨q2,_⟩,_⟩:=hq
  cases q2
 | goto l=>exact hq.elim
 | panic ch=>exact hq.elim
 | outgrown=>exact hq.elim
end Go.Proofs.Shf
namespace Go.Proofs.Shf
open Go.AW Go.Proofs Go.Shf
theorem fsc {P : Program} {N : Nat} {hs : Hints} {s : SC} {c : Code} (h : compileC P N hs c=some s.strip) : FitsX P N hs (.sc s) c:=h
def s187x : XC :=
 .seq (.sc (.reg [⟨some 8,none,.mv (.c (.int .i64 0))⟩]))
 (.keep [0,1,2,3] (.seq (.sc (.reg [⟨some 10,none,.mv (.t 0)⟩,⟨some 11,none,.mv (.t 1)⟩,⟨some 12,none,.mv (.t 2)⟩,⟨some 13,none,.mv (.t 3)⟩,⟨some 14,none,.call (.c (.fn (.func 90) [])) [.t 10,.t 11,.t 12,.t 13]⟩,⟨some 9,none,.mv (.t 14)⟩]))
 (.keep [9] (.seq (.seq (.sc (.reg [⟨some 15,none,.mv (.t 9)⟩,⟨some 16,none,.len (.t 15)⟩,⟨some 17,none,.ar .neq .i64 (.t 16) (.c (.int .i64 1))⟩]))
  (.keep [9,17] (.cond (.t 17) (.pnc [⟨some 18,none,.bld [] []⟩,⟨some 19,none,.mki 292 (.t 18)⟩] (.t 19)) (.sc .skip))))
 (.keep [9] (.seq (.sc (.reg [⟨some 20,none,.mv (.t 9)⟩,⟨some 21,none,.idx 1 (.t 20) (.c (.int .i64 0))⟩,⟨some 22,none,.ld none (.t 21)⟩,⟨some 8,none,.mv (.t 22)⟩])) (.sc .ret)))))))
theorem fits187 : FitsX Tryz.prog Tryz.f187.ntmps [] s187x (Tryz.f187.body.getD .skip) :=
 ⟨fsc (by kernel_rfl),fsc (by kernel_rfl),⟨fsc (by kernel_rfl),by kernel_rfl,⟨_,_,rfl,rfl,by kernel_rfl,rfl,rfl,by kernel_rfl⟩,fsc (by kernel_rfl)⟩,fsc (by kernel_rfl),fsc (by kernel_rfl)⟩
theorem glue_x (B : Nat) (f : SF) (x : Int) (s t : List Int) (hx : 0≤x∧x.toNat<f.sizes.length) (hz : ix f.sizes x≤17) (hs : ∀ a,a∈s→0≤a∧a.toNat<f.acts.length) (he : ∀ a,a∈s→((ix f.acts a).length : Int)=ix f.sizes x) (H0 : Heap) :
  CallX Tryz.prog B 187 [.ptr f.cells,.int .i64 x,iL s,iL t] H0 (fun r H'=>(r=.int .i64 (ix (glue f x s t) 0)∧UniqG f x s t)∧H'=H0) (fun H'=>¬ UniqG f x s t∧H'=H0):=by
 refine CallX.of_xwp (hs:=[]) (s:=s187x) (rvs:=[.tmp 8]) Tryz.func187 rfl (by kernel_rfl) fits187 (by kernel_rfl) (by rw [Tryz.ntmps187]; simp) fun _=>?_;unfold s187x;refine tt ?_;refine (amalgamations_ok B f x s t hx hz hs he).go fun _=>tt ?_;apply bk <;> intro h1
 ·refine tt ?_
  have h1p:=dd h1;exact fun e=>h1p (by simp only [UniqG] at e; omega)
 ·refine tt ?_
  have h1p:=dd h1;refine ⟨by omega, ?_⟩;exact ⟨H0,.refl _,⟨rfl,by simp only [UniqG]; omega⟩,rfl⟩
def s186x : XC :=
 .seq (.sc (.reg [⟨some 7,none,.ld none (.t 0)⟩,⟨some 8,none,.len (.t 7)⟩,⟨some 9,none,.mv (.c (.int .i64 0))⟩]))
 (.keep [1,2,3,4,7,8,9] (.block 0 (.loop [9,1,2,3,4,7,8] (.seq (.sc (.reg [⟨some 10,none,.ar .lss .i64 (.t 9) (.t 8)⟩]))
 (.keep [1,2,3,4,7,8,9,10] (.seq (.sc (.cond (.t 10) .skip (.exit 0)))
 (.keep [1,2,3,4,7,8,9] (.seq (.block 1 (.seq (.sc (.reg [⟨some 11,none,.idx 1 (.t 7) (.t 9)⟩,⟨some 12,none,.ld none (.t 11)⟩,⟨some 6,none,.mv (.t 12)⟩]))
  (.keep [1,2,3,4,6,7,8,9] (.callx [⟨some 13,none,.ld none (.t 1)⟩,⟨some 14,none,.ld none (.t 2)⟩,⟨some 15,none,.ld none (.t 3)⟩,⟨some 16,none,.nck (.t 15)⟩,⟨some 17,none,.fld 0 1 (.t 16)⟩,⟨some 18,none,.ld none (.t 17)⟩,⟨some 19,none,.nck (.t 18)⟩,⟨some 20,none,.fld 7 1 (.t 19)⟩,⟨some 21,none,.ld none (.t 20)⟩,⟨some 22,none,.ld none (.t 2)⟩,⟨some 23,none,.idx 1 (.t 21) (.t 22)⟩,⟨some 24,none,.ld none (.t 23)⟩,⟨some 25,none,.ld none (.t 4)⟩,⟨some 26,none,.idx 1 (.t 24) (.t 25)⟩,⟨some 27,none,.ld none (.t 26)⟩,⟨some 28,none,.mv (.t 6)⟩] (some 29) (.c (.fn (.func 187) [])) [.t 13,.t 14,.t 27,.t 28]))))
 (.keep [1,2,3,4,7,8,9] (.sc (.reg [⟨some 30,none,.ar .add .i64 (.t 9) (.c (.int .i64 1))⟩,⟨some 9,none,.mv (.t 30)⟩])))))))))))
def h91x : Hints:=[(3,[0,1,2,3,4,5,6,7,8,9,10,11,12,13,14,15,16],[0,0,0,0,0,0,0,0,0,0,0,0,0,0,0,0,0])]
theorem fcx {P : Program} {N : Nat} {hs : Hints} {pre : List SOp} {d : Option Nat} {f : X} {xs : List X} {id : Nat} {ops : Array Oper} {dr : Bool} (h : lastX P N ops ((hs.lookup id).elim [] (·.2)) ((hs.lookup id).elim [] (·.1)) dr=some (pre,⟨d,none,.call f xs⟩)) : FitsX P N hs (.callx pre d f xs) (.region id ops dr):=h
theorem fits186 : FitsX Tryz.prog Tryz.f186.ntmps h91x s186x (Tryz.f186.body.getD .skip) :=
 ⟨fsc (by kernel_rfl),rfl,fsc (by kernel_rfl),fsc (by kernel_rfl),⟨rfl,fsc (by kernel_rfl),fcx (by kernel_rfl)⟩,fsc (by kernel_rfl)⟩
end Go.Proofs.Shf
