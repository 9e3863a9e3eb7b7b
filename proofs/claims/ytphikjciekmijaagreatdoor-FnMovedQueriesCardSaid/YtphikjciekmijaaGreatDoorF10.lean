/- A part of a proof. -/
import Derived.Test.YtphikjciekmijaaGreatDoorF9
import Derived.WalkKit
import Derived.Laws.LoneSync
set_option linter.unusedVariables false
set_option linter.unusedSimpArgs false
set_option linter.unusedSectionVars false
set_option maxRecDepth 100000
open Nat (reduceEqDiff reduceAdd reduceMul reduceLeDiff reduceLT)
namespace Go.Proofs.Shf
open Go.AW Go.Proofs Go.Shf
theorem l06Is_ok (B : Nat) (k : FU) : Pur Tryz.prog B 23 [.agg k.cells] (.bool (dec k.Is)):=by
 refine ⟨fun H0=>c23p (by simp) fun _=>?_⟩;unfold s23p
 have o : Owns H0 H0 []:=.nil _;refine tt ?_;refine cut_mp (fun σ H=>σ=[(1,some (.ptr k.cells)),(3,some (.ptr k.src.cells)),(4,some (.ptr k.tgt.cells))]∧H0.sub H) ?_ ?_
 ·refine tt ?_;refine ⟨?_, ?_⟩
  ·refine newRef_own o fun id6 H o=>tt ?_;refine newRef_own o fun id7 H o=>tt ?_;refine sw o.swap fun H o=>tt ?_;refine sw o.swap fun H o=>tt ?_;refine wk_ref 4 o rfl fun H o=>?_;refine wk_ref 3 o rfl fun H o=>?_;exact wk_keep [1,3,4] ⟨rfl,o.sub⟩
  ·refine newRef_own o fun id6 H o=>tt ?_;refine newRef_own o fun id7 H o=>tt ?_;refine sw o fun H o=>tt ?_;refine sw o.swap fun H o=>tt ?_;refine wk_ref 4 o rfl fun H o=>?_;refine wk_ref 3 o rfl fun H o=>?_;exact wk_keep [1,3,4] ⟨rfl,o.sub⟩
 clear o
 rintro σ H1 ⟨rfl,os⟩
 have no : ∀ {P : Prop},¬ P→AV.bool false=AV.bool (dec P):=fun h=>congrArg AV.bool (dec_f h).symm;refine tt ?_;refine (l02Is_ok B k.src).go fun _=>?_
 by_cases hs : k.src.Is
 rotate_left
 ·rw [dec_f hs];refine tt ?_;exact pure_ret (no fun q=>hs q.sI) os
 rw [dec_t hs];refine tt ?_;refine (l02Is_ok B k.tgt).go fun _=>?_
 by_cases ht : k.tgt.Is
 rotate_left
 ·rw [dec_f ht];refine tt ?_;exact pure_ret (no fun q=>ht q.tI) os
 rw [dec_t ht];refine tt ?_
 by_cases ho : (k.ob.length : Int)=k.src.objs
 rotate_left
 ·rw [decide_eq_false ho];refine tt ?_;exact pure_ret (no fun q=>ho q.fit.ol) os
 rw [decide_eq_true ho];refine tt ?_
 by_cases ha : k.ar.length=k.src.frm.length
 rotate_left
 ·rw [decide_eq_false ha];refine tt ?_;exact pure_ret (no fun q=>ha q.fit.al) os
 rw [decide_eq_true ha];refine tt ?_;refine (l01Map_ok B k.ob k.tgt.objs).go fun _=>?_
 by_cases hob : ∀ y,y∈k.ob→0≤y∧y<k.tgt.objs
 rotate_left
 ·rw [dec_f hob];refine tt ?_;exact pure_ret (no fun q=>hob q.fit.obr) os
 rw [dec_t hob];refine tt ?_;refine (l01Map_ok B k.ar (k.tgt.frm.length : Int)).go fun _=>?_
 by_cases har : ∀ y,y∈k.ar→0≤y∧y<(k.tgt.frm.length : Int)
 rotate_left
 ·rw [dec_f har];refine tt ?_;exact pure_ret (no fun q=>har q.fit.arr) os
 rw [dec_t har]
 have fit : k.Fit:=⟨ho,ha,hob,har⟩
 have sm:=hs.1.m
 have so:=hs.1.o
 have sil:=hs.1.il
 have til:=ht.1.il
 have stl:=hs.1.tol
 have ttl:=ht.1.tol
 have arI : ∀ a : Nat,a<k.src.frm.length→a<k.ar.length∧0≤k.ar.getD a default∧(k.ar.getD a default).toNat<k.tgt.frm.length:=fun a h=>by
  have hl : a<k.ar.length:=by omega
  have:=har _ (mem_getD.mpr ⟨a,hl,rfl⟩);exact ⟨hl,this.1,by omega⟩
 have obI : ∀ x : Int,k.src.ObR x→(0≤x∧x.toNat<k.ob.length)∧0≤ix k.ob x∧(ix k.ob x).toNat<k.tgt.idn.length:=fun x h=>by
  have hl : x.toNat<k.ob.length:=by have:=h.1; have:=h.2; omega
  have:=hob _ (ix_mem hl);exact ⟨⟨h.1,hl⟩,this.1,by omega⟩
 refine tt ?_;refine awp_for [1,3,4] (G:=Unit) (fun a _=>[(5,some (.int .i64 (a : Int)))]) (fun a _ H=>H=H1∧∀ i : Nat,i<a→ix k.tgt.frm (k.ar.getD i default)=ix k.ob (k.src.frm.getD i default)∧ix k.tgt.to (k.ar.getD i default)=ix k.ob (k.src.to.getD i default)) k.src.frm.length () ⟨rfl,by simp⟩ rfl ?_
 rintro a _ H hak ⟨rfl,hall⟩;refine tt ?_;apply bk <;> intro h1
 ·have h1p:=of_decide h1
  have w:=wsucc (k:=a) (by omega)
  have hao : k.src.ArR a:=⟨by omega,h1p⟩
  have ai:=arI a h1p
  have of:=(obI _ (hs.1.frO hao)).1
  have ot:=(obI _ (hs.1.toO hao)).1
  have of : 0≤k.src.frm.getD a default∧(k.src.frm.getD a default).toNat<k.ob.length:=of
  have ot : 0≤k.src.to.getD a default∧(k.src.to.getD a default).toNat<k.ob.length:=ot
  have tI : a<k.src.to.length:=by omega
  have a1 : 0≤k.ar.getD a default∧(k.ar.getD a default).toNat<k.tgt.frm.length:=ai.2
  have a2 : 0≤k.ar.getD a default∧(k.ar.getD a default).toNat<k.tgt.to.length:=⟨ai.2.1,by have:=ai.2.2; omega⟩;refine tt ?_
  (repeat (refine ⟨by first | exact ai.1 | exact a1 | exact h1p | exact of, ?_⟩))
  by_cases e1 : ix k.tgt.frm (k.ar.getD a default)=ix k.ob (k.src.frm.getD a default)
  rotate_left
  ·rw [decide_eq_false e1];refine tt ?_;exact pure_ret (no fun q=>e1 (q.laws.ends a h1p).1) os
  rw [decide_eq_true e1];refine tt ?_
  (repeat (refine ⟨by first | exact ai.1 | exact a2 | exact tI | exact ot, ?_⟩))
  by_cases e2 : ix k.tgt.to (k.ar.getD a default)=ix k.ob (k.src.to.getD a default)
  rotate_left
  ·rw [decide_eq_false e2];refine tt ?_;exact pure_ret (no fun q=>e2 (q.laws.ends a h1p).2) os
  rw [decide_eq_true e2];refine tw w ?_
  exact for_next () h1p ⟨rfl,fun i hi=>by
   rcases Nat.lt_succ_iff_lt_or_eq.mp hi with h | rfl
   ·exact hall i h
   ·exact ⟨e1,e2⟩⟩ rfl
 have h1p:=of_ndecide h1
 have ends : ∀ a : Nat,a<k.src.frm.length→ix k.tgt.frm (k.ar.getD a default)=ix k.ob (k.src.frm.getD a default)∧ix k.tgt.to (k.ar.getD a default)=ix k.ob (k.src.to.getD a default):=fun i hi=>hall i (by omega);clear h1 hall h1p hak;refine tt ?_;refine awp_for [1,3,4] (G:=Unit) (fun x _=>[(6,some (.int .i64 (x : Int)))]) (fun x _ H2=>H2=H∧∀ i : Nat,i<x→ix k.ar (k.src.idn.getD i default)=ix k.tgt.idn (k.ob.getD i default)) k.src.objs.toNat () ⟨rfl,by simp⟩ rfl ?_
 rintro x _ H hxk ⟨rfl,hall⟩;refine tt ?_;apply bk <;> intro h1
 ·have h1p:=of_decide h1
  have w:=wsucc (k:=x) (by omega)
  have hxo : k.src.ObR x:=⟨by omega,h1p⟩
  have ox:=obI _ hxo
  have ox1 : x<k.ob.length:=by have:=ox.1.2; simpa using this
  have ox2 : 0≤k.ob.getD x default∧(k.ob.getD x default).toNat<k.tgt.idn.length:=ox.2
  have xi : x<k.src.idn.length:=by omega
  have ia:=(hs.1.idArr hxo).1
  have ia2 : 0≤k.src.idn.getD x default∧(k.src.idn.getD x default).toNat<k.ar.length:=⟨ia.1,by rw [ha]; exact ia.2⟩;refine tt ?_
  (repeat (refine ⟨by first | exact xi | exact ia2 | exact ox1 | exact ox2, ?_⟩))
  by_cases e : ix k.ar (k.src.idn.getD x default)=ix k.tgt.idn (k.ob.getD x default)
  rotate_left
  ·rw [decide_eq_false e];refine tt ?_;exact pure_ret (no fun q=>e (q.laws.idn x xi)) os
  rw [decide_eq_true e];refine tw w ?_
  exact for_next () (by omega) ⟨rfl,fun i hi=>by
   rcases Nat.lt_succ_iff_lt_or_eq.mp hi with h | rfl
   ·exact hall i h
   ·exact e⟩ rfl
 have h1p:=of_ndecide h1
 have idn : ∀ i : Nat,i<k.src.idn.length→ix k.ar (k.src.idn.getD i default)=ix k.tgt.idn (k.ob.getD i default):=fun i hi=>hall i (by omega);clear h1 hall h1p hxk;refine tt ?_;refine awp_for [1,3,4] (G:=Unit) (fun a _=>[(7,some (.int .i64 (a : Int)))]) (fun a _ H2=>H2=H∧∀ i j : Nat,i<a→j<k.src.frm.length→k.src.to.getD i default=k.src.frm.getD j default→ix k.ar ((k.src.comp.getD i default).getD j default)=ix (ix k.tgt.comp (k.ar.getD i default)) (k.ar.getD j default)) k.src.frm.length () ⟨rfl,fun i j h=>by omega⟩ rfl ?_
 rintro a _ H hak ⟨rfl,hall⟩;refine tt ?_;apply bk <;> intro h1
 ·have h1p:=of_decide h1
  have w:=wsucc (k:=a) (by omega)
  have hao : k.src.ArR a:=⟨by omega,h1p⟩
  have ai:=arI a h1p
  have tI : a<k.src.to.length:=by omega
  have ci : a<k.src.comp.length:=by have:=(hs.1.coI hao).2; simpa using this
  have cj : (k.src.comp.getD a default).length=k.src.frm.length:=hs.1.coJ hao
  have ui : k.tgt.ArR (k.ar.getD a default):=ai.2
  have di:=ht.1.coI ui
  have dj : (ix k.tgt.comp (k.ar.getD a default)).length=k.tgt.frm.length:=ht.1.coJ ui;refine tt ?_;refine awp_for [1,3,4,7] (G:=Unit) (fun b _=>[(8,some (.int .i64 (b : Int)))]) (fun b _ H2=>H2=H∧∀ j : Nat,j<b→k.src.to.getD a default=k.src.frm.getD j default→ix k.ar ((k.src.comp.getD a default).getD j default)=ix (ix k.tgt.comp (k.ar.getD a default)) (k.ar.getD j default)) k.src.frm.length () ⟨rfl,fun j h=>by omega⟩ rfl ?_
  rintro b _ H hbk ⟨rfl,hall2⟩;refine tt ?_;apply bk <;> intro h2
  ·have h2p:=of_decide h2
   have w2:=wsucc (k:=b) (by omega)
   have hbo : k.src.ArR b:=⟨by omega,h2p⟩
   have bi:=arI b h2p
   have b1 : 0≤k.ar.getD b default∧(k.ar.getD b default).toNat<(ix k.tgt.comp (k.ar.getD a default)).length:=⟨bi.2.1,by rw [dj]; exact bi.2.2⟩
   have cj2 : b<(k.src.comp.getD a default).length:=by rw [cj]; exact h2p
   refine tt ?_;refine ⟨tI,h2p, ?_⟩
   by_cases e : k.src.to.getD a default=k.src.frm.getD b default
   rotate_left
   ·rw [decide_eq_false e];refine tw w2 ?_
    exact for_next () h2p ⟨rfl,fun j hj he=>by
     rcases Nat.lt_succ_iff_lt_or_eq.mp hj with h | rfl
     ·exact hall2 j h he
     ·exact absurd he e⟩ rfl
   rw [decide_eq_true e]
   have hc:=(hs.1.compEnds hao hbo e).1
   have hc2 : 0≤(k.src.comp.getD a default).getD b default∧((k.src.comp.getD a default).getD b default).toNat<k.ar.length:=⟨hc.1,by rw [ha]; exact hc.2⟩;refine tt ?_
   (repeat (refine ⟨by first | exact ci | exact cj2 | exact hc2 | exact ai.1 | exact di | exact bi.1 | exact b1, ?_⟩))
   by_cases e2 : ix k.ar ((k.src.comp.getD a default).getD b default)=ix (ix k.tgt.comp (k.ar.getD a default)) (k.ar.getD b default)
   rotate_left
   ·rw [decide_eq_false e2];refine tt ?_;exact pure_ret (no fun q=>e2 (q.laws.comp a b h1p h2p e)) os
   rw [decide_eq_true e2];refine tw w2 ?_
   exact for_next () h2p ⟨rfl,fun j hj he=>by
    rcases Nat.lt_succ_iff_lt_or_eq.mp hj with h | rfl
    ·exact hall2 j h he
    ·exact e2⟩ rfl
  ·have h2p:=of_ndecide h2;refine tw w ?_
   exact for_next () h1p ⟨rfl,fun i j hi hj he=>by
    rcases Nat.lt_succ_iff_lt_or_eq.mp hi with h | rfl
    ·exact hall i j h hj he
    ·exact hall2 j (by omega) he⟩ rfl
 ·have h1p:=of_ndecide h1;refine tt ?_;exact pure_ret (congrArg AV.bool (dec_t ⟨hs,ht,fit,ends,idn,fun i j hi hj he=>hall i j (by omega) hj he⟩).symm) os
def aC (c : Cat) (X5 X6 : AV) : List AV:=[iI c.objs,iL c.frm,iL c.to,iL c.idn,iLL c.comp,X5,X6]
def z7c : List AV:=[.int .i64 0,.nilsl,.nilsl,.nilsl,.nilsl,.nilsl,.nilsl]
end Go.Proofs.Shf
namespace Go.AW
open Go.RowKit
end Go.AW
namespace Go.Proofs.Shf
open Go.AW Go.Proofs Go.Shf Go.RowKit
@[go_sem] def covO (cs cc : List AV) (id ic : Nat) (X : AV) (n : Int) (q l : Ob) : Ob:=(id,.cells 4 [.ptr cs,.ptr cc,X,.ref ic 0] 0)::(ic,.cells 1 [iI n] 0)::(q++l)
end Go.Proofs.Shf
namespace Go.Proofs.Shf
open Go.AW Go.Proofs Go.Shf
end Go.Proofs.Shf
namespace Go.Shf
open Go.AW
end Go.Shf
namespace Go.Proofs.Shf
open Go.AW Go.Proofs Go.Shf
end Go.Proofs.Shf
namespace Go.AW
open Go.RowKit
end Go.AW
namespace Go.Shf
open Go.AW Go.Proofs.Shf
end Go.Shf
namespace Go.Proofs.Shf
open Go.AW Go.Proofs Go.Shf
end Go.Proofs.Shf
namespace Go.AW
theorem New.go {P : Program} {B : Nat} {fn : FuncId} {args : List AV} {O : Ob→AV→Prop} {H0 H : Heap} {l : Ob} {K : Kont} (h : New P B fn args O) (o : Owns H0 H l) (hk : ∀ r p H',O p r→Owns H0 H' (p++l)→H.sub H'→K r H') : CallH P B fn args H K :=
 (h.run H).mono fun r H' ⟨p,q1,q2⟩=>hk r p H' q1 (o.trans q2) q2.sub
end Go.AW
namespace Go.Proofs.Shf
open Go.AW Go.Proofs Go.Shf
end Go.Proofs.Shf
namespace Go.Shf
open Go.AW Go.Proofs.Shf
end Go.Shf
namespace Go.AW
end Go.AW
namespace Go.Proofs.Shf
open Go.AW Go.Proofs Go.Shf
end Go.Proofs.Shf
namespace Go.Shf
open Go.AW
end Go.Shf
namespace Go.Proofs.Shf
open Go.AW Go.Proofs Go.Shf
end Go.Proofs.Shf
