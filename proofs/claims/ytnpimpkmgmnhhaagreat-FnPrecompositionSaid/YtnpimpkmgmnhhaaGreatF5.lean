/- Contracts, part 5. -/
import Derived.Test.YtnpimpkmgmnhhaaGreatF4
import Derived.Sort.Row
import Derived.Sort.Grow
import Derived.Deep.Draws
import Derived.Test.YtnpimpkmgmnhhaaGreatProg
import Derived.Tactics
import Derived.Tactics2
import Derived.Defers
import Derived.Laws.Pointers
import Derived.Laws.LoneSync
import Derived.RegionTactic
import Derived.RegionCalls
import Derived.ChangeAlike
set_option linter.unusedVariables false
set_option linter.unusedSimpArgs false
set_option linter.unusedSectionVars false
set_option maxRecDepth 100000
open Nat (reduceEqDiff reduceAdd reduceMul reduceLeDiff reduceLT)
namespace Go.Proofs.Shf
open Go.AW Go.Proofs Go.Shf
end Go.Proofs.Shf
namespace Go.AW
open Go.Proofs Go.Proofs.Shf Go.Shf Go.RowKit
end Go.AW
namespace Go.AW
open Go.Proofs Go.Proofs.Shf Go.Shf Go.RowKit
end Go.AW
namespace Go.AW
open Go.Proofs Go.Proofs.Shf Go.Shf Go.RowKit
end Go.AW
namespace Go.Proofs.Shf
open Go.AW Go.Proofs Go.Shf
end Go.Proofs.Shf
namespace Go.Shf
open Go.AW
end Go.Shf
namespace Go.Proofs.Shf
open Go.AW Go.Proofs Go.Shf
theorem dTrue {p : Decidable True} : @decide True p=true:=@decide_eq_true True p trivial
end Go.Proofs.Shf
namespace Go.Proofs.Shf
open Go.AW Go.Proofs Go.RowKit
end Go.Proofs.Shf
namespace Go.Shf
open Go.AW
end Go.Shf
namespace Go.Proofs.Shf
open Go.AW Go.Proofs Go.Shf
theorem homP_t {c : Cat} {x y : Int} {i : Nat} (h1 : c.frm.getD i default=x) (h2 : c.to.getD i default=y) : homP c x y i=true:=by
 simp only [homP,Bool.and_eq_true,decide_eq_true_eq]; exact ⟨h1,h2⟩
theorem homP_f {c : Cat} {x y : Int} {i : Nat} (h : ¬ (c.frm.getD i default=x∧c.to.getD i default=y)) : homP c x y i=false:=by
 simp only [homP,Bool.and_eq_false_iff,decide_eq_false_iff_not]
 by_cases h1 : c.frm.getD i default=x
 ·exact .inr fun h2=>h ⟨h1,h2⟩
 ·exact .inl h1
theorem hom_ok (B : Nat) (c : Cat) (hs : c.Shape) (x y : Int) : Pur Tryz.prog B 138 [.ptr c.cells,iI x,iI y] (iL (hom c x y)):=by
 refine ⟨fun H0=>c138p (by simp) fun _=>?_⟩
 have hm:=hs.m
 have htl:=hs.tol;unfold s138p;refine tt ?_;refine new_list iI (.nil _) fun id H o=>tt ?_;refine awp_for [0,1,2,14] (G:=Nat × List (Int)) (fun k g=>[(7,some (.buf g.1 g.2.length)),(15,some (.int .i64 (k : Int)))]) (fun k g H=>g.2=(nats (homP c x y) k)∧Owns H0 H [(g.1,.cells 1 (g.2.map iI) 0)]) c.frm.length (id,[]) ⟨by simp,o⟩ rfl ?_
 rintro k ⟨id,out⟩ H hk ⟨hout,o⟩;dsimp only at hout;refine tt ?_;apply bk <;> intro h1
 ·have h1:=of_decide h1
  have w1:=wsucc (k:=k) (by omega)
  have hlen : out.length≤k:=by rw [hout]; exact nats_len _ _
  refine tt ?_;refine ⟨h1, ?_⟩;apply bk <;> intro h2
  ·refine tw h2 ?_
   have h2p:=dd h2;refine ⟨by omega, ?_⟩;apply bk <;> intro h3
   ·refine tw h3 ?_
    have h3p:=dd h3;refine app_own (k : Int) o rfl rfl (by simp only [maxL]; omega) fun id H o=>?_;refine tw w1 ?_;exact for_next (_,_) (by omega) ⟨by rw [hout,nats_t (homP_t h2p h3p)],o⟩ rfl
   ·try simp only [go_sem,↓reduceIte,reduceEqDiff,reduceAdd,reduceMul,reduceLeDiff,reduceLT,h3,w1]
    have h3p:=dd h3;exact for_next (_,_) (by omega) ⟨by rw [hout,nats_f (homP_f fun e=>h3p e.2)],o⟩ rfl
  ·try simp only [go_sem,↓reduceIte,reduceEqDiff,reduceAdd,reduceMul,reduceLeDiff,reduceLT,h2,w1]
   have h2p:=dd h2;exact for_next (_,_) (by omega) ⟨by rw [hout,nats_f (homP_f fun e=>h2p e.1)],o⟩ rfl
 ·refine tt ?_
  have h1:=of_ndecide h1;refine fz_own o rfl fun H o=>tt ?_;exact pure_ret (by rw [hout,show k=c.frm.length by omega]; rfl) o.sub
end Go.Proofs.Shf
namespace Go.AW
end Go.AW
namespace Go.Proofs.Shf
open Go.AW Go.Proofs Go.Shf
end Go.Proofs.Shf
namespace Go.Shf
open Go.AW
end Go.Shf
namespace Go.Proofs.Shf
open Go.AW Go.Proofs Go.Shf
end Go.Proofs.Shf
namespace Go.Shf
open Go.AW
end Go.Shf
namespace Go.Shf
open Go.AW
theorem hom_homC (c : Cat) (x y : Int) : hom c x y=homC c x y:=by rw [← homK_full]; rfl
end Go.Shf
namespace Go.Shf
open Go.AW
def Cat.th (c : Cat) (f g : Int) : Int:=ix (ix c.comp f) g
structure Cat.Ar (c : Cat) (f x y : Int) : Prop where
 r : 0≤f∧f.toNat<c.frm.length
 s : ix c.frm f=x
 t : ix c.to f=y
section
variable {c : Cat} {f g k w x y z : Int}
theorem ar_hom : f∈hom c x y↔c.Ar f x y:=mem_hom.trans ⟨fun h=>⟨h.1,h.2.1,h.2.2⟩,fun h=>⟨h.r,h.s,h.t⟩⟩
theorem Cat.Ar.comp (h : c.Is) (a : c.Ar f x y) (b : c.Ar g y z) : c.Ar (c.th f g) x z:=by
 have:=h.1.comp a.r b.r (a.t.trans b.s.symm);exact ⟨this.1,this.2.1.trans a.s,this.2.2.trans b.t⟩
theorem Cat.Ar.assoc (h : c.Is) (a : c.Ar f w x) (b : c.Ar g x y) (d : c.Ar k y z) : c.th (c.th f g) k=c.th f (c.th g k):=h.assoc a.r b.r d.r (a.t.trans b.s.symm) (b.t.trans d.s.symm)
theorem Cat.Ar.idl (h : c.Is) (a : c.Ar f x y) : c.th (ix c.idn x) f=f:=by have:=h.idl a.r; rw [a.s] at this; exact this
theorem Cat.Ar.idr (h : c.Is) (a : c.Ar f x y) : c.th f (ix c.idn y)=f:=by have:=h.idr a.r; rw [a.t] at this; exact this
theorem Cat.Is.idA (h : c.Is) (hx : 0≤x∧x<c.objs) : c.Ar (ix c.idn x) x x:=⟨(h.1.idArr hx).1,(h.1.idArr hx).2.1,(h.1.idArr hx).2.2⟩
theorem Cat.Ar.src (h : c.Is) (a : c.Ar f x y) : 0≤x∧x<c.objs:=a.s ▸ h.1.frmObj a.r.2
theorem Cat.Ar.tgt (h : c.Is) (a : c.Ar f x y) : 0≤y∧y<c.objs:=a.t ▸ h.1.toObj a.r.2
end
section
variable {c : Cat} {L : List Int}
theorem indexOf_neg {l : List Int} {x : Int} (h : x ∉ l) : indexOf l x=-1:=indexOf_miss fun i hi e=>h (mem_getD.mpr ⟨i,hi,e⟩)
end
end Go.Shf
