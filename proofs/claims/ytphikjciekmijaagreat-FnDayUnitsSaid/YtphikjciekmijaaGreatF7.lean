/- A part of a proof. -/
import Derived.Test.YtphikjciekmijaaGreatF6
set_option linter.unusedVariables false
set_option linter.unusedSimpArgs false
set_option linter.unusedSectionVars false
set_option maxRecDepth 100000
open Nat (reduceEqDiff reduceAdd reduceMul reduceLeDiff reduceLT)
namespace Go.Proofs.Shf
open Go.AW Go.Proofs Go.Shf
instance : Inhabited Cat:=⟨⟨0,[],[],[],[]⟩⟩
end Go.Proofs.Shf
namespace Go.Shf
open Go.AW
section
variable {p : PF} {a b x y : Int}
theorem Cat.Shape.toI {c : Cat} (h : c.Shape) (ha : c.ArR a) : 0≤a∧a.toNat<c.to.length:=by
 have:=h.tol
 obtain ⟨h1,h2⟩:=ha;omega
theorem Cat.Shape.idI {c : Cat} (h : c.Shape) (hx : c.ObR x) : 0≤x∧x.toNat<c.idn.length:=by
 have:=h.il
 obtain ⟨h1,h2⟩:=hx;omega
end
end Go.Shf
namespace Go.Proofs.Shf
open Go.AW Go.Proofs Go.Shf
end Go.Proofs.Shf
namespace Go.Shf
open Go.AW
section
variable {c : Cat} {a b : Int}
theorem Cat.Shape.comps (h : c.Shape) (ha : c.ArR a) (hb : c.ArR b) : (ix c.to a=ix c.frm b∧c.ArR (ix (ix c.comp a) b))∨ix (ix c.comp a) b=-1:=by
 by_cases e : ix c.to a=ix c.frm b
 ·left
  have q:=h.yes a.toNat b.toNat ha.2 hb.2 e
  have q : (0≤ix (ix c.comp a) b∧ix (ix c.comp a) b<c.frm.length)∧_:=q;exact ⟨e,q.1.1,by have:=q.1; omega⟩
 ·right
  exact h.non a.toNat b.toNat ha.2 hb.2 e
theorem Cat.Shape.coI (h : c.Shape) (ha : c.ArR a) : 0≤a∧a.toNat<c.comp.length:=by
 have:=h.cl
 obtain ⟨h1,h2⟩:=ha;omega
theorem Cat.Shape.coJ (h : c.Shape) (ha : c.ArR a) : (ix c.comp a).length=c.frm.length:=h.row a.toNat ha.2
end
end Go.Shf
namespace Go.Proofs.Shf
open Go.AW Go.Proofs Go.Shf
end Go.Proofs.Shf
namespace Go.Shf
open Go.AW
abbrev FB:=(Nat × List Int) × (Nat × List Int)
@[go_sem] def fuB (c d : Cat) (m : FB) : AV:=.agg [iI c.objs,iL c.frm,iL c.to,iL c.idn,iLL c.comp,iI d.objs,iL d.frm,iL d.to,iL d.idn,iLL d.comp,.buf m.1.1 m.1.2.length,.buf m.2.1 m.2.2.length]
instance (c d : Cat) : AggN 12 (fuB c d):=⟨by omega,fun _=>rfl,fun _=>rfl,fun a k hk=>by
 simp only [fuB,AV.cells,List.mem_cons,List.not_mem_nil,or_false] at hk
 rcases hk with rfl | rfl | rfl | rfl | rfl | rfl | rfl | rfl | rfl | rfl | rfl | rfl <;> rfl⟩
end Go.Shf
namespace Go.Proofs.Shf
open Go.AW Go.Proofs Go.Shf
end Go.Proofs.Shf
