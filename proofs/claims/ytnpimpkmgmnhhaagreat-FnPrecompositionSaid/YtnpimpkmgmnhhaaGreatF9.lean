/- A part of a proof. -/
import Derived.Test.YtnpimpkmgmnhhaaGreatF8
set_option linter.unusedVariables false
set_option linter.unusedSimpArgs false
set_option linter.unusedSectionVars false
set_option maxRecDepth 100000
open Nat (reduceEqDiff reduceAdd reduceMul reduceLeDiff reduceLT)
namespace Go.Shf
open Go.AW
end Go.Shf
namespace Go.Proofs.Shf
open Go.AW Go.Proofs Go.Shf
end Go.Proofs.Shf
namespace Go.Shf
open Go.AW
end Go.Shf
namespace Go.Proofs.Shf
open Go.AW Go.Proofs Go.Shf
@[go_sem] def bendF (id3 : Nat) (c : Cat) (z : Nat) (S : List Int) (d : Nat) (Xs : List AV) (l : Ob) : Ob :=
 (id3,.cells 7 [iI c.objs,iL c.frm,iL c.to,iL c.idn,iLL c.comp,.buf z S.length,.buf d Xs.length] 0)::(z,.cells 1 (S.map iI) 0)::(d,.cells 1 Xs 0)::l
end Go.Proofs.Shf
namespace Go.AW
theorem LsR.put {α : Type} {f : α→AV} {Xs : List AV} {As : List (List α)} {ob : Ob} (h : LsR f Xs As ob) {i : Nat} (hi : i<Xs.length) {p : Ob} {X : AV} {A : List α} (hX : LsP f p X A) {H0 H : Heap} {l : Ob} {id : Nat}
  (o : Owns H0 H ((id,.cells 1 (Xs.set i X) 0)::(p++(ob++l)))) : ∃ ob',LsR f (Xs.set i X) (As.set i A) ob'∧Owns H0 H ((id,.cells 1 (Xs.set i X) 0)::(ob'++l)):=by
 obtain ⟨q,r,h1,_,h3⟩:=h.split i hi
 obtain ⟨o',k1,k2⟩:=h3 X A p hX;refine ⟨o',k1, ?_⟩
 have o2 : Owns H0 H (q++((id,.cells 1 (Xs.set i X) 0)::(p++(r++l)))):=by
  refine o.perm ?_;refine List.Perm.trans (.cons _ ?_) List.perm_middle.symm
  have h2 : (p++ob).Perm (q++(p++r)):=(List.Perm.append_left p h1).trans (by
   rw [← List.append_assoc,← List.append_assoc];exact List.Perm.append_right r List.perm_append_comm)
  simpa using List.Perm.append_right l h2
 have o3:=o2.subl (l':=(id,.cells 1 (Xs.set i X) 0)::(p++(r++l))) (List.sublist_append_right _ _);refine o3.perm (.cons _ ?_);rw [← List.append_assoc];exact List.Perm.append_right l k2.symm
end Go.AW
namespace Go.Proofs.Shf
open Go.AW Go.Proofs Go.Shf
end Go.Proofs.Shf
namespace Go.Shf
open Go.AW
end Go.Shf
namespace Go.Proofs.Shf
open Go.AW Go.Proofs Go.Shf
end Go.Proofs.Shf
namespace Go.Shf
open Go.AW
end Go.Shf
namespace Go.Proofs.Shf
open Go.AW Go.Proofs Go.Shf
end Go.Proofs.Shf
namespace Go.AW
end Go.AW
namespace Go.Shf
open Go.AW Go.Proofs.Shf
end Go.Shf
namespace Go.Proofs.Shf
open Go.AW Go.Proofs Go.Shf
end Go.Proofs.Shf
namespace Go.AW
theorem rowsIT : ∀ (l : List Int),RowsG OI (l.map iI) l []
 | []=>.nil
 | a::r=>.cons (p:=[]) ⟨rfl,rfl⟩ (rowsIT r)
theorem LsG.appT {α : Type} {O : Ob→AV→α→Prop} {p q l : Ob} {X Y : AV} {A : List α} {a : α} {H0 H : Heap} {K : Kont} (h : LsG O q X A) (hy : O p Y a) (h1 : Y.cells=[Y]∧Y.one=true) (o : Owns H0 H (p++(q++l))) (hm : A.length+1≤maxL)
  (hk : ∀ X' q' H',X'.one=true→LsG O q' X' (A++[a])→Owns H0 H' (q'++l)→K X' H') : appW 1 (some X) (some (.sl [Y])) K H:=by
 have hok : okEls 1 [Y]:=by
  intro e he;rw [List.mem_singleton] at he; subst he;rw [h1.1];exact ⟨rfl,fun c hc=>by rw [List.mem_singleton] at hc; subst hc; exact h1.2⟩
 have hfl : flat [Y]=[Y]:=by simp [flat,h1.1]
 rcases h with ⟨rfl,rfl,rfl⟩ | ⟨id,Xs,r,rfl,rfl,hr⟩
 ·simp only [appW,srcOf,app1];refine ⟨⟨by simp [maxL],by simp [maxL],hok⟩,fun id hn=>?_⟩;rw [hfl];refine hk (.buf id 1) ((id,.cells 1 [Y] 0)::p) _ rfl (.inr ⟨id,[Y],p,rfl,rfl, ?_⟩) ?_
  ·have:=RowsG.cons hy RowsG.nil;rw [List.append_nil] at this; exact this
  ·have:=o.new hn (.cells 1 [Y] 0)
   simpa using this
 ·have o2 : Owns H0 H ((id,.cells 1 Xs 0)::(p++(r++l))):=by
   refine o.perm ?_
   simp
  have h0:=o2.h0;simp only at h0
  have hl:=hr.len;simp only [appW,h0,srcOf,app2];refine ⟨⟨trivial,by simp,by simp; omega,by simp; omega,hok⟩,fun id' hn=>?_⟩;rw [hfl];refine hk (.buf id' (Xs.length+1)) ((id',.cells 1 (Xs++[Y]) 0)::(r++p)) _ rfl (.inr ⟨id',Xs++[Y],r++p,rfl,by simp, ?_⟩) ?_
  ·refine hr.app ?_
   have:=RowsG.cons hy RowsG.nil;rw [List.append_nil] at this; exact this
  ·have:=o2.mv hn (.cells 1 (Xs++[Y]) 0);refine this.perm (List.Perm.cons _ ?_);rw [← List.append_assoc];exact List.Perm.append_right l List.perm_append_comm
theorem New.lentQ {α : Type} {O : Ob→AV→α→Prop} {f : α→AV} {a : α} {P : Program} {B : Nat} {fn : FuncId} {args es : List AV} {H : Heap} {K : Kont} (hO : Ow O f) (h : New P B fn es fun p X=>O p X a) (hl : es.length=args.length)
  (ht : ∀ i,i<args.length→∀ g w v,WRel g B H w→VRel g (args.getD i nv) v→VRel (g.lend H w) (es.getD i nv) v)
  (hk : ∀ H',H.sub H'→K (f a) H') : CallH P B fn args H K:=by
 have h1 : CallH P B fn args H fun r H'=>∃ p,O p r a∧Owns H H' (p++[]):=New.lent hO h (Owns.nil H) hl ht fun r p H' q o=>⟨p,q,o⟩;refine ⟨h1.1,fun g w vs hW hv=>?_⟩;refine (h1.2 g w vs hW hv).mono fun e w' ⟨v,he,g',r,H',q1,⟨p,q2,q3⟩,q4,q5,q6⟩=>?_
 obtain ⟨g2,H2,r1,r2,r3,r4⟩:=hO.fz p r a q2 g' B H H' [] w' q5 q3;exact ⟨v,he,g2,f a,H2,q1.trans r1,hk H2 r3.sub,r4 v q4,r2,q6⟩
end Go.AW
