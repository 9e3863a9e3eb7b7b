/- A part of a proof. -/
import Derived.Test.YthflgdphhajkbaaGreatT8
import Derived.Test.YthflgdphhajkbaaGreatProg
import Derived.Tactics
import Derived.Tactics2
import Derived.Defers
import Derived.Laws.Pointers
import Derived.Laws.LoneSync
import Derived.RegionTactic
import Derived.RegionCalls
import Derived.ChangeAlike
set_option linter.unusedVariables false
set_option linter.unusedSimpArgs false
set_option linter.unusedSectionVars false
open Nat (reduceEqDiff reduceAdd reduceMul reduceLeDiff reduceLT)
namespace Go.Shf
open Go.AW Go.Proofs.Shf
theorem SM.Is.WL {m : SM} (h : m.Is) : D5 m.src m.CA m.parts:=by
 have hs:=h.s.1
 have hp:=h.p
 have Fg:=hs.sl;refine ⟨by rw [hp.1]; exact Fg,fun x hx=>?_,fun b hb e he=>?_⟩
 ·have:=hp.2 x.toNat (by rw [hp.1]; omega);simp only [OH] at this;simp only [ix];exact ⟨this.1,fun e he=>this.2 _ (AE.mpr ⟨e.toNat,by omega,rfl⟩)⟩
 ·have Np:=hs.al
  have ha:=(hs.act b.toNat (by omega)).1
  have hn:=h.n b.toNat (by omega) e.toNat (by simp only [ix] at he ha ⊢; omega);simp only [Qx] at hn;exact hn
def QL : List AV:=[.int .i64 0,.A1,.A1,.A1,.A1,.A1,.A1,.int .i64 0,.A1,.A1,.A1,.A1,.A1,.A1,.A1]
end Go.Shf
namespace Go.Proofs.Shf
open Go.AW Go.Proofs Go.Shf
open Classical in
/-- The topology's coverage, for a map. -/
noncomputable def MQ (j : Dw) (m : SM) : Int:=if j.Form∧m.Is then Fj j m.src else 1
theorem Vp {j : Dw} {m : SM} (hF : j.Form) (hm : m.Is) : MQ j m=codeF j m.src:=by
 rw [MQ,if_pos ⟨hF,hm⟩,codeF,if_neg (fun e=>e ⟨hF,hm.s⟩),Fj]
theorem T1 (B : Nat) (j : Dw) (m : SM) (H0 : AB) : CB B 112 [.ptr j.cells,.ptr m.cells] H0 (dD j (MQ j m) H0):=by
 refine c112.go fun _=>?_
 have hoc:=fun hF=>RM B j m.src hF H0;refine tt ?_;refine (Og B j).go fun _=>?_
 by_cases hF : j.Form
 rotate_left
 ·have e0 : MQ j m=1:=by rw [MQ,if_neg (fun e=>hF e.1)]
  rw [Aa hF];refine tn ?_
  exact EH (.refl _) e0.symm (fun e2=>by rw [e0] at e2; cases e2)
 rw [Aw hF];refine tn ?_
 refine (IJ B m).go fun _=>?_
 by_cases hm : m.Is
 rotate_left
 ·have e0 : MQ j m=1:=by rw [MQ,if_neg (fun e=>hm e.2)]
  rw [Aa hm];refine tn ?_
  exact EH (.refl _) e0.symm (fun e2=>by rw [e0] at e2; cases e2)
 have e0 : MQ j m=Fj j m.src:=by rw [MQ,if_pos ⟨hF,hm⟩]
 rw [Aw hm];refine tn ?_
 refine (hoc hF).mono ?_
 rintro r H ⟨rfl,X,rfl,hX⟩;refine tt ?_;rw [← e0] at hX ⊢;exact EH (.refl _) rfl hX
end Go.Proofs.Shf
namespace Go.Shf
open Go.AW Go.Proofs.Shf
theorem Uq {f g : SF} {p : List (List Int)} (hf : f.Is) (hg : g.Is) (e : f.shape=g.shape) (h : D5 f g p) : SM.Is ⟨f,g,p⟩:=by
 have Fg:=hf.1.sl
 have hl:=h.len;refine ⟨hf,hg,e,⟨by show p.length=f.A4.length; omega,fun x hx=>?_⟩,fun a ha e he=>?_⟩
 ·have IX : x<p.length:=hx
  have:=h.pl x (by omega);simp only [AH] at this;refine ⟨this.1,fun y hy=>?_⟩
  obtain ⟨i,hi,rfl⟩:=AE.mp hy
  have h2:=this.2 i (by have : i<(p.getD x default).length:=hi; omega);rw [AH] at h2;exact h2
 ·have QE : a<f.AU.length:=ha
  have uk : e<(f.AU.getD a default).length:=he
  have Np:=hf.1.al
  have Px:=hf.1.Cw (a:=(a : Int)) (by simp; omega)
  have:=h.nl a ⟨by omega,by simp; omega⟩ e (by rw [AH] at Px; omega);simp only [AH] at this;exact this
end Go.Shf
namespace Go.Proofs.Shf
open Go.AW Go.Proofs Go.Shf
theorem S3 (B : Nat) (m : SM) : PB B 45 [.agg m.cells] (.bool (dec m.Is)):=by
 refine ⟨fun H0=>c45.go fun _=>tt ?_⟩;refine (IJ B m).go fun _=>tt ?_;exact A6 rfl (.refl _)
end Go.Proofs.Shf
namespace Go.AW
theorem Et.put {α : Type} {f : α→AV} {Xs : List AV} {As : List (List α)} {ob : Ob} (h : Et f Xs As ob) {i : Nat} (hi : i<Xs.length) {p : Ob} {X : AV} {A : List α} (hX : QA f p X A) {H0 H : AB} {l : Ob} {id : Nat}
  (o : AA H0 H ((id,.cells 1 (Xs.set i X) 0)::(p++(ob++l)))) : ∃ ob',Et f (Xs.set i X) (As.set i A) ob'∧AA H0 H ((id,.cells 1 (Xs.set i X) 0)::(ob'++l)):=by
 obtain ⟨q,r,h1,_,h3⟩:=h.split i hi
 obtain ⟨o',k1,k2⟩:=h3 X A p hX;refine ⟨o',k1, ?_⟩
 have o2 : AA H0 H (q++((id,.cells 1 (Xs.set i X) 0)::(p++(r++l)))):=by
  refine o.perm ?_;refine List.Perm.trans (.cons _ ?_) List.perm_middle.symm
  have h2 : (p++ob).Perm (q++(p++r)):=(List.Perm.append_left p h1).trans (by
   rw [← List.append_assoc,← List.append_assoc];exact List.Perm.append_right r List.perm_append_comm)
  simpa using List.Perm.append_right l h2
 have o3:=o2.KW (l':=(id,.cells 1 (Xs.set i X) 0)::(p++(r++l))) (List.sublist_append_right _ _);refine o3.perm (.cons _ ?_);rw [← List.append_assoc];exact List.Perm.append_right l k2.symm
end Go.AW
namespace Go.Proofs.Shf
open Go.AW Go.Proofs Go.Shf
theorem dTrue {p : Decidable True} : @decide True p=true:=@decide_eq_true True p trivial
end Go.Proofs.Shf
namespace Go.Proofs.Shf
open Go.AW Go.Proofs Go.Shf
theorem NU (B : Nat) (f : SF) : PB B 118 [.ptr f.cells,.ptr f.cells] (.bool true):=by
 refine ⟨fun H0=>c118.go fun ⟨Gi,_⟩=>?_⟩
 have hl:=AM (Gi.ptr (c:=BA f.AU) (by simp [SF.cells]));simp only [AL] at hl;refine tt ?_;refine ⟨_,(EG B f.shape f.shape).run, ?_⟩;rw [Aw rfl];refine tt ?_;refine ⟨_,(Fw B f.A4 f.A4).run, ?_⟩;rw [Aw rfl];refine td ?_;refine AD [0,1,43] (G:=Unit) (fun k _=>[(44,some (.int .i64 (k : Int)))]) (fun k _ H=>H=H0) f.AU.length () rfl rfl ?_
 rintro k _ H hk rfl;refine tt ?_;apply bk <;> intro h1
 ·have AR:=A7 h1
  have w1:=ws k;refine tt ?_;refine ⟨AR,AR, ?_⟩;refine ⟨_,(Fw B (f.AU.getD k default) (f.AU.getD k default)).run, ?_⟩;rw [Aw rfl];refine tw w1 ?_;exact A5 () (by omega) rfl rfl
 ·refine tt ?_;exact A6 rfl (.refl _)
end Go.Proofs.Shf
