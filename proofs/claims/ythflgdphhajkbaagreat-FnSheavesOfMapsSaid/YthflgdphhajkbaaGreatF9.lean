/- A part of a proof. -/
import Derived.Test.YthflgdphhajkbaaGreatF8
import Derived.Test.YthflgdphhajkbaaGreatProg
import Derived.Tactics
import Derived.Tactics2
import Derived.Defers
import Derived.Laws.Pointers
import Derived.Laws.LoneSync
import Derived.RegionTactic
import Derived.RegionCalls
import Derived.ChangeAlike
set_option linter.unusedVariables false
set_option linter.unusedSimpArgs false
set_option linter.unusedSectionVars false
open Nat (reduceEqDiff reduceAdd reduceMul reduceLeDiff reduceLT)
namespace Go.Shf
open Go.AW Go.Proofs.Shf
theorem SM.Is.SX {m : SM} (h : m.Is) : Cz m.src m.Bm m.parts:=by
 have hs:=h.s.1
 have hp:=h.p
 have Gd:=hs.sl;refine ⟨by rw [hp.1]; exact Gd,fun x hx=>?_,fun b hb e he=>?_⟩
 ·have:=hp.2 x.toNat (by rw [hp.1]; omega);simp only [On] at this;simp only [ix];exact ⟨this.1,fun e he=>this.2 _ (AE.mpr ⟨e.toNat,by omega,rfl⟩)⟩
 ·have Pz:=hs.al
  have ha:=(hs.act b.toNat (by omega)).1
  have hn:=h.n b.toNat (by omega) e.toNat (by simp only [ix] at he ha ⊢; omega);simp only [Qq] at hn;exact hn
open Classical in
noncomputable def MI (j : Df) (m : SM) : Int:=if j.Form∧m.Is then (if Cj j m.src=0 then Cj j m.Bm else Cj j m.src) else 1
noncomputable def ofMap (m : SM) (V : List (List Int)) : SM:=⟨AO (AO m.src V) V,AO (AO m.Bm V) V,Bb (AO m.src V) (AO m.Bm V) V (Bb m.src m.Bm V m.parts)⟩
def Yf (j : Df) (m : SM) : Prop:=(j.Form∧m.Is)∧Cj j m.src=0∧Cj j m.Bm=0
open Classical in
noncomputable def ofM (j : Df) (m : SM) : SM:=if Yf j m then ofMap m (Ag j.shape j.AP) else iO
def Q2 : List AV:=[.int .i64 0,.A1,.A1,.A1,.A1,.A1,.A1,.int .i64 0,.A1,.A1,.A1,.A1,.A1,.A1,.A1]
open Classical in
noncomputable def VZ (j : Df) (m : SM) : List AV:=if Yf j m then SM.cells (ofMap m (Ag j.shape j.AP)) else Q2
end Go.Shf
namespace Go.Proofs.Shf
open Go.AW Go.Proofs Go.Shf
theorem QT (B : Nat) (j : Df) (m : SM) : PB B 49 [.agg j.cells,.agg m.cells] (.CK [.agg (VZ j m),.int .i64 (MI j m)]):=by
 refine ⟨fun H0=>ur.go fun Gc=>tt ?_⟩;refine nb (.nil _) fun BN H o=>tt ?_;refine (FT B j).go fun _=>?_
 by_cases hF : j.Form
 rotate_left
 ·have e1 : MI j m=1:=by rw [MI,if_neg (fun e=>hF e.1)]
  have e2 : VZ j m=Q2:=by rw [VZ,if_neg (fun e=>hF e.1.1)]
  rw [Ab hF,e1,e2,Q2];refine tn ?_
  refine sw o fun H o=>tt ?_
  have hr:=o.rc 15 0 (by simp);simp only [List.drop_zero] at hr;rw [hr];exact A6 rfl o.sub
 rw [Ay hF];refine tn ?_
 refine (UW B m).go fun _=>?_
 by_cases hm : m.Is
 rotate_left
 ·have e1 : MI j m=1:=by rw [MI,if_neg (fun e=>hm e.2)]
  have e2 : VZ j m=Q2:=by rw [VZ,if_neg (fun e=>hm e.1.2)]
  rw [Ab hm,e1,e2,Q2];refine tn ?_
  refine sw o fun H o=>tt ?_
  have hr:=o.rc 15 0 (by simp);simp only [List.drop_zero] at hr;rw [hr];exact A6 rfl o.sub
 rw [Ay hm];refine tn ?_
 refine (M5 B j m.src).go fun _=>?_
 by_cases hz : Cj j m.src=0
 rotate_left
 ·have e1 : MI j m=Cj j m.src:=by rw [MI,if_pos ⟨hF,hm⟩,if_neg hz]
  have e2 : VZ j m=Q2:=by rw [VZ,if_neg (fun e=>hz e.2.1)]
  rw [e1,e2,Q2]
  obtain ⟨a1,a2,a3,a4,a5,a6,a7,a8,hA,h1⟩:=dG j m.src
  obtain ⟨b1,b2,b3,b4,b5,b6,b7,b8,hB,h2⟩:=bR j m.src;rw [hA,hB]
  generalize Cj j m.src=cd at *;refine tt ?_;refine nb o fun F8 H o=>tt ?_;refine nb o fun Cv H o=>tt ?_;refine Aq o.swap (by simp) (by (try simp only [go_sem]); (try simp)) h1 fun H o=>?_;have o:=s2 o;refine tt ?_;refine Aq o.swap (by simp) (by (try simp only [go_sem]); (try simp)) h2 fun H o=>?_;have o:=s2 o;refine tt ?_;refine ⟨fun _=>At.mk ?_,fun e=>absurd (by simpa using e) hz⟩;refine tt ?_;refine sw o.tl.tl fun H o=>tt ?_
  have hr:=o.rc 15 0 (by simp);simp only [List.drop_zero] at hr;rw [hr];exact A6 rfl o.sub
 obtain ⟨gD,Bf⟩:=Mq hz
 obtain ⟨-,hf,Ee,F4⟩:=Dx gD
 have hA : L4 j m.src=CM m.src (Ag j.shape j.AP):=by rw [L4,if_pos ⟨gD,Bf⟩]
 have hB : LK j m.src=CM (AO m.src (Ag j.shape j.AP)) (Ag j.shape j.AP):=by rw [LK,if_pos ⟨gD,Bf⟩]
 have hl:=H7 B j;rw [← Ee] at F4;rw [hz,hA,hB]
 generalize hV : Ag j.shape j.AP=V at *;refine tt ?_;refine nb o fun F8 H o=>tt ?_;refine nb o fun Cv H o=>tt ?_;refine sw o.swap fun H o=>tt ?_;refine sw o.swap fun H o=>tt ?_;refine ⟨fun e=>(by simp at e),fun _=>At.mk ?_⟩;refine tt ?_;refine (M5 B j m.Bm).go fun _=>?_
 by_cases jI : Cj j m.Bm=0
 rotate_left
 ·have e1 : MI j m=Cj j m.Bm:=by rw [MI,if_pos ⟨hF,hm⟩,if_pos hz]
  have e2 : VZ j m=Q2:=by rw [VZ,if_neg (fun e=>jI e.2.2)]
  rw [e1,e2,Q2]
  obtain ⟨a1,a2,a3,a4,a5,a6,a7,a8,hA,h1⟩:=dG j m.Bm
  obtain ⟨b1,b2,b3,b4,b5,b6,b7,b8,hB,h2⟩:=bR j m.Bm;rw [hA,hB]
  generalize Cj j m.Bm=cd at *;refine tt ?_;refine nb o fun HC H o=>tt ?_;refine nb o fun Ln H o=>tt ?_;refine Aq o.swap (by simp) (by (try simp only [go_sem]); (try simp)) h1 fun H o=>?_;have o:=s2 o;refine tt ?_;refine Aq o.swap (by simp) (by (try simp only [go_sem]); (try simp)) h2 fun H o=>?_;have o:=s2 o;refine tt ?_;refine ⟨fun _=>At.mk ?_,fun e=>absurd (by simpa using e) jI⟩;refine tt ?_;refine sw o.tl.tl.tl.tl fun H o=>tt ?_
  have hr:=o.rc 15 0 (by simp);simp only [List.drop_zero] at hr;rw [hr];exact A6 rfl o.sub
 obtain ⟨fy,YV⟩:=Mq jI
 have YN : L4 j m.Bm=CM m.Bm V:=by rw [L4,if_pos ⟨fy,YV⟩,hV]
 have hB2 : LK j m.Bm=CM (AO m.Bm V) V:=by rw [LK,if_pos ⟨fy,YV⟩,hV]
 have e1 : MI j m=0:=by rw [MI,if_pos ⟨hF,hm⟩,if_pos hz,jI]
 have e2 : VZ j m=SM.cells (ofMap m V):=by rw [VZ,if_pos ⟨⟨hF,hm⟩,hz,jI⟩,hV]
 rw [hV] at YV
 have heq:=hm.eq
 have IK:=F4
 have Fz:=F4;rw [Ee] at IK;rw [Ee,heq] at Fz
 have q1:=Lc B m.src m.Bm hm.s.1 hm.t.1 heq m.parts hm.SX V IK Bf.1
 have q2:=Lc B (AO m.src V) (AO m.Bm V) (Bx hm.s.1 IK Bf.1) (Bx hm.t.1 Fz YV.1) heq _ (EP hm.s.1 hm.t.1 heq hm.SX IK) V IK Bf.2
 have q3:=GG B (AO (AO m.src V) V) (AO (AO m.Bm V) V) (Bb (AO m.src V) (AO m.Bm V) V (Bb m.src m.Bm V m.parts))
 have XB : (AO m.src V).shape=j.shape:=Ee.symm;rw [XB] at q2;rw [← Ee] at q1;rw [YN,hB2,jI,e1,e2]
 generalize hP1 : Bb m.src m.Bm V m.parts=P1 at *
 generalize hP2 : Bb (AO m.src V) (AO m.Bm V) V P1=P2 at *;refine tt ?_;refine nb o fun HC H o=>tt ?_;refine nb o fun Ln H o=>tt ?_;refine sw o.swap fun H o=>tt ?_;refine sw o.swap fun H o=>tt ?_;refine ⟨fun e=>(by simp at e),fun _=>At.mk ?_⟩;refine tt ?_;refine hl.go fun _=>tt ?_;refine AZ o.tl.tl.tl (by simp) (tt ?_);refine AZ o.tl (by simp) (tt ?_);refine q1.go fun _=>tt ?_;refine AZ o.tl.tl (by simp) (tt ?_);refine AZ o (by simp) (tt ?_);refine AZ o.tl.tl (by simp) (tt ?_);refine AZ o (by simp) (tt ?_);refine ⟨_,q2.run, ?_⟩;refine ⟨_,q3.run,tt ?_⟩;refine sw o.tl.tl.tl.tl fun H o=>tt ?_
 have hr:=o.rc 15 0 (by simp);simp only [List.drop_zero] at hr;rw [hr];exact A6 (by rw [ofMap,hP1,hP2]; rfl) o.sub
open Classical in
/-- The topology's coverage, for a map. -/
noncomputable def JK (j : Df) (m : SM) : Int:=if j.Form∧m.Is then Fo j m.src else 1
theorem MA {j : Df} {m : SM} (hF : j.Form) (hm : m.Is) : JK j m=codeF j m.src:=by
 rw [JK,if_pos ⟨hF,hm⟩,codeF,if_neg (fun e=>e ⟨hF,hm.s⟩),Fo]
theorem LB (B : Nat) (j : Df) (m : SM) (H0 : AA) : CB B 112 [.ptr j.cells,.ptr m.cells] H0 (eM j (JK j m) H0):=by
 refine c112.go fun _=>?_
 have hoc:=fun hF=>Qn B j m.src hF H0;refine tt ?_;refine (PU B j).go fun _=>?_
 by_cases hF : j.Form
 rotate_left
 ·have e0 : JK j m=1:=by rw [JK,if_neg (fun e=>hF e.1)]
  rw [Ab hF];refine tn ?_
  exact EF (.refl _) e0.symm (fun e2=>by rw [e0] at e2; cases e2)
 rw [Ay hF];refine tn ?_
 refine (Hx B m).go fun _=>?_
 by_cases hm : m.Is
 rotate_left
 ·have e0 : JK j m=1:=by rw [JK,if_neg (fun e=>hm e.2)]
  rw [Ab hm];refine tn ?_
  exact EF (.refl _) e0.symm (fun e2=>by rw [e0] at e2; cases e2)
 have e0 : JK j m=Fo j m.src:=by rw [JK,if_pos ⟨hF,hm⟩]
 rw [Ay hm];refine tn ?_
 refine (hoc hF).mono ?_
 rintro r H ⟨rfl,X,rfl,hX⟩;refine tt ?_;rw [← e0] at hX ⊢;exact EF (.refl _) rfl hX
end Go.Proofs.Shf
namespace Go.Shf
open Go.AW Go.Proofs.Shf
theorem LN {f g : SF} {p : List (List Int)} (hf : f.Is) (hg : g.Is) (e : f.shape=g.shape) (h : Cz f g p) : SM.Is ⟨f,g,p⟩:=by
 have Gd:=hf.1.sl
 have hl:=h.len;refine ⟨hf,hg,e,⟨by show p.length=f.A4.length; omega,fun x hx=>?_⟩,fun a ha e he=>?_⟩
 ·have IZ : x<p.length:=hx
  have:=h.pl x (by omega);simp only [AJ] at this;refine ⟨this.1,fun y hy=>?_⟩
  obtain ⟨i,hi,rfl⟩:=AE.mp hy
  have h2:=this.2 i (by have : i<(p.getD x default).length:=hi; omega);rw [AJ] at h2;exact h2
 ·have Md : a<f.Aa.length:=ha
  have se : e<(f.Aa.getD a default).length:=he
  have Pz:=hf.1.al
  have Po:=hf.1.DN (a:=(a : Int)) (by simp; omega)
  have:=h.nl a ⟨by omega,by simp; omega⟩ e (by rw [AJ] at Po; omega);simp only [AJ] at this;exact this
end Go.Shf
namespace Go.Proofs.Shf
open Go.AW Go.Proofs Go.Shf
theorem RP (B : Nat) (m : SM) : PB B 45 [.agg m.cells] (.bool (dec m.Is)):=by
 refine ⟨fun H0=>c45.go fun _=>tt ?_⟩;refine (Hx B m).go fun _=>tt ?_;exact A6 rfl (.refl _)
end Go.Proofs.Shf
namespace Go.AW
theorem Ez.put {α : Type} {f : α→AV} {Xs : List AV} {As : List (List α)} {ob : Ob} (h : Ez f Xs As ob) {i : Nat} (hi : i<Xs.length) {p : Ob} {X : AV} {A : List α} (hX : Q6 f p X A) {H0 H : AA} {l : Ob} {id : Nat}
  (o : AB H0 H ((id,.cells 1 (Xs.set i X) 0)::(p++(ob++l)))) : ∃ ob',Ez f (Xs.set i X) (As.set i A) ob'∧AB H0 H ((id,.cells 1 (Xs.set i X) 0)::(ob'++l)):=by
 obtain ⟨q,r,h1,_,h3⟩:=h.split i hi
 obtain ⟨o',k1,k2⟩:=h3 X A p hX;refine ⟨o',k1, ?_⟩
 have o2 : AB H0 H (q++((id,.cells 1 (Xs.set i X) 0)::(p++(r++l)))):=by
  refine o.perm ?_;refine List.Perm.trans (.cons _ ?_) List.perm_middle.symm
  have h2 : (p++ob).Perm (q++(p++r)):=(List.Perm.append_left p h1).trans (by
   rw [← List.append_assoc,← List.append_assoc];exact List.Perm.append_right r List.perm_append_comm)
  simpa using List.Perm.append_right l h2
 have o3:=o2.MP (l':=(id,.cells 1 (Xs.set i X) 0)::(p++(r++l))) (List.sublist_append_right _ _);refine o3.perm (.cons _ ?_);rw [← List.append_assoc];exact List.Perm.append_right l k2.symm
end Go.AW
namespace Go.Proofs.Shf
open Go.AW Go.Proofs Go.Shf
end Go.Proofs.Shf
namespace Go.Shf
open Go.AW
end Go.Shf
namespace Go.Proofs.Shf
open Go.AW Go.Proofs Go.Shf
theorem dTrue {p : Decidable True} : @decide True p=true:=@decide_eq_true True p trivial
end Go.Proofs.Shf
namespace Go.Proofs.Shf
open Go.AW Go.Proofs Go.RowKit
end Go.Proofs.Shf
namespace Go.Shf
open Go.AW
end Go.Shf
namespace Go.Proofs.Shf
open Go.AW Go.Proofs Go.Shf
end Go.Proofs.Shf
namespace Go.AW
end Go.AW
namespace Go.Shf
open Go.AW Go.Proofs.Shf
end Go.Shf
namespace Go.Proofs.Shf
open Go.AW Go.Proofs Go.Shf
end Go.Proofs.Shf
namespace Go.AW
end Go.AW
namespace Go.Proofs.Shf
open Go.AW Go.Proofs Go.Shf
theorem NC (B : Nat) (f : SF) : PB B 118 [.ptr f.cells,.ptr f.cells] (.bool true):=by
 refine ⟨fun H0=>c118.go fun ⟨Gc,_⟩=>?_⟩
 have hl:=AL (Gc.ptr (c:=BD f.Aa) (by simp [SF.cells]));simp only [AK] at hl;refine tt ?_;refine ⟨_,(Fe B f.shape f.shape).run, ?_⟩;rw [Ay rfl];refine tt ?_;refine ⟨_,(Fu B f.A4 f.A4).run, ?_⟩;rw [Ay rfl];refine td ?_;refine AD [0,1,43] (G:=Unit) (fun k _=>[(44,some (.int .i64 (k : Int)))]) (fun k _ H=>H=H0) f.Aa.length () rfl rfl ?_
 rintro k _ H hk rfl;refine tt ?_;apply bk <;> intro h1
 ·have AU:=A7 h1
  have w1:=ws k;refine tt ?_;refine ⟨AU,AU, ?_⟩;refine ⟨_,(Fu B (f.Aa.getD k default) (f.Aa.getD k default)).run, ?_⟩;rw [Ay rfl];refine tw w1 ?_;exact A5 () (by omega) rfl rfl
 ·refine tt ?_;exact A6 rfl (.refl _)
end Go.Proofs.Shf
