/- A part of a proof. -/
import Derived.Test.YtphikjciekmijaaGreatF8
set_option linter.unusedVariables false
set_option linter.unusedSimpArgs false
set_option linter.unusedSectionVars false
set_option maxRecDepth 100000
open Nat (reduceEqDiff reduceAdd reduceMul reduceLeDiff reduceLT)
namespace Go.Proofs.Shf
open Go.AW Go.Proofs Go.Shf
@[go_sem] def tpO (c : Ax) (X : AV) : AG:=.cells 6 [iI c.AF,iL c.AB,iL c.to,iL c.Ac,B5 c.comp,X] 0
end Go.Proofs.Shf
namespace Go.Shf
open Go.AW
def thenS (s t : List (List Int)) : List (List Int):=(List.range s.length).map fun x=>(s.getD x default).map fun y=>ix (t.getD x default) y
end Go.Shf
namespace Go.AW
theorem M6 {P : Program} {B : Nat} {l : List Nat} {a b : SC} {Q : AQ} {σ : Env} {H : AA} (M : Env→AA→Prop) (h1 : Dx P B a (n9 l M Q) σ H) (h2 : ∀ σ' H',M σ' H'→Dx P B b Q σ' H') : Dx P B (.cut l a b) Q σ H:=⟨M,h1,h2⟩
end Go.AW
namespace Go.AW
theorem ED.put {α : Type} {f : α→AV} {Xs : List AV} {As : List (List α)} {ob : Ob} (h : ED f Xs As ob) {i : Nat} (hi : i<Xs.length) {p : Ob} {X : AV} {A : List α} (hX : Lp f p X A) {H0 H : AA} {l : Ob} {id : Nat}
  (o : A9 H0 H ((id,.cells 1 (Xs.set i X) 0)::(p++(ob++l)))) : ∃ ob',ED f (Xs.set i X) (As.set i A) ob'∧A9 H0 H ((id,.cells 1 (Xs.set i X) 0)::(ob'++l)):=by
 obtain ⟨q,r,h1,_,h3⟩:=h.split i hi
 obtain ⟨o',k1,k2⟩:=h3 X A p hX;refine ⟨o',k1, ?_⟩
 have o2 : A9 H0 H (q++((id,.cells 1 (Xs.set i X) 0)::(p++(r++l)))):=by
  refine o.perm ?_;refine List.Perm.trans (.cons _ ?_) List.perm_middle.symm
  have h2 : (p++ob).Perm (q++(p++r)):=(List.Perm.append_left p h1).trans (by
   rw [← List.append_assoc,← List.append_assoc];exact List.Perm.append_right r List.perm_append_comm)
  simpa using List.Perm.append_right l h2
 have o3:=o2.FL (l':=(id,.cells 1 (Xs.set i X) 0)::(p++(r++l))) (List.sublist_append_right _ _);refine o3.perm (.cons _ ?_);rw [← List.append_assoc];exact List.Perm.append_right l k2.symm
end Go.AW
namespace Go.Proofs.Shf
open Go.AW Go.Proofs Go.Shf
theorem QM (B : Nat) (f : SF) (hl : f.A1.length≤8) (hz : ∀ y,y∈f.A1→0≤y∧y<17) : PB B 178 [.agg f.cells] (iI f.A1.sum):=by
 refine ⟨fun H0=>sj.go fun _=>tt ?_⟩;refine AD [1] (G:=Unit) (fun k _=>[(3,some (.int .i64 (f.A1.take k).sum)),(4,some (.int .i64 (k : Int)))]) (fun k _ H=>H=H0∧0≤(f.A1.take k).sum∧(f.A1.take k).sum≤17*k) f.A1.length () ⟨rfl,by simp,by simp⟩ rfl ?_
 rintro k _ H hk ⟨rfl,hs⟩;refine tt ?_;apply bk <;> intro h1
 ·have h1:=A6 h1
  have w1:=ws k
  have CW:=hz _ (AE.mpr ⟨k,h1,rfl⟩)
  have e : (f.A1.take (k+1)).sum=(f.A1.take k).sum+f.A1.getD k default:=by rw [Ar _ h1]; simp
  have w2 : IntKind.i64.wrap ((f.A1.take k).sum+f.A1.getD k default)=(f.A1.take (k+1)).sum:=by rw [wrap_i64 (by omega) (by omega),e]
  refine tt ?_;refine ⟨h1, ?_⟩;refine t2 w1 w2 ?_
  exact A4 () (by omega) ⟨rfl,by omega,by omega⟩ rfl
 ·have h1:=A7 h1
  obtain rfl : k=f.A1.length:=by omega
  refine tt ?_;exact A5 (by rw [List.take_length]) (.refl _)
def ku (r : AV) : Prop:=∃ m : SM,r=.agg m.cells
theorem L2 (B : Nat) (size : Int) (JC : 0≤size∧size≤1000) : Rd B 228 [iI size] ku:=by
 intro id s H0 H hs o;refine wO.go fun _=>?_;refine tt ?_;refine nb o fun B1 H o=>tt ?_;refine (UE B size JC).go hs o.swap fun r s H _ ⟨f,g,e⟩ hs o=>?_;subst e;refine tt ?_;refine nb o fun Bv H o=>tt ?_;refine nb o fun Ba H o=>tt ?_;refine sw o.swap fun H o=>tt ?_;refine sw o.swap fun H o=>tt ?_
 have o : A9 H0 H [(id,s.obj),(Ba,AG.cells 7 g.cells 0),(Bv,AG.cells 7 f.cells 0),(B1,AG.cells 15 [.int .i64 0,.A0,.A0,.A0,.A0,.A0,.A0,.int .i64 0,.A0,.A0,.A0,.A0,.A0,.A0,.A0] 0)]:=by simp only [SF.cells]; exact o.pm
 refine M6 (fun σ H=>∃ (s : Src) (g : SF),σ=[(0,some (.ref id 0)),(4,some (.ref B1 0)),(5,some (.ref Bv 0)),(6,some (.ref Ba 0))]∧s.Ok ∧
  A9 H0 H [(id,s.obj),(Ba,AG.cells 7 g.cells 0),(Bv,AG.cells 7 f.cells 0),(B1,AG.cells 15 [.int .i64 0,.A0,.A0,.A0,.A0,.A0,.A0,.int .i64 0,.A0,.A0,.A0,.A0,.A0,.A0,.A0] 0)]) ?_ ?_
 ·refine tt ?_;refine (AY B 4).go hs o fun r s H _ ⟨v,e,_⟩ hs o=>?_;subst e;refine tt ?_;apply bk <;> intro h1
  ·refine tt ?_;refine AO o.tl.tl (by simp [SF.cells]) (tt ?_);refine AS o.swap (by simp [SF.cells]) (by (try simp only [go_sem]); (try simp)) (by first | (simp only [go_sem]; done) | ((try simp only [go_sem]); simp [AV.one,Ay])) fun H o=>?_;have o:=s2 o;refine tt ?_;exact AX ⟨s,f,rfl,hs,o.swap⟩
  ·refine tt ?_;exact AX ⟨s,g,rfl,hs,o⟩
 clear o hs
 rintro σ H ⟨s,g,rfl,hs,o⟩;refine tt ?_;refine AO o.tl.tl (by simp [SF.cells]) (tt ?_);refine AO o.tl (by simp [SF.cells]) (tt ?_);refine nb o fun CT H o=>tt ?_;refine sw o fun H o=>tt ?_
 have hX : CP iL H0 H ((CT,AG.cells 15 [iI f.shape.AF,iL f.shape.AB,iL f.shape.to,iL f.shape.Ac,B5 f.shape.comp,iL f.A1,B5 f.AJ,iI g.shape.AF,iL g.shape.AB,iL g.shape.to,iL g.shape.Ac,B5 g.shape.comp,iL g.A1,B5 g.AJ,.A0] 0)::[(id,s.obj),(Ba,AG.cells 7 g.cells 0),(Bv,AG.cells 7 f.cells 0),(B1,AG.cells 15 [.int .i64 0,.A0,.A0,.A0,.A0,.A0,.A0,.int .i64 0,.A0,.A0,.A0,.A0,.A0,.A0,.A0] 0)]) .A0 []:=.inl ⟨rfl,rfl,o⟩;refine FK 14 hX rfl fun H o=>AX ?_;have o:=s1 o
 have o : A9 H0 H [(id,s.obj),(CT,AG.cells 15 (SM.cells ⟨f,g,[]⟩) 0),(Ba,AG.cells 7 g.cells 0),(Bv,AG.cells 7 f.cells 0),(B1,AG.cells 15 [.int .i64 0,.A0,.A0,.A0,.A0,.A0,.A0,.int .i64 0,.A0,.A0,.A0,.A0,.A0,.A0,.A0] 0)]:=o.swap;clear hX
 refine M6 (fun σ H=>∃ (s : Src) (m : SM),σ=[(0,some (.ref id 0)),(4,some (.ref B1 0)),(7,some (.ref CT 0))]∧s.Ok ∧
  A9 H0 H [(id,s.obj),(CT,AG.cells 15 m.cells 0),(B1,AG.cells 15 [.int .i64 0,.A0,.A0,.A0,.A0,.A0,.A0,.int .i64 0,.A0,.A0,.A0,.A0,.A0,.A0,.A0] 0)]) ?_ ?_
 ·refine tt ?_;refine AO (o.pull [_,_,_]) (by simp [SF.cells]) (tt ?_);refine AO (o.pull [_,_]) (by simp [SF.cells]) (tt ?_);refine (J5 B f g).go fun _=>?_
  by_cases hI : f.Is∧g.Is∧f.shape=g.shape
  rotate_left
  ·rw [Ad hI];refine tt ?_;exact AX ⟨s,⟨f,g,[]⟩,rfl,hs,(by simp only [SF.cells,SM.cells] at o ⊢; exact o.FL (by simp))⟩
  rw [Av hI];refine tt ?_
  obtain ⟨hf,hg,sh⟩:=hI
  have HB:=hf.1.sl
  have xw:=hf.1.is.1.o
  refine M6 (fun σ H=>∃ (s : Src) (p : List (List Int)),σ=[(0,some (.ref id 0)),(4,some (.ref B1 0)),(5,some (.ref Bv 0)),(7,some (.ref CT 0))]∧s.Ok ∧
   A9 H0 H [(id,s.obj),(CT,AG.cells 15 (SM.cells ⟨f,g,p⟩) 0),(Bv,AG.cells 7 f.cells 0),(B1,AG.cells 15 [.int .i64 0,.A0,.A0,.A0,.A0,.A0,.A0,.int .i64 0,.A0,.A0,.A0,.A0,.A0,.A0,.A0] 0)]) ?_ ?_
  ·refine tt ?_;refine AO (o.pull [_,_,_]) (by simp [SF.cells]) (tt ?_);refine (QM B f (by omega) hf.1.sz).go fun _=>tt ?_;apply bk <;> intro h2
   rotate_left
   ·refine tt ?_;exact AX ⟨s,[],rfl,hs,(by simp only [SF.cells,SM.cells] at o ⊢; exact o.FL (by simp))⟩
   refine tt ?_;refine AO (o.pull [_,_,_]) (by simp [SF.cells]) (tt ?_);refine AO (o.pull [_,_]) (by simp [SF.cells]) (tt ?_);refine (Rz B hf hg sh 12 (by omega) (by omega)).go fun _=>?_
   generalize (Bp f g (BA f)).take 12=L;refine tt ?_;apply bk <;> intro h3
   rotate_left
   ·refine tt ?_;exact AX ⟨s,[],rfl,hs,(by simp only [SF.cells,SM.cells] at o ⊢; exact o.FL (by simp))⟩
   have BH:=A6 h3;refine tt ?_;refine (AY B _).go hs o fun r s H _ ⟨v,e,v0,v1,_⟩ hs o=>?_;subst e
   have hv:=v1 (by omega);refine tt ?_;refine ⟨⟨v0,by omega⟩,tt ?_⟩;refine AS o.swap (by simp [SM.cells]) (by (try simp only [go_sem]); (try simp)) (by first | (simp only [go_sem]; done) | ((try simp only [go_sem]); simp [AV.one,Ay])) fun H o=>?_;have o:=s2 o;refine tt ?_;exact AX ⟨s,ix L v,rfl,hs,(by simp only [SF.cells,SM.cells] at o ⊢; exact o.swap.FL (by simp))⟩
  clear o hs
  rintro σ H ⟨s,p,rfl,hs,o⟩;refine tt ?_;refine AH o.tl (by simp [SM.cells]) (tt ?_);apply bk <;> intro h4
  rotate_left
  ·refine tt ?_;exact AX ⟨s,⟨f,g,p⟩,rfl,hs,(by simp only [SF.cells,SM.cells] at o ⊢; exact o.FL (by simp))⟩
  refine tt ?_
  have h5:=o.tl.tl.h0;simp only at h5;refine ⟨⟨_,_,h5⟩,AO o.tl.tl (by simp [SF.cells]) ?_⟩;refine tt ?_;refine ⟨⟨_,_,h5⟩,AO o.tl.tl (by simp [SF.cells]) ?_⟩;refine tt ?_;refine ⟨⟨_,_,h5⟩,AO o.tl.tl (by simp [SF.cells]) ?_⟩;refine tt ?_;refine ⟨_,(MP B hf.1).run,tt ?_⟩;refine ⟨_,(F3 B f f (HN f)).run,tt ?_⟩;refine AS o.swap (by simp [SM.cells]) (by (try simp only [go_sem]); (try simp)) (by first | (simp only [go_sem]; done) | ((try simp only [go_sem]); simp [AV.one,Ay])) fun H o=>?_;have o:=s2 o;refine tt ?_;exact AX ⟨s,⟨f,f,HN f⟩,rfl,hs,(by simp only [SF.cells,SM.cells] at o ⊢; exact o.swap.FL (by simp))⟩
 clear o hs
 rintro σ H ⟨s,m,rfl,hs,o⟩;refine tt ?_;refine (AY B 24).go hs o fun r s H _ ⟨v,e,_⟩ hs o=>?_;subst e;refine tt ?_
 have hw : ∀ {d : Nat} {Xs : List AV} {P : List (List Int)} {ob : Ob} {F : Env→AA→Prop} {σ : Env} {H : AA} {s : Src},ED iI Xs P ob →
   A9 H0 H ((d,.cells 1 Xs 0)::(ob++[(id,s.obj),(CT,AG.cells 15 [iI m.src.shape.AF,iL m.src.shape.AB,iL m.src.shape.to,iL m.src.shape.Ac,B5 m.src.shape.comp,iL m.src.A1,B5 m.src.AJ,iI m.AL.shape.AF,iL m.AL.shape.AB,iL m.AL.shape.to,iL m.AL.shape.Ac,B5 m.AL.shape.comp,iL m.AL.A1,B5 m.AL.AJ,.buf d Xs.length] 0),(B1,AG.cells 15 [.int .i64 0,.A0,.A0,.A0,.A0,.A0,.A0,.int .i64 0,.A0,.A0,.A0,.A0,.A0,.A0,.A0] 0)])) →
   (∀ H',A9 H0 H' [(CT,AG.cells 15 (SM.cells ⟨m.src,m.AL,P⟩) 0),(id,s.obj),(B1,AG.cells 15 [.int .i64 0,.A0,.A0,.A0,.A0,.A0,.A0,.int .i64 0,.A0,.A0,.A0,.A0,.A0,.A0,.A0] 0)]→F σ H')→EX F σ H:=by
  intro d Xs P ob F σ H s hR o hk
  have hl:=hR.len;refine EA hR [] H o fun H o=>?_;simp only [List.nil_append] at o;rw [hl] at o
  have o : A9 H0 H ((CT,AG.cells 15 [iI m.src.shape.AF,iL m.src.shape.AB,iL m.src.shape.to,iL m.src.shape.Ac,B5 m.src.shape.comp,iL m.src.A1,B5 m.src.AJ,iI m.AL.shape.AF,iL m.AL.shape.AB,iL m.AL.shape.to,iL m.AL.shape.Ac,B5 m.AL.shape.comp,iL m.AL.A1,B5 m.AL.AJ,.buf d P.length] 0)::(d,.cells 1 (P.map iL) 0)::[(id,s.obj),(B1,AG.cells 15 [.int .i64 0,.A0,.A0,.A0,.A0,.A0,.A0,.int .i64 0,.A0,.A0,.A0,.A0,.A0,.A0,.A0] 0)]):=o.pm;refine B6 14 o rfl rfl fun H o=>?_;have o:=s1 o;exact AX (hk H o)
 apply bk <;> intro j1
 rotate_left
 ·refine tw j1 ?_;refine AX ?_;refine tt ?_
  have o : A9 H0 H [(CT,AG.cells 15 m.cells 0),(id,s.obj),(B1,AG.cells 15 [.int .i64 0,.A0,.A0,.A0,.A0,.A0,.A0,.int .i64 0,.A0,.A0,.A0,.A0,.A0,.A0,.A0] 0)]:=o.swap;refine AO o (by simp [SM.cells]) (tt ?_);refine sw (o.pull [_,_]) fun H o=>tt ?_
  have hr:=o.rc 15 0 (by simp);simp only [List.drop_zero] at hr;rw [hr];exact B4 ⟨m,rfl⟩ hs (o.pull [_,_])
 refine tw j1 ?_;refine AH o.tl (by simp [SM.cells]) ?_;refine tw j1 ?_;apply bk <;> intro j2
 rotate_left
 ·refine tt ?_;refine AX ?_;refine tt ?_
  have o : A9 H0 H [(CT,AG.cells 15 m.cells 0),(id,s.obj),(B1,AG.cells 15 [.int .i64 0,.A0,.A0,.A0,.A0,.A0,.A0,.int .i64 0,.A0,.A0,.A0,.A0,.A0,.A0,.A0] 0)]:=o.swap;refine AO o (by simp [SM.cells]) (tt ?_);refine sw (o.pull [_,_]) fun H o=>tt ?_
  have hr:=o.rc 15 0 (by simp);simp only [List.drop_zero] at hr;rw [hr];exact B4 ⟨m,rfl⟩ hs (o.pull [_,_])
 have j2p:=A6 j2;refine tt ?_;refine AH o.tl (by simp [SM.cells]) (tt ?_);refine ID.go' (IF B m.parts) o fun X1 p1 H ⟨d,Xs,ob,e1,hX,e2⟩ o Dw=>⟨Dw, ?_⟩;subst e1 e2
 have Iw:=hX.len;refine tt ?_
 have o : A9 H0 H ((CT,AG.cells 15 [iI m.src.shape.AF,iL m.src.shape.AB,iL m.src.shape.to,iL m.src.shape.Ac,B5 m.src.shape.comp,iL m.src.A1,B5 m.src.AJ,iI m.AL.shape.AF,iL m.AL.shape.AB,iL m.AL.shape.to,iL m.AL.shape.Ac,B5 m.AL.shape.comp,iL m.AL.A1,B5 m.AL.AJ,B5 m.parts] 0)::(d,.cells 1 Xs 0)::(ob++[(id,s.obj),(B1,AG.cells 15 [.int .i64 0,.A0,.A0,.A0,.A0,.A0,.A0,.int .i64 0,.A0,.A0,.A0,.A0,.A0,.A0,.A0] 0)])):=by simp only [SM.cells] at o; exact o.pm
 refine sw o fun H o=>tt ?_;refine AH o (by simp) (tt ?_)
 have o : A9 H0 H ((id,s.obj)::(CT,AG.cells 15 [iI m.src.shape.AF,iL m.src.shape.AB,iL m.src.shape.to,iL m.src.shape.Ac,B5 m.src.shape.comp,iL m.src.A1,B5 m.src.AJ,iI m.AL.shape.AF,iL m.AL.shape.AB,iL m.AL.shape.to,iL m.AL.shape.Ac,B5 m.AL.shape.comp,iL m.AL.A1,B5 m.AL.AJ,.buf d Xs.length] 0)::(d,.cells 1 Xs 0)::(ob++[(B1,AG.cells 15 [.int .i64 0,.A0,.A0,.A0,.A0,.A0,.A0,.int .i64 0,.A0,.A0,.A0,.A0,.A0,.A0,.A0] 0)])):=o.pm;refine (AY B _).go hs o fun r s H _ ⟨a,e,a0,a1,a2⟩ hs o=>?_;subst e
 obtain ⟨a,rfl⟩ : ∃ n : Nat,a=n:=⟨_,(Int.toNat_of_nonneg a0).symm⟩;clear a0 a2
 have ha:=a1 (by omega)
 have hi : a<Xs.length:=by omega
 obtain ⟨pr,rr,_,xn,_⟩:=hX.split a hi
 have hlr:=xn.Ds
 have l6:=o.tl.h0
 have Ha:=o.tl.tl.h0;simp only at l6 Ha;refine tt ?_;refine Aj l6 (by simp) (tt ?_);refine ⟨hi,Aj Ha hi ?_⟩;refine tw hlr ?_;apply bk <;> intro k2
 ·have k2p:=A6 k2
  obtain ⟨Bt,er,Iv⟩:=hX.row hi (by omega);refine tt ?_;refine ⟨⟨_,_,l6⟩,Aj l6 (by simp) ?_⟩;refine tt ?_;refine ⟨hi,⟨_,_,Ha⟩,Aj Ha hi ?_⟩;refine tt ?_;refine ⟨⟨_,_,l6⟩,Aj l6 (by simp) ?_⟩;refine tt ?_;refine ⟨hi,⟨_,_,Ha⟩,Aj Ha hi ?_⟩;rw [er];refine tt ?_;refine (AY B _).IE hs o fun r s H _ ⟨i,e,i0,i1,_⟩ hs o hz=>⟨hz, ?_⟩;subst e
  have dV:=i1 (by omega);refine (AY B _).IE hs o fun r s H _ ⟨y1,e,_⟩ hs o hz=>⟨hz, ?_⟩;subst e;refine (AY B _).IE hs o fun r s H _ ⟨y2,e,_⟩ hs o hz=>⟨hz, ?_⟩;subst e;refine tt ?_;refine ⟨by omega, ?_⟩
  generalize IntKind.i64.wrap (y1 - _)=y3;refine ⟨⟨i0,by omega⟩, ?_⟩
  have od : A9 H0 H ((d,.cells 1 Xs 0)::(ob++[(id,s.obj),(CT,AG.cells 15 [iI m.src.shape.AF,iL m.src.shape.AB,iL m.src.shape.to,iL m.src.shape.Ac,B5 m.src.shape.comp,iL m.src.A1,B5 m.src.AJ,iI m.AL.shape.AF,iL m.AL.shape.AB,iL m.AL.shape.to,iL m.AL.shape.Ac,B5 m.AL.shape.comp,iL m.AL.A1,B5 m.AL.AJ,.buf d Xs.length] 0),(B1,AG.cells 15 [.int .i64 0,.A0,.A0,.A0,.A0,.A0,.A0,.int .i64 0,.A0,.A0,.A0,.A0,.A0,.A0,.A0] 0)])):=o.pm;refine Iv od i.toNat (by omega) y3 rfl fun H ob' Iq o=>tt ?_;refine hw Iq o fun H o=>tt ?_;refine AO o (by simp [SM.cells]) (tt ?_);refine sw (o.pull [_,_]) fun H o=>tt ?_
  have hr:=o.rc 15 0 (by simp);simp only [List.drop_zero] at hr;rw [hr];exact B4 ⟨⟨m.src,m.AL,m.parts.set a ((m.parts.getD a []).set i.toNat y3)⟩,rfl⟩ hs (o.pull [_,_])
 ·refine tt ?_;refine Aj l6 (by simp) (tt ?_);refine AP o fun O0 H o=>tt ?_;refine ⟨hi, ?_⟩
  have od : A9 H0 H ((d,.cells 1 Xs 0)::(O0,.cells 1 [iI 0] 0)::(ob++[(id,s.obj),(CT,AG.cells 15 [iI m.src.shape.AF,iL m.src.shape.AB,iL m.src.shape.to,iL m.src.shape.Ac,B5 m.src.shape.comp,iL m.src.A1,B5 m.src.AJ,iI m.AL.shape.AF,iL m.AL.shape.AB,iL m.AL.shape.to,iL m.AL.shape.Ac,B5 m.AL.shape.comp,iL m.AL.A1,B5 m.AL.AJ,.buf d Xs.length] 0),(B1,AG.cells 15 [.int .i64 0,.A0,.A0,.A0,.A0,.A0,.A0,.int .i64 0,.A0,.A0,.A0,.A0,.A0,.A0,.A0] 0)])):=o.pm;refine AS od (by omega) rfl (by simp [AV.one]) fun H o=>?_;simp only [Ej,Gv] at o
  obtain ⟨ob',Iq,o⟩:=hX.put hi (p:=[(O0,.cells 1 [iI 0] 0)]) (X:=.buf O0 1) (A:=[0]) (.inr ⟨O0,rfl,rfl⟩) o;refine tt ?_;refine hw Iq (by rw [List.length_set]; exact o) fun H o=>tt ?_;refine AO o (by simp [SM.cells]) (tt ?_);refine sw (o.pull [_,_]) fun H o=>tt ?_
  have hr:=o.rc 15 0 (by simp);simp only [List.drop_zero] at hr;rw [hr];exact B4 ⟨⟨m.src,m.AL,m.parts.set a [0]⟩,rfl⟩ hs (o.pull [_,_])
def pM (r : AV) : Prop:=∃ (k : FU) (g : SF) (m : SM),r=.CQ [.agg k.cells,.agg g.cells,.agg m.cells]
def GN : List AV:=[.int .i64 0,.A0,.A0,.A0,.A0,.A0,.A0,.int .i64 0,.A0,.A0,.A0,.A0,.A0,.A0,.A0]
theorem RW (B : Nat) (code : List UInt8) : Dt B 136 [mL Go.AW.iB code,.bool false] pM:=by
 intro H0;refine sN.go fun _=>?_
 have o : A9 H0 H0 []:=.nil _;refine tt ?_;refine nb o fun B1 H o=>tt ?_;refine nb o fun Bv H o=>tt ?_;refine nb o fun Ba H o=>tt ?_;refine (U5 B code _).IG fun r H1 _ ⟨id,s,e,hs,o2⟩=>?_;subst e
 have o:=o.trans o2;clear o2;refine tt ?_;refine (O5 B).go hs o fun r s H _ ⟨k,e⟩ hs o=>?_;subst e;refine tt ?_;refine nb o fun Cm H o=>tt ?_;refine sw o fun H o=>?_
 have o : A9 H0 H [(Cm,.cells 12 k.cells 0),(id,s.obj),(Ba,.cells 15 GN 0),(Bv,.cells 7 Fe 0),(B1,.cells 12 Ey 0)]:=o;refine tt ?_;refine Ca 8 o rfl fun H o=>AX ?_;refine tt ?_;refine (GU B k).go fun _=>?_
 by_cases hk : k.Is
 rotate_left
 ·rw [Ad hk];refine tt ?_;refine (E1 B 3 6).IE hs o fun r s H _ ⟨c,e,hc⟩ hs o hz=>⟨hz, ?_⟩;subst e;refine tt ?_;refine (F5 B c 3 (by omega)).IE hs o fun r s H _ ⟨g,e⟩ hs o hz=>⟨hz, ?_⟩;subst e;refine tt ?_;refine (L2 B 3 (by omega)).IE hs o fun r s H _ ⟨m,e⟩ hs o hz=>⟨hz, ?_⟩;subst e;refine tt ?_
  have o : A9 H0 H ((B1,.cells 12 Ey 0)::[(id,s.obj),(Ba,.cells 15 GN 0),(Bv,.cells 7 Fe 0)]):=o.pm;refine AS o (by simp [Ey]) (by (try simp only [go_sem]); (try simp)) (by first | (simp only [go_sem]; done) | ((try simp only [go_sem]); simp [AV.one,Ay])) fun H o=>?_;unfold Ey at o;have o:=s2 o;refine tt ?_;refine AS (o.pull [_,_,_]) (by simp [Fe]) (by (try simp only [go_sem]); (try simp)) (by first | (simp only [go_sem]; done) | ((try simp only [go_sem]); simp [AV.one,Ay])) fun H o=>?_;unfold Fe at o;have o:=s2 o;refine tt ?_;refine AS (o.pull [_,_,_]) (by simp [GN]) (by (try simp only [go_sem]); (try simp)) (by first | (simp only [go_sem]; done) | ((try simp only [go_sem]); simp [AV.one,Ay])) fun H o=>?_;unfold GN at o;have o:=s2 o;refine tt ?_;rw [o.rc 15 0 (by simp),o.tl.rc 7 0 (by simp),o.tl.tl.rc 12 0 (by simp)];refine tt ?_;exact B0 ⟨k,g,m,rfl⟩ o.sub
 rw [Av hk];refine tt ?_;refine (AY B 20).go hs o fun r s H _ ⟨v,e,_⟩ hs o=>?_;subst e;refine tt ?_;apply bk <;> intro h1
 ·refine tt ?_;refine (E1 B 3 6).IE hs o fun r s H _ ⟨c,e,hc⟩ hs o hz=>⟨hz, ?_⟩;subst e;refine tt ?_;refine (F5 B c 3 (by omega)).IE hs o fun r s H _ ⟨g,e⟩ hs o hz=>⟨hz, ?_⟩;subst e;refine tt ?_;refine (L2 B 3 (by omega)).IE hs o fun r s H _ ⟨m,e⟩ hs o hz=>⟨hz, ?_⟩;subst e;refine tt ?_
  have o : A9 H0 H ((B1,.cells 12 Ey 0)::[(id,s.obj),(Ba,.cells 15 GN 0),(Bv,.cells 7 Fe 0)]):=o.pm;refine AS o (by simp [Ey]) (by (try simp only [go_sem]); (try simp)) (by first | (simp only [go_sem]; done) | ((try simp only [go_sem]); simp [AV.one,Ay])) fun H o=>?_;unfold Ey at o;have o:=s2 o;refine tt ?_;refine AS (o.pull [_,_,_]) (by simp [Fe]) (by (try simp only [go_sem]); (try simp)) (by first | (simp only [go_sem]; done) | ((try simp only [go_sem]); simp [AV.one,Ay])) fun H o=>?_;unfold Fe at o;have o:=s2 o;refine tt ?_;refine AS (o.pull [_,_,_]) (by simp [GN]) (by (try simp only [go_sem]); (try simp)) (by first | (simp only [go_sem]; done) | ((try simp only [go_sem]); simp [AV.one,Ay])) fun H o=>?_;unfold GN at o;have o:=s2 o;refine tt ?_;rw [o.rc 15 0 (by simp),o.tl.rc 7 0 (by simp),o.tl.tl.rc 12 0 (by simp)];refine tt ?_;exact B0 ⟨k,g,m,rfl⟩ o.sub
 refine tt ?_;refine (LQ B k.AL 3 (by omega)).go hs o fun r s H _ ⟨g,e,hgQ⟩ hs o=>?_;subst e;refine tt ?_;refine nb o fun ON H o=>tt ?_;refine sw o fun H o=>?_
 have o : A9 H0 H [(ON,.cells 7 g.cells 0),(id,s.obj),(Ba,.cells 15 GN 0),(Bv,.cells 7 Fe 0),(B1,.cells 12 Ey 0)]:=o;refine tt ?_;refine Ca 9 o rfl fun H o=>AX ?_;refine tt ?_;refine (Hz B g).go fun _=>?_
 by_cases hg : g.Is
 rotate_left
 ·rw [Ad hg];refine tt ?_;refine (L2 B 3 (by omega)).IE hs o fun r s H _ ⟨m,e⟩ hs o hz=>⟨hz, ?_⟩;subst e;refine tt ?_
  have o : A9 H0 H ((B1,.cells 12 Ey 0)::[(id,s.obj),(Ba,.cells 15 GN 0),(Bv,.cells 7 Fe 0)]):=o.pm;refine AS o (by simp [Ey]) (by (try simp only [go_sem]); (try simp)) (by first | (simp only [go_sem]; done) | ((try simp only [go_sem]); simp [AV.one,Ay])) fun H o=>?_;unfold Ey at o;have o:=s2 o;refine tt ?_;refine AS (o.pull [_,_,_]) (by simp [Fe]) (by (try simp only [go_sem]); (try simp)) (by first | (simp only [go_sem]; done) | ((try simp only [go_sem]); simp [AV.one,Ay])) fun H o=>?_;unfold Fe at o;have o:=s2 o;refine tt ?_;refine AS (o.pull [_,_,_]) (by simp [GN]) (by (try simp only [go_sem]); (try simp)) (by first | (simp only [go_sem]; done) | ((try simp only [go_sem]); simp [AV.one,Ay])) fun H o=>?_;unfold GN at o;have o:=s2 o;refine tt ?_;rw [o.rc 15 0 (by simp),o.tl.rc 7 0 (by simp),o.tl.tl.rc 12 0 (by simp)];refine tt ?_;exact B0 ⟨k,g,m,rfl⟩ o.sub
 rw [Av hg]
 have Zm:=hgQ hk.tI (by decide) hg;refine tt ?_;refine (LD B k.src hk.sI 2 (by omega)).go hs o fun r s H _ ⟨f,e,Kf,_,hfI⟩ hs o=>?_
 have hf:=(hfI (by decide)).1;subst e;refine tt ?_;refine nb o fun HZ H o=>tt ?_;refine sw o fun H o=>?_
 have o : A9 H0 H [(HZ,.cells 7 f.cells 0),(id,s.obj),(Ba,.cells 15 GN 0),(Bv,.cells 7 Fe 0),(B1,.cells 12 Ey 0)]:=o;refine tt ?_;refine Ca 10 o rfl fun H o=>AX ?_;refine tt ?_;refine ⟨_,(Jz B (g:=g) hk Zm.1.sl Zm.1.al).run,tt ?_⟩
 have hA : (Ag k g).Is:=Hj (g:=⟨k.AL,g.A1,g.AJ⟩) hk Zm rfl;refine ⟨?_, ?_⟩
 focus
  refine nb o fun IL H o=>?_;refine nb o fun Np H o=>tt ?_
  have o : A9 H0 H [(IL,.cells 7 Fe 0),(Np,.cells 7 Fe 0),(id,s.obj),(Ba,.cells 15 GN 0),(Bv,.cells 7 Fe 0),(B1,.cells 12 Ey 0)]:=o.swap
 rotate_left 1
 focus
  refine nb o fun Np H o=>?_;refine nb o fun IL H o=>tt ?_
  have o : A9 H0 H [(IL,.cells 7 Fe 0),(Np,.cells 7 Fe 0),(id,s.obj),(Ba,.cells 15 GN 0),(Bv,.cells 7 Fe 0),(B1,.cells 12 Ey 0)]:=o
 all_goals
  refine AS o (by simp [Fe]) (by (try simp only [go_sem]); (try simp)) (by first | (simp only [go_sem]; done) | ((try simp only [go_sem]); simp [AV.one,Ay])) fun H o=>?_;have o:=s2 o;refine tt ?_;refine AS o.swap (by simp [Fe]) (by (try simp only [go_sem]); (try simp)) (by first | (simp only [go_sem]; done) | ((try simp only [go_sem]); simp [AV.one,Ay])) fun H o=>?_;unfold Fe at o;have o:=s2 o;refine tt ?_
  have o : A9 H0 H [(Np,.cells 7 (Ag k g).cells 0),(IL,.cells 7 f.cells 0),(id,s.obj),(Ba,.cells 15 GN 0),(Bv,.cells 7 Fe 0),(B1,.cells 12 Ey 0)]:=o
  have g12:=o.h0;simp only at g12;refine ⟨⟨_,_,g12⟩,VZ g12 (by simp [SF.cells]) ?_⟩;refine tt ?_;refine AS o.swap (by simp [SF.cells]) (by (try simp only [go_sem]); (try simp)) (by first | (simp only [go_sem]; done) | ((try simp only [go_sem]); simp [AV.one,Ay])) fun H o=>?_;have o:=s2 o;refine tt ?_;refine AS o.swap (by simp [SF.cells]) (by (try simp only [go_sem]); (try simp)) (by first | (simp only [go_sem]; done) | ((try simp only [go_sem]); simp [AV.one,Ay])) fun H o=>?_;have o:=s2 o
  have o : A9 H0 H [(Np,.cells 7 f.cells 0),(IL,.cells 7 (Ag k g).cells 0),(id,s.obj),(Ba,.cells 15 GN 0),(Bv,.cells 7 Fe 0),(B1,.cells 12 Ey 0)]:=o;refine tt ?_;refine Ca 12 o rfl fun H o=>AX ?_;refine tt ?_;refine AO o (by simp [SF.cells]) (tt ?_);refine (Rz B (f:=Ag k g) (g:=f) hA hf Kf.symm 20 (by omega) (by omega)).go fun _=>?_
  have TY : ((Bp (Ag k g) f (BA (Ag k g))).take 20).length≤20:=by rw [List.length_take]; omega
  generalize (Bp (Ag k g) f (BA (Ag k g))).take 20=L at TY;refine tt ?_
  refine M6 (fun σ H=>∃ (s : Src) (h : SF) (L : List (List (List Int))),σ=[(4,some (.ref B1 0)),(5,some (.ref Bv 0)),(6,some (.ref Ba 0)),(7,some (.ref id 0)),(8,some (.ptr k.cells)),(9,some (.ptr g.cells)),(11,some (.ref IL 0)),(12,some (.ptr f.cells)),(13,some (BE L))]∧s.Ok∧L≠[]∧L.length≤20 ∧
   A9 H0 H [(IL,.cells 7 h.cells 0),(id,s.obj),(Ba,.cells 15 GN 0),(Bv,.cells 7 Fe 0),(B1,.cells 12 Ey 0)]) ?_ ?_
  ·refine tt ?_;apply bk <;> intro h2
   ·refine tt ?_;refine AS o (by simp [SF.cells]) (by (try simp only [go_sem]); (try simp)) (by first | (simp only [go_sem]; done) | ((try simp only [go_sem]); simp [AV.one,Ay])) fun H o=>?_;have o:=s2 o;refine tt ?_;refine (MP B hf.1).go fun _=>tt ?_;exact AX ⟨s,f,[HN f],rfl,hs,by simp,by simp,o⟩
   ·have Aq:=A7 h2;refine tt ?_;exact AX ⟨s,Ag k g,L,rfl,hs,fun e=>Aq (by rw [e]; rfl),TY,o⟩
  clear o hs TY L
  rintro σ H ⟨s,h,L,rfl,hs,hL,TY,o⟩
  have hl0 : 0<L.length:=List.length_pos_iff.mpr hL;refine tt ?_;refine Ca 11 o rfl fun H o=>AX ?_;refine tt ?_;refine (AY B _).IE hs o fun r s H _ ⟨v,e,v0,v1,_⟩ hs o hz=>⟨hz, ?_⟩;subst e
  have hv:=v1 (by omega);refine tt ?_;refine ⟨⟨v0,by omega⟩,tt ?_⟩;refine ⟨_,(F3 B h f (ix L v)).run,tt ?_⟩
  have o : A9 H0 H ((B1,.cells 12 Ey 0)::[(id,s.obj),(Ba,.cells 15 GN 0),(Bv,.cells 7 Fe 0)]):=o.pm;refine AS o (by simp [Ey]) (by (try simp only [go_sem]); (try simp)) (by first | (simp only [go_sem]; done) | ((try simp only [go_sem]); simp [AV.one,Ay])) fun H o=>?_;unfold Ey at o;have o:=s2 o;refine tt ?_;refine AS (o.pull [_,_,_]) (by simp [Fe]) (by (try simp only [go_sem]); (try simp)) (by first | (simp only [go_sem]; done) | ((try simp only [go_sem]); simp [AV.one,Ay])) fun H o=>?_;unfold Fe at o;have o:=s2 o;refine tt ?_;refine AS (o.pull [_,_,_]) (by simp [GN]) (by (try simp only [go_sem]); (try simp)) (by first | (simp only [go_sem]; done) | ((try simp only [go_sem]); simp [AV.one,Ay])) fun H o=>?_;unfold GN at o;have o:=s2 o;refine tt ?_;rw [o.rc 15 0 (by simp),o.tl.rc 7 0 (by simp),o.tl.tl.rc 12 0 (by simp)];refine tt ?_;exact B0 ⟨k,g,⟨h,f,ix L v⟩,rfl⟩ o.sub
end Go.Proofs.Shf
