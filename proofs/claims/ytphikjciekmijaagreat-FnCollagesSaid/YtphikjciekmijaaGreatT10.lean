/- A part of a proof. -/
import Derived.Test.YtphikjciekmijaaGreatT9
set_option linter.unusedVariables false
set_option linter.unusedSimpArgs false
set_option linter.unusedSectionVars false
set_option maxRecDepth 100000
open Nat (reduceEqDiff reduceAdd reduceMul reduceLeDiff reduceLT)
namespace Go.Shf
open Go.AW
section
variable {p : PF}
theorem HL : p.RB.length=p.src.AF.toNat:=by simp [PF.RB]
theorem Es {x : Nat} (hx : x<p.src.AF.toNat) : (p.RB.getD x default).length=p.AL.AF.toNat:=by
 rw [PF.RB,Ab _ _ hx]; simp
theorem Dz {x y : Nat} (hx : x<p.src.AF.toNat) (hy : y<p.AL.AF.toNat) : (p.RB.getD x default).getD y default=(BX p x y : Int):=by
 rw [PF.RB,Ab _ _ hx,Ab _ _ hy]
end
end Go.Shf
namespace Go.Proofs.Shf
open Go.AW Go.Proofs Go.Shf
def iY (p : PF) (Ou : Nat) : List AV:=[.ref Ou 0,.ptr [iI p.src.AF],.ptr [iI p.src.AB.length],.ptr [.ptr p.src.cells],.ptr [iI (Ag p)],.ptr [.ptr p.AL.cells],.ptr [B5 p.RB],.ptr p.cells]
theorem YH (B : Nat) {p : PF} (sh : p.Shape) {x : Int} {I : List Int} {f g : Nat} (hf : f<Ap p) (hg : g<Ap p) (e : (Bp p).getD f default=(Bj p).getD g default) {Ou : Nat} {X : AV} {H : AA} (hG : H.get Ou=some (NW x (Bj p) (Bp p) I X)) :
  CB B 112 (iI f::iI g::iY p Ou) H fun r H'=>r=iI (Cv p f g)∧H'=H:=by
 refine xQ.go (ha:=by simp [iY]) fun _=>?_
 have so:=sh.sI.1.o
 have to:=sh.tI.1.o
 have sm:=sh.sI.1.m
 have tm:=sh.tI.1.m
 have Ww : Ag p=p.src.AB.length+p.AL.AB.length:=rfl
 have s6 : Ap p=Ag p+(Cs p).length:=rfl
 have Nu:=TW sh
 have ya:=Ci (p:=p)
 have hTl:=Ew sh
 have bT:=(Bp p).getD g default;unfold iY;refine tt ?_;refine Aj hG (by simp) (tt ?_);refine ⟨by omega,Aj hG (by simp) ?_⟩;refine tt ?_;refine ⟨by omega, ?_⟩
 rcases meet sh hf hg e with ⟨h1,h2,e'⟩ | ⟨a,b,ha,hb,rfl,rfl,e'⟩ | ⟨x',y,z,h1,hx,hy,hz,rfl,e'⟩ | ⟨x',y,z,b,hb,hx,hy,hz,rfl,rfl,e'⟩
 ·have d1 : decide (f<p.src.AB.length)=true:=decide_eq_true (by omega)
  have d2 : decide (g<p.src.AB.length)=true:=decide_eq_true (by omega);refine t2 d1 d2 ?_
  refine (Vs B sh.sI.1 (a:=(f : Int)) (b:=(g : Int)) ⟨by omega,by simpa using h1⟩ ⟨by omega,by simpa using h2⟩).go fun _=>tt ?_;refine ⟨H,.refl H, ?_,rfl⟩;rw [FH sh h1 h2 e',B7]
 ·have hL:=sh.sI.1.o
  have d1 : decide (p.src.AB.length+a<p.src.AB.length)=false:=decide_eq_false (by omega)
  have w1 : IntKind.i64.wrap ((Ag p : Int) - 1)=(Ag p : Int) - 1:=wrap_i64 (by omega) (by omega)
  have w2 : IntKind.i64.wrap (((p.src.AB.length+a : Nat) : Int) - (p.src.AB.length : Int))=(a : Int):=by rw [wrap_i64 (by omega) (by omega)]; omega
  have w3 : IntKind.i64.wrap (((p.src.AB.length+b : Nat) : Int) - (p.src.AB.length : Int))=(b : Int):=by rw [wrap_i64 (by omega) (by omega)]; omega
  refine tw d1 ?_;refine (Jb B _ _ _).go fun _=>?_;rw [w1,Av (show (p.src.AB.length : Int)≤((p.src.AB.length+a : Nat) : Int)∧((p.src.AB.length+a : Nat) : Int)≤(Ag p : Int) - 1 by omega)];refine t2 w2 w3 ?_
  refine ⟨_,(Vs B sh.tI.1 (a:=(a : Int)) (b:=(b : Int)) ⟨by omega,by simpa using ha⟩ ⟨by omega,by simpa using hb⟩).run, ?_⟩
  have q : 0≤B7 p.AL a b∧B7 p.AL a b<p.AL.AB.length:=(sh.tI.1.yes a b ha hb e').1
  have w4 : IntKind.i64.wrap ((p.src.AB.length : Int)+ix (ix p.AL.comp (a : Int)) (b : Int))=B7 p.AL a b+p.src.AB.length:=by
   rw [AR,AR]
   have : (p.AL.comp.getD a default).getD b default=B7 p.AL a b:=rfl;rw [this,wrap_i64 (by omega) (by omega)]; omega
  refine tt ?_;refine ⟨H,.refl H, ?_,rfl⟩;rw [Ek sh ha hb e',← w4,AR,AR]
 ·have d1 : decide (f<p.src.AB.length)=true:=decide_eq_true (by omega)
  have d2 : decide (Ag p+(BX p x' y+z)<p.src.AB.length)=false:=decide_eq_false (by omega);refine t2 d1 d2 ?_
  refine (Jb B _ _ _).go fun _=>?_;rw [Ad (show ¬ ((p.src.AB.length : Int)≤(f : Int)∧_) by omega)]
  have rf:=GH sh h1
  obtain ⟨u,eu⟩ : ∃ u : Nat,p.src.AB.getD f default=(u : Int):=⟨_,(Int.toNat_of_nonneg rf.1.1).symm⟩
  have hu : u<p.src.AF.toNat:=by omega
  obtain ⟨w,hw,Dp,ew⟩:=Eg sh h1 hx hy hz e';rw [eu,Int.toNat_natCast] at Dp ew
  have F1 : (Bj p).getD f default=(u : Int):=by rw [DQ sh h1,eu]
  have T1 : IntKind.i64.wrap ((Bp p).getD (Ag p+(BX p x' y+z)) default - p.src.AF)=(y : Int):=by rw [Fx sh hx hy hz,wrap_i64 (by omega) (by omega)]; omega
  have A1:=Dz (p:=p) hu hy
  have A2:=Dz (p:=p) hx hy
  have l1:=HL (p:=p)
  have l2:=Es (p:=p) hu
  have l3:=Es (p:=p) hx
  have at1:=Cb sh hu (y:=y) (by omega)
  have at2:=Cb sh hx (y:=y) (by omega)
  have qz:=(sh.rl (x' : Int) ⟨by omega,by omega⟩).2 (y : Int) ⟨by omega,by omega⟩
  have qu:=(sh.rl (u : Int) ⟨by omega,by omega⟩).2 (y : Int) ⟨by omega,by omega⟩
  have S2 : IntKind.i64.wrap (((Ag p+(BX p x' y+z) : Nat) : Int) - (Ag p : Int))=((BX p x' y+z : Nat) : Int):=by rw [wrap_i64 (by omega) (by omega)]; omega
  have S3 : IntKind.i64.wrap (((BX p x' y+z : Nat) : Int) - (BX p x' y : Int))=(z : Int):=by rw [wrap_i64 (by omega) (by omega)]; omega
  have S1 : IntKind.i64.wrap ((Ag p : Int)+(BX p u y : Int))=((Ag p+BX p u y : Nat) : Int):=by rw [wrap_i64 (by omega) (by omega)]; omega
  have S4 : IntKind.i64.wrap (((Ag p+BX p u y : Nat) : Int)+(w : Int))=((Ag p+(BX p u y+w) : Nat) : Int):=by rw [wrap_i64 (by omega) (by omega)]; omega
  have b1:=sh.e9 (a:=(f : Int)) ⟨by omega,by simpa using h1⟩
  have b2:=sh.Uv (a:=(f : Int)) (y:=(y : Int)) ⟨by omega,by simpa using h1⟩ ⟨by omega,by omega⟩
  have b3:=Fw sh h1 hy
  have tl:=sh.sI.1.L5
  have W1 : ((p.before.getD f default).getD y default).getD z default=(w : Int):=by rw [← hw,PF.bf,AR,AR,AR]
  try simp only [go_sem,↓reduceIte,reduceEqDiff,reduceAdd,reduceMul,reduceLeDiff,reduceLT,d1,F1,T1,S1,S2,A1,A2,S3,e',W1,S4]
  rw [AR] at b2;rw [PF.bf,AR,AR,e'] at b3;refine ⟨by omega,by omega,by omega,by simpa using b2.2,by omega,by omega,by omega,by rw [b3]; exact hz,H,.refl H, ?_,rfl⟩;rw [ew]
 ·have d1 : decide (Ag p+(BX p x' y+z)<p.src.AB.length)=false:=decide_eq_false (by omega)
  have w1 : IntKind.i64.wrap ((Ag p : Int) - 1)=(Ag p : Int) - 1:=wrap_i64 (by omega) (by omega);refine tw d1 ?_;refine (Jb B _ _ _).go fun _=>?_;rw [w1,Ad (show ¬ ((p.src.AB.length : Int)≤((Ag p+(BX p x' y+z) : Nat) : Int)∧((Ag p+(BX p x' y+z) : Nat) : Int)≤(Ag p : Int) - 1) by omega)]
  have rb:=Fc sh hb
  obtain ⟨v,ev⟩ : ∃ v : Nat,p.AL.to.getD b default=(v : Int):=⟨_,(Int.toNat_of_nonneg rb.2.1).symm⟩
  have hv : v<p.AL.AF.toNat:=by omega
  obtain ⟨w,hw,Dp,ew⟩:=Er sh hx hy hz hb e';rw [ev,Int.toNat_natCast] at Dp ew
  have F1 : (Bj p).getD (Ag p+(BX p x' y+z)) default=(x' : Int):=F5 sh hx hy hz
  have T1 : IntKind.i64.wrap ((Bp p).getD (p.src.AB.length+b) default - p.src.AF)=(v : Int):=by rw [Dd sh hb,ev,wrap_i64 (by omega) (by omega)]; omega
  have A1:=Dz (p:=p) hx hv
  have A2:=Dz (p:=p) hx hy
  have l1:=HL (p:=p)
  have l3:=Es (p:=p) hx
  have at1:=Cb sh hx (y:=v) (by omega)
  have at2:=Cb sh hx (y:=y) (by omega)
  have qz:=(sh.rl (x' : Int) ⟨by omega,by omega⟩).2 (y : Int) ⟨by omega,by omega⟩
  have qu:=(sh.rl (x' : Int) ⟨by omega,by omega⟩).2 (v : Int) ⟨by omega,by omega⟩
  have S2 : IntKind.i64.wrap (((Ag p+(BX p x' y+z) : Nat) : Int) - (Ag p : Int))=((BX p x' y+z : Nat) : Int):=by rw [wrap_i64 (by omega) (by omega)]; omega
  have S3 : IntKind.i64.wrap (((BX p x' y+z : Nat) : Int) - (BX p x' y : Int))=(z : Int):=by rw [wrap_i64 (by omega) (by omega)]; omega
  have S1 : IntKind.i64.wrap ((Ag p : Int)+(BX p x' v : Int))=((Ag p+BX p x' v : Nat) : Int):=by rw [wrap_i64 (by omega) (by omega)]; omega
  have S4 : IntKind.i64.wrap (((Ag p+BX p x' v : Nat) : Int)+(w : Int))=((Ag p+(BX p x' v+w) : Nat) : Int):=by rw [wrap_i64 (by omega) (by omega)]; omega
  have S5 : IntKind.i64.wrap (((p.src.AB.length+b : Nat) : Int) - (p.src.AB.length : Int))=(b : Int):=by rw [wrap_i64 (by omega) (by omega)]; omega
  have b1:=sh.cK (b:=(b : Int)) ⟨by omega,by simpa using hb⟩
  have b2:=sh.Uj (b:=(b : Int)) (x:=(x' : Int)) ⟨by omega,by simpa using hb⟩ ⟨by omega,by omega⟩
  have b3:=Fp sh hb hx
  have W1 : ((p.behind.getD b default).getD x' default).getD z default=(w : Int):=by rw [← hw,PF.bh,AR,AR,AR]
  try simp only [go_sem,↓reduceIte,reduceEqDiff,reduceAdd,reduceMul,reduceLeDiff,reduceLT,d1,F1,T1,S1,S2,S5,A1,A2,S3,e',W1,S4]
  rw [AR] at b2;rw [PF.bh,AR,AR,e'] at b3;refine ⟨by omega,by omega,by omega,by simpa using b2.2,by omega,by omega,by omega,by rw [b3]; exact hz,H,.refl H, ?_,rfl⟩;rw [ew]
end Go.Proofs.Shf
namespace Go.Shf
open Go.AW
def PF.LA (p : PF) : Prop:=(∀ y : Nat,y<p.AL.AF.toNat→p.LY y)∧∀ x : Nat,x<p.src.AF.toNat→∀ a : Nat,a<p.AL.AB.length→∀ b : Nat,b<p.AL.AB.length→p.LH x a b
theorem z5 {p : PF} (h : p.Is) : p.LA:=by
 have so:=h.SZ.sI.1.o
 have to:=h.SZ.tI.1.o;refine ⟨fun y hy=>⟨fun x hx=>⟨h.laws.bi _ _ ⟨by omega,by omega⟩ ⟨by omega,by omega⟩,h.laws.hi _ _ ⟨by omega,by omega⟩ ⟨by omega,by omega⟩⟩,fun a ha b hb e=>h.laws.bc _ _ _ ⟨by omega,ha⟩ ⟨by omega,hb⟩ e ⟨by omega,by omega⟩⟩,fun x hx a ha b hb e=>h.laws.hc _ _ _ ⟨by omega,ha⟩ ⟨by omega,hb⟩ e ⟨by omega,by omega⟩⟩
end Go.Shf
namespace Go.Proofs.Shf
open Go.AW Go.Proofs Go.Shf
theorem Z4 (B : Nat) (p : PF) (sh : p.Shape) : PB B 173 [.ptr p.cells] (.bool (dec p.LA)):=by
 refine ⟨fun H0=>tg.go fun _=>?_⟩
 have so:=sh.sI.1.o
 have to:=sh.tI.1.o
 have sm:=sh.sI.1.m
 have tm:=sh.tI.1.m
 have sil:=sh.sI.1.il;refine tt ?_;refine AD [0,3,4] (G:=Unit) (fun k _=>[(5,some (.int .i64 (k : Int)))]) (fun k _ H'=>H'=H0∧∀ i : Nat,i<k→p.LY i) p.AL.AF.toNat () ⟨rfl,fun i hi=>by omega⟩ rfl ?_
 rintro y _ H hy ⟨rfl,all1⟩;refine tt ?_;apply bk <;> intro h1
 ·have AU:=A6 h1
  have w:=ws y
  have L9 : p.AL.ES y:=⟨by omega,AU⟩;refine tt ?_;refine AD [0,3,4,5,34,35] (G:=Unit) (fun k _=>[(36,some (.int .i64 (k : Int)))]) (fun k _ H'=>H'=H∧∀ i : Nat,i<k→p.LI i y) p.src.Ac.length () ⟨rfl,fun i hi=>by omega⟩ rfl ?_
  rintro x _ H hx ⟨rfl,all2⟩;refine tt ?_;apply bk <;> intro h2
  ·have Aq:=A6 h2
   have W8 : p.src.ES x:=⟨by omega,by omega⟩
   have w2:=ws x
   have s4:=sh.sI.1.uT W8
   have GD:=sh.tI.1.uT L9
   have ii1:=sh.sI.1.mZ W8
   have ii2:=sh.tI.1.mZ L9
   have b1:=sh.e9 s4.1
   have b2:=sh.Uv s4.1 L9
   have b3:=sh.cK GD.1
   have b4:=sh.Uj GD.1 W8
   have z1:=sh.WK W8
   have z2:=sh.Ws W8 L9
   have q:=(sh.rl _ W8).2 _ L9
   have qq : 0≤(p.AK.getD x default).getD y default∧(p.AK.getD x default).getD y default≤64:=q;refine tt ?_
   (repeat (refine ⟨by first | exact Aq | exact ii1.2 | exact ii2.2 | exact b1 | exact b2.2 | exact b3 | exact b4.2 | exact z1.2 | exact z2.2, ?_⟩))
   refine ⟨_,(Ff B _ (by omega)).run,_,(Fi B _ _).run, ?_⟩
   by_cases e1 : (ix p.before (p.src.Ac.getD x default)).getD y default=BG ((p.AK.getD x default).getD y default)
   rotate_left
   ·rw [Ad e1];refine tt ?_;exact A5 (by rw [Ad fun h=>e1 ((h.1 y (by omega)).1 x (by omega)).1]) (.refl _)
   rw [Av e1];refine tt ?_
   (repeat (refine ⟨by first | exact Aq | exact ii1.2 | exact ii2.2 | exact b1 | exact b2.2 | exact b3 | exact b4.2 | exact z1.2 | exact z2.2, ?_⟩))
   refine ⟨_,(Ff B _ (by omega)).run,_,(Fi B _ _).run, ?_⟩
   by_cases e2 : (ix p.behind (p.AL.Ac.getD y default)).getD x default=BG ((p.AK.getD x default).getD y default)
   rotate_left
   ·rw [Ad e2];refine tt ?_;exact A5 (by rw [Ad fun h=>e2 ((h.1 y (by omega)).1 x (by omega)).2]) (.refl _)
   rw [Av e2];refine tw w2 ?_;refine A4 () Aq ⟨rfl,fun i hi=>?_⟩ rfl
   rcases Nat.lt_succ_iff_lt_or_eq.mp hi with h | rfl
   ·exact all2 i h
   ·exact ⟨e1,e2⟩
  have xB:=A7 h2
  obtain rfl : x=p.src.Ac.length:=by omega
  clear h2 hx;refine tt ?_;refine AD [0,3,4,5,99,100] (G:=Unit) (fun k _=>[(101,some (.int .i64 (k : Int)))]) (fun k _ H'=>H'=H∧∀ i : Nat,i<k→∀ j : Nat,j<p.src.AB.length→p.LB y i j) p.src.comp.length () ⟨rfl,fun i hi=>by omega⟩ rfl ?_
  rintro a _ H ha ⟨rfl,all3⟩;refine tt ?_;apply bk <;> intro h2
  ·have Aq:=A6 h2
   have Ke : p.src.DB a:=⟨by omega,by have:=sh.sI.1.cl; show (a : Int).toNat<_; omega⟩
   have w2:=Oi (k:=a) (by have:=Ke.2; omega)
   have cj:=sh.sI.1.nA Ke
   have cj : (p.src.comp.getD a default).length=p.src.AB.length:=cj;refine tt ?_;refine ⟨Aq, ?_⟩;refine AD [0,3,4,5,8,99,100,101,106,107] (G:=Unit) (fun k _=>[(108,some (.int .i64 (k : Int)))]) (fun k _ H'=>H'=H∧∀ j : Nat,j<k→p.LB y a j) (p.src.comp.getD a default).length () ⟨rfl,fun i hi=>by omega⟩ rfl ?_
   rintro b _ H hb ⟨rfl,all4⟩;refine tt ?_;apply bk <;> intro h3
   ·have BH:=A6 h3
    have OM : p.src.DB b:=⟨by omega,by show (b : Int).toNat<_; omega⟩
    have w3:=ws b;refine tt ?_;refine ⟨BH, ?_⟩
    rcases sh.sI.1.qM Ke OM with ⟨Xv,hc⟩ | hc
    ·have LF : 0≤(p.src.comp.getD a default).getD b default:=hc.1;rw [decide_eq_true LF]
     have b1:=sh.e9 hc
     have b2:=sh.Uv hc L9
     have b3:=sh.e9 Ke
     have b4:=sh.Uv Ke L9
     have b5:=sh.e9 OM
     have b6:=sh.Uv OM L9
     have m1:=(sh.bm _ Ke).2 _ L9
     have m2:=(sh.bm _ OM).2 _ L9;rw [← Xv] at m2;refine tt ?_
     (repeat (refine ⟨by first | exact b1 | exact b2.2 | exact b3.2 | exact b4.2 | exact b5.2 | exact b6.2, ?_⟩))
     refine ⟨_,P9 B m2 m1,_,(Fi B (p.bf (ix (ix p.src.comp a) b) y) (iC (p.bf b y) (p.bf a y))).run, ?_⟩
     by_cases hl : p.bf (ix (ix p.src.comp a) b) y=iC (p.bf b y) (p.bf a y)
     ·rw [Av hl];refine tw w3 ?_;refine A4 () BH ⟨rfl,fun i hi=>?_⟩ rfl
      rcases Nat.lt_succ_iff_lt_or_eq.mp hi with h | rfl
      ·exact all4 i h
      ·exact fun _=>hl
     ·rw [Ad hl];refine tt ?_;exact A5 (by rw [Ad fun h=>hl ((h.1 y (by omega)).2 a Ke.2 b OM.2 Xv)]) (.refl _)
    ·have LF : ¬ 0≤(p.src.comp.getD a default).getD b default:=by
      have e : (p.src.comp.getD a default).getD b default=-1:=hc;omega
     rw [decide_eq_false LF];refine tw w3 ?_;refine A4 () BH ⟨rfl,fun i hi=>?_⟩ rfl
     rcases Nat.lt_succ_iff_lt_or_eq.mp hi with h | rfl
     ·exact all4 i h
     ·exact fun Xv=>absurd (Kh sh.sI Ke OM Xv) LF
   ·have MP:=A7 h3
    obtain rfl : b=(p.src.comp.getD a default).length:=by omega
    refine tw w2 ?_;refine A4 () Aq ⟨rfl,fun i hi=>?_⟩ rfl
    rcases Nat.lt_succ_iff_lt_or_eq.mp hi with h | rfl
    ·exact all3 i h
    ·rw [cj] at all4; exact all4
  ·have MP:=A7 h2
   obtain rfl : a=p.src.comp.length:=by omega
   refine tw w ?_;refine A4 () (by omega) ⟨rfl,fun i hi=>?_⟩ rfl
   rcases Nat.lt_succ_iff_lt_or_eq.mp hi with h | rfl
   ·exact all1 i h
   ·exact ⟨fun x hx=>all2 x (by omega),fun a ha=>all3 a (by have:=sh.sI.1.cl; omega)⟩
 have AU:=A7 h1
 obtain rfl : y=p.AL.AF.toNat:=by omega
 clear h1 AU hy;refine tt ?_;refine AD [0,3,4] (G:=Unit) (fun k _=>[(12,some (.int .i64 (k : Int)))]) (fun k _ H'=>H'=H∧∀ i : Nat,i<k→∀ a : Nat,a<p.AL.AB.length→∀ b : Nat,b<p.AL.AB.length→p.LH i a b) p.src.AF.toNat () ⟨rfl,fun i hi=>by omega⟩ rfl ?_
 rintro y _ H hy ⟨rfl,all5⟩;refine tt ?_;apply bk <;> intro h1
 ·have AU:=A6 h1
  have w:=ws y
  have L9 : p.src.ES y:=⟨by omega,AU⟩;refine tt ?_;refine AD [0,3,4,12,163,164] (G:=Unit) (fun k _=>[(165,some (.int .i64 (k : Int)))]) (fun k _ H'=>H'=H∧∀ i : Nat,i<k→∀ b : Nat,b<p.AL.AB.length→p.LH y i b) p.AL.comp.length () ⟨rfl,fun i hi=>by omega⟩ rfl ?_
  rintro a _ H ha ⟨rfl,all6⟩;refine tt ?_;apply bk <;> intro h2
  ·have Aq:=A6 h2
   have Ke : p.AL.DB a:=⟨by omega,by have:=sh.tI.1.cl; show (a : Int).toNat<_; omega⟩
   have w2:=Oi (k:=a) (by have:=Ke.2; omega)
   have cj:=sh.tI.1.nA Ke
   have cj : (p.AL.comp.getD a default).length=p.AL.AB.length:=cj;refine tt ?_;refine ⟨Aq, ?_⟩;refine AD [0,3,4,12,13,163,164,165,170,171] (G:=Unit) (fun k _=>[(172,some (.int .i64 (k : Int)))]) (fun k _ H'=>H'=H∧∀ j : Nat,j<k→p.LH y a j) (p.AL.comp.getD a default).length () ⟨rfl,fun i hi=>by omega⟩ rfl ?_
   rintro b _ H hb ⟨rfl,all7⟩;refine tt ?_;apply bk <;> intro h3
   ·have BH:=A6 h3
    have OM : p.AL.DB b:=⟨by omega,by show (b : Int).toNat<_; omega⟩
    have w3:=ws b;refine tt ?_;refine ⟨BH, ?_⟩
    rcases sh.tI.1.qM Ke OM with ⟨Xv,hc⟩ | hc
    ·have LF : 0≤(p.AL.comp.getD a default).getD b default:=hc.1;rw [decide_eq_true LF]
     have b1:=sh.cK hc
     have b2:=sh.Uj hc L9
     have b3:=sh.cK Ke
     have b4:=sh.Uj Ke L9
     have b5:=sh.cK OM
     have b6:=sh.Uj OM L9
     have m1:=(sh.hm _ Ke).2 _ L9
     have m2:=(sh.hm _ OM).2 _ L9;rw [← Xv] at m2;refine tt ?_
     (repeat (refine ⟨by first | exact b1 | exact b2.2 | exact b3.2 | exact b4.2 | exact b5.2 | exact b6.2, ?_⟩))
     refine ⟨_,P9 B m1 m2,_,(Fi B (p.bh (ix (ix p.AL.comp a) b) y) (iC (p.bh a y) (p.bh b y))).run, ?_⟩
     by_cases hl : p.bh (ix (ix p.AL.comp a) b) y=iC (p.bh a y) (p.bh b y)
     ·rw [Av hl];refine tw w3 ?_;refine A4 () BH ⟨rfl,fun i hi=>?_⟩ rfl
      rcases Nat.lt_succ_iff_lt_or_eq.mp hi with h | rfl
      ·exact all7 i h
      ·exact fun _=>hl
     ·rw [Ad hl];refine tt ?_;exact A5 (by rw [Ad fun h=>hl (h.2 y (by omega) a Ke.2 b OM.2 Xv)]) (.refl _)
    ·have LF : ¬ 0≤(p.AL.comp.getD a default).getD b default:=by
      have e : (p.AL.comp.getD a default).getD b default=-1:=hc;omega
     rw [decide_eq_false LF];refine tw w3 ?_;refine A4 () BH ⟨rfl,fun i hi=>?_⟩ rfl
     rcases Nat.lt_succ_iff_lt_or_eq.mp hi with h | rfl
     ·exact all7 i h
     ·exact fun Xv=>absurd (Kh sh.tI Ke OM Xv) LF
   ·have MP:=A7 h3
    obtain rfl : b=(p.AL.comp.getD a default).length:=by omega
    refine tw w2 ?_;refine A4 () Aq ⟨rfl,fun i hi=>?_⟩ rfl
    rcases Nat.lt_succ_iff_lt_or_eq.mp hi with h | rfl
    ·exact all6 i h
    ·rw [cj] at all7; exact all7
  ·have MP:=A7 h2
   obtain rfl : a=p.AL.comp.length:=by omega
   refine tw w ?_;refine A4 () (by omega) ⟨rfl,fun i hi=>?_⟩ rfl
   rcases Nat.lt_succ_iff_lt_or_eq.mp hi with h | rfl
   ·exact all5 i h
   ·exact fun a ha=>all6 a (by have:=sh.tI.1.cl; omega)
 ·have Sd:=A7 h1
  obtain rfl : y=p.src.AF.toNat:=by omega
  refine tt ?_;exact A5 (by rw [Av ⟨all1,all5⟩]) (.refl _)
theorem JJ (B : Nat) (p : PF) : PB B 76 [.ptr p.cells] (.bool (dec p.Is)):=by
 refine ⟨fun H0=>c76.go fun _=>tt ?_⟩;refine (Qk B p).go fun _=>?_
 by_cases sh : p.Shape
 rotate_left
 ·rw [Ad sh];refine tt ?_;exact A5 (by rw [Ad fun h=>sh h.SZ]) (.refl _)
 rw [Av sh]
 have sm:=sh.sI.1.m
 have tm:=sh.tI.1.m
 have bl:=sh.bl
 have hl:=sh.hl;refine tt ?_;refine (Z4 B p sh).go fun _=>?_
 by_cases la : p.LA
 rotate_left
 ·rw [Ad la];refine tt ?_;exact A5 (by rw [Ad fun h=>la (z5 h)]) (.refl _)
 rw [Av la];refine tt ?_;refine AD [0,3,4,27] (G:=Unit) (fun k _=>[(28,some (.int .i64 (k : Int)))]) (fun k _ H'=>H'=H0∧∀ i : Nat,i<k→∀ b : Nat,b<p.AL.AB.length→p.LL i b) p.before.length () ⟨rfl,fun i hi=>by omega⟩ rfl ?_
 rintro a _ H ha ⟨rfl,all8⟩;refine tt ?_;apply bk <;> intro h1
 ·have AU:=A6 h1
  have w:=ws a
  have Ke : p.src.DB a:=⟨by omega,by show (a : Int).toNat<_; omega⟩;refine tt ?_;refine AD [0,3,4,5,27,28,35] (G:=Unit) (fun k _=>[(36,some (.int .i64 (k : Int)))]) (fun k _ H'=>H'=H∧∀ j : Nat,j<k→p.LL a j) p.behind.length () ⟨rfl,fun i hi=>by omega⟩ rfl ?_
  rintro b _ H hb ⟨rfl,all9⟩;refine tt ?_;apply bk <;> intro h2
  ·have Aq:=A6 h2
   have w2:=ws b
   have OM : p.AL.DB b:=⟨by omega,by show (b : Int).toNat<_; omega⟩
   have fa:=sh.sI.1.pO Ke
   have ta:=sh.sI.1.qR Ke
   have fb:=sh.tI.1.pO OM
   have tb:=sh.tI.1.qR OM
   have i1:=sh.sI.1.v9 Ke
   have i2:=sh.tI.1.v9 OM
   have b1:=sh.Uv Ke fb
   have b2:=sh.Uv Ke tb
   have b3:=sh.Uj OM fa
   have b4:=sh.Uj OM ta
   have m1:=(sh.bm _ Ke).2 _ fb
   have m2:=(sh.bm _ Ke).2 _ tb
   have m3:=(sh.hm _ OM).2 _ fa
   have m4:=(sh.hm _ OM).2 _ ta;refine tt ?_
   (repeat (refine ⟨by first | exact AU | exact Aq | exact Ke.2 | exact OM.2 | exact i1.2 | exact i2.2 | exact b1 | exact b2 | exact b3 | exact b4, ?_⟩))
   refine ⟨_,P9 B m1 m3,tt ?_⟩
   (repeat (refine ⟨by first | exact AU | exact Aq | exact Ke.2 | exact OM.2 | exact i1.2 | exact i2.2 | exact b1 | exact b2 | exact b3 | exact b4, ?_⟩))
   refine ⟨_,P9 B m4 m2,tt ?_⟩;refine (Fi B (iC (p.bf a (ix p.AL.AB b)) (p.bh b (ix p.src.AB a))) (iC (p.bh b (ix p.src.to a)) (p.bf a (ix p.AL.to b)))).go fun _=>?_
   by_cases law : iC (p.bf a (ix p.AL.AB b)) (p.bh b (ix p.src.AB a))=iC (p.bh b (ix p.src.to a)) (p.bf a (ix p.AL.to b))
   ·rw [Av law];refine tw w2 ?_;refine A4 () Aq ⟨rfl,fun i hi=>?_⟩ rfl
    rcases Nat.lt_succ_iff_lt_or_eq.mp hi with h | rfl
    ·exact all9 i h
    ·exact law
   ·rw [Ad law];refine tt ?_;exact A5 (by rw [Ad fun h=>law (h.laws.bb _ _ Ke OM)]) (.refl _)
  ·have xB:=A7 h2
   obtain rfl : b=p.behind.length:=by omega
   refine tw w ?_;refine A4 () AU ⟨rfl,fun i hi=>?_⟩ rfl
   rcases Nat.lt_succ_iff_lt_or_eq.mp hi with h | rfl
   ·exact all8 i h
   ·rw [hl] at all9; exact all9
 ·have Sd:=A7 h1
  obtain rfl : a=p.before.length:=by omega
  refine tt ?_;exact A5 (by rw [Av ⟨sh,VB la.1 la.2 (by rw [bl] at all8; exact all8)⟩]) (.refl _)
end Go.Proofs.Shf
namespace Go.AW
@[go_sem] def XN (q : Int × Int) : AV:=.agg [iI q.1,iI q.2]
instance : Lq 2 XN:=⟨by omega,fun _=>rfl,fun _=>rfl,fun a c hc=>by
 simp only [XN,AV.cells,List.mem_cons,List.not_mem_nil,or_false] at hc
 rcases hc with rfl | rfl <;> rfl⟩
end Go.AW
namespace Go.Proofs.Shf
open Go.AW Go.Proofs Go.Shf
@[go_sem] def Kb (f g : SF) (X fv : AV) : AG:=.cells 5 [.ptr f.cells,.ptr g.cells,.bool false,X,fv] 0
end Go.Proofs.Shf
