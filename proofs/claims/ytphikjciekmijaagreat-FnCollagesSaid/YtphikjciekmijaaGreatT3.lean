/- Contracts, part 3. -/
import Derived.Test.YtphikjciekmijaaGreatT2
set_option linter.unusedVariables false
set_option linter.unusedSimpArgs false
set_option linter.unusedSectionVars false
set_option maxRecDepth 100000
open Nat (reduceEqDiff reduceAdd reduceMul reduceLeDiff reduceLT)
namespace Go.Proofs.Shf
open Go.AW Go.Proofs Go.Shf
@[go_sem] noncomputable def mR (f : SF) (V : List (List Int)) : List AV:=[iI f.shape.AF,iL f.shape.AB,iL f.shape.to,iL f.shape.Ac,B5 f.shape.comp,iL (P4 f V),B5 (Sr f V),BE (UK f V)]
def Q1 (ls : List Lk) (ks vs : List AV) : Prop:=(∀ i : Int,KH 0 (iI i) ks) ∧
 ∀ i : Int,(Hw (iI i) ks vs).getD .A0=mL Lh (ls.filter fun l=>decide (l.i=i))∨((Hw (iI i) ks vs).getD .A0=.A0∧(ls.filter fun l=>decide (l.i=i))=[])
theorem Um (B : Nat) (AK : List Int) (ls : List Lk) (Iz : J2 AK ls) (Im : AK.length≤1000) (TY : ls.length≤1000000) (ks vs : List AV) (hM : Q1 ls ks vs) (E9 Jf Qx DC : Nat) (fv : AV) :
  ∀ (n : Nat) (p : List Int),Cn p=n→FW AK p→∀ (H0 H : AA) (l : List (Nat × AG)) (X : AV) (note : List Int) (i : Nat) (e : Int),
   CP iI H0 H ((Jf,.cells 1 [X] 0)::(E9,.cells 1 (p.map iI) 0)::l) X note→(Qx,.map ks vs)∈l→i<p.length→0≤e∧e<AK.getD i default→note.length+Cn p≤1000 →
   CB B 275 [.FX [iL AK,.Fa Qx,.buf E9 AK.length,fv] DC,.int .i64 i,.int .i64 e,.ref Jf 0] H
    (fun r H'=>∃ ok p' N X',r=.bool ok∧CP iI H0 H' ((Jf,.cells 1 [X'] 0)::(E9,.cells 1 (p'.map iI) 0)::l) X' (note++N)∧Hd AK ls p i e p' N ok∧N.length+Cn p'≤Cn p):=by
 intro n
 induction n using Nat.strongRecOn with
 | _ n ih =>
 intro p hn hp H0 H l X note i e hX hm hi he hnb;refine tP.go fun _=>?_
 have Nw:=hp.1;refine tt ?_
 have hgL:=hX.get (x:=(E9,.cells 1 (p.map iI) 0)) (by simp);refine ⟨by omega,D1 hgL hi ?_⟩;refine tt ?_;apply bk <;> intro h1
 ·refine tt ?_
  have AU:=A6 h1;refine ⟨by omega,D1 hgL hi ?_⟩;refine tt ?_;exact ⟨H,.refl _,_,p,[],X,rfl,by rw [List.append_nil]; exact hX,.JK hp hi (by omega),by simp⟩
 refine tt ?_
 have AU:=A7 h1
 have h0 : p.getD i default=-1:=(hp.2 i hi).resolve_right fun h=>by omega
 obtain ⟨q,o,hq⟩:=hX.split;refine ⟨by omega,BT e (A9.fI q o) rfl hi fun H o=>?_⟩;refine tt ?_
 have hX:=CP.mk (A9.fT q o) hq;clear o hq;refine Aj hX.obj (by simp) (tt ?_);refine hX.app (i : Int) rfl (by simp only [AN]; omega) fun Ac H o=>tt ?_;refine sw o.swap fun H o=>?_
 have hX : CP iI H0 H ((Jf,.cells 1 [.buf Ac (note++[(i : Int)]).length] 0)::(E9,.cells 1 ((p.set i e).map iI) 0)::l) (.buf Ac (note++[(i : Int)]).length) (note++[(i : Int)]):=.inr ⟨Ac,rfl,o.swap⟩;clear o
 have hgM:=hX.get (x:=(Qx,.map ks vs)) (by simp [hm]);refine tt ?_;rw [hgM];refine tt ?_;refine ⟨hM.1 i, ?_⟩
 have hV:=hM.2 i
 generalize hVv : (Hw (iI i) ks vs).getD .A0=V at *
 generalize o9 : (ls.filter fun l=>decide (l.i=(i : Int)))=rs at *
 have hlen : Ds (some V)=some (True,.int .i64 rs.length):=by
  rcases hV with rfl | ⟨rfl,rfl⟩
  ·exact cN rs
  ·rfl
 refine tw hlen ?_
 have WA : rs.length≤1000000:=by rw [← o9]; exact Nat.le_trans (List.length_filter_le _ _) TY
 have lB : ∀ j,j<rs.length→rs.getD j default∈ls∧(rs.getD j default).i=i:=by
  intro j hj
  have : rs.getD j default∈(ls.filter fun l=>decide (l.i=(i : Int))):=by rw [o9]; exact AE.mpr ⟨j,hj,rfl⟩
  rw [List.mem_filter,decide_eq_true_eq] at this;exact this
 have hun : Cn (p.set i e)<Cn p:=Ku hi h0 he.1
 refine AD [0,2,3,48,49] (G:=List Int × List Int × AV) (fun k _=>[(50,some (.int .i64 (k : Int)))])
  (fun k g H=>CP iI H0 H ((Jf,.cells 1 [g.2.2] 0)::(E9,.cells 1 (g.1.map iI) 0)::l) g.2.2 (note++g.2.1)∧Ld AK ls p i e rs k g.1 g.2.1∧g.2.1.length+Cn g.1≤Cn p∧0<g.2.1.length) rs.length (p.set i e,[(i : Int)],.buf Ac (note++[(i : Int)]).length)
  ⟨hX,.zero hp hi h0 he,by simp only [List.length_singleton]; omega,by simp⟩ rfl ?_
 rintro k ⟨p',N,X'⟩ H hk ⟨hX,hL,jl,hN0⟩;dsimp only at hX hL jl hN0;refine tt ?_;apply bk <;> intro h2
 ·have Aq:=A6 h2
  have w2:=ws k
  have hVr : V=mL Lh rs:=hV.resolve_right fun h=>by rw [h.2] at Aq; simp at Aq
  rw [hVr]
  have GZ:=lB k Aq
  generalize hr : rs.getD k default=r at *
  have bj:=Iz.ok.j r GZ.1
  have bl:=Iz.ok.left r GZ.1;rw [GZ.2,AR] at bl
  have l9:=Iz.lf r GZ.1 _ (BL (i:=e) (l:=r.left) (by omega))
  obtain ⟨q,o,hq⟩:=hX.split;refine tt ?_;refine ⟨Aq,by simp [AN],Ai o fun HZ H o=>?_⟩;rw [hr];refine tt ?_;refine sw o fun H o=>tt ?_;refine AH o (by simp) (tt ?_);refine AH o (by simp) (tt ?_);refine ⟨⟨he.1,by omega⟩, ?_⟩
  have hX:=CP.mk o.tl hq;clear o hq
  have Nv : FW AK p':=hL.uN hp
  have hsl' : p'.length=p.length:=hL.len
  have RF : r.j=((r.j.toNat : Nat) : Int):=(Int.toNat_of_nonneg bj.1).symm;rw [RF];refine (ih (Cn p') (by omega) p' rfl Nv H0 H l X' (note++N) r.j.toNat (ix r.left e) hX hm (by omega) ⟨l9.1,l9.2⟩ (by rw [List.length_append]; omega)).mono ?_
  rintro v H' ⟨ok,p2,N2,X2,rfl,Uw,hQ,hNu2⟩;rw [List.append_assoc] at Uw;refine tt ?_
  cases ok with
  | true =>
   refine tt ?_;refine tw w2 ?_
   have Ed:=hL.step hp hi Aq (by rw [hr]; omega) (by omega) (by rw [hr]; exact bj.1) (by rw [hr]; exact hQ) (fun j hj=>?_) lB Iz
   ·exact A4 (p2,N++N2,X2) (by omega) ⟨Uw,Ed,by simp only [List.length_append]; omega,by simp only [List.length_append]; omega⟩ rfl
   ·have jh:=lB j hj
    have bj:=Iz.ok.j _ jh.1
    have bl:=Iz.ok.left _ jh.1;rw [jh.2,AR] at bl
    have l9:=Iz.lf _ jh.1 _ (BL (i:=e) (l:=(rs.getD j default).left) (by omega));exact ⟨bj.1,by omega,l9.1⟩
  | false =>
   refine tt ?_;refine ⟨H',.refl _,false,p2,N++N2,X2,rfl,Uw,hL.fail hp hi h0 Aq (by rw [hr]; exact hQ) (by omega) lB Iz,by simp only [List.length_append]; omega⟩
 ·have Aq:=A7 h2;refine tt ?_;refine ⟨H,.refl _,true,p',N,X',rfl,hX,hL.done (by omega) fun l hl e2=>?_,jl⟩;rw [← o9,List.mem_filter];exact ⟨hl,decide_eq_true e2⟩
end Go.Proofs.Shf
namespace Go.AW
open Go.Proofs Go.Proofs.Shf
theorem A9.ext {H0 H H' : AA} {l : List (Nat × AG)} (h : A9 H0 H l) (k : H.sub H') : A9 H0 H' l :=
 ⟨h.sub.trans k,fun x hx=>k _ _ (h.get x hx),h.nd,h.out⟩
theorem CP.ext {α : Type} {f : α→AV} {H0 H H' : AA} {l : List (Nat × AG)} {X : AV} {A : List α} (h : CP f H0 H l X A) (k : H.sub H') : CP f H0 H' l X A:=by
 rcases h with ⟨h1,h2,h⟩ | ⟨id,h1,h⟩
 ·exact .inl ⟨h1,h2,h.ext k⟩
 ·exact .inr ⟨id,h1,h.ext k⟩
theorem Sk {α : Type} [Inhabited α] {f : α→AV} [One f] {B : Nat} {H : AA} {id n fr : Nat} {A : List α} (h0 : H.get id=some (.cells 1 (A.map f) fr)) (hn : n=A.length) :
  ∀ g w v,Ao g B H w→Aa g (.buf id n) v→Aa (g.Df H w) (mL f A) v:=by
 subst hn
 have:=Tr.buf (H:=H) id fr (A.map f) (A.map f) h0 rfl (fun i hi=>by rw [List.length_map] at hi; rw [getD_map A hi]; exact C7 _) (fun i _=>.val _);rw [List.length_map] at this;exact this.arg
theorem A9.FL {H0 H : AA} {l l' : List (Nat × AG)} (h : A9 H0 H l) (k : l'.Sublist l) : A9 H0 H l' :=
 ⟨h.sub,fun x hx=>h.get x (k.subset hx),h.nd.sublist (k.map _),fun x hx=>h.out x (k.subset hx)⟩
theorem CP.FL {α : Type} {f : α→AV} {H0 H : AA} {l l' : List (Nat × AG)} {X : AV} {A : List α} (h : CP f H0 H l X A) (k : l'.Sublist l) : CP f H0 H l' X A:=by
 rcases h with ⟨h1,h2,h⟩ | ⟨id,h1,h⟩
 ·exact .inl ⟨h1,h2,h.FL k⟩
 ·exact .inr ⟨id,h1,h.FL (k.cons_cons _)⟩
theorem Lp.Ds {α : Type} {f : α→AV} {p : List (Nat × AG)} {X : AV} {A : List α} (h : Lp f p X A) : Ds (some X)=some (True,.int .i64 A.length):=by
 rcases h with ⟨_,rfl,rfl⟩ | ⟨id,_,rfl⟩ <;> rfl
theorem Lp.sub {α : Type} {f : α→AV} {p : List (Nat × AG)} {X : AV} {A : List α} (h : Lp f p X A) {i : Nat} (hi : i<A.length) : ∃ id,p=[(id,.cells 1 (A.map f) 0)]∧X=.buf id A.length:=by
 rcases h with ⟨_,_,rfl⟩ | h
 ·simp at hi
 ·exact h
theorem Xx {α : Type} (A B C l : List α) : (A++(B++(C++l))).Perm (C++(B++(A++l))):=by
 have : (A++(B++C)).Perm (C++(B++A)):=by
  refine (List.perm_append_comm).trans ?_;rw [← List.append_assoc];exact List.Perm.append_right A List.perm_append_comm
 simpa using List.Perm.append_right l this
theorem B9.ri {α : Type} [Inhabited α] {f : α→AV} [One f] {P : Program} {B : Nat} {fn : FuncId} {args : List AV} {H : AA} {Q : List α→Prop} {K : Ak} (h : B9 P B fn args H (O2 f H [] Q))
  (hk : ∀ A H',H.sub H'→Q A→K (mL f A) H') : B9 P B fn args H K:=by
 refine ⟨h.1,fun g w vs hW hv=>(h.2 g w vs hW hv).mono fun e w' ⟨v,he,g',r,H',a,⟨id,A,e1,o,q⟩,c,d,k⟩=>?_⟩;subst e1
 obtain ⟨g2,q1,q2,q3⟩:=d.fO o.h0;exact ⟨v,he,g2,mL f A,_,a.trans q1,hk A _ (Go.AW.CV o.sub (o.out _ (by simp))) q,q3 g2 v (.refl _) (c.mono q1),q2,k⟩
end Go.AW
namespace Go.Proofs.Shf
open Go.AW Go.Proofs Go.Shf
theorem Ym (B : Nat) (most : Nat) (GY : most≤1048576) (p : List Int) (H0 H : AA) (l : List (Nat × AG)) (E9 En n : Nat) (X : AV) (out : List (List Int)) (hn : n=p.length)
  (hX : CP iL H0 H ((En,.cells 1 [X] 0)::l) X out) (hm : (E9,.cells 1 (p.map iI) 0)∈l) (ho : out.length≤most) :
  CB B 223 [.buf E9 n,.ref En 0,.ptr [.int .i64 most]] H (fun r H'=>∃ X',r=.bool (decide (out.length+1≤most))∧CP iL H0 H' ((En,.cells 1 [X'] 0)::l) X' (out++[p])):=by
 refine qH.go fun _=>?_;refine tt ?_;refine Aj hX.obj (by simp) (tt ?_)
 have hc : CB B 73 [.buf E9 n] H (O2 iI H [] (·=p)) :=
  B9.VO (f:=iI) (Q:=(·=p)) (es:=[iL p]) (A9.nil H) (fun _=>.int _ _) rfl (fun i hi=>by
   obtain rfl : i=0:=by simp only [List.length_cons,List.length_nil] at hi; omega
   exact Sk (hX.get (x:=(E9,.cells 1 (p.map iI) 0)) (by simp [hm])) hn) (P6 B p H.NJ H.NJ [] (.nil _)) fun id A H' o q=>⟨id,A,rfl,o,q⟩
 refine hc.ri fun A H1 hs hA=>⟨hs, ?_⟩;subst hA
 have hX:=hX.ext hs;refine tt ?_;refine hX.app A rfl (by simp only [AN]; omega) fun Ac H o=>tt ?_;refine sw o.swap fun H o=>tt ?_
 have hX : CP iL H0 H ((En,.cells 1 [.buf Ac (out++[A]).length] 0)::l) (.buf Ac (out++[A]).length) (out++[A]):=.inr ⟨Ac,rfl,o.swap⟩;refine Aj hX.obj (by simp) (tt ?_);exact ⟨H,.refl _,_,by simp,hX⟩
end Go.Proofs.Shf
namespace Go.AW
open Go.Proofs Go.Shf Go.Proofs.Shf
theorem J6 {l : List Int} {a : Int} (h : 0≤indexOf l a) : (indexOf l a).toNat<l.length∧l.getD (indexOf l a).toNat default=a∧∀ m,m<(indexOf l a).toNat→l.getD m default≠a:=by
 have hm:=(Fu l a).mp h
 have hi:=BO hm;refine ⟨hi.2.1,hi.2.2,fun m ET e=>?_⟩;unfold indexOf at ET
 split at ET
 ·rename_i i hs
  rw [List.idxOf?_eq_some_iff] at hs
  obtain ⟨h1,h2,h3⟩:=hs
  have yU : m<i:=by simpa using ET
  have h4 : m<l.length:=by omega
  have:=h3 m yU;exact this (by simpa [Go.AW.gE,h4] using e)
 ·simp at ET
end Go.AW
namespace Go.Proofs.Shf
open Go.AW Go.Proofs Go.Shf
theorem Ti (B : Nat) (AK : List Int) (ls : List Lk) (Iz : J2 AK ls) (Im : AK.length≤1000) (Xo : ∀ i,i<AK.length→AK.getD i default≤1000000) (TY : ls.length≤1000000) (ks vs : List AV) (hM : Q1 ls ks vs) (most : Nat) (GY : most≤1048576) (E9 Qx DC En : Nat) :
  ∀ (n : Nat) (p : List Int),Cn p=n→FW AK p→JF ls p→∀ (H0 H : AA) (l : List (Nat × AG)) (X : AV) (out : List (List Int)),
   CP iL H0 H ((En,.cells 1 [X] 0)::(E9,.cells 1 (p.map iI) 0)::l) X out→(Qx,.map ks vs)∈l→out.length≤most →
   CB B 224 [.FX [iL AK,.Fa Qx,.buf E9 AK.length,.fn (.func 223) [.ref En 0,.ptr [.int .i64 most]]] DC] H
    (fun r H'=>∃ X',r=.bool (decide (out.length+(Fv AK ls p).length≤most))∧CP iL H0 H' ((En,.cells 1 [X'] 0)::(E9,.cells 1 (p.map iI) 0)::l) X' (out++(Fv AK ls p).take (most+1 - out.length))):=by
 intro n
 induction n using Nat.strongRecOn with
 | _ n ih =>
 intro p hn hp hc H0 H l X out hX hm ho;refine rZ.go fun _=>?_
 have Nw:=hp.1;refine tt ?_;refine B9.KP (es:=[iL p,.int .i64 (-1)]) (.int _ _) rfl (fun i hi=>?_) (RY B p (-1)).run ?_
 ·obtain rfl | rfl : i=0∨i=1:=by simp only [List.length_cons,List.length_nil] at hi; omega
  ·exact Sk (hX.get (x:=(E9,.cells 1 (p.map iI) 0)) (by simp)) Nw.symm
  ·exact KC _
 have hib:=FI p (-1);refine tt ?_;apply bk <;> intro h1
 ·refine tt ?_
  have AU:=A6 h1
  have Au : ∀ m,m<p.length→p.getD m default≠-1:=fun m hm e=>by
   have:=(Fu p (-1)).mpr (AE.mpr ⟨m,hm,e⟩);omega
  have hex : Fv AK ls p=[p]:=FA (Mx (hc.cons Iz hp) Au);rw [hex];refine (Ym B most GY p H0 H ((E9,.cells 1 (p.map iI) 0)::l) E9 En AK.length X out Nw.symm hX (by simp) ho).mono ?_
  rintro r H' ⟨X',rfl,hX⟩;refine tt ?_;refine ⟨H',.refl _,X',rfl, ?_⟩;rw [List.take_of_length_le (by simp; omega)];exact hX
 have AU:=A7 h1
 obtain ⟨f1,f2,f3⟩:=J6 (l:=p) (a:=-1) (by omega)
 generalize xu : indexOf p (-1)=ii at *
 obtain ⟨i,rfl⟩ : ∃ i : Nat,ii=(i : Int):=⟨ii.toNat,by omega⟩;rw [Int.toNat_natCast] at f1 f2 f3
 have XU:=aZ Iz hp hc f1 f2 f3
 replace XU : Fv AK ls p=Bo AK ls p i (AK.getD i default).toNat:=XU
 have hbi:=Xo i (by omega);refine tt ?_;refine ⟨by omega, ?_⟩
 generalize CW : AK.getD i default=sz at *
 refine AD [0,3,32] (G:=AV) (fun k _=>[(33,some (.int .i64 (k : Int)))])
  (fun k X H=>CP iL H0 H ((En,.cells 1 [X] 0)::(E9,.cells 1 (p.map iI) 0)::l) X (out++Bo AK ls p i k)∧out.length+(Bo AK ls p i k).length≤most) sz.toNat X
  ⟨by rw [Ls,List.append_nil]; exact hX,by rw [Ls]; exact ho⟩ rfl ?_
 rintro k X H hk ⟨hX,TP⟩
 replace hX : CP iL H0 H ((En,.cells 1 [X] 0)::(E9,.cells 1 (p.map iI) 0)::l) X (out++Bo AK ls p i k):=hX
 replace TP : out.length+(Bo AK ls p i k).length≤most:=TP;refine tt ?_;apply bk <;> intro h2
 rotate_left
 ·have Aq:=A7 h2;refine tt ?_
  have dQ : k=sz.toNat:=by omega
  refine ⟨H,.refl _,X, ?_, ?_⟩
  ·rw [XU,← dQ,decide_eq_true TP]
  ·rw [XU,← dQ,List.take_of_length_le (by omega)]; exact hX
 have Aq:=A6 h2
 have w2:=ws k
 obtain ⟨pp,o,KY⟩:=hX.split;clear hX;refine tt ?_;refine AP o fun TN H o=>tt ?_;refine Ai o fun Bv H o=>tt ?_;refine sw o fun H o=>tt ?_
 have hX : CP iI H0 H ((Bv,.cells 1 [.buf TN 0] 0)::(E9,.cells 1 (p.map iI) 0)::(pp++(En,.cells 1 [X] 0)::l)) (.buf TN 0) [] :=
  .inr ⟨TN,rfl,o.swap.perm (.cons _ (.cons _ (by
   refine (List.Perm.append_left pp (List.Perm.swap _ _ _)).trans List.perm_middle)))⟩
 clear o
 refine (Um B AK ls Iz Im TY ks vs hM E9 Bv Qx DC (.fn (.func 223) [.ref En 0,.ptr [.int .i64 most]]) _ p rfl hp H0 H (pp++(En,.cells 1 [X] 0)::l) (.buf TN 0) [] i k hX (by simp [hm]) f1 ⟨by omega,by omega⟩ (by
  have : Cn p≤p.length:=List.countP_le_length;simp only [List.length_nil]; omega)).mono ?_
 rintro v H ⟨ok,p',N,X',rfl,hX,hQ,jl⟩;rw [List.nil_append] at hX
 obtain ⟨q,o,hq⟩:=hX.split
 have hY : CP iL H0 H ((En,.cells 1 [X] 0)::(E9,.cells 1 (p'.map iI) 0)::(q++(Bv,.cells 1 [X'] 0)::l)) X (out++Bo AK ls p i k):=by
  refine CP.mk (p:=pp) (o.perm ?_) KY
  have:=Xx (q++[(Bv,AG.cells 1 [X'] 0)]) [(E9,.cells 1 (p'.map iI) 0)] (pp++[(En,.cells 1 [X] 0)]) l
  simpa using this
 clear o hX
 have hUn:=hQ.jC
 have Tb:=LU AK ls p i k
 have IK:=UQ AK ls p i (k:=k+1) (m:=sz.toNat) (by omega)
 have Nv : p'.length=p.length:=hQ.len
 have hNb : ∀ j,j<N.length→0≤N.getD j default∧(N.getD j default).toNat<p'.length:=fun j hj=>by
  have:=(hQ.new (N.getD j default)).mp (AE.mpr ⟨j,hj,rfl⟩);exact ⟨this.1,by omega⟩
 have vo : N.length≤1000:=by
  have : Cn p≤p.length:=List.countP_le_length;omega
 cases ok
 case' true =>
  have oL:=XF (ls:=ls) (AK:=AK) (hQ.ext_iff f1 f2 ⟨by omega,by omega⟩);refine tt ?_;refine (ih (Cn p') (by rw [← hn]; exact Yh hQ f1 f2 (by omega) jl) p' rfl ⟨by omega,fun r hr=>hQ.part r (by omega)⟩ (hc.set Iz hp hQ) H0 H (q++(Bv,.cells 1 [X'] 0)::l) X (out++Bo AK ls p i k) hY (by simp [hm]) (by simp; exact TP)).mono ?_;clear hY
  rintro v H ⟨X2,rfl,hY⟩;rw [← oL] at hY ⊢
  generalize hb : decide ((out++Bo AK ls p i k).length+(Fv AK ls (p.set i k)).length≤most)=b
  replace hb : b=decide (out.length+(Bo AK ls p i (k+1)).length≤most):=by
   rw [← hb,Tb]; simp only [List.length_append]; congr 1; rw [Nat.add_assoc]
  refine tt ?_
 case' false =>
  have oL:=hQ.none f1 f2 ⟨by omega,by omega⟩;refine tt ?_
  generalize Uw : X=X2 at hY
  generalize hb : true=b
  replace hb : b=decide (out.length+(Bo AK ls p i (k+1)).length≤most):=by
   rw [← hb,Tb,oL,List.append_nil,decide_eq_true TP]
  replace hY : CP iL H0 H ((En,.cells 1 [X2] 0)::(E9,.cells 1 (p'.map iI) 0)::(q++(Bv,.cells 1 [X'] 0)::l)) X2 ((out++Bo AK ls p i k)++(Fv AK ls (p.set i k)).take (most+1 - (out++Bo AK ls p i k).length)):=by
   rw [oL]; simpa using hY
 all_goals
  generalize hA : (out++Bo AK ls p i k)++(Fv AK ls (p.set i k)).take (most+1 - (out++Bo AK ls p i k).length)=A at hY
  have hlN:=hq.Ds;refine Aj (hY.get (x:=(Bv,.cells 1 [X'] 0)) (by simp)) (by simp) ?_;refine tw hlN ?_
  refine AD [0,3,7,32,33,47,48] (G:=Unit) (fun j _=>[(49,some (.int .i64 (j : Int)))])
   (fun j _ H=>CP iL H0 H ((En,.cells 1 [X2] 0)::(E9,.cells 1 ((GG p' N j).map iI) 0)::(q++(Bv,.cells 1 [X'] 0)::l)) X2 A) N.length ()
   (by rw [WE]; exact hY) rfl ?_
  clear hY
  rintro j _ H hj hY
  replace hY : CP iL H0 H ((En,.cells 1 [X2] 0)::(E9,.cells 1 ((GG p' N j).map iI) 0)::(q++(Bv,.cells 1 [X'] 0)::l)) X2 A:=hY;refine tt ?_;apply bk <;> intro h3
  ·have BH:=A6 h3
   have wj:=ws j
   obtain ⟨Ac,rfl,rfl⟩:=hq.sub BH
   have hb:=hNb j BH;refine tt ?_;refine ⟨BH,D1 (f:=iI) (hY.get (x:=(Ac,.cells 1 (N.map iI) 0)) (by simp)) BH ?_⟩;refine tt ?_
   obtain ⟨qq,o,mA⟩:=hY.split;refine ⟨⟨hb.1,by omega⟩,BT (-1) (A9.fI qq o) rfl (by rw [TG]; exact hb.2) fun H o=>?_⟩
   have hY:=CP.mk (A9.fT qq o) mA;rw [← Wu p' N BH hb.1] at hY;refine tw wj ?_;exact A4 () BH hY rfl
  ·have BH:=A7 h3
   have Ng : j=N.length:=by omega
   rw [Ng,hUn] at hY
   have hY:=hY.FL (l':=(En,.cells 1 [X2] 0)::(E9,.cells 1 (p.map iI) 0)::l) (.cons_cons _ (.cons_cons _ ((List.sublist_cons_self _ _).trans (List.sublist_append_right _ _))))
   obtain ⟨r,hr⟩:=IK
   cases b
   ·refine tt ?_
    have dW:=of_decide_eq_false hb.symm;refine ⟨H,.refl _,X2, ?_, ?_⟩
    ·rw [XU,hr,decide_eq_false];simp only [List.length_append]; omega
    ·rw [XU,hr,Tb];rw [Tb,List.length_append] at dW
     have e : (Bo AK ls p i k++Fv AK ls (p.set i k)++r).take (most+1 - out.length)=Bo AK ls p i k++(Fv AK ls (p.set i k)).take (most+1 - (out++Bo AK ls p i k).length):=by
      rw [List.append_assoc,List.take_append,List.take_of_length_le (by omega),List.take_append,List.length_append];rw [show most+1 - out.length - (Bo AK ls p i k).length=most+1 - (out.length+(Bo AK ls p i k).length) by omega];rw [show most+1 - (out.length+(Bo AK ls p i k).length) - (Fv AK ls (p.set i k)).length=0 by omega]
      simp
     rw [e,← List.append_assoc,hA]; exact hY
   ·refine tw w2 ?_
    have dW:=of_decide_eq_true hb.symm;refine A4 X2 (by omega) ⟨?_,dW⟩ rfl;rw [Tb,List.length_append] at dW;rw [List.take_of_length_le (by rw [List.length_append]; omega)] at hA;rw [Tb,← List.append_assoc,hA]; exact hY
end Go.Proofs.Shf
namespace Go.AW
def iB (b : UInt8) : AV:=.int .u8 (b.toNat : Int)
instance : One iB:=⟨fun _=>rfl,fun _=>rfl⟩
structure Src where
 code : List UInt8
 pl : Int
 hash : Int
def Src.cells (s : Src) : List AV:=[mL iB s.code,.int .i64 s.pl,.int .u64 s.hash]
def Src.Ok (s : Src) : Prop:=0≤s.pl∧s.code.length≤AN
def Src.obj (s : Src) : AG:=.cells 3 s.cells 0
def sH (id : Nat) (H0 : AA) (Q : AV→Prop) : Ak:=fun r H'=>Q r∧∃ s' : Src,s'.Ok∧A9 H0 H' [(id,s'.obj)]
theorem A9.self {H0 H : AA} {id : Nat} {o : AG} {l : List (Nat × AG)} (h : A9 H0 H ((id,o)::l)) : A9 (H.del id) H [(id,o)] where
 sub:=fun i x hx=>by
  by_cases e : i=id
  ·subst e; rw [AA.C1] at hx; cases hx
  ·rwa [AA.Bd _ e] at hx
 get:=fun x hx=>by
  rw [List.mem_singleton] at hx; subst hx;exact h.get _ (by simp)
 nd:=by simp
 out:=fun x hx=>by
  rw [List.mem_singleton] at hx; subst hx;exact AA.C1 _ _
end Go.AW
namespace Go.Proofs.Shf
open Go.AW Go.Proofs Go.Shf
theorem Us {a x : Int} (h : IntKind.i64.wrap (IntKind.u64.wrap ((BitVec.ofInt IntKind.u64.bits a &&& BitVec.ofInt IntKind.u64.bits 16777215).toNat : Int))=x) : 0≤x∧x≤16777215:=by
 have h1 : (BitVec.ofInt IntKind.u64.bits a &&& BitVec.ofInt IntKind.u64.bits 16777215).toNat≤16777215:=by
  rw [BitVec.toNat_and]
  have : (BitVec.ofInt IntKind.u64.bits 16777215).toNat=16777215:=rfl;rw [this];exact Nat.and_le_right
 generalize (BitVec.ofInt IntKind.u64.bits a &&& BitVec.ofInt IntKind.u64.bits 16777215).toNat=m at h h1
 have e : IntKind.u64.wrap (m : Int)=m:=by
  have : IntKind.u64.wrap (m : Int)=(m : Int) % 18446744073709551616:=by simp only [IntKind.wrap]; rfl
  omega
 rw [e,wrap_i64 (by omega) (by omega)] at h;omega
def Rd (B : Nat) (fn : FuncId) (args : List AV) (Q : AV→Prop) : Prop :=
 ∀ (id : Nat) (s : Src) (H0 H : AA),s.Ok→A9 H0 H [(id,s.obj)]→CB B fn (.ref id 0::args) H (sH id H0 Q)
theorem Rd.go {B : Nat} {fn : FuncId} {args : List AV} {Q : AV→Prop} {id : Nat} {s : Src} {H0 H : AA} {l : List (Nat × AG)} {K : Ak} (h : Rd B fn args Q) (hs : s.Ok) (o : A9 H0 H ((id,s.obj)::l))
  (hk : ∀ (r : AV) (s' : Src) (H' : AA),r.Dn→Q r→s'.Ok→A9 H0 H' ((id,s'.obj)::l)→K r H') : CB B fn (.ref id 0::args) H K :=
 (h id s _ H hs o.self).IG fun r H' hf ⟨q,s',J9,o'⟩=>hk r s' H' hf q J9 (o.del.trans o')
theorem B4 {id : Nat} {s : Src} {H0 H : AA} {l : List (Nat × AG)} {Q : AV→Prop} {v : AV} (q : Q v) (hs : s.Ok) (o : A9 H0 H ((id,s.obj)::l)) : Lc (sH id H0 Q) v H :=
 ⟨H,.refl H,q,s,hs,o.FL (by simp)⟩
def Dt (B : Nat) (fn : FuncId) (args : List AV) (Q : AV→Prop) : Prop:=∀ H,CB B fn args H fun r H'=>Q r∧H'=H
theorem Dt.go {B : Nat} {fn : FuncId} {args : List AV} {Q : AV→Prop} {H : AA} {K : Ak} (h : Dt B fn args Q) (hk : ∀ r,r.Dn→Q r→K r H) : CB B fn args H K :=
 (h H).IG fun r H' hf ⟨q,e⟩=>by subst e; exact hk r hf q
theorem B0 {H0 H : AA} {Q : AV→Prop} {v : AV} (q : Q v) (h : H0.sub H) : Lc (fun r H'=>Q r∧H'=H0) v H:=⟨H0,h,q,rfl⟩
theorem AY (B : Nat) (n : Int) : Rd B 53 [iI n] fun r=>∃ k : Int,r=iI k∧0≤k∧(1≤n→k<n)∧(n<1→k=0):=by
 intro id s H0 H hs o;refine c53.go fun hf=>?_;refine tt ?_;apply bk <;> intro h1
 ·have AU:=A6 h1;refine tt ?_;exact B4 ⟨0,rfl,by omega,by omega,fun _=>rfl⟩ hs o
 ·have AU:=A7 h1;refine tt ?_
  obtain ⟨code,pl,hash⟩:=s;simp only [Src.obj,Src.cells] at o;simp only [Src.Ok,AN] at hs;refine AH o (by simp) (tt ?_);refine sw o fun H o=>tt ?_;refine AH o (by simp) (tt ?_)
  generalize hx : IntKind.i64.wrap (IntKind.u64.wrap _)=x
  have Lv:=Us hx;clear hx;refine ⟨by omega,AH o (by simp) ?_⟩;refine tt ?_;refine AH o (by simp) (tt ?_);apply bk <;> intro h2
  ·have Aq:=A6 h2;refine tt ?_;refine AH o (by simp) (tt ?_);refine AH o (by simp) (tt ?_);refine ⟨⟨hs.1,by omega⟩, ?_⟩
   have hb:=(ix code pl).toNat_lt;try simp only [go_sem,↓reduceIte,reduceEqDiff,reduceAdd,reduceMul,reduceLeDiff,reduceLT,iB]
   generalize (ix code pl).toNat=b at hb ⊢
   have e1 : IntKind.i64.wrap (b : Int)=b:=wrap_i64 (by omega) (by omega)
   have e2 : IntKind.i64.wrap (x+b)=x+b:=wrap_i64 (by omega) (by omega)
   have e3 : IntKind.i64.wrap (pl+1)=pl+1:=wrap_i64 (by omega) (by omega);refine t2 e1 e2 ?_
   refine AH o (by simp) ?_;refine tw e3 ?_;refine sw o fun H o=>tt ?_;refine ⟨by omega,B4 (s:=⟨code,pl+1,_⟩) ⟨(x+b).tmod n,rfl, ?_, ?_, ?_⟩ ⟨by show 0≤pl+1; omega,hs.2⟩ o⟩
   ·exact Int.tmod_nonneg _ (by omega)
   ·intro h; exact Int.tmod_lt_of_pos _ (by omega)
   ·intro h; omega
  ·refine tt ?_;refine ⟨by omega,B4 (s:=⟨code,pl,_⟩) ⟨x.tmod n,rfl, ?_, ?_, ?_⟩ hs o⟩
   ·exact Int.tmod_nonneg _ (by omega)
   ·intro h; exact Int.tmod_lt_of_pos _ (by omega)
   ·intro h; omega
theorem N0 (B : Nat) (l : List Int) (hl : l≠[]) : Rd B 213 [iL l] fun r=>∃ k : Int,r=iI k∧k∈l:=by
 intro id s H0 H hs o;refine vp.go fun hf=>?_
 have hp : 0<l.length:=List.length_pos_iff.mpr hl;refine tt ?_;refine (AY B l.length).go hs o fun r s' H hr ⟨k,e,h0,h1,_⟩ hs o=>?_;subst e
 have h1:=h1 (by omega);refine tt ?_;refine ⟨⟨h0,by omega⟩,tt ?_⟩;exact B4 ⟨_,rfl,BL (by omega)⟩ hs o
def fB (H0 : AA) : Ak:=fun r H'=>∃ (id : Nat) (s : Src),r=.ref id 0∧s.Ok∧A9 H0 H' [(id,s.obj)]
theorem U5 (B : Nat) (code : List UInt8) (H0 : AA) : CB B 50 [mL iB code] H0 (fB H0):=by
 refine qa.go fun ⟨hf,_⟩=>?_
 have hl:=AZ hf
 have o0:=hl;simp only [AN] at o0;refine tt ?_;refine nb (.nil _) fun id H o=>tt ?_;refine AD [0,3] (G:=Int) (fun k _=>[(4,some (.int .i64 (k : Int)))]) (fun k h H=>A9 H0 H [(id,.cells 3 [mL iB code,.int .i64 0,.int .u64 h] 0)]) code.length _ o rfl ?_;clear o
 rintro k h H hk o
 have o : A9 H0 H [(id,.cells 3 [mL iB code,.int .i64 0,.int .u64 h] 0)]:=o
 have Zn : fB H0 (.ref id 0) H:=⟨id,⟨code,0,h⟩,rfl,⟨Int.le_refl 0,hl⟩,o⟩;refine tt ?_;apply bk <;> intro h1
 ·have AU:=A6 h1;refine tw h1 ?_;apply bk <;> intro h2
  ·refine tt ?_;refine AH o (by simp) ?_
   have w:=ws k;try simp only [go_sem,↓reduceIte,reduceEqDiff,reduceAdd,reduceMul,reduceLeDiff,reduceLT,iB]
   refine ⟨by omega, ?_⟩;try simp only [go_sem,↓reduceIte,reduceEqDiff,reduceAdd,reduceMul,reduceLeDiff,reduceLT,iB]
   refine sw o fun H o=>?_;refine tw w ?_;exact A4 _ (by omega) o rfl
  ·refine tt ?_;exact ⟨H,.refl H,Zn⟩
 ·refine tw h1 ?_;exact ⟨H,.refl H,Zn⟩
theorem kN (B : Nat) (code : List UInt8) : PB B 7 [mL iB code] (.bool (decide (4096<code.length))):=by
 refine ⟨fun H0=>c7.go fun hf=>tt ?_⟩;refine A5 ?_ (.refl _)
 congr 1
 exact decide_eq_decide.mpr (by omega)
theorem EK (B : Nat) (a b : List Int) : PB B 29 [iL a,iL b] (.bool (dec (a=b))):=by
 refine ⟨fun H0=>c29.go fun ⟨hf,hg,_⟩=>?_⟩
 have hl:=AZ hf
 have Ce:=AZ hg;simp only [AN] at hl Ce;refine tt ?_;apply bk <;> intro h0
 ·refine tt ?_
  have MG : a.length≠b.length:=by simpa using h0
  exact A5 (by rw [Ad]; rintro rfl; exact MG rfl) (.refl _)
 have MG : a.length=b.length:=by simpa using h0
 refine tt ?_;refine AD [0,1] (fun k _=>[(5,some (.int .i64 (k : Int)))]) (fun k _ H=>H=H0∧∀ i,i<k→a.getD i default=b.getD i default) a.length () ⟨rfl,by simp⟩ rfl ?_
 rintro k _ H hk ⟨rfl,Au⟩;refine tt ?_;apply bk <;> intro h1
 ·have h1:=A6 h1
  have w1:=ws k;refine tt ?_;refine ⟨h1,by omega,tt ?_⟩;apply bk <;> intro h2
  ·refine tt ?_
   have Aq : a.getD k default≠b.getD k default:=by simpa using h2
   exact A5 (by rw [Ad]; rintro rfl; exact Aq rfl) (.refl _)
  ·refine tw w1 ?_
   have Aq : a.getD k default=b.getD k default:=by simpa using h2
   exact A4 () (by omega) ⟨rfl,AM Au Aq⟩ rfl
 ·refine tt ?_
  have h1:=A7 h1;refine A5 ?_ (.refl _);rw [Av];refine List.ext_getElem MG fun i hi hj=>?_
  have:=Au i (by omega)
  simpa [Go.AW.gE,hi,hj] using this
end Go.Proofs.Shf
namespace Go.AW
@[go_sem] theorem iX : AV.Dg.cells=[.Dg]:=rfl
@[go_sem] theorem pZ : AV.Dg.one=true:=rfl
@[go_sem] theorem rB : (3≤AN)=True:=by simp [AN]
@[go_sem] theorem tY : (4≤AN)=True:=by simp [AN]
@[go_sem] theorem sE : (5≤AN)=True:=by simp [AN]
theorem NU {l r : Ob} (h : ∀ x,@List.count _ (@instBEqOfDecidableEq _ (Classical.typeDecidableEq _)) x l=@List.count _ (@instBEqOfDecidableEq _ (Classical.typeDecidableEq _)) x r) : l.Perm r:=by
 letI : DecidableEq (Nat × AG):=Classical.typeDecidableEq _
 exact List.perm_iff_count.mpr h
def zU {α : Type} (f : α→AV) (p : List (Nat × AG)) (X : AV) (A : List α) : Prop :=
 (p=[]∧X=.Dg∧A=[])∨∃ id,p=[(id,.cells 1 (A.map f) 0)]∧X=.buf id A.length
theorem zU.o {α : Type} {f : α→AV} {H0 H : AA} {l p : List (Nat × AG)} {X : AV} {A : List α} (h : zU f p X A) (o : A9 H0 H (p++l)) : oI f H0 H l X A:=by
 rcases h with ⟨rfl,h1,h2⟩ | ⟨id,rfl,h1⟩
 ·exact .inl ⟨h1,h2,o⟩
 ·exact .inr ⟨id,h1,o⟩
theorem jP {F : Env→AA→Prop} {σ : Env} {H0 H : AA} {l : List (Nat × AG)} {id sz fr : Nat} {cs : List AV} (k : Nat)
  (o : A9 H0 H ((id,.cells sz cs fr)::l)) (hc : cs[k]? = some .Dg) (hk : ∀ H',A9 H0 H' ((id,.cells sz (cs.set k (.sl [])) fr)::l)→EX F σ H') : EX F σ H:=by
 have h1:=o.h0;simp only at h1;refine D5 (σ1:=σ) ?_ (hk _ (o.put (.cells sz (cs.set k (.sl [])) fr)))
 intro g B w tm hW hE;refine ⟨g,.refl g,hW.Tp h1 (by simp) fun j v hj hv=>?_,hE⟩
 by_cases e : j=k
 ·subst e
  have e1 : cs.getD j nv=.Dg:=by rw [Go.AW.gE,hc]; rfl
  have e2 : (cs.set j (.sl [])).getD j nv=.sl []:=by simp [Go.AW.gE,hj]
  rw [e1] at hv; rw [e2]
  cases hv; exact .slnil _ 0
 ·have e2 : (cs.set k (.sl [])).getD j nv=cs.getD j nv:=by
   rw [Go.AW.gE,List.getElem?_set_ne (by omega),← Go.AW.gE]
  rw [e2]; exact hv
theorem rK {α : Type} [Inhabited α] {f : α→AV} [One f] {F : Env→AA→Prop} {σ : Env} {H0 H : AA} {l p : List (Nat × AG)} {id sz fr : Nat} {cs : List AV} {X : AV} {A : List α} (k : Nat)
  (h : zU f p X A) (o : A9 H0 H (p++((id,.cells sz cs fr)::l))) (hc : cs[k]? = some X)
  (hk : ∀ H',A9 H0 H' ((id,.cells sz (cs.set k (mL f A)) fr)::l)→EX F σ H') : EX F σ H:=by
 rcases h with ⟨rfl,rfl,rfl⟩ | ⟨GD,rfl,rfl⟩
 ·exact jP k o hc hk
 ·exact B6 k o.swap hc rfl hk
end Go.AW
namespace Go.Shf
open Go.AW
def T9 (N : Nat) (r : AV) : Prop:=∃ c : Ax,r=.agg c.cells∧c.Good N
def uz (r : AV) : Prop:=∃ T : List (List Int),r=B5 T∧iQ T
def PoQ (r : AV) : Prop:=∃ T : List (List Int),r=B5 T∧fC T
def SqT (n : Nat) (T : List (List Int)) : Prop:=T.length≤n∧∀ i,i<T.length→(T.getD i default).length=T.length
def SqQ (n : Nat) (r : AV) : Prop:=∃ T : List (List Int),r=B5 T∧SqT n T
end Go.Shf
namespace Go.Proofs.Shf
open Go.AW Go.Proofs Go.Shf
theorem Gl (B : Nat) : Rd B 245 [] uz:=by
 intro id s H0 H hs o;refine tc.go fun hf=>?_;refine tt ?_;refine (AY B 8).go hs o fun r s' H hr ⟨k,e,h0,h1,_⟩ hs o=>?_;subst e;refine tt ?_;apply bk <;> intro q0
 ·refine tt ?_;exact B4 ⟨[[0]],rfl,by decide,by decide,by decide,by decide⟩ hs o
 refine tt ?_;apply bk <;> intro q1
 ·refine tt ?_;exact B4 ⟨[[0,1],[1,0]],rfl,by decide,by decide,by decide,by decide⟩ hs o
 refine tt ?_;apply bk <;> intro q2
 ·refine tt ?_;exact B4 ⟨[[0,1],[1,1]],rfl,by decide,by decide,by decide,by decide⟩ hs o
 refine tt ?_;apply bk <;> intro q3
 ·refine tt ?_;exact B4 ⟨[[0,1,2],[1,2,0],[2,0,1]],rfl,by decide,by decide,by decide,by decide⟩ hs o
 refine tt ?_;apply bk <;> intro q4
 ·refine tt ?_;exact B4 ⟨[[0,1,2],[1,1,2],[2,2,2]],rfl,by decide,by decide,by decide,by decide⟩ hs o
 refine tt ?_;apply bk <;> intro q5
 ·refine tt ?_;exact B4 ⟨[[0,1,2],[1,1,2],[2,1,2]],rfl,by decide,by decide,by decide,by decide⟩ hs o
 refine tt ?_;apply bk <;> intro q6
 ·refine tt ?_;exact B4 ⟨[[0,1,2,3],[1,0,2,3],[2,3,2,3],[3,2,2,3]],rfl,by decide,by decide,by decide,by decide⟩ hs o
 refine tt ?_;exact B4 ⟨[[0,1,2],[1,2,2],[2,2,2]],rfl,by decide,by decide,by decide,by decide⟩ hs o
theorem TF (B : Nat) : Dt B 246 [] (T9 6):=by
 intro H0;refine vu.go fun hf=>?_;refine tt ?_;refine fun i1 n1=>tt ?_;refine B0 ⟨⟨2,[0,1,0,0,1],[0,1,0,1,0],[0,1],[[0,-1,2,3,-1],[-1,1,-1,-1,4],[2,-1,2,3,-1],[-1,3,-1,-1,2],[4,-1,4,1,-1]]⟩,rfl,⟨by decide,by decide,by decide,by decide,by decide,by decide⟩,.of (by decide) (by decide) (by decide) (by decide)⟩ ?_
 repeat (first | exact .refl _ | refine CV ?_ n1)
theorem N8 (B : Nat) (c : Ax) : PB B 162 [.agg c.cells] (.bool (dec (c.AF≤8∧c.AB.length≤40))):=by
 refine ⟨fun H0=>vn.go fun hf=>tt ?_⟩;apply bk <;> intro h1
 ·refine tw h1 ?_
  exact A5 (by
   have AU:=A6 h1
   congr 1
   rw [BK];exact BJ ⟨fun h=>⟨AU,by omega⟩,fun h=>by have:=h.2; omega⟩) (.refl _)
 ·refine tw h1 ?_;exact A5 (by rw [Ad (fun h=>A7 h1 h.1)]) (.refl _)
theorem H9 (B : Nat) (T : List (List Int)) (hT : iQ T) : Dt B 244 [B5 T] (T9 4):=by
 intro H0;refine rJ.go fun hf=>?_;refine tt ?_;refine Ai (.nil _) fun id H o=>tt ?_;refine ⟨_,(Gp ..).run,tt ?_⟩
 have hT4:=hT.l4
 have hc : (T.length : Int)≤T.length∧T.length≤AN∧T.length≤AN:=⟨by omega,by simp only [AN]; omega,by simp only [AN]; omega⟩;refine ⟨?_, ?_⟩
 ·refine ⟨hc,EI iI 0 rfl o fun i7 H o=>?_⟩;refine tt ?_;refine ⟨hc,EI iI 0 rfl o fun i9 H o=>?_⟩;refine tt ?_
  have o:=o.pull [_,_];simp only [List.cons_append,List.nil_append] at o;refine sw o fun H o=>tt ?_;refine B6 2 o rfl (by simp) fun H o=>?_;have o:=s1 o;refine B6 1 o rfl (by simp) fun H o=>AX ?_;have o:=s1 o;refine tt ?_
  have hr:=o.rc 5 0 (by simp);simp only [List.drop_zero] at hr;rw [hr];refine tt ?_;exact B0 ⟨La T,rfl,Oz hT⟩ o.sub
 ·refine ⟨hc,EI iI 0 rfl o fun i9 H o=>?_⟩;refine tt ?_;refine ⟨hc,EI iI 0 rfl o fun i7 H o=>?_⟩;refine tt ?_
  have o:=o.pull [_,_];simp only [List.cons_append,List.nil_append] at o;refine sw o fun H o=>tt ?_;refine B6 1 o rfl (by simp) fun H o=>?_;have o:=s1 o;refine B6 2 o rfl (by simp) fun H o=>AX ?_;have o:=s1 o;refine tt ?_
  have hr:=o.rc 5 0 (by simp);simp only [List.drop_zero] at hr;rw [hr];refine tt ?_;exact B0 ⟨La T,rfl,Oz hT⟩ o.sub
theorem YR (B : Nat) (N : Nat) (hN : N≤4096) (c : Ax) (hg : c.Good N) : Dt B 247 [.agg c.cells] (T9 N):=by
 intro H0;refine s8.go fun hf=>?_
 have hc:=hg.1
 have Ee:=hc.ob
 have ET:=hc.ml
 have Jc:=hc.tl
 have RG:=hc.cl
 have Bf:=hc.row;refine tt ?_;refine Ai (.nil _) fun GD H o=>tt ?_;refine ⟨_,(CX ..).run,tt ?_⟩;refine ⟨_,(CX ..).run,tt ?_⟩;refine ⟨_,(CX ..).run,tt ?_⟩;refine Ai o fun C9 H o=>tt ?_;refine sw o fun H o=>tt ?_
 refine AD [1,2,3] (G:=AV × Ob × List (List Int)) (fun k _=>[(4,some (.int .i64 (k : Int)))])
  (fun k g H=>zU iL g.2.1 g.1 g.2.2∧g.2.2=(List.range k).map (fun f=>(List.range c.AB.length).map fun g=>(c.comp.getD g default).getD f default)∧A9 H0 H (g.2.1++[(C9,AG.cells 5 [iI c.AF,iL c.to,iL c.AB,iL c.Ac,g.1] 0),(GD,AG.cells 5 [iI 0,.A0,.A0,.A0,.A0] 0)])) c.AB.length (.Dg,[],[])
  ⟨.inl ⟨rfl,rfl,rfl⟩,rfl,o⟩ rfl ?_
 clear o
 rintro k ⟨X,p,A⟩ H hk ⟨hX,hE,o⟩;dsimp only at hX hE
 have hA : A.length=k:=by rw [hE]; simp
 dsimp only at o;refine tt ?_;apply bk <;> intro h1
 ·have AU:=A6 h1;refine tt ?_;refine AP o fun Bt H o=>tt ?_
  refine AD [1,2,3,4] (G:=Nat × List Int) (fun j g=>[(5,some (.buf g.1 g.2.length)),(6,some (.int .i64 (j : Int)))])
   (fun j g H=>g.2=(List.range j).map (fun g=>(c.comp.getD g default).getD k default)∧A9 H0 H ((g.1,.cells 1 (g.2.map iI) 0)::(p++[(C9,AG.cells 5 [iI c.AF,iL c.to,iL c.AB,iL c.Ac,X] 0),(GD,AG.cells 5 [iI 0,.A0,.A0,.A0,.A0] 0)]))) c.AB.length (Bt,[]) ⟨rfl,o⟩ rfl ?_
  clear o
  rintro j ⟨Bt,row⟩ H hj ⟨Dv,o⟩;dsimp only at Dv
  have WA : row.length=j:=by rw [Dv]; simp
  dsimp only at o;refine tt ?_;apply bk <;> intro h2
  ·have Aq:=A6 h2
   have w:=ws j
   have xL:=Bf j Aq;refine tt ?_;refine ⟨by omega,by omega, ?_⟩;refine Ae _ o rfl rfl (by simp only [AN]; omega) fun Bt H o=>?_;refine tw w ?_;exact A4 (Bt,_) Aq ⟨by rw [Dv,List.range_succ,List.map_append]; simp [ix],o⟩ rfl
  ·have Aq:=A7 h2
   have Ng : j=c.AB.length:=by omega
   refine tt ?_;refine Am o rfl fun H o=>tt ?_;refine Aj (o.get (C9,AG.cells 5 [iI c.AF,iL c.to,iL c.AB,iL c.Ac,X] 0) (by simp)) (by simp) (tt ?_);refine (hX.o o).app row rfl (by simp only [AN]; omega) fun Bz H o=>tt ?_;refine sw o.swap fun H o=>?_
   have w:=ws k;refine tw w ?_
   exact A4 (_,[(Bz,.cells 1 ((A++[row]).map iL) 0)],A++[row]) AU ⟨.inr ⟨Bz,rfl,rfl⟩,by
    show A++[row]=_
    rw [hE,Dv,Ng,List.range_succ (n:=k),List.map_append]; simp,o.swap⟩ rfl
 ·have AU:=A7 h1;refine tt ?_;refine rK 4 hX o rfl fun H o=>AX ?_;have o:=s1 o;refine tt ?_;refine AO o (by simp) (tt ?_);refine sw o.swap fun H o=>tt ?_
  have CG:=o.rc 5 0 (by simp);simp only [List.drop_zero] at CG;rw [CG];refine tt ?_
  have dQ : k=c.AB.length:=by omega
  exact B0 ⟨bt c,by rw [hE,dQ]; rfl,YE hg⟩ o.sub
theorem KG (B : Nat) (R : List (List Int)) (hR : fC R) : Dt B 163 [B5 R] (fun r=>r=.agg (Xh R).cells):=by
 intro H0;refine uG.go fun hf=>?_
 have xc:=hR.l4
 have Bf:=hR.row;refine tt ?_;refine Ai (.nil _) fun GD H o=>tt ?_;refine AP o fun Jf H o=>tt ?_;refine AP o fun a H o=>tt ?_;refine AP o fun b H o=>tt ?_;refine AP o fun i H o=>tt ?_;refine AP o fun d H o=>tt ?_;refine Ai o fun Bv H o=>tt ?_;refine sw o fun H o=>tt ?_
 obtain ⟨n,hn⟩ : ∃ n,R.length=n:=⟨_,rfl⟩;rw [hn] at xc Bf o;rw [hn]
 refine AD [0,2,3,5] (G:=(Nat × List Int) × (Nat × List Int) × (Nat × List (List Int))) (fun k g=>[(4,some (.buf g.2.2.1 g.2.2.2.length)),(6,some (.int .i64 (k : Int)))])
  (fun k g H=>g.1.2=Fg (Di R k)∧g.2.1.2=HV (Di R k)∧g.2.2.2=(List.range k).map (fun i=>(List.range n).map fun j=>(HQ R i j : Int)) ∧
   A9 H0 H [(Bv,AG.cells 5 [iI n,.buf g.1.1 g.1.2.length,.buf g.2.1.1 g.2.1.2.length,.buf i 0,.buf d 0] 0),(g.1.1,AG.cells 1 (g.1.2.map iI) 0),(g.2.1.1,AG.cells 1 (g.2.1.2.map iI) 0),(g.2.2.1,AG.cells 1 (g.2.2.2.map iL) 0),
    (i,AG.cells 1 [] 0),(d,AG.cells 1 [] 0),(GD,AG.cells 5 [iI 0,.A0,.A0,.A0,.A0] 0)]) n ((a,[]),(b,[]),(Jf,[]))
  ⟨rfl,rfl,rfl,o.pm⟩ rfl ?_
 clear o
 rintro k ⟨⟨a,A⟩,⟨b,C⟩,⟨Jf,rows⟩⟩ H hk ⟨ER,F0,dU,o⟩;dsimp only at ER F0 dU
 have hC : C.length=A.length:=by rw [ER,F0]; simp [Fg,HV]
 have hA : A.length≤k*n:=by rw [ER,Fg,List.length_map,← hn]; exact MA k
 have WA : rows.length=k:=by rw [dU]; simp
 have jc : ∀ r,r∈rows→r.length=n:=fun r hr=>by
  rw [dU] at hr
  obtain ⟨i,_,rfl⟩:=List.mem_map.mp hr
  simp
 replace o : A9 H0 H [(Bv,AG.cells 5 [iI n,.buf a A.length,.buf b C.length,.buf i 0,.buf d 0] 0),(a,AG.cells 1 (A.map iI) 0),(b,AG.cells 1 (C.map iI) 0),(Jf,AG.cells 1 (rows.map iL) 0),
    (i,AG.cells 1 [] 0),(d,AG.cells 1 [] 0),(GD,AG.cells 5 [iI 0,.A0,.A0,.A0,.A0] 0)]:=o
 refine tt ?_;apply bk <;> intro h1
 ·have AU:=A6 h1;refine tt ?_;refine AP o fun Bt H o=>tt ?_
  have hkn : k*n+n≤16:=by
   have : (k+1)*n≤4*4:=Nat.mul_le_mul (by omega) (by omega);rw [Nat.succ_mul] at this; omega
  refine AD [0,2,3,4,5,6] (G:=(Nat × List Int) × (Nat × List Int) × (Nat × List Int)) (fun j g=>[(7,some (.buf g.1.1 g.1.2.length)),(8,some (.int .i64 (j : Int)))])
   (fun j g H=>g.1.2=(List.range j).map (fun j=>(HQ R k j : Int))∧g.2.1.2=Fg (Di R k++Nr R k j)∧g.2.2.2=HV (Di R k++Nr R k j) ∧
    A9 H0 H [(g.1.1,AG.cells 1 (g.1.2.map iI) 0),(Bv,AG.cells 5 [iI n,.buf g.2.1.1 g.2.1.2.length,.buf g.2.2.1 g.2.2.2.length,.buf i 0,.buf d 0] 0),(g.2.1.1,AG.cells 1 (g.2.1.2.map iI) 0),(g.2.2.1,AG.cells 1 (g.2.2.2.map iI) 0),(Jf,AG.cells 1 (rows.map iL) 0),
    (i,AG.cells 1 [] 0),(d,AG.cells 1 [] 0),(GD,AG.cells 5 [iI 0,.A0,.A0,.A0,.A0] 0)]) n ((Bt,[]),(a,A),(b,C))
   ⟨rfl,by rw [Nr,List.append_nil]; exact ER,by rw [Nr,List.append_nil]; exact F0,o⟩ rfl ?_
  clear o hA ER F0 hC
  rintro j ⟨⟨Bt,row⟩,⟨a,A⟩,⟨b,C⟩⟩ H hj ⟨Dv,ER,F0,o⟩;dsimp only at Dv ER F0
  have gN : row.length=j:=by rw [Dv]; simp
  have hC : C.length=A.length:=by rw [ER,F0]; simp [Fg,HV]
  have ln : A.length=HQ R k j:=by rw [ER,Fg,List.length_map]; rfl
  have hA : A.length≤k*n+j:=by
   rw [ln,HQ,List.length_append,← hn]
   have:=MA (R:=R) k
   have:=QT (R:=R) k j;omega
  have o9 : row++[(A.length : Int)]=(List.range (j+1)).map (fun j=>(HQ R k j : Int)):=by rw [Dv,List.range_succ,List.map_append,ln]; rfl
  replace o : A9 H0 H [(Bt,AG.cells 1 (row.map iI) 0),(Bv,AG.cells 5 [iI n,.buf a A.length,.buf b C.length,.buf i 0,.buf d 0] 0),(a,AG.cells 1 (A.map iI) 0),(b,AG.cells 1 (C.map iI) 0),(Jf,AG.cells 1 (rows.map iL) 0),
    (i,AG.cells 1 [] 0),(d,AG.cells 1 [] 0),(GD,AG.cells 5 [iI 0,.A0,.A0,.A0,.A0] 0)]:=o
  refine tt ?_;apply bk <;> intro h2
  ·have Aq:=A6 h2
   have w:=ws j;refine tt ?_;refine AH o.tl (by simp) (tt ?_);refine Ae _ o rfl rfl (by simp only [AN]; omega) fun Bt H o=>?_
   have hR1:=Bf k (by omega);refine tt ?_;refine ⟨by omega,by omega, ?_⟩;apply bk <;> intro h3
   ·refine tt ?_;refine AH o.tl (by simp) (tt ?_);refine Ae _ (o.pull [_,_]) rfl rfl (by simp only [AN]; omega) fun a H o=>tt ?_;refine sw (o.pull [_,_]) fun H o=>tt ?_;refine AH o (by simp) (tt ?_);refine Ae _ (o.pull [_,_,_]) rfl rfl (by simp only [AN]; omega) fun b H o=>tt ?_;refine sw o.swap fun H o=>?_;refine tw w ?_
    have BH : Gm R k j=1:=A6 h3;refine A4 ((Bt,_),(a,A++[(k : Int)]),(b,C++[(j : Int)])) Aq ⟨o9, ?_, ?_,o.pm⟩ rfl
    ·show A++[(k : Int)]=_
     rw [ER,Nr,if_pos BH]; simp [Fg]
    ·show C++[(j : Int)]=_
     rw [F0,Nr,if_pos BH]; simp [HV]
   ·refine tw w ?_
    have BH : ¬ Gm R k j=1:=A7 h3;exact A4 ((Bt,_),(a,A),(b,C)) Aq ⟨o9,by show A=_; rw [ER,Nr,if_neg BH,List.append_nil],by show C=_; rw [F0,Nr,if_neg BH,List.append_nil],o⟩ rfl
  ·have Aq:=A7 h2;refine tt ?_;refine Am o rfl fun H o=>tt ?_;refine Ae row (o.pull [_,_,_]) rfl rfl (by simp only [AN]; omega) fun Jf H o=>?_
   have w:=ws k;refine tw w ?_
   have Ng : j=n:=by omega
   refine A4 ((a,A),(b,C),(Jf,rows++[row])) AU ⟨by show A=_; rw [ER,Di,Ng,hn],by show C=_; rw [F0,Di,Ng,hn], ?_,o.pm⟩ rfl
   show rows++[row]=_
   rw [dU,Dv,Ng,List.range_succ (n:=k),List.map_append]; rfl
 ·have AU:=A7 h1
  have hkn : k=n:=by omega
  subst hkn
  have Nz : ∀ y,y∈A→0≤y∧y<(k : Int):=fun y hy=>by
   rw [ER] at hy
   obtain ⟨⟨p,q⟩,hp,rfl⟩:=List.mem_map.mp hy
   have:=MC.mp hp
   simp only; omega
  have zq : ∀ y,y∈C→0≤y∧y<(k : Int):=fun y hy=>by
   rw [F0] at hy
   obtain ⟨⟨p,q⟩,hp,rfl⟩:=List.mem_map.mp hy
   have:=MC.mp hp
   simp only; omega
  have yD : ∀ i j : Nat,i<k→j<k→(rows.getD i default).getD j default=(HQ R i j : Int):=fun i j hi hj=>by
   rw [dU,Ab _ _ hi,Ab _ _ hj]
  have hO : ∀ f g,C.getD f default=A.getD g default→eK R f g=(HQ R (A.getD f default).toNat (C.getD g default).toNat : Int):=fun f g h=>by
   rw [ER,F0] at h ⊢; rw [eK,hn,if_pos h]
  have XQ : ∀ f g,C.getD f default≠A.getD g default→eK R f g=-1:=fun f g h=>by
   rw [ER,F0] at h; rw [eK,hn,if_neg h]
  have hA16 : A.length≤16:=Nat.le_trans hA (Nat.mul_le_mul xc xc);refine tt ?_;refine Am (o.pull [_,_,_]) rfl fun H o=>tt ?_
  refine AD [2,3,4,5] (G:=(Nat × List Int)) (fun j g=>[(9,some (.int .i64 (j : Int)))])
   (fun j g H=>g.2=(List.range j).map (fun i=>(HQ R i i : Int))∧A9 H0 H [(Bv,AG.cells 5 [iI k,.buf a A.length,.buf b C.length,.buf g.1 g.2.length,.buf d 0] 0),(g.1,AG.cells 1 (g.2.map iI) 0),(a,AG.cells 1 (A.map iI) 0),(b,AG.cells 1 (C.map iI) 0),
    (d,AG.cells 1 [] 0),(GD,AG.cells 5 [iI 0,.A0,.A0,.A0,.A0] 0)]) k (i,[]) ⟨rfl,o.pm⟩ rfl ?_
  clear o
  rintro j ⟨i,I⟩ H hj ⟨Pf,o⟩;dsimp only at Pf
  have hI : I.length=j:=by rw [Pf]; simp
  replace o : A9 H0 H [(Bv,AG.cells 5 [iI k,.buf a A.length,.buf b C.length,.buf i I.length,.buf d 0] 0),(i,AG.cells 1 (I.map iI) 0),(a,AG.cells 1 (A.map iI) 0),(b,AG.cells 1 (C.map iI) 0),
    (d,AG.cells 1 [] 0),(GD,AG.cells 5 [iI 0,.A0,.A0,.A0,.A0] 0)]:=o
  refine tt ?_;apply bk <;> intro h2
  ·have Aq:=A6 h2
   have w:=ws j
   have xL:=jc (rows.getD j default) (AE.mpr ⟨j,by omega,rfl⟩);refine tt ?_;refine AH o (by simp) (tt ?_);refine ⟨by omega,by omega,tt ?_⟩;refine Ae _ o.swap rfl rfl (by simp only [AN]; omega) fun i H o=>tt ?_;refine sw o.swap fun H o=>?_;refine tw w ?_;exact A4 (i,_) Aq ⟨by rw [Pf,List.range_succ,List.map_append]; simp only [ix,Int.toNat_natCast]; rw [yD j j Aq Aq]; rfl,o⟩ rfl
  ·have Aq:=A7 h2
   have hIk : I.length=k:=by omega
   refine tt ?_;refine B6 3 o rfl rfl fun H o=>?_;have o:=s1 o;refine B6 1 o rfl rfl fun H o=>?_;have o:=s1 o;refine B6 2 o rfl rfl fun H o=>AX ?_;have o:=s1 o
   have Ng : j=k:=by omega
   clear h2 Aq hj hI;refine tt ?_
   refine AD [2,4,5] (G:=(Nat × List (List Int))) (fun j g=>[(10,some (.int .i64 (j : Int)))])
    (fun j g H=>g.2=(List.range j).map (fun f=>(List.range A.length).map (eK R f))∧A9 H0 H [(Bv,AG.cells 5 [iI k,iL A,iL C,iL I,.buf g.1 g.2.length] 0),(g.1,AG.cells 1 (g.2.map iL) 0),(GD,AG.cells 5 [iI 0,.A0,.A0,.A0,.A0] 0)]) A.length (d,[]) ⟨rfl,o⟩ rfl ?_
   clear o
   rintro f ⟨d,D⟩ H ie ⟨PZ,o⟩;dsimp only at PZ
   have hD : D.length=f:=by rw [PZ]; simp
   dsimp only at o;refine tt ?_;refine AH o (by simp) (tt ?_);apply bk <;> intro h2
   ·have Aq:=A6 h2;refine tt ?_;refine AP o fun Bt H o=>tt ?_
    refine AD [2,4,5,10] (G:=Nat × List Int) (fun g r=>[(11,some (.buf r.1 r.2.length)),(12,some (.int .i64 (g : Int)))])
     (fun g r H=>r.2=(List.range g).map (eK R f)∧A9 H0 H [(r.1,AG.cells 1 (r.2.map iI) 0),(Bv,AG.cells 5 [iI k,iL A,iL C,iL I,.buf d D.length] 0),(d,AG.cells 1 (D.map iL) 0),(GD,AG.cells 5 [iI 0,.A0,.A0,.A0,.A0] 0)]) A.length (Bt,[]) ⟨rfl,o⟩ rfl ?_
    clear o
    rintro g ⟨Bt,row⟩ H hg ⟨Dv,o⟩;dsimp only at Dv
    have hrl' : row.length=g:=by rw [Dv]; simp
    dsimp only at o;refine tt ?_;refine AH o.tl (by simp) (tt ?_);apply bk <;> intro h3
    ·have BH:=A6 h3
     have w:=ws g;refine tt ?_;refine AH o.tl (by simp) (tt ?_);refine ⟨by omega, ?_⟩;refine AH o.tl (by simp) (tt ?_);refine ⟨by omega,tt ?_⟩
     have o5:=Nz (A.getD f default) (AE.mpr ⟨f,Aq,rfl⟩)
     have hCg:=zq (C.getD g default) (AE.mpr ⟨g,by omega,rfl⟩)
     have lA:=jc (ix rows (A.getD f default)) (BL (by omega));apply bk <;> intro h4
     ·refine tt ?_;refine AH o.tl (by simp) (tt ?_);refine ⟨Aq,⟨by omega,by omega⟩, ?_⟩;refine AH o.tl (by simp) (tt ?_);refine ⟨by omega,⟨by omega,by omega⟩, ?_⟩;refine Ae _ o rfl rfl (by simp only [AN]; omega) fun Bt H o=>?_;refine tw w ?_;refine A4 (Bt,_) BH ⟨?_,o⟩ rfl
      have D9:=A6 h4;rw [Dv,List.range_succ,List.map_append,List.map_singleton,hO f g D9,← yD (A.getD f default).toNat (C.getD g default).toNat (by omega) (by omega)]
      rfl
     ·refine tt ?_;refine Ae _ o rfl rfl (by simp only [AN]; omega) fun Bt H o=>?_;refine tw w ?_;refine A4 (Bt,_) BH ⟨?_,o⟩ rfl
      have D9:=A7 h4;rw [Dv,List.range_succ,List.map_append,List.map_singleton,XQ f g D9]
    ·have BH:=A7 h3
     have w:=ws f;refine tt ?_;refine Am o rfl fun H o=>tt ?_;refine AH o (by simp) (tt ?_);refine Ae row o.swap rfl rfl (by simp only [AN]; omega) fun d H o=>tt ?_;refine sw o.swap fun H o=>?_;refine tw w ?_
     have RA : g=A.length:=by omega
     refine A4 (d,D++[row]) Aq ⟨?_,o⟩ rfl
     show D++[row]=_
     rw [PZ,Dv,RA,List.range_succ (n:=f),List.map_append]; rfl
   ·have Aq:=A7 h2;refine tt ?_;refine B6 4 o rfl rfl fun H o=>AX ?_;have o:=s1 o;refine tt ?_;refine AO o (by simp) (tt ?_);refine sw o.swap fun H o=>tt ?_
    have CG:=o.rc 5 0 (by simp);simp only [List.drop_zero] at CG;rw [CG];refine tt ?_
    have XV : f=A.length:=by omega
    refine B0 ?_ o.sub
    have L7 : A.length=(Di R k).length:=by rw [ER]; simp [Fg]
    rw [XV] at PZ;rw [PZ,Pf,Ng,L7,ER,F0,Xh,← hn]; rfl
theorem D3 (B : Nat) (R : List (List Int)) (hR : fC R) : Dt B 163 [B5 R] (T9 16):=fun H0 =>
 (KG B R hR H0).mono fun r H' ⟨q,e⟩=>⟨⟨Xh R,q,SA hR⟩,e⟩
end Go.Proofs.Shf
namespace Go.AW
theorem ED.inner {α : Type} {f : α→AV} : ∀ (ms : List (Nat × List α)),ED f (ms.map De) (ms.map Prod.snd) (inner f ms)
 | []=>.nil
 | m::ms=>ED.cons (p:=[(m.1,.cells 1 (m.2.map f) 0)]) (.inr ⟨m.1,rfl,rfl⟩) (ED.inner ms)
theorem BB {α : Type} [Inhabited α] {f : α→AV} [One f] {H0 H : AA} {l : Ob} {K : Ak} {id fr n : Nat} {out : List α} (a : α) {v : AV} (h : A9 H0 H ((id,.cells 1 (out.map f) fr)::l)) (hv : v=f a) (hn : n=out.length) (hm : out.length+1≤AN)
  (hk : ∀ Bz H' A,A=out++[a]→A.length=out.length+1→A9 H0 H' ((Bz,.cells 1 (A.map f) fr)::l)→K (.buf Bz A.length) H') : Co 1 (some (.buf id n)) (some (.sl [v])) K H :=
 Ae a h hv hn hm fun Bz H' o=>hk Bz H' _ rfl (by simp) o
end Go.AW
namespace Go.Proofs.Shf
open Go.AW Go.Proofs Go.Shf
theorem LN (B : Nat) (T : List (List Int)) (H0 H : AA) (l : Ob) (o : A9 H0 H l) :
  CB B 169 [B5 T] H (fun r H'=>∃ d Xs ob,r=.buf d Xs.length∧ED iI Xs T ob∧A9 H0 H' ((d,.cells 1 Xs 0)::(ob++l))):=by
 refine vL.go fun ⟨hf,_⟩=>?_
 have hl:=AZ hf;simp only [AN] at hl;refine tt ?_;refine AP o fun d H o=>tt ?_
 refine AD [0] (G:=Nat × List (Nat × List Int)) (fun k g=>[(3,some (.buf g.1 g.2.length)),(4,some (.int .i64 (k : Int)))])
  (fun k g H=>g.2.map Prod.snd=T.take k∧A9 H0 H ((g.1,AG.cells 1 (g.2.map De) 0)::(inner iI g.2++l))) T.length (d,[]) ⟨by simp,o⟩ rfl ?_
 clear o
 rintro k ⟨d,ms⟩ H hk ⟨OQ,o⟩;dsimp only at OQ o
 have ET : ms.length=k:=by
  have:=congrArg List.length OQ
  simpa [Nat.min_eq_left hk] using this
 refine tt ?_;apply bk <;> intro h1
 ·have AU:=A6 h1
  have w:=ws k;refine tt ?_;refine ⟨AU, ?_⟩;refine (FM B (T.getD k default) H0 H _ o).own fun id A H o hA=>?_;subst hA;refine tt ?_;refine Ae (f:=De) (id,T.getD k default) o.swap rfl rfl (by simp only [AN]; omega) fun d H o=>?_;refine tw w ?_;refine A4 (d,ms++[(id,T.getD k default)]) AU ⟨by rw [List.map_append,OQ,Ar T AU]; rfl, ?_⟩ rfl;refine o.perm (.cons _ ?_);simp only [inner,List.map_append,List.map_cons,List.map_nil,List.append_assoc,List.cons_append,List.nil_append];exact List.perm_middle.symm
 ·have AU:=A7 h1
  obtain rfl : k=T.length:=by omega
  rw [List.take_length] at OQ;refine tt ?_;refine ⟨H,.refl H,d,ms.map De,inner iI ms,by simp, ?_,o⟩;rw [← OQ]; exact ED.inner ms
theorem ID.go' {P : Program} {B : Nat} {fn : FuncId} {args : List AV} {O : Ob→AV→Prop} {H0 H : AA} {l : Ob} {K : Ak} (h : ID P B fn args O) (o : A9 H0 H l) (hk : ∀ r p H',O p r→A9 H0 H' (p++l)→H.sub H'→K r H') : B9 P B fn args H K :=
 (h.run H).mono fun r H' ⟨p,q1,q2⟩=>hk r p H' q1 (o.trans q2) q2.sub
def OLb (l : List Int) (p : Ob) (X : AV) : Prop:=∃ id,X=.buf id l.length∧p=[(id,.cells 1 (l.map iI) 0)]
theorem E7 (B : Nat) (l : List Int) : ID Tryz.prog B 168 [iL l] (OLb l) :=
 ⟨fun H=>(FM B l H H [] (.nil H)).mono fun r H' ⟨id,A,e,o,q⟩=>by
  subst e q;exact ⟨_,⟨id,rfl,rfl⟩,o⟩⟩
def pb (T : List (List Int)) (p : Ob) (X : AV) : Prop:=∃ d Xs ob,X=.buf d Xs.length∧ED iI Xs T ob∧p=(d,.cells 1 Xs 0)::ob
theorem IF (B : Nat) (T : List (List Int)) : ID Tryz.prog B 169 [B5 T] (pb T) :=
 ⟨fun H=>(LN B T H H [] (.nil H)).mono fun r H' ⟨d,Xs,ob,e,h,o⟩=>by
  rw [List.append_nil] at o;exact ⟨_,⟨d,Xs,ob,e,h,rfl⟩,o⟩⟩
def OCb (c : Ax) (p : Ob) (X : AV) : Prop:=∃ a b i d Xs ob,X=.agg [iI c.AF,.buf a c.AB.length,.buf b c.to.length,.buf i c.Ac.length,.buf d Xs.length]∧ED iI Xs c.comp ob ∧
 p=(a,.cells 1 (c.AB.map iI) 0)::(b,.cells 1 (c.to.map iI) 0)::(i,.cells 1 (c.Ac.map iI) 0)::(d,.cells 1 Xs 0)::ob
theorem NL (B : Nat) (c : Ax) : ID Tryz.prog B 64 [.agg c.cells] (OCb c):=by
 refine ⟨fun H0=>nu.go fun _=>tt ?_⟩;refine Ai (.nil _) fun id H o=>tt ?_;refine ID.go' (E7 B c.AB) o fun X1 p1 H ⟨a,e1,e2⟩ o hs=>⟨hs, ?_⟩;subst e1 e2;refine tt ?_;refine ID.go' (E7 B c.to) o fun X1 p1 H ⟨b,e1,e2⟩ o hs=>⟨hs, ?_⟩;subst e1 e2;refine tt ?_;refine ID.go' (E7 B c.Ac) o fun X1 p1 H ⟨i,e1,e2⟩ o hs=>⟨hs, ?_⟩;subst e1 e2;refine tt ?_;refine ID.go' (IF B c.comp) o fun X1 p1 H ⟨d,Xs,ob,e1,h,e2⟩ o hs=>⟨hs, ?_⟩;subst e1 e2;refine tt ?_
 have o : A9 H0 H ((id,AG.cells 5 [iI 0,.A0,.A0,.A0,.A0] 0)::(a,AG.cells 1 (c.AB.map iI) 0)::(b,AG.cells 1 (c.to.map iI) 0)::(i,AG.cells 1 (c.Ac.map iI) 0)::(d,AG.cells 1 Xs 0)::ob):=o.pm;refine sw o fun H o=>tt ?_
 have hr:=o.rc 5 0 (by simp);simp only [List.drop_zero] at hr;rw [hr];exact ⟨H,.refl H,_,⟨a,b,i,d,Xs,ob,rfl,h,rfl⟩,o.tl⟩
end Go.Proofs.Shf
namespace Go.AW
theorem ED.eO {α : Type} {f : α→AV} {Xs : List AV} {As : List (List α)} {o p : List (Nat × AG)} {X : AV} {A : List α} (h : ED f Xs As o) (hp : Lp f p X A) : ED f (Xs++[X]) (As++[A]) (o++p):=by
 induction h with
 | nil=>simpa using ED.cons hp .nil
 | cons q _ ih=>simpa using ED.cons q ih
theorem VF {H0 H : AA} {l : Ob} {K : Ak} {id n : Nat} {Xs : List AV} {Y : AV} (o : A9 H0 H ((id,.cells 1 Xs 0)::l)) (hn : n=Xs.length) (h1 : Y.cells=[Y]) (h2 : Y.one=true) (hm : Xs.length+1≤AN)
  (hk : ∀ Bz H',A9 H0 H' ((Bz,.cells 1 (Xs++[Y]) 0)::l)→K (.buf Bz (Xs.length+1)) H') : Co 1 (some (.buf id n)) (some (.sl [Y])) K H:=by
 subst hn
 have DW : Cc 1 [Y]:=by
  intro e he;rw [List.mem_singleton] at he; subst he;rw [h1];exact ⟨rfl,fun c hc=>by rw [List.mem_singleton] at hc; subst hc; exact h2⟩
 have h0:=o.h0;simp only at h0;simp only [Co,h0,C5,Fh];refine ⟨⟨trivial,by simp,by simp; omega,by simp; omega,DW⟩,fun Bz hn=>?_⟩
 have HB : flat [Y]=[Y]:=by simp [flat,h1]
 rw [HB];exact hk Bz _ (o.mv hn (.cells 1 (Xs++[Y]) 0))
end Go.AW
namespace Go.Proofs.Shf
open Go.AW Go.Proofs Go.Shf
@[go_sem] def EV (CT B1 : Nat) (x0 : Int) (a : Nat) (A : List Int) (b : Nat) (C : List Int) (i : Nat) (I : List Int) (d : Nat) (Xs : List AV) (ob : Ob) : Ob :=
 (CT,.cells 5 [iI x0,.buf a A.length,.buf b C.length,.buf i I.length,.buf d Xs.length] 0)::(a,.cells 1 (A.map iI) 0)::(b,.cells 1 (C.map iI) 0)::(i,.cells 1 (I.map iI) 0)::(d,.cells 1 Xs 0)::(ob++[(B1,.cells 5 [iI 0,.A0,.A0,.A0,.A0] 0)])
theorem MO (B N M : Nat) (hNM : N+M≤4096) (c e : Ax) (hc : c.Good N) (he : e.Good M) : ID Tryz.prog B 160 [.agg c.cells,.agg e.cells] (OCb (BW c e)):=by
 refine ⟨fun H0=>w5.go fun _=>?_⟩
 obtain ⟨⟨cob,cil,cml,ctl,ccl,crow⟩,ct⟩:=hc
 obtain ⟨⟨eob,eil,eml,etl,ecl,erow⟩,et⟩:=he;refine tt ?_;refine Ai (.nil _) fun B1 H o=>tt ?_;refine ID.go' (NL B c) o fun X1 p1 H ⟨a,b,i,d,Xs,ob,e1,hX,e2⟩ o _=>?_;subst e1 e2
 have Iw:=hX.len;refine tt ?_;refine Ai o fun CT H o=>tt ?_;refine sw o fun H o=>tt ?_
 have wo : IntKind.i64.wrap (c.AF+e.AF)=c.AF+e.AF:=wrap_i64 (by omega) (by omega);refine tw wo ?_;refine sw o fun H o=>tt ?_
 have o : A9 H0 H (EV CT B1 (c.AF+e.AF) a c.AB b c.to i c.Ac d Xs ob):=o
 refine AD [3,4,5,6,7] (G:=Nat × List Int) (fun k _=>[(8,some (.int .i64 (k : Int)))])
  (fun k g H=>g.2=c.Ac++Oh c.AB.length (e.Ac.take k)∧A9 H0 H (EV CT B1 (c.AF+e.AF) a c.AB b c.to g.1 g.2 d Xs ob)) e.AF.toNat (i,c.Ac) ⟨by simp [Oh],o⟩ rfl ?_
 clear o
 rintro k ⟨i,I⟩ H hk ⟨Pf,o⟩;dsimp only at Pf
 have hI : I.length=c.Ac.length+k:=by rw [Pf,List.length_append,Qh,List.length_take]; omega
 dsimp only at o;unfold EV at o;refine tt ?_;apply bk <;> intro h1
 ·have AU:=A6 h1
  have w:=ws k;refine tt ?_;refine AH o (by simp) (tt ?_);refine ⟨by omega, ?_⟩
  have ei:=(et.Ac k (by omega)).1
  have w2 : IntKind.i64.wrap (e.Ac.getD k default+c.AB.length)=e.Ac.getD k default+c.AB.length:=wrap_i64 (by omega) (by omega);refine tw w2 ?_;refine BB _ (o.pull [_,_,_]) rfl rfl (by simp only [AN]; omega) fun i H I2 eI hI2 o=>tt ?_;refine sw o.swap fun H o=>?_;refine tw w ?_;refine A4 (i,I2) (by omega) ⟨by show I2=_; rw [eI,Pf,List.append_assoc,NB (by omega)], ?_⟩ rfl
  try unfold EV
  exact o.pm
 ·have AU:=A7 h1
  have hIl : I.length=c.Ac.length+e.AF.toNat:=by omega
  have dQ : k=e.AF.toNat:=by omega
  have xd : I=c.Ac++Oh c.AB.length e.Ac:=by rw [Pf,List.take_of_length_le (by omega)]
  clear h1 AU hk hI Pf;refine tt ?_
  refine AD [3,4,5,6,7] (G:=List AV × Ob × List (List Int)) (fun f _=>[(9,some (.int .i64 (f : Int)))])
   (fun f g H=>ED iI g.1 g.2.2 g.2.1∧g.2.2.length=c.AB.length∧(∀ x,x<c.AB.length→g.2.2.getD x []=c.comp.getD x default++List.replicate (if x<f then e.AB.length else 0) (-1)) ∧
    A9 H0 H (EV CT B1 (c.AF+e.AF) a c.AB b c.to i I d g.1 g.2.1)) c.AB.length (Xs,ob,c.comp) ⟨hX,ccl,fun x hx=>by rw [if_neg (by omega),List.replicate_zero,List.append_nil]; rfl,o⟩ rfl ?_
  clear o hX Iw
  rintro f ⟨Xs,ob,As⟩ H hf ⟨hX,L7,Nz,o⟩;dsimp only at hX L7 Nz o
  have Iw:=hX.len;unfold EV at o;refine tt ?_;refine AH o (by simp) (tt ?_);apply bk <;> intro h1
  ·have AU:=A6 h1
   have R2 : f<c.AB.length:=by omega
   clear h1 AU;refine tt ?_
   refine AD [3,4,5,6,7,9] (G:=List AV × Ob × List (List Int)) (fun j _=>[(10,some (.int .i64 (j : Int)))])
    (fun j g H=>ED iI g.1 g.2.2 g.2.1∧g.2.2.length=c.AB.length∧(∀ x,x<c.AB.length→g.2.2.getD x []=c.comp.getD x default++List.replicate (if x<f then e.AB.length else if x=f then j else 0) (-1)) ∧
     A9 H0 H (EV CT B1 (c.AF+e.AF) a c.AB b c.to i I d g.1 g.2.1)) e.AB.length (Xs,ob,As) ⟨hX,L7,fun x hx=>by rw [Nz x hx]; split <;> simp,o⟩ rfl ?_
   clear o hX Iw L7 Nz
   rintro j ⟨Xs,ob,As⟩ H hj ⟨hX,L7,Nz,o⟩;dsimp only at hX L7 Nz o
   have Iw:=hX.len;unfold EV at o;refine tt ?_;apply bk <;> intro h2
   ·have Aq:=A6 h2
    have w:=ws j;refine tt ?_;refine ⟨⟨_,_,o.h0⟩,AH o (by simp) ?_⟩;refine tt ?_;refine ⟨⟨_,_,o.h0⟩,AH o (by simp) ?_⟩;refine tt ?_;refine ⟨by omega, ?_⟩
    have od:=o.pull [_,_,_,_];simp only [List.cons_append,List.nil_append] at od;refine AH od (by omega) (tt ?_)
    have od2 : A9 H0 H ((d,AG.cells 1 Xs 0)::(ob++[(CT,AG.cells 5 [iI (c.AF+e.AF),.buf a c.AB.length,.buf b c.to.length,.buf i I.length,.buf d Xs.length] 0),(a,AG.cells 1 (c.AB.map iI) 0),(b,AG.cells 1 (c.to.map iI) 0),(i,AG.cells 1 (I.map iI) 0),(B1,AG.cells 5 [iI 0,.A0,.A0,.A0,.A0] 0)])):=od.pm
    have Zt:=Nz f R2;rw [if_neg (by omega),if_pos rfl] at Zt
    have Bf : (As.getD f []).length=c.AB.length+j:=by rw [Zt,List.length_append,crow f R2,List.length_replicate]
    refine Hv od2 hX (by omega) (-1) rfl (by simp only [AN]; omega) fun X' ob' H V1 Iq o=>?_;try simp only [go_sem,↓reduceIte,reduceEqDiff,reduceAdd,reduceMul,reduceLeDiff,reduceLT,AV.DH V1]
    refine ⟨by omega,AS o (by omega) (by (try simp only [go_sem]); (try simp)) (by simp [V1]) fun H o=>?_⟩
    have hw : wr Xs f [X']=Xs.set f X':=rfl;rw [hw] at o;refine tw w ?_
    have kX : (Xs.set f X').length=Xs.length:=by simp
    refine A4 (Xs.set f X',ob',As.set f (As.getD f []++[-1])) Aq ⟨Iq,by simp [L7],fun x hx=>?_, ?_⟩ rfl
    ·show (As.set f (As.getD f []++[-1])).getD x []=_
     rw [B8]
     by_cases gv : f=x
     ·subst gv;rw [if_pos ⟨rfl,by omega⟩,Zt,if_neg (by omega),if_pos rfl,List.append_assoc,← List.replicate_succ']
     ·rw [if_neg (fun q=>gv q.1),Nz x hx]
      by_cases Lv : x<f
      ·rw [if_pos Lv,if_pos Lv]
      ·rw [if_neg Lv,if_neg Lv,if_neg (by omega),if_neg (by omega)]
    ·try unfold EV
     try rw [kX]
     exact o.pm
   ·have Aq:=A7 h2
    have w:=ws f;refine tw w ?_;refine A4 (Xs,ob,As) R2 ⟨hX,L7,fun x hx=>?_,o⟩ rfl
    have:=Nz x hx
    show As.getD x []=_
    rw [this]
    by_cases Lv : x<f
    ·rw [if_pos Lv,if_pos (by omega)]
    ·by_cases xA : x=f
     ·rw [if_neg Lv,if_pos xA,if_pos (by omega),show j=e.AB.length by omega]
     ·rw [if_neg Lv,if_neg xA,if_neg (by omega)]
  ·have AU:=A7 h1
   have xX : ∀ x,x<c.AB.length→As.getD x []=c.comp.getD x default++List.replicate e.AB.length (-1):=fun x hx=>by rw [Nz x hx,if_pos (by omega)]
   clear h1 AU hf Nz;refine tt ?_
   refine AD [3,4,5,6,7] (G:=(Nat × List Int) × (Nat × List Int) × Nat × List AV × Ob × List (List Int)) (fun f _=>[(11,some (.int .i64 (f : Int)))])
    (fun f g H=>g.1.2=c.AB++Oh c.AF (e.AB.take f)∧g.2.1.2=c.to++Oh c.AF (e.to.take f)∧ED iI g.2.2.2.1 g.2.2.2.2.2 g.2.2.2.2.1∧g.2.2.2.2.2.length=c.AB.length+f∧(∀ x,x<c.AB.length→g.2.2.2.2.2.getD x []=c.comp.getD x default++List.replicate e.AB.length (-1)) ∧
     (∀ x,x<f→g.2.2.2.2.2.getD (c.AB.length+x) []=List.replicate c.AB.length (-1)++(List.range e.AB.length).map (Ue c e x)) ∧
     A9 H0 H (EV CT B1 (c.AF+e.AF) g.1.1 g.1.2 g.2.1.1 g.2.1.2 i I g.2.2.1 g.2.2.2.1 g.2.2.2.2.1)) e.AB.length ((a,c.AB),(b,c.to),d,Xs,ob,As) ⟨by simp [Oh],by simp [Oh],hX,L7,xX,fun x hx=>by omega,o⟩ rfl ?_
   clear o hX Iw L7 xX
   rintro f ⟨⟨a,A⟩,⟨b,C⟩,d,Xs,ob,As⟩ H hf ⟨ER,F0,hX,L7,Nz,zn,o⟩;dsimp only at ER F0
   have hA : A.length=c.AB.length+f:=by rw [ER,List.length_append,Qh,List.length_take]; omega
   have hC : C.length=c.AB.length+f:=by rw [F0,List.length_append,Qh,List.length_take]; omega
   dsimp only at hX L7 Nz zn o
   have Iw:=hX.len;unfold EV at o;refine tt ?_;apply bk <;> intro h1
   ·have AU:=A6 h1
    have ef:=et.AB f AU
    have eto:=et.to f AU
    have wf : IntKind.i64.wrap (e.AB.getD f default+c.AF)=e.AB.getD f default+c.AF:=wrap_i64 (by omega) (by omega)
    have wt : IntKind.i64.wrap (e.to.getD f default+c.AF)=e.to.getD f default+c.AF:=wrap_i64 (by omega) (by omega);refine tt ?_;refine AH o (by simp) ?_;refine tw wf ?_;refine ⟨AU,BB _ o.swap rfl rfl (by simp only [AN]; omega) fun a H A2 eA2 Xq o=>?_⟩;refine tt ?_;refine sw o.swap fun H o=>tt ?_;refine AH o (by simp) ?_;refine tw wt ?_;refine ⟨by omega,BB _ (o.pull [_,_]) rfl rfl (by simp only [AN]; omega) fun b H C2 eC2 wu o=>?_⟩;refine tt ?_;refine sw o.swap fun H o=>tt ?_
    have o : A9 H0 H (EV CT B1 (c.AF+e.AF) a A2 b C2 i I d Xs ob):=by
     try unfold EV
     exact o.pm
    refine AP o fun Bt H o=>tt ?_
    refine AD [3,4,5,6,7,11] (G:=Nat × List Int) (fun j g=>[(12,some (.buf g.1 g.2.length)),(13,some (.int .i64 (j : Int)))])
     (fun j g H=>g.2=List.replicate j (-1)∧A9 H0 H ((g.1,AG.cells 1 (g.2.map iI) 0)::EV CT B1 (c.AF+e.AF) a A2 b C2 i I d Xs ob)) c.AB.length (Bt,[]) ⟨rfl,o⟩ rfl ?_
    clear o
    rintro j ⟨Bt,row⟩ H hj ⟨Dv,o⟩;dsimp only at Dv
    have hr : row.length=j:=by rw [Dv]; simp
    dsimp only at o;refine tt ?_;apply bk <;> intro h2
    ·have Aq:=A6 h2
     have w:=ws j;refine tt ?_;refine BB _ o rfl rfl (by simp only [AN]; omega) fun Bt H row2 er2 G2 o=>?_;refine tw w ?_;exact A4 (Bt,row2) Aq ⟨by show row2=_; rw [er2,Dv,← List.replicate_succ'],o⟩ rfl
    ·have Aq:=A7 h2
     have lB : row=List.replicate c.AB.length (-1):=by rw [Dv,show j=c.AB.length by omega]
     clear h2 Aq hj hr Dv;refine tt ?_
     refine AD [3,4,5,6,7,11] (G:=Nat × List Int) (fun j g=>[(12,some (.buf g.1 g.2.length)),(14,some (.int .i64 (j : Int)))])
      (fun j g H=>g.2=List.replicate c.AB.length (-1)++(List.range j).map (Ue c e f)∧A9 H0 H ((g.1,AG.cells 1 (g.2.map iI) 0)::EV CT B1 (c.AF+e.AF) a A2 b C2 i I d Xs ob)) e.AB.length (Bt,row) ⟨by simp [lB],o⟩ rfl ?_
     clear o lB
     rintro j ⟨Bt,row⟩ H hj ⟨Dv,o⟩;dsimp only at Dv
     have hr : row.length=c.AB.length+j:=by rw [Dv]; simp
     dsimp only at o;refine tt ?_;apply bk <;> intro h3
     ·have BH:=A6 h3
      have w:=ws j
      have her:=erow f (by omega);refine tt ?_;refine ⟨by omega,by omega, ?_⟩
      have Xo:=et.bound (f:=f) (g:=j) AU BH
      have ecE : B7 e f j=(e.comp.getD f default).getD j default:=rfl;rw [ecE] at Xo
      have wh : IntKind.i64.wrap ((e.comp.getD f default).getD j default+c.AB.length)=(e.comp.getD f default).getD j default+c.AB.length:=wrap_i64 (by omega) (by omega);apply bk <;> intro h4
      ·have D9 : 0≤B7 e f j:=by rw [ecE]; have:=A6 h4; exact this
       refine tw wh ?_;refine BB _ o rfl rfl (by simp only [AN]; omega) fun Bt H row2 er2 G2 o=>?_;refine tw w ?_;exact A4 (Bt,row2) BH ⟨by show row2=_; rw [er2,Dv,List.append_assoc,List.range_succ,List.map_append,List.map_singleton,Ue,if_pos D9]; rfl,o⟩ rfl
      ·have D9 : ¬ 0≤B7 e f j:=by rw [ecE]; have:=A7 h4; exact this
       refine tt ?_;refine BB _ o rfl rfl (by simp only [AN]; omega) fun Bt H row2 er2 G2 o=>?_;refine tw w ?_;exact A4 (Bt,row2) BH ⟨by show row2=_; rw [er2,Dv,List.append_assoc,List.range_succ,List.map_append,List.map_singleton,Ue,if_neg D9]; rfl,o⟩ rfl
     ·have BH:=A7 h3
      have w:=ws f;unfold EV at o;refine tt ?_;refine AH o.tl (by simp) (tt ?_);refine VF (o.pull [_,_,_,_,_]) rfl rfl rfl (by simp only [AN]; omega) fun d H o=>tt ?_
      have o:=o.pull [_,_];simp only [List.cons_append,List.nil_append] at o;refine sw o fun H o=>?_;refine tw w ?_
      have kX : (Xs++[AV.buf Bt row.length]).length=Xs.length+1:=by simp
      refine A4 ((a,A2),(b,C2),d,Xs++[AV.buf Bt row.length],ob++[(Bt,AG.cells 1 (row.map iI) 0)],As++[row]) AU ⟨by show A2=_; rw [eA2,ER,List.append_assoc,NB AU],by show C2=_; rw [eC2,F0,List.append_assoc,NB (by omega)],hX.eO (.inr ⟨Bt,rfl,rfl⟩),by simp; omega,fun x hx=>?_,fun x hx=>?_, ?_⟩ rfl
      ·show (As++[row]).getD x []=_
       rw [EU (by omega)]; exact Nz x hx
      ·show (As++[row]).getD (c.AB.length+x) []=_
       by_cases Lv : x<f
       ·rw [EU (by omega)]; exact zn x Lv
       ·have gv : x=f:=by omega
        rw [G7 (by omega),gv,L7,Nat.sub_self]
        show row=_
        rw [Dv,show j=e.AB.length by omega]
      ·try unfold EV
       try rw [kX]
       exact o.pm
   ·have AU:=A7 h1
    obtain rfl : f=e.AB.length:=by omega
    refine tt ?_;refine AO o (by simp) (tt ?_)
    have o : A9 H0 H ((B1,AG.cells 5 [iI 0,.A0,.A0,.A0,.A0] 0)::(CT,AG.cells 5 [iI (c.AF+e.AF),.buf a A.length,.buf b C.length,.buf i I.length,.buf d Xs.length] 0)::(a,AG.cells 1 (A.map iI) 0)::(b,AG.cells 1 (C.map iI) 0)::(i,AG.cells 1 (I.map iI) 0)::(d,AG.cells 1 Xs 0)::ob):=o.pm;refine sw o fun H o=>tt ?_
    have CG:=o.rc 5 0 (by simp);simp only [List.drop_zero] at CG;rw [CG];refine tt ?_
    have o5 : A=(BW c e).AB:=by rw [ER,List.take_length]; rfl
    have yX : C=(BW c e).to:=by rw [F0,List.take_of_length_le (by omega)]; rfl
    have vB : I=(BW c e).Ac:=xd
    have xy : As=(BW c e).comp:=ZH L7 crow Nz zn;subst o5 yX vB xy;exact ⟨H,.refl H,_,⟨a,b,i,d,Xs,ob,rfl,hX,rfl⟩,o.tl.tl⟩
theorem MU (B N M : Nat) (hNM : N+M≤4096) (hNM2 : N*M≤65536) (c e : Ax) (hc : c.Good N) (he : e.Good M) : Dt B 248 [.agg c.cells,.agg e.cells] (T9 (N+M+N*M)):=by
 intro H0;refine rV.go fun _=>?_
 have cob:=hc.1.ob
 have eob:=he.1.ob;refine tt ?_;refine Ai (.nil _) fun B1 H o=>tt ?_;refine ID.go' (MO B N M hNM c e hc he) o fun X1 p1 H ⟨a,b,i,d,Xs,ob,e1,hX,e2⟩ o _=>?_;subst e1 e2
 have Iw:=hX.len
 have hgq:=Ko hc he
 obtain ⟨q,hq⟩ : ∃ q,BW c e=q:=⟨_,rfl⟩;rw [hq] at o hX Iw hgq;rw [hq]
 obtain ⟨⟨qob,qil,qml,qtl,qcl,qrow⟩,qt⟩:=hgq
 obtain ⟨qo,A,C,I,As⟩:=q
 have oM : (BW c e).AB=A:=by rw [hq]
 have vd : (BW c e).to=C:=by rw [hq]
 have hqI : (BW c e).Ac=I:=by rw [hq]
 have hqo : c.AF+e.AF=qo:=congrArg Ax.AF hq
 have hqD : ∀ f g,B7 (BW c e) f g=(As.getD f default).getD g default:=fun f g=>by rw [hq]; rfl
 have qbd:=fun f g hf hg=>qt.bound (f:=f) (g:=g) hf hg;simp only at qob qil qml qtl qcl qrow hX Iw qbd;refine tt ?_;refine Ai o fun Bv H o=>tt ?_;refine sw o fun H o=>tt ?_
 have o : A9 H0 H (EV Bv B1 qo a A b C i I d Xs ob):=o;unfold EV at o;refine AH o (by simp) (tt ?_)
 obtain ⟨m,hm⟩ : ∃ m,A.length=m:=⟨_,rfl⟩
 have Zy : C.length=m:=by omega
 rw [hm]
 refine AD [2,3,4,5,6] (G:=(Nat × List Int) × (Nat × List Int)) (fun k _=>[(7,some (.int .i64 (k : Int)))])
  (fun k g H=>g.1.2=(BW c e).AB++(eW c.AF.toNat e.AF.toNat).take (k*e.AF.toNat)∧g.2.2=(BW c e).to++(fP c.AF.toNat e.AF.toNat).take (k*e.AF.toNat)∧A9 H0 H (EV Bv B1 qo g.1.1 g.1.2 g.2.1 g.2.2 i I d Xs ob)) c.AF.toNat ((a,A),(b,C)) ⟨by simp [oM],by simp [vd],by unfold EV; exact o⟩ rfl ?_
 clear o
 have yv : (eW c.AF.toNat e.AF.toNat).length=c.AF.toNat*e.AF.toNat:=by simp [eW]
 have yq : (fP c.AF.toNat e.AF.toNat).length=c.AF.toNat*e.AF.toNat:=by simp [fP]
 have qml0:=qml
 rintro k ⟨⟨a,A'⟩,⟨b,C'⟩⟩ H hk ⟨ER,F0,o⟩;dsimp only at ER F0
 have M0 : k*e.AF.toNat≤c.AF.toNat*e.AF.toNat:=Nat.mul_le_mul_right _ hk
 have hA : A'.length=m+k*e.AF.toNat:=by rw [ER,List.length_append,List.length_take,oM,hm,yv]; omega
 have hC : C'.length=A'.length:=by rw [hA,F0,List.length_append,List.length_take,vd,Zy,yq]; omega
 have hA1 : m≤A'.length:=by omega
 dsimp only at o
 have hMe : ∀ x,x≤c.AF.toNat→x*e.AF.toNat≤N*M:=fun x hx=>Nat.mul_le_mul (by omega) (by omega);refine tt ?_;apply bk <;> intro h1
 ·have AU:=A6 h1
  have Qw : k+1≤c.AF.toNat:=by omega
  have xt : k<c.AF.toNat:=Qw;refine tt ?_
  refine AD [2,3,4,5,6,7] (G:=(Nat × List Int) × (Nat × List Int)) (fun j _=>[(8,some (.int .i64 (j : Int)))])
   (fun j g H=>g.1.2=(BW c e).AB++(eW c.AF.toNat e.AF.toNat).take (k*e.AF.toNat+j)∧g.2.2=(BW c e).to++(fP c.AF.toNat e.AF.toNat).take (k*e.AF.toNat+j)∧A9 H0 H (EV Bv B1 qo g.1.1 g.1.2 g.2.1 g.2.2 i I d Xs ob)) e.AF.toNat ((a,A'),(b,C')) ⟨ER,F0,o⟩ rfl ?_
  clear o hC hA1 hA ER F0
  rintro j ⟨⟨a,A'⟩,⟨b,C'⟩⟩ H hj ⟨ER,F0,o⟩;dsimp only at ER F0
  have vt : (k+1)*e.AF.toNat≤c.AF.toNat*e.AF.toNat:=Nat.mul_le_mul_right _ Qw;rw [Nat.succ_mul] at vt
  have hA : A'.length=m+k*e.AF.toNat+j:=by rw [ER,List.length_append,List.length_take,oM,hm,yv]; omega
  have hC : C'.length=A'.length:=by rw [hA,F0,List.length_append,List.length_take,vd,Zy,yq]; omega
  have hA1 : m≤A'.length:=by omega
  dsimp only at o
  have fk:=hMe (k+1) Qw;rw [Nat.succ_mul] at fk;refine tt ?_;apply bk <;> intro h2
  ·have Aq:=A6 h2
   have w:=ws j
   have Fb : j<e.AF.toNat:=by omega
   have wc : IntKind.i64.wrap (c.AF+(j : Int))=c.AF+(j : Int):=wrap_i64 (by omega) (by omega);unfold EV at o;refine tt ?_;refine AH o (by simp) (tt ?_);refine BB _ o.swap rfl rfl (by simp only [AN]; omega) fun a H A2 eA2 Xq o=>tt ?_;refine sw o.swap fun H o=>tt ?_;refine AH o (by simp) ?_;refine tw wc ?_;refine BB _ (o.pull [_,_]) rfl rfl (by simp only [AN]; omega) fun b H C2 eC2 wu o=>tt ?_;refine sw o.swap fun H o=>?_;refine tw w ?_;refine A4 ((a,A2),(b,C2)) (by omega) ⟨?_, ?_, ?_⟩ rfl
   ·show A2=_
    rw [eA2,ER,List.append_assoc,← Nat.add_assoc,Ar _ (by omega),eW,Ab _ _ (LV xt Fb),(G6 Fb).1]
   ·show C2=_
    rw [eC2,F0,List.append_assoc,← Nat.add_assoc,Ar _ (by omega),fP,Ab _ _ (LV xt Fb),(G6 Fb).2,Int.natCast_add,Int.toNat_of_nonneg cob.1]
   try unfold EV
   exact o.pm
  ·have Aq:=A7 h2
   have w:=ws k;refine tw w ?_
   have Ng : j=e.AF.toNat:=by omega
   exact A4 ((a,A'),(b,C')) (by omega) ⟨by show A'=_; rw [ER,Ng,Nat.succ_mul],by show C'=_; rw [F0,Ng,Nat.succ_mul],o⟩ rfl
 ·have AU:=A7 h1
  have dQ : k=c.AF.toNat:=by omega
  have lM : A'=LC c e:=by rw [ER,dQ,← yv,List.take_length]; rfl
  have yF : C'=Dc c e:=by rw [F0,dQ,← yq,List.take_length]; rfl
  have hgj:=Uf hc he
  have hAb : A'.length≤N+M+N*M:=by have:=hMe k hk; omega
  have pL : A'.length=(BW c e).AB.length+c.AF.toNat*e.AF.toNat:=by rw [hA,dQ,oM,hm]
  have Nz : ∀ f,f<A'.length→0≤A'.getD f default∧A'.getD f default<c.AF+e.AF:=fun f hf=>by
   have:=hgj.2.AB f (by show f<(LC c e).length; rw [← lM]; exact hf);rw [lM]; exact this
  have zq : ∀ f,f<A'.length→0≤C'.getD f default∧C'.getD f default<c.AF+e.AF:=fun f hf=>by
   have:=hgj.2.to f (by show f<(LC c e).length; rw [← lM]; exact hf);rw [yF]; exact this
  clear h1 AU hk hA ER F0;unfold EV at o;refine tt ?_
  have od : A9 H0 H ((d,AG.cells 1 Xs 0)::(ob++[(Bv,AG.cells 5 [iI qo,.buf a A'.length,.buf b C'.length,.buf i I.length,.buf d Xs.length] 0),(a,AG.cells 1 (A'.map iI) 0),(b,AG.cells 1 (C'.map iI) 0),(i,AG.cells 1 (I.map iI) 0),(B1,AG.cells 5 [iI 0,.A0,.A0,.A0,.A0] 0)])):=o.pm;refine EA hX [] H od fun H o=>?_;simp only [List.nil_append] at o
  have o : A9 H0 H [(Bv,AG.cells 5 [iI qo,.buf a A'.length,.buf b C'.length,.buf i I.length,.buf d Xs.length] 0),(d,AG.cells 1 (As.map iL) 0),(a,AG.cells 1 (A'.map iI) 0),(b,AG.cells 1 (C'.map iI) 0),(i,AG.cells 1 (I.map iI) 0),(B1,AG.cells 5 [iI 0,.A0,.A0,.A0,.A0] 0)]:=o.pm;refine B6 4 o rfl Iw fun H o=>?_;have o:=s1 o;refine B6 1 o rfl rfl fun H o=>?_;have o:=s1 o;refine B6 2 o rfl rfl fun H o=>?_;have o:=s1 o;refine B6 3 o rfl rfl fun H o=>AX ?_;have o:=s1 o;clear od;refine tt ?_;refine AP o fun xF H o=>tt ?_
  refine AD [2,3,4,5,6] (G:=Nat × List (List Int)) (fun f g=>[(9,some (.buf g.1 g.2.length)),(10,some (.int .i64 (f : Int)))])
   (fun f g H=>g.2=(List.range f).map (fun f=>(List.range A'.length).map (HE c e f))∧A9 H0 H [(g.1,AG.cells 1 (g.2.map iL) 0),(Bv,AG.cells 5 [iI qo,iL A',iL C',iL I,B5 As] 0),(B1,AG.cells 5 [iI 0,.A0,.A0,.A0,.A0] 0)]) A'.length (xF,[]) ⟨rfl,o⟩ rfl ?_
  clear o
  rintro f ⟨xF,T⟩ H hf ⟨yB,o⟩;dsimp only at yB
  have hT : T.length=f:=by rw [yB]; simp
  dsimp only at o;refine tt ?_;refine AH o.tl (by simp) (tt ?_);apply bk <;> intro h2
  ·have Aq:=A6 h2;refine tt ?_;refine AP o fun Bt H o=>tt ?_
   refine AD [2,3,4,5,6,9,10] (G:=Nat × List Int) (fun g r=>[(11,some (.buf r.1 r.2.length)),(12,some (.int .i64 (g : Int)))])
    (fun g r H=>r.2=(List.range g).map (HE c e f)∧A9 H0 H [(r.1,AG.cells 1 (r.2.map iI) 0),(xF,AG.cells 1 (T.map iL) 0),(Bv,AG.cells 5 [iI qo,iL A',iL C',iL I,B5 As] 0),(B1,AG.cells 5 [iI 0,.A0,.A0,.A0,.A0] 0)]) A'.length (Bt,[]) ⟨rfl,o⟩ rfl ?_
   clear o
   rintro g ⟨Bt,row⟩ H hg ⟨Dv,o⟩;dsimp only at Dv
   have hr : row.length=g:=by rw [Dv]; simp
   dsimp only at o;refine tt ?_;refine AH o.tl.tl (by simp) (tt ?_);apply bk <;> intro h3
   ·have BH:=A6 h3
    have w:=ws g
    have Nk:=Nz f Aq
    have hga:=Nz g BH
    have vz:=zq g BH
    have hmA : m+c.AF.toNat*e.AF.toNat=A'.length:=by rw [pL,oM,hm]
    refine tt ?_;refine AH o.tl.tl (by simp) (tt ?_);refine ⟨by omega,AH o.tl.tl (by simp) ?_⟩;refine tt ?_;refine ⟨by omega,tt ?_⟩;apply bk <;> intro h4
    ·have jp : HE c e f g=-1:=if_pos (by rw [← lM,← yF]; simpa using h4);refine tt ?_;refine BB _ o rfl rfl (by simp only [AN]; omega) fun Bt H row2 er2 G2 o=>?_;refine tw w ?_;exact A4 (Bt,row2) BH ⟨by show row2=_; rw [er2,Dv,List.range_succ,List.map_append,List.map_singleton,jp],o⟩ rfl
    ·have D9 : ¬ (Dc c e).getD f default≠(LC c e).getD g default:=by rw [← lM,← yF]; simpa using h4
     have jp0 : HE c e f g=if f<m∧g<m then (As.getD f default).getD g default else (m : Int)+A'.getD f default*e.AF+C'.getD g default - c.AF:=by
      rw [HE,if_neg D9,hqD,oM,hm,lM,yF]
     have mb : 0≤A'.getD f default*e.AF∧A'.getD f default*e.AF≤65536*65536:=⟨Int.mul_nonneg Nk.1 eob.1,Int.mul_le_mul (by omega) (by omega) eob.1 (by omega)⟩
     have w1 : IntKind.i64.wrap (A'.getD f default*e.AF)=A'.getD f default*e.AF:=wrap_i64 (by omega) (by omega)
     have w2 : IntKind.i64.wrap ((m : Int)+A'.getD f default*e.AF)=(m : Int)+A'.getD f default*e.AF:=wrap_i64 (by omega) (by omega)
     have w3 : IntKind.i64.wrap ((m : Int)+A'.getD f default*e.AF+C'.getD g default)=(m : Int)+A'.getD f default*e.AF+C'.getD g default:=wrap_i64 (by omega) (by omega)
     have w4 : IntKind.i64.wrap ((m : Int)+A'.getD f default*e.AF+C'.getD g default - c.AF)=(m : Int)+A'.getD f default*e.AF+C'.getD g default - c.AF:=wrap_i64 (by omega) (by omega);refine tt ?_;apply bk <;> intro h5
     ·have JB:=A6 h5;refine tw h5 ?_;apply bk <;> intro h6
      ·have Ln:=A6 h6
       have hq:=qrow f (by omega);refine tt ?_;refine AH o.tl.tl (by simp) (tt ?_);refine ⟨by omega,by omega, ?_⟩;refine BB _ o rfl rfl (by simp only [AN]; omega) fun Bt H row2 er2 G2 o=>?_;refine tw w ?_;exact A4 (Bt,row2) BH ⟨by show row2=_; rw [er2,Dv,List.range_succ,List.map_append,List.map_singleton,jp0,if_pos ⟨by omega,by omega⟩],o⟩ rfl
      ·have Ln:=A7 h6;refine tt ?_;refine AH o.tl.tl (by simp) (tt ?_);refine ⟨by omega,tt ?_⟩;refine AH o.tl.tl (by simp) (tt ?_);refine ⟨by omega,tt ?_⟩;refine BB _ o rfl rfl (by simp only [AN]; omega) fun Bt H row2 er2 G2 o=>?_;refine tw w ?_;exact A4 (Bt,row2) BH ⟨by show row2=_; rw [er2,Dv,List.range_succ,List.map_append,List.map_singleton,jp0,if_neg (by omega),w1,w2,w3,w4],o⟩ rfl
     ·have JB:=A7 h5;refine tw h5 ?_;refine AH o.tl.tl (by simp) (tt ?_);refine ⟨by omega,tt ?_⟩;refine AH o.tl.tl (by simp) (tt ?_);refine ⟨by omega,tt ?_⟩;refine BB _ o rfl rfl (by simp only [AN]; omega) fun Bt H row2 er2 G2 o=>?_;refine tw w ?_;exact A4 (Bt,row2) BH ⟨by show row2=_; rw [er2,Dv,List.range_succ,List.map_append,List.map_singleton,jp0,if_neg (by omega),w1,w2,w3,w4],o⟩ rfl
   ·have BH:=A7 h3
    have w:=ws f;refine tt ?_;refine Am o rfl fun H o=>tt ?_;refine Ae row o rfl rfl (by simp only [AN]; omega) fun xF H o=>?_;refine tw w ?_
    have RA : g=A'.length:=by omega
    refine A4 (xF,T++[row]) Aq ⟨?_,o⟩ rfl
    show T++[row]=_
    rw [yB,Dv,RA,List.range_succ (n:=f),List.map_append]; rfl
  ·have Aq:=A7 h2;refine tt ?_;refine Am o rfl fun H o=>tt ?_;refine sw o fun H o=>tt ?_;refine AO o (by simp) (tt ?_);refine sw o.swap fun H o=>tt ?_
   have CG:=o.rc 5 0 (by simp);simp only [List.drop_zero] at CG;rw [CG];refine tt ?_
   have XV : f=A'.length:=by omega
   rw [XV] at yB
   have hD : T=(M4 c e).comp:=by rw [yB,pL]; rfl
   exact B0 ⟨M4 c e,by rw [hD,lM,yF,← hqI,← hqo]; rfl,hgj⟩ o.sub
@[go_sem] def D4 (CT B1 : Nat) (x0 : Int) (a : Nat) (A : List Int) (b : Nat) (C : List Int) (i : Nat) (I : List Int) (d : Nat) (D : List (List Int)) : Ob :=
 [(CT,.cells 5 [iI x0,.buf a A.length,.buf b C.length,.buf i I.length,.buf d D.length] 0),(a,.cells 1 (A.map iI) 0),(b,.cells 1 (C.map iI) 0),(i,.cells 1 (I.map iI) 0),(d,.cells 1 (D.map iL) 0),(B1,.cells 5 [iI 0,.A0,.A0,.A0,.A0] 0)]
theorem O3 (B N M : Nat) (hN : N≤65536) (hM : M≤65536) (hNM : N*M≤65536) (c e : Ax) (hc : c.Good N) (he : e.Good M) : Dt B 161 [.agg c.cells,.agg e.cells] (T9 (N*M)):=by
 intro H0;refine wQ.go fun _=>?_
 have gK:=UX hc he
 obtain ⟨⟨cob,cil,cml,ctl,ccl,crow⟩,ct⟩:=hc
 obtain ⟨⟨eob,eil,eml,etl,ecl,erow⟩,et⟩:=he
 have hei : e.Ac.length=e.AF.toNat:=by omega
 have hci : c.Ac.length=c.AF.toNat:=by omega
 have wpr : ∀ {a b p q : Int},0≤a∧a<p→p≤N→0≤b∧b<q→q≤M→IntKind.i64.wrap (a*q)=a*q∧IntKind.i64.wrap (a*q+b)=a*q+b:=fun {a b p q} ha hp hb hq=>by
  have h1:=Ju ha hb
  have h2 : p*q≤(N : Int)*(M : Int):=Int.mul_le_mul hp hq (by omega) (by omega)
  have h3 : ((N*M : Nat) : Int)=(N : Int)*(M : Int):=Int.natCast_mul N M
  have h4 : 0≤a*q:=Int.mul_nonneg ha.1 (by omega);exact ⟨wrap_i64 (by omega) (by omega),wrap_i64 (by omega) (by omega)⟩
 have aW : 0≤c.AF*e.AF:=Int.mul_nonneg cob.1 eob.1
 have hpN : c.AF*e.AF≤(N : Int)*(M : Int):=Int.mul_le_mul cob.2 eob.2 eob.1 (Int.natCast_nonneg N)
 have iu : ((N*M : Nat) : Int)=(N : Int)*(M : Int):=Int.natCast_mul N M
 have wo : IntKind.i64.wrap (c.AF*e.AF)=c.AF*e.AF:=wrap_i64 (by omega) (by omega)
 have hoe : c.AF*e.AF=((c.AF.toNat*e.AF.toNat : Nat) : Int):=by rw [Int.natCast_mul,Int.toNat_of_nonneg cob.1,Int.toNat_of_nonneg eob.1]
 have hMo : ∀ x,x≤c.AF.toNat→x*e.AF.toNat≤N*M:=fun x hx=>Nat.mul_le_mul (by omega) (by omega)
 have xe : ∀ x,x≤c.AB.length→x*e.AB.length≤N*M:=fun x hx=>Nat.mul_le_mul (by omega) (by omega);refine tw wo ?_;refine Ai (.nil _) fun B1 H o=>?_;refine tw wo ?_;refine AP o fun a H o=>tt ?_;refine AP o fun b H o=>tt ?_;refine AP o fun i H o=>tt ?_;refine AP o fun d H o=>tt ?_;refine Ai o fun CT H o=>tt ?_;refine sw o fun H o=>tt ?_
 refine AD [2,3,4,5,6,7] (G:=Nat × List Int) (fun k _=>[(8,some (.int .i64 (k : Int)))])
  (fun k g H=>g.2=(QG c.Ac e.Ac e.AB.length).take (k*e.AF.toNat)∧A9 H0 H (D4 CT B1 (c.AF*e.AF) a [] b [] g.1 g.2 d [])) c.AF.toNat (i,[]) ⟨by simp,by unfold D4; exact o.pm⟩ rfl ?_
 clear o
 rintro k ⟨i,I⟩ H hk ⟨Pf,o⟩;dsimp only at Pf
 have Nw : (QG c.Ac e.Ac e.AB.length).length=c.AF.toNat*e.AF.toNat:=by rw [H7,hci,hei]
 dsimp only at o;refine tt ?_;apply bk <;> intro h1
 ·have AU:=A6 h1
  have Qw:=hMo (k+1) (by omega);rw [Nat.succ_mul] at Qw;refine tt ?_
  refine AD [2,3,4,5,6,7,8] (G:=Nat × List Int) (fun j _=>[(9,some (.int .i64 (j : Int)))])
   (fun j g H=>g.2=(QG c.Ac e.Ac e.AB.length).take (k*e.AF.toNat+j)∧A9 H0 H (D4 CT B1 (c.AF*e.AF) a [] b [] g.1 g.2 d [])) e.AF.toNat (i,I) ⟨Pf,o⟩ rfl ?_
  clear o Pf
  rintro j ⟨i,I⟩ H hj ⟨Pf,o⟩;dsimp only at Pf
  have hI : I.length≤k*e.AF.toNat+j:=by rw [Pf,List.length_take]; omega
  dsimp only at o;refine tt ?_;apply bk <;> intro h2
  ·have Aq:=A6 h2
   have w:=ws j
   have xt : k<c.AF.toNat:=by omega
   have h2j : j<e.AF.toNat:=by omega
   have wi:=wpr (ct.Ac k (by omega)).1 (by omega) (et.Ac j (by omega)).1 (by omega);unfold D4 at o;refine tt ?_;refine AH o (by simp) ?_;try simp only [go_sem,↓reduceIte,reduceEqDiff,reduceAdd,reduceMul,reduceLeDiff,reduceLT,wi.1,wi.2]
   refine ⟨by omega,by omega, ?_⟩;refine BB _ (o.pull [_,_,_]) rfl rfl (by simp only [AN]; omega) fun i H I2 eI2 hI2 o=>tt ?_;refine sw o.swap fun H o=>?_;refine tw w ?_;refine A4 (i,I2) (by omega) ⟨by show I2=_; rw [eI2,Pf,NG hei (by omega) h2j]; rfl, ?_⟩ rfl
   try unfold D4
   exact o.pm
  ·have Aq:=A7 h2
   have w:=ws k;refine tw w ?_;exact A4 (i,I) (by omega) ⟨by show I=_; rw [Pf,show j=e.AF.toNat by omega,Nat.succ_mul],o⟩ rfl
 ·have AU:=A7 h1
  obtain rfl : k=c.AF.toNat:=by omega
  have vB : I=(GR c e).Ac:=by rw [Pf,← Nw,List.take_length]; rfl
  have hI : I.length=c.AF.toNat*e.AF.toNat:=by rw [vB]; exact Nw
  clear h1 AU hk;refine tt ?_
  refine AD [2,3,4,5,6,7] (G:=(Nat × List Int) × (Nat × List Int) × (Nat × List (List Int))) (fun k _=>[(10,some (.int .i64 (k : Int)))])
   (fun k g H=>g.1.2=(QG c.AB e.AB e.AF).take (k*e.AB.length)∧g.2.1.2=(QG c.to e.to e.AF).take (k*e.AB.length)∧g.2.2.2=(List.range (k*e.AB.length)).map (fun f=>(List.range (c.AB.length*e.AB.length)).map (LR c e f)) ∧
    A9 H0 H (D4 CT B1 (c.AF*e.AF) g.1.1 g.1.2 g.2.1.1 g.2.1.2 i I g.2.2.1 g.2.2.2)) c.AB.length ((a,[]),(b,[]),(d,[])) ⟨by simp,by simp,by simp,o⟩ rfl ?_
  clear o
  rintro k ⟨⟨a,A⟩,⟨b,C⟩,⟨d,D⟩⟩ H hk ⟨ER,F0,PZ,o⟩;dsimp only at ER F0 PZ
  have L7 : (QG c.AB e.AB e.AF).length=c.AB.length*e.AB.length:=H7 _ _ _
  have Zy : (QG c.to e.to e.AF).length=c.AB.length*e.AB.length:=by rw [H7,ctl,etl]
  have aN : k*e.AB.length≤c.AB.length*e.AB.length:=Nat.mul_le_mul_right _ hk
  have hA : A.length=k*e.AB.length:=by rw [ER,List.length_take]; omega
  have hC : C.length=k*e.AB.length:=by rw [F0,List.length_take]; omega
  have hD : D.length=k*e.AB.length:=by rw [PZ]; simp
  dsimp only at o;refine tt ?_;apply bk <;> intro h1
  ·have AU:=A6 h1
   have Qw:=xe (k+1) (by omega);rw [Nat.succ_mul] at Qw
   have crk:=crow k AU;refine tt ?_
   refine AD [2,3,4,5,6,7,10] (G:=(Nat × List Int) × (Nat × List Int) × (Nat × List (List Int))) (fun j _=>[(11,some (.int .i64 (j : Int)))])
    (fun j g H=>g.1.2=(QG c.AB e.AB e.AF).take (k*e.AB.length+j)∧g.2.1.2=(QG c.to e.to e.AF).take (k*e.AB.length+j)∧g.2.2.2=(List.range (k*e.AB.length+j)).map (fun f=>(List.range (c.AB.length*e.AB.length)).map (LR c e f)) ∧
     A9 H0 H (D4 CT B1 (c.AF*e.AF) g.1.1 g.1.2 g.2.1.1 g.2.1.2 i I g.2.2.1 g.2.2.2)) e.AB.length ((a,A),(b,C),(d,D)) ⟨ER,F0,PZ,o⟩ rfl ?_
   clear o hA hC hD ER F0 PZ
   rintro j ⟨⟨a,A⟩,⟨b,C⟩,⟨d,D⟩⟩ H hj ⟨ER,F0,PZ,o⟩;dsimp only at ER F0 PZ
   have hkm1 : (k+1)*e.AB.length≤c.AB.length*e.AB.length:=Nat.mul_le_mul_right _ AU;rw [Nat.succ_mul] at hkm1
   have hA : A.length=k*e.AB.length+j:=by rw [ER,List.length_take]; omega
   have hC : C.length=k*e.AB.length+j:=by rw [F0,List.length_take]; omega
   have hD : D.length=k*e.AB.length+j:=by rw [PZ]; simp
   dsimp only at o;refine tt ?_;apply bk <;> intro h2
   ·have Aq:=A6 h2
    have erj:=erow j Aq
    have wf:=wpr (ct.AB k AU) (by omega) (et.AB j Aq) (by omega)
    have wt:=wpr (ct.to k AU) (by omega) (et.to j Aq) (by omega);unfold D4 at o;refine tt ?_;refine AH o (by simp) ?_;try simp only [go_sem,↓reduceIte,reduceEqDiff,reduceAdd,reduceMul,reduceLeDiff,reduceLT,wf.1,wf.2]
    refine ⟨by omega,by omega, ?_⟩;refine BB _ o.swap rfl rfl (by simp only [AN]; omega) fun a H A2 eA2 Xq o=>tt ?_;refine sw o.swap fun H o=>tt ?_;refine AH o (by simp) ?_;try simp only [go_sem,↓reduceIte,reduceEqDiff,reduceAdd,reduceMul,reduceLeDiff,reduceLT,wt.1,wt.2]
    refine ⟨by omega,by omega, ?_⟩;refine BB _ (o.pull [_,_]) rfl rfl (by simp only [AN]; omega) fun b H C2 eC2 wu o=>tt ?_;refine sw o.swap fun H o=>tt ?_
    have o : A9 H0 H (D4 CT B1 (c.AF*e.AF) a A2 b C2 i I d D):=by
     try unfold D4
     exact o.pm
    refine AP o fun Bt H o=>tt ?_
    refine AD [2,3,4,5,6,7,10,11] (G:=Nat × List Int) (fun f g=>[(12,some (.buf g.1 g.2.length)),(13,some (.int .i64 (f : Int)))])
     (fun f g H=>g.2=(List.range (f*e.AB.length)).map (LR c e (k*e.AB.length+j))∧A9 H0 H ((g.1,AG.cells 1 (g.2.map iI) 0)::D4 CT B1 (c.AF*e.AF) a A2 b C2 i I d D)) c.AB.length (Bt,[]) ⟨by simp,o⟩ rfl ?_
    clear o
    rintro f ⟨Bt,row⟩ H hf ⟨Dv,o⟩;dsimp only at Dv
    have hr : row.length=f*e.AB.length:=by rw [Dv]; simp
    dsimp only at o;refine tt ?_;apply bk <;> intro h3
    ·have BH:=A6 h3
     have R2:=xe (f+1) (by omega);rw [Nat.succ_mul] at R2;refine tt ?_
     refine AD [2,3,4,5,6,7,10,11,13] (G:=Nat × List Int) (fun g r=>[(12,some (.buf r.1 r.2.length)),(14,some (.int .i64 (g : Int)))])
      (fun g r H=>r.2=(List.range (f*e.AB.length+g)).map (LR c e (k*e.AB.length+j))∧A9 H0 H ((r.1,AG.cells 1 (r.2.map iI) 0)::D4 CT B1 (c.AF*e.AF) a A2 b C2 i I d D)) e.AB.length (Bt,row) ⟨Dv,o⟩ rfl ?_
     clear o hr Dv
     rintro g ⟨Bt,row⟩ H hg ⟨Dv,o⟩;dsimp only at Dv
     have hr : row.length=f*e.AB.length+g:=by rw [Dv]; simp
     dsimp only at o;refine tt ?_;apply bk <;> intro h4
     ·have D9:=A6 h4
      have w:=ws g
      have pp:=Yg (c:=c) (e:=e) (k:=k) (f:=f) Aq D9
      have cbd:=ct.bound (f:=k) (g:=f) AU BH
      have ebd:=et.bound (f:=j) (g:=g) Aq D9
      have cE : B7 c k f=(c.comp.getD k default).getD f default:=rfl
      have eE : B7 e j g=(e.comp.getD j default).getD g default:=rfl;rw [cE] at cbd;rw [eE] at ebd;refine tt ?_;refine ⟨by omega,by omega,tt ?_⟩;apply bk <;> intro h5
      ·have JB : 0≤B7 c k f:=by rw [cE]; have:=A6 h5; exact this
       refine tw h5 ?_;refine ⟨by omega,by omega,tt ?_⟩;apply bk <;> intro h6
       ·have Ln : 0≤B7 e j g:=by rw [eE]; have:=A6 h6; exact this
        have wh:=wpr (a:=(c.comp.getD k default).getD f default) (b:=(e.comp.getD j default).getD g default) (p:=c.AB.length) (q:=e.AB.length) ⟨by rw [← cE]; exact JB,cbd.2⟩ (by omega) ⟨by rw [← eE]; exact Ln,ebd.2⟩ (by omega);try simp only [go_sem,↓reduceIte,reduceEqDiff,reduceAdd,reduceMul,reduceLeDiff,reduceLT,wh.1,wh.2]
        refine ⟨by omega,by omega,by omega,by omega, ?_⟩;refine BB _ o rfl rfl (by simp only [AN]; omega) fun Bt H row2 er2 G2 o=>?_;refine tw w ?_;exact A4 (Bt,row2) D9 ⟨by show row2=_; rw [er2,Dv,← Nat.add_assoc,List.range_succ,List.map_append,List.map_singleton,pp,if_pos ⟨JB,Ln⟩]; rfl,o⟩ rfl
       ·have Ln : ¬ 0≤B7 e j g:=by rw [eE]; have:=A7 h6; exact this
        refine tt ?_;refine BB _ o rfl rfl (by simp only [AN]; omega) fun Bt H row2 er2 G2 o=>?_;refine tw w ?_;exact A4 (Bt,row2) D9 ⟨by show row2=_; rw [er2,Dv,← Nat.add_assoc,List.range_succ,List.map_append,List.map_singleton,pp,if_neg fun q=>Ln q.2],o⟩ rfl
      ·have JB : ¬ 0≤B7 c k f:=by rw [cE]; have:=A7 h5; exact this
       refine tw h5 ?_;refine BB _ o rfl rfl (by simp only [AN]; omega) fun Bt H row2 er2 G2 o=>?_;refine tw w ?_;exact A4 (Bt,row2) D9 ⟨by show row2=_; rw [er2,Dv,← Nat.add_assoc,List.range_succ,List.map_append,List.map_singleton,pp,if_neg fun q=>JB q.1],o⟩ rfl
     ·have D9:=A7 h4
      have w:=ws f;refine tw w ?_;exact A4 (Bt,row) BH ⟨by show row=_; rw [Dv,show g=e.AB.length by omega,Nat.succ_mul],o⟩ rfl
    ·have BH:=A7 h3
     obtain rfl : f=c.AB.length:=by omega
     have w:=ws j;unfold D4 at o;refine tt ?_;refine Am o rfl fun H o=>tt ?_;refine AH o (by simp) (tt ?_);refine BB row (o.pull [_,_,_,_]) rfl rfl (by simp only [AN]; omega) fun d H D2 eD hD2 o=>tt ?_;refine sw o.swap fun H o=>?_;refine tw w ?_;refine A4 ((a,A2),(b,C2),(d,D2)) Aq ⟨by show A2=_; rw [eA2,ER,NG rfl AU Aq]; rfl,by show C2=_; rw [eC2,F0,NG etl (by omega) Aq]; rfl, ?_, ?_⟩ rfl
     ·show D2=_
      rw [eD,PZ,Dv,← Nat.add_assoc,List.range_succ (n:=k*e.AB.length+j),List.map_append]; rfl
     ·try unfold D4
      exact o.pm
   ·have Aq:=A7 h2
    have w:=ws k;refine tw w ?_
    have Ng : j=e.AB.length:=by omega
    exact A4 ((a,A),(b,C),(d,D)) AU ⟨by show A=_; rw [ER,Ng,Nat.succ_mul],by show C=_; rw [F0,Ng,Nat.succ_mul],by show D=_; rw [PZ,Ng,Nat.succ_mul],o⟩ rfl
  ·have AU:=A7 h1
   obtain rfl : k=c.AB.length:=by omega
   have hAb : A.length≤N*M:=by rw [hA]; exact xe _ (Nat.le_refl _)
   unfold D4 at o;refine tt ?_
   have o : A9 H0 H [(CT,AG.cells 5 [iI (c.AF*e.AF),.buf a A.length,.buf b C.length,.buf i I.length,.buf d D.length] 0),(d,AG.cells 1 (D.map iL) 0),(a,AG.cells 1 (A.map iI) 0),(b,AG.cells 1 (C.map iI) 0),(i,AG.cells 1 (I.map iI) 0),(B1,AG.cells 5 [iI 0,.A0,.A0,.A0,.A0] 0)]:=o.pm;refine B6 4 o rfl rfl fun H o=>?_;have o:=s1 o;refine B6 1 o rfl rfl fun H o=>?_;have o:=s1 o;refine B6 2 o rfl rfl fun H o=>?_;have o:=s1 o;refine B6 3 o rfl rfl fun H o=>AX ?_;have o:=s1 o;refine tt ?_;refine AO o (by simp) (tt ?_);refine sw o.swap fun H o=>tt ?_
   have CG:=o.rc 5 0 (by simp);simp only [List.drop_zero] at CG;rw [CG];refine tt ?_
   have o5 : A=(GR c e).AB:=by rw [ER,← L7,List.take_length]; rfl
   have yX : C=(GR c e).to:=by rw [F0,← Zy,List.take_length]; rfl
   have xy : D=(GR c e).comp:=by rw [PZ]; rfl
   exact B0 ⟨GR c e,by rw [o5,yX,vB,xy]; rfl,gK⟩ o.sub
end Go.Proofs.Shf
namespace Go.AW
theorem PK {α : Type} {f : α→AV} : ∀ (ms : List (Nat × List α)) (x : Nat) (h : x<ms.length),∃ r,(inner f ms).Perm (((ms.getD x default).1,AG.cells 1 ((ms.getD x default).2.map f) 0)::r) ∧
  ∀ m : Nat × List α,(inner f (ms.set x m)).Perm ((m.1,AG.cells 1 (m.2.map f) 0)::r)
 | [],x,h=>by simp at h
 | m::ms,0,h=>⟨inner f ms,.refl _,fun m'=>.refl _⟩
 | m::ms,x+1,h=>by
  obtain ⟨r,h1,h2⟩:=PK ms x (by simpa using h);refine ⟨(m.1,AG.cells 1 (m.2.map f) 0)::r, ?_,fun m'=>?_⟩
  ·exact (List.Perm.cons _ h1).trans (.swap _ _ _)
  ·exact (List.Perm.cons _ (h2 m')).trans (.swap _ _ _)
theorem SS {α : Type} [Inhabited α] {f : α→AV} [One f] {H0 H : AA} {l : Ob} {K : Ak} {id fr : Nat} {ms : List (Nat × List α)} (o : A9 H0 H ((id,.cells 1 (ms.map De) fr)::(inner f ms++l))) {x y : Nat} (hx : x<ms.length) (hy : y<(ms.getD x default).2.length) (v : α) {c : AV} (hc : c=f v)
  (hk : ∀ H',A9 H0 H' ((id,.cells 1 ((ms.set x ((ms.getD x default).1,(ms.getD x default).2.set y v)).map De) fr)::(inner f (ms.set x ((ms.getD x default).1,(ms.getD x default).2.set y v))++l))→K nv H') :
  Ka (H.get (ms.getD x default).1) (ms.getD x default).1 y 1 [c] K H:=by
 subst hc
 obtain ⟨r,h1,h2⟩:=PK (f:=f) ms x hx
 have o1 : A9 H0 H (((ms.getD x default).1,AG.cells 1 ((ms.getD x default).2.map f) 0)::(id,.cells 1 (ms.map De) fr)::(r++l)):=by
  refine o.perm (((List.Perm.append_right l h1).cons _).trans ?_);simp only [List.cons_append];exact .swap _ _ _
 refine AS o1 (by rw [List.length_map]; omega) rfl (by simp [One.one]) fun H' o2=>?_
 have e1 : wr ((ms.getD x default).2.map f) y [f v]=((ms.getD x default).2.set y v).map f:=by
  simp [wr,List.map_set]
 have e2 : (ms.set x ((ms.getD x default).1,(ms.getD x default).2.set y v)).map De=ms.map (De (α:=α)):=by
  rw [List.map_set];apply List.ext_getElem?
  intro j
  by_cases hj : x=j
  ·subst hj;rw [List.getElem?_set_self (by simpa using hx)]
   simp [hx,De,Go.AW.gE]
  ·rw [List.getElem?_set_ne hj]
 rw [e1] at o2;refine hk H' ?_;rw [e2];refine o2.perm ((List.Perm.swap _ _ _).trans (.cons _ ?_))
 have:=List.Perm.append_right l (h2 ((ms.getD x default).1,(ms.getD x default).2.set y v)).symm
 simpa using this
end Go.AW
namespace Go.Shf
open Go.AW
def eM (ms : List (Nat × List Int)) (a b : Nat) : Int:=((ms.getD a default).2).getD b default
theorem YD {ms : List (Nat × List Int)} {n y z : Nat} (hl : ms.length=n) (hr : ∀ m,m∈ms→m.2.length=n) (hy : y<n) (hz : z<n) (v : Int) (a b : Nat) :
  eM (ms.set y ((ms.getD y default).1,(ms.getD y default).2.set z v)) a b=if a=y∧b=z then v else eM ms a b:=by
 have hry:=hr (ms.getD y default) (AE.mpr ⟨y,by omega,rfl⟩);simp only [eM];rw [B8]
 by_cases h : y=a
 ·subst h;rw [if_pos ⟨rfl,by omega⟩]
  simp only;rw [B8]
  by_cases h2 : z=b
  ·subst h2; rw [if_pos ⟨rfl,by omega⟩,if_pos (by simp)]
  ·rw [if_neg fun q=>h2 q.1,if_neg fun q=>h2 q.2.symm]
 ·rw [if_neg fun q=>h q.1,if_neg fun q=>h q.1.symm]
def H8 (ms : List (Nat × List Int)) (n x y z : Nat) (r : Nat→Nat→Prop) : Prop:=∀ a b,a<n→b<n→(eM ms a b=1↔r a b∨((a<y∨a=y∧b<z)∧r a x∧r x b))
theorem H8.row {ms : List (Nat × List Int)} {n x y : Nat} {r : Nat→Nat→Prop} (h : H8 ms n x y n r) : H8 ms n x (y+1) 0 r:=fun a b ha hb=>by
 rw [h a b ha hb,show (a<y∨a=y∧b<n)↔(a<y+1∨a=y+1∧b<0) by omega]
theorem H8.Jd {ms : List (Nat × List Int)} {n x y z : Nat} {r : Nat→Nat→Prop} (h : H8 ms n x y z r) (hx : x<n) {a : Nat} (ha : a<n) : eM ms a x=1↔r a x:=by
 rw [h a x ha hx]; exact ⟨fun q=>q.elim id fun q=>q.2.1,.inl⟩
theorem H8.rd2 {ms : List (Nat × List Int)} {n x y z : Nat} {r : Nat→Nat→Prop} (h : H8 ms n x y z r) (hx : x<n) {b : Nat} (hb : b<n) : eM ms x b=1↔r x b:=by
 rw [h x b hx hb]; exact ⟨fun q=>q.elim id fun q=>q.2.2,.inl⟩
theorem H8.no {ms : List (Nat × List Int)} {n x y z : Nat} {r : Nat→Nat→Prop} (h : H8 ms n x y z r) (hn : ¬ (r y x∧r x z)) : H8 ms n x y (z+1) r:=fun a b ha hb=>by
 rw [h a b ha hb]
 constructor
 ·rintro (q | ⟨q,p⟩)
  ·exact .inl q
  ·exact .inr ⟨by omega,p⟩
 ·rintro (q | ⟨q,p⟩)
  ·exact .inl q
  ·by_cases e : a=y∧b=z
   ·exact absurd (e.1 ▸ e.2 ▸ p) hn
   ·exact .inr ⟨by omega,p⟩
theorem H8.yes {ms : List (Nat × List Int)} {n x y z : Nat} {r : Nat→Nat→Prop} (h : H8 ms n x y z r) (hl : ms.length=n) (hr : ∀ m,m∈ms→m.2.length=n) (hy : y<n) (hz : z<n) (hn : r y x∧r x z) :
  H8 (ms.set y ((ms.getD y default).1,(ms.getD y default).2.set z 1)) n x y (z+1) r:=fun a b ha hb=>by
 rw [YD hl hr hy hz]
 by_cases e : a=y∧b=z
 ·rw [if_pos e]
  obtain ⟨rfl,rfl⟩:=e;exact ⟨fun _=>.inr ⟨by omega,hn⟩,fun _=>rfl⟩
 ·rw [if_neg e,h a b ha hb,show (a<y∨a=y∧b<z+1)↔(a<y∨a=y∧b<z) by omega]
theorem KI {ms : List (Nat × List Int)} {a b : Nat} (ha : a<ms.length) : Gm (ms.map Prod.snd) a b=eM ms a b:=by
 rw [Gm,eM,BC _ ha]
end Go.Shf
namespace Go.Proofs.Shf
open Go.AW Go.Proofs Go.Shf
theorem Rd.IE {B : Nat} {fn : FuncId} {args : List AV} {Q : AV→Prop} {id : Nat} {s : Src} {H0 H : AA} {l : List (Nat × AG)} {K : Ak} (h : Rd B fn args Q) (hs : s.Ok) (o : A9 H0 H ((id,s.obj)::l))
  (hk : ∀ (r : AV) (s' : Src) (H' : AA),r.Dn→Q r→s'.Ok→A9 H0 H' ((id,s'.obj)::l)→(∀ z,z≠3→H.N9 z H')→K r H') : CB B fn (.ref id 0::args) H K :=
 (h id s _ H hs o.self).IG fun r H' hf ⟨q,s',J9,o'⟩=>hk r s' H' hf q J9 (o.del.trans o') fun z hz i cs f e=>by
  have h0:=o.h0;refine o'.sub i _ ?_;rw [AA.Bd]
  ·exact e
  ·rintro rfl;simp only at h0;rw [h0] at e;simp only [Src.obj] at e
   cases e;exact hz rfl
theorem He (B n : Nat) (hn : n≤4) : Rd B 242 [iI n] PoQ:=by
 intro id s H0 H hs o;refine tL.go fun _=>?_;refine tt ?_;refine AP o fun Je H o=>tt ?_
 refine AD [0,1] (G:=Src × Nat × List (Nat × List Int)) (fun k g=>[(5,some (.buf g.2.1 g.2.2.length)),(6,some (.int .i64 (k : Int)))])
  (fun k g H=>g.1.Ok∧g.2.2.length=k∧(∀ m,m∈g.2.2→m.2.length=n)∧(∀ i,i<k→eM g.2.2 i i=1)∧A9 H0 H ((g.2.1,AG.cells 1 (g.2.2.map De) 0)::(inner iI g.2.2++[(id,g.1.obj)]))) n (s,Je,[]) ⟨hs,rfl,by simp,fun i hi=>by omega,o⟩ rfl ?_
 clear o hs
 rintro k ⟨s,Je,ms⟩ H hk ⟨hs,ET,Ip,TZ,o⟩;dsimp only at hs ET Ip TZ o;refine tt ?_;refine ⟨fun h1=>At.mk ?_,fun h1=>At.mk ?_⟩
 ·have AU:=A6 h1;refine tt ?_;refine ⟨by simp only [AN]; omega, ?_⟩;refine EI iI 0 rfl o fun Bt H o=>tt ?_;refine ⟨by omega,BT 1 o rfl (by simp; omega) fun H o=>?_⟩
  have wk1:=ws k;refine tw wk1 ?_
  refine AD [0,1,5,6,7] (G:=Src × List Int) (fun q g=>[(8,some (.int .i64 ((k+1+q : Nat) : Int)))])
   (fun q g H=>g.1.Ok∧g.2.length=n∧g.2.getD k default=1∧A9 H0 H ((Bt,AG.cells 1 (g.2.map iI) 0)::(Je,AG.cells 1 (ms.map De) 0)::(inner iI ms++[(id,g.1.obj)]))) (n - (k+1)) (s,(List.replicate n 0).set k 1) ⟨hs,by simp,by rw [B8,if_pos ⟨rfl,by simpa using AU⟩],o⟩ rfl ?_
  clear o hs
  rintro q ⟨s,row⟩ H hq ⟨hs,hr,kV,o⟩;dsimp only at hs hr kV o;refine tt ?_;refine ⟨fun h2=>At.mk ?_,fun h2=>At.mk ?_⟩
  ·have Aq:=A6 h2
   have w:=Oi (k:=k+1+q) (by omega);refine tt ?_
   have o : A9 H0 H ((id,s.obj)::(Bt,AG.cells 1 (row.map iI) 0)::(Je,AG.cells 1 (ms.map De) 0)::inner iI ms):=o.pm;refine (AY B 2).go hs o fun r s H _ ⟨v,e,_⟩ hs o=>?_;subst e;refine tt ?_;refine ⟨by omega, ?_⟩
   have o:=o.swap;refine BT v o rfl (by omega) fun H o=>?_;refine tw w ?_;refine A4 (s,row.set (k+1+q) v) (by omega) ⟨hs,by simp [hr],by show (row.set (k+1+q) v).getD k default=1; rw [B8,if_neg fun z=>by omega]; exact kV,o.pm⟩ rfl
  ·have Aq:=A7 h2
   have w:=ws k;refine tt ?_;refine Ae (f:=De) (Bt,row) o.swap (by simp [De,hr]) rfl (by simp only [AN]; omega) fun Je H o=>?_;refine tw w ?_;refine A4 (s,Je,ms++[(Bt,row)]) AU ⟨hs,by simp [ET], ?_,fun i hi=>?_, ?_⟩ rfl
   ·intro m hm
    rcases List.mem_append.mp hm with h | h
    ·exact Ip m h
    ·rw [List.mem_singleton] at h; subst h; exact hr
   ·show eM (ms++[(Bt,row)]) i i=1
    rw [eM]
    by_cases e : i<k
    ·rw [EU (by omega)]; exact TZ i e
    ·have ei : i=k:=by omega
     rw [G7 (by omega),ei,ET,Nat.sub_self]; exact kV
   ·refine o.perm (.cons _ ?_);simp only [inner,List.map_append,List.map_cons,List.map_nil,List.append_assoc,List.cons_append,List.nil_append];exact List.perm_middle.symm
 ·have AU:=A7 h1
  obtain rfl : k=n:=by omega
  clear h1 AU hk;refine tt ?_
  have o : A9 H0 H ((id,s.obj)::(Je,AG.cells 1 (ms.map De) 0)::inner iI ms):=o.pm;refine ⟨fun h2=>At.mk ?_,fun h2=>At.mk ?_⟩
  case' refine_1 =>
   have Aq:=A6 h2;refine tw h2 ?_;refine (AY B 4).go hs o fun r s H _ ⟨v,e,_⟩ hs o=>?_;subst e;refine tt ?_;refine ⟨fun h3=>At.mk ?_,fun h3=>At.mk ?_⟩
   case' refine_1 =>
    have wp : IntKind.i64.wrap ((k : Int) - 1)=((k - 1 : Nat) : Int):=W0 (by omega) (by omega);refine tw wp ?_;refine ⟨by omega,⟨_,_,o.tl.h0⟩,AH o.tl (by simp; omega) ?_⟩;refine tt ?_;refine (AY B k).IE hs o fun r s H _ ⟨v,e,Xl,C0,_⟩ hs o hz=>⟨hz, ?_⟩;subst e
    have C0:=C0 (by omega)
    have kV:=Ip (ms.getD (k - 1) default) (AE.mpr ⟨k - 1,by omega,rfl⟩);rw [getD_map ms (by omega)];refine tt ?_;refine ⟨by omega, ?_⟩
    have o : A9 H0 H ((Je,AG.cells 1 (ms.map De) 0)::(inner iI ms++[(id,s.obj)])):=o.pm;refine SS o (by omega) (by omega) 1 rfl fun H o=>?_
    have zd:=ET
    have hmr0:=Ip
    have ET : (ms.set (k - 1) ((ms.getD (k - 1) default).1,(ms.getD (k - 1) default).2.set v.toNat 1)).length=k:=by simp [ET]
    have Ip : ∀ m,m∈ms.set (k - 1) ((ms.getD (k - 1) default).1,(ms.getD (k - 1) default).2.set v.toNat 1)→m.2.length=k:=by
     intro m hm
     rcases List.mem_or_eq_of_mem_set hm with h | h
     ·exact Ip m h
     ·rw [h]; simpa using kV
    have TZ : ∀ i,i<k→eM (ms.set (k - 1) ((ms.getD (k - 1) default).1,(ms.getD (k - 1) default).2.set v.toNat 1)) i i=1:=fun i hi=>by
     rw [YD zd hmr0 (by omega) (by omega)]; split
     ·rfl
     ·exact TZ i hi
    generalize ms.set (k - 1) ((ms.getD (k - 1) default).1,(ms.getD (k - 1) default).2.set v.toNat 1)=ms at ET Ip TZ o
    have o : A9 H0 H ((id,s.obj)::(Je,AG.cells 1 (ms.map De) 0)::inner iI ms):=o.pm
  all_goals
   try (try simp only [go_sem,↓reduceIte,reduceEqDiff,reduceAdd,reduceMul,reduceLeDiff,reduceLT,h2])
   clear h2
   have o : A9 H0 H ((Je,AG.cells 1 (ms.map De) 0)::(inner iI ms++[(id,s.obj)])):=o.pm
   generalize Zx : ms.length=m0
   replace Zx : m0=k:=by omega
   refine AD [1,5] (G:=List (Nat × List Int)) (fun x _=>[(9,some (.int .i64 (x : Int)))]) (fun x ms H=>ms.length=k∧(∀ m,m∈ms→m.2.length=k)∧uW k x (fun a b=>eM ms a b=1)∧A9 H0 H ((Je,AG.cells 1 (ms.map De) 0)::(inner iI ms++[(id,s.obj)]))) k ms ⟨ET,Ip,⟨TZ,fun m a b hm=>by omega⟩,o⟩ rfl ?_;clear o ET Ip TZ
   rintro x ms H hx ⟨ET,Ip,TR,o⟩
   replace TR : uW k x (fun a b=>eM ms a b=1):=TR
   replace ET : ms.length=k:=ET
   replace Ip : ∀ m,m∈ms→m.2.length=k:=Ip
   replace o : A9 H0 H ((Je,AG.cells 1 (ms.map De) 0)::(inner iI ms++[(id,s.obj)])):=o;refine tt ?_;refine ⟨fun g1=>At.mk ?_,fun g1=>At.mk ?_⟩
   ·have CO:=A6 g1
    have wx:=ws x
    obtain ⟨r,dU⟩ : ∃ r : Nat→Nat→Prop,(fun a b=>eM ms a b=1)=r:=⟨_,rfl⟩;rw [dU] at TR;refine tt ?_;refine AD [1,5,9] (G:=List (Nat × List Int)) (fun y _=>[(10,some (.int .i64 (y : Int)))]) (fun y ms H=>ms.length=k∧(∀ m,m∈ms→m.2.length=k)∧H8 ms k x y 0 r∧A9 H0 H ((Je,AG.cells 1 (ms.map De) 0)::(inner iI ms++[(id,s.obj)]))) k ms ⟨ET,Ip,fun a b ha hb=>by rw [← dU]; simp,o⟩ rfl ?_;clear o ET Ip dU
    rintro y ms H hy ⟨ET,Ip,IJ,o⟩
    replace IJ : H8 ms k x y 0 r:=IJ
    replace ET : ms.length=k:=ET
    replace Ip : ∀ m,m∈ms→m.2.length=k:=Ip
    replace o : A9 H0 H ((Je,AG.cells 1 (ms.map De) 0)::(inner iI ms++[(id,s.obj)])):=o;refine tt ?_;refine ⟨fun g2=>At.mk ?_,fun g2=>At.mk ?_⟩
    ·have CE:=A6 g2
     have wy:=ws y;refine tt ?_;refine AD [1,5,9,10] (G:=List (Nat × List Int)) (fun z _=>[(11,some (.int .i64 (z : Int)))]) (fun z ms H=>ms.length=k∧(∀ m,m∈ms→m.2.length=k)∧H8 ms k x y z r∧A9 H0 H ((Je,AG.cells 1 (ms.map De) 0)::(inner iI ms++[(id,s.obj)]))) k ms ⟨ET,Ip,IJ,o⟩ rfl ?_;clear o ET Ip IJ
     rintro z ms H hz ⟨ET,Ip,IJ,o⟩
     replace IJ : H8 ms k x y z r:=IJ
     replace ET : ms.length=k:=ET
     replace Ip : ∀ m,m∈ms→m.2.length=k:=Ip
     replace o : A9 H0 H ((Je,AG.cells 1 (ms.map De) 0)::(inner iI ms++[(id,s.obj)])):=o;refine tt ?_;refine ⟨fun g3=>At.mk ?_,fun g3=>At.mk ?_⟩
     ·have Du:=A6 g3
      have wz:=ws z
      have hry:=Ip (ms.getD y default) (AE.mpr ⟨y,by omega,rfl⟩)
      have lA:=Ip (ms.getD x default) (AE.mpr ⟨x,by omega,rfl⟩);refine tt ?_;refine ⟨by omega,AH o (by simp; omega) ?_⟩;rw [getD_map ms (by omega)];refine tt ?_;refine ⟨by omega,D1 (o.PH (by omega)) (by omega) ?_⟩;refine tt ?_;refine ⟨fun g4=>At.mk ?_,fun g4=>At.mk ?_⟩
      case' refine_1 =>
       refine tw g4 ?_;refine ⟨by omega,AH o (by simp; omega) ?_⟩;rw [getD_map ms (by omega)];refine tt ?_;refine ⟨by omega,D1 (o.PH (by omega)) (by omega) ?_⟩;refine tt ?_;refine ⟨fun g5=>At.mk ?_,fun g5=>At.mk ?_⟩
       case' refine_1 =>
        refine tt ?_;refine ⟨by omega,AH o (by simp; omega) ?_⟩;rw [getD_map ms (by omega)];refine tt ?_;refine ⟨by omega, ?_⟩;refine SS o (by omega) (by omega) 1 rfl fun H o=>?_
        have gM : H8 (ms.set y ((ms.getD y default).1,(ms.getD y default).2.set z 1)) k x y (z+1) r :=
         IJ.yes ET Ip CE Du ⟨(IJ.Jd CO CE).mp (A6 g4),(IJ.rd2 CO Du).mp (A6 g5)⟩
        have ET : (ms.set y ((ms.getD y default).1,(ms.getD y default).2.set z 1)).length=k:=by simp [ET]
        have Ip : ∀ m,m∈ms.set y ((ms.getD y default).1,(ms.getD y default).2.set z 1)→m.2.length=k:=by
         intro m hm
         rcases List.mem_or_eq_of_mem_set hm with h | h
         ·exact Ip m h
         ·rw [h]; simpa using hry
        generalize ms.set y ((ms.getD y default).1,(ms.getD y default).2.set z 1)=ms at ET Ip gM o
      all_goals
       try (try simp only [go_sem,↓reduceIte,reduceEqDiff,reduceAdd,reduceMul,reduceLeDiff,reduceLT,g4])
       try (try simp only [go_sem,↓reduceIte,reduceEqDiff,reduceAdd,reduceMul,reduceLeDiff,reduceLT,wz])
       first
       | exact A4 ms Du ⟨ET,Ip,gM,o⟩ rfl
       | exact A4 ms Du ⟨ET,Ip,IJ.no fun q=>A7 g5 ((IJ.rd2 CO Du).mpr q.2),o⟩ rfl
       | exact A4 ms Du ⟨ET,Ip,IJ.no fun q=>A7 g4 ((IJ.Jd CO CE).mpr q.1),o⟩ rfl
     ·refine tw wy ?_
      have oP:=A7 g3
      have xn : z=k:=by omega
      exact A4 ms CE ⟨ET,Ip,H8.row (xn ▸ IJ),o⟩ rfl
    ·refine tw wx ?_
     have g2q:=A7 g2
     have hye : y=k:=by omega
     have Zk : uW k (x+1) (fun a b=>eM ms a b=1):=by
      have hs:=TR.step CO;refine ⟨fun a ha=>(IJ a a ha ha).mpr (.inl (TR.refl a ha)),fun m a b hm ha hb q1 q2=>?_⟩
      have e1 : ∀ a b,a<k→b<k→(eM ms a b=1↔r a b∨r a x∧r x b):=fun a b ha hb=>by
       rw [IJ a b ha hb];exact ⟨fun q=>q.imp (fun z=>z) fun q=>q.2,fun q=>q.imp (fun z=>z) fun q=>⟨by omega,q⟩⟩
      rw [e1 a b ha hb];exact hs.tr m a b hm ha hb ((e1 a m ha (by omega)).mp q1) ((e1 m b (by omega) hb).mp q2)
     exact A4 ms CO ⟨ET,Ip,Zk,o⟩ rfl
   ·refine tt ?_;refine V9 (f:=iI) ms [] H o fun H o=>AX ?_;simp only [List.nil_append] at o;refine tt ?_;refine Am (f:=iL) o (by simp; omega) fun H o=>tt ?_
    have g1q:=A7 g1
    have xr : x=k:=by omega
    rw [xr] at TR
    have Ce : (ms.map Prod.snd).length=k:=by simp; omega
    refine B4 ⟨ms.map Prod.snd,rfl,by omega,fun i hi=>?_,fun i hi=>?_,fun i j l hi hj hl=>?_⟩ hs o
    ·have EP : i<ms.length:=by omega
     rw [BC _ EP,Ip _ (AE.mpr ⟨i,EP,rfl⟩),Ce]
    ·rw [KI (by omega)]; exact TR.refl i (by omega)
    ·rw [KI (by omega),KI (by omega),KI (by omega)];exact TR.tr j i l (by omega) (by omega) (by omega)
end Go.Proofs.Shf
namespace Go.AW
section
variable {α : Type} [Inhabited α] {f : α→AV} {n : Nat} [h : Lq n f] {H0 H : AA} {l : Ob} {K : Ak}
theorem PD : ∀ (l : List α) (x : Nat),(flat (l.map f)).drop (x*n)=flat ((l.drop x).map f)
 | l,0=>by simp
 | [],x+1=>by simp [flat]
 | a::r,x+1=>by
  have e : (x+1)*n=(f a).cells.length+x*n:=by rw [h.len a,Nat.succ_mul,Nat.add_comm]
  simp only [List.map_cons,flat,List.drop_succ_cons];rw [e,← List.drop_drop,List.drop_left];exact PD r x
theorem Mz {A : List α} {x : Nat} (hx : x<A.length) : ((flat (A.map f)).drop (x*n)).take n=(f (A.getD x default)).cells:=by
 rw [PD,List.drop_eq_getElem_cons hx,List.map_cons,flat,List.take_left' (h.len _)]
 congr 2
 simp [Go.AW.gE,hx]
theorem ZG {A : List α} {x off : Nat} (hx : x<A.length) (ho : off<n) : (flat (A.map f)).getD (x*n+off) nv=(f (A.getD x default)).cells.getD off nv:=by
 rw [← Mz (f:=f) (n:=n) hx];simp only [Go.AW.gE,List.getElem?_take,List.getElem?_drop];rw [if_pos ho]
theorem JM {A : List α} {x off m : Nat} (hx : x<A.length) (ho : off+m≤n) : x*n+off+m≤(flat (A.map f)).length:=by
 rw [GF (f:=f) (n:=n)]
 have:=Nat.mul_le_mul_right n (show x+1≤A.length by omega);rw [Nat.succ_mul] at this; omega
theorem Yx : ∀ (vs a b c : List AV),vs.length=b.length→wr (a++(b++c)) a.length vs=a++(vs++c)
 | [],a,[],c,_=>by simp [wr]
 | v::vs,a,[],c,hl=>by simp at hl
 | [],a,d::b,c,hl=>by simp at hl
 | v::vs,a,d::b,c,hl=>by
  rw [wr]
  have e : (a++(d::b++c)).set a.length v=(a++[v])++(b++c):=by simp
  rw [e]
  have:=Yx vs (a++[v]) b c (by simpa using hl)
  simpa using this
theorem cM {A : List α} {x : Nat} (hx : x<A.length) (a : α) : wr (flat (A.map f)) (x*n) (f a).cells=flat ((A.set x a).map f):=by
 have e1 : A=A.take x++(A.getD x default::A.drop (x+1)):=by
  conv=>lhs; rw [← List.take_append_drop x A,List.drop_eq_getElem_cons hx]
  simp [Go.AW.gE,hx]
 have e2 : A.set x a=A.take x++(a::A.drop (x+1)):=by rw [List.set_eq_take_append_cons_drop,if_pos hx]
 have hl : (flat ((A.take x).map f)).length=x*n:=by rw [GF (f:=f) (n:=n),List.length_take,Nat.min_eq_left (by omega)]
 rw [e2]
 conv=>lhs; rw [e1]
 rw [List.map_append,List.map_append,Jw,Jw,List.map_cons,List.map_cons,flat,flat,← hl];exact Yx _ _ _ _ (by rw [h.len,h.len])
theorem UO {id x off fr : Nat} {A : List α} (o : A9 H0 H ((id,.cells n (flat (A.map f)) fr)::l)) (hx : x<A.length) (ho : off<n) (hk : K ((f (A.getD x default)).cells.getD off nv) H) : Jd (H.get id) none (x*n+off) K H:=by
 refine AH o ?_ ?_
 ·have:=JM (f:=f) (n:=n) hx (show off+1≤n by omega); omega
 ·rw [ZG hx ho]; exact hk
theorem Ky {id x fr : Nat} {A : List α} (o : A9 H0 H ((id,.cells n (flat (A.map f)) fr)::l)) (hx : x<A.length) (hk : K (f (A.getD x default)) H) : Jd (H.get id) (some n) (x*n) K H:=by
 refine AO o ?_ ?_
 ·have:=JM (f:=f) (n:=n) hx (show 0+n≤n by omega); omega
 ·rw [Mz hx,← h.agg]; exact hk
theorem Yo {id x : Nat} {A : List α} (o : A9 H0 H ((id,.cells n (flat (A.map f)) 0)::l)) (hx : x<A.length) (a : α) {cs : List AV} (hc : cs=(f a).cells) (hk : ∀ H',A9 H0 H' ((id,.cells n (flat ((A.set x a).map f)) 0)::l)→K nv H') : Ka (H.get id) id (x*n) n cs K H:=by
 subst hc;refine AS o ?_ (h.len a) (h.one a) fun H' o'=>hk H' ?_
 ·have:=JM (f:=f) (n:=n) hx (show 0+n≤n by omega); omega
 ·rw [cM hx] at o'; exact o'
theorem Za {id m : Nat} {A : List α} {cs : List AV} (o : A9 H0 H ((id,.cells n (flat (A.map f)) 0)::l)) (hn : m=A.length) (h1 : cs.length=n) (h2 : ∀ c,c∈cs→c.one=true) (hm : (A.length+1)*n≤AN)
  (hk : ∀ Bz H',A9 H0 H' ((Bz,.cells n (flat (A.map f)++cs) 0)::l)→K (.buf Bz (A.length+1)) H') : Co n (some (.buf id m)) (some (.sl [.agg cs])) K H:=by
 subst hn
 have h0:=o.h0;simp only at h0
 have h3:=h.two;simp only [Co,h0,C5,Fh]
 have hle : A.length+1≤AN:=Nat.le_trans (Nat.le_mul_of_pos_right _ (by omega)) hm;refine ⟨⟨trivial,GF A,hle,hm,fun e he=>?_⟩,fun Bz hn=>?_⟩
 ·simp only [List.mem_singleton] at he; subst he; exact ⟨h1,h2⟩
 ·have HB : flat [AV.agg cs]=cs:=by simp [flat,AV.cells]
  rw [HB];exact hk Bz _ (o.mv hn _)
end
@[go_sem] def J0 (p : Pt) : AV:=.agg [iI p.AB,iI p.to,iL p.BD]
instance : Lq 3 J0:=⟨by omega,fun _=>rfl,fun _=>rfl,fun a c hc=>by
 simp only [J0,AV.cells,List.mem_cons,List.not_mem_nil,or_false] at hc
 rcases hc with rfl | rfl | rfl <;> rfl⟩
@[go_sem] theorem de (l : List Pt) (k : IntKind) (i : Int) {d : Option Nat} {F : Env→AA→Prop} {σ : Env} {H : AA} :
  pE d F σ H (Gn 3 (some (mL J0 l)) (some (.int k i)))=((0≤i∧i.toNat<l.length)∧CR d F σ (.ptr [iI (ix l i).AB,iI (ix l i).to,iL (ix l i).BD]) H):=NI (f:=J0) l k i
@[go_sem] theorem zM (l : List Pt) : Ds (some (mL J0 l))=some (True,.int .i64 l.length):=by simp [mL,Ds]
end Go.AW
namespace Go.Proofs.Shf
open Go.AW Go.Proofs Go.Shf
theorem QW (B : Nat) (p q : Pt) : HG Tryz.prog B 297 [J0 p,J0 q] (.bool (dec (p.AB<q.AB∨p.AB=q.AB∧(p.to<q.to∨p.to=q.to∧cmp p.BD q.BD<0)))):=by
 intro H0;refine pn.go fun hf=>?_;refine tt ?_;apply bk <;> intro h1
 ·refine tt ?_
  have AU : p.AB≠q.AB:=by simpa using h1
  refine A5 ?_ (.refl _)
  congr 1; rw [BK]
  exact BJ ⟨fun h=>.inl h,fun h=>h.elim id fun h=>absurd h.1 AU⟩
 ·have AU : p.AB=q.AB:=by simpa using h1
  refine tt ?_;apply bk <;> intro h2
  ·refine tt ?_
   have Aq : p.to≠q.to:=by simpa using h2
   refine A5 ?_ (.refl _)
   congr 1; rw [BK]
   exact BJ ⟨fun h=>.inr ⟨AU,.inl h⟩,fun h=>h.elim (fun h=>by omega) fun h=>h.2.elim id fun h=>absurd h.1 Aq⟩
  ·have Aq : p.to=q.to:=by simpa using h2
   refine tt ?_;refine (Tg ..).go fun _=>tt ?_;refine A5 ?_ (.refl _)
   congr 1
   exact BJ ⟨fun h=>.inr ⟨AU,.inr ⟨Aq,h⟩⟩,fun h=>h.elim (fun h=>by omega) fun h=>h.2.elim (fun h=>by omega) fun h=>h.2⟩
end Go.Proofs.Shf
namespace Go.Shf
open Go.AW
structure Gr (n : Nat) (F T : List Int) : Prop where
 n3 : n≤3
 l3 : F.length≤3
 tl : T.length=F.length
 up : ∀ e,e<F.length→0≤F.getD e default∧F.getD e default<T.getD e default∧T.getD e default<n
def Wc (v : Int) : Nat:=if v=0 then 13 else if v=1 then 4 else 1
def Xg (v : Int) : Nat:=if v=0 then 4 else if v=1 then 1 else 0
theorem c4 (v : Int) : 1≤Wc v:=by unfold Wc; split <;> (try split) <;> omega
theorem uS (v : Int) : 1+3*Xg v≤Wc v:=by unfold Wc Xg; split <;> (try split) <;> omega
theorem iF {v t : Int} (h0 : 0≤v) (h1 : v<t) (h2 : t<3) : Wc t≤Xg v:=by
 unfold Wc Xg
 by_cases e0 : v=0
 ·rw [if_pos e0]; split <;> (try split) <;> omega
 ·by_cases e1 : v=1
  ·rw [if_neg e0,if_pos e1,if_neg (by omega),if_neg (by omega)]; omega
  ·omega
def FP (P : List Pt) : Nat:=(P.map fun p=>Wc p.to).sum
theorem MR (P Q : List Pt) : FP (P++Q)=FP P+FP Q:=by simp [FP]
theorem Mj : ∀ (P : List Pt),P.length≤FP P
 | []=>by simp [FP]
 | p::P=>by
  have:=Mj P
  have:=c4 p.to;simp only [FP,List.map_cons,List.sum_cons,List.length_cons] at *;omega
def _root_.Go.AW.Pt.Ok (n : Nat) (p : Pt) : Prop:=(0≤p.AB∧p.AB<n)∧0≤p.to∧p.to<n
def PtQ (n : Nat) (F T : List Int) (r : AV) : Prop:=∃ P : List Pt,r=mL J0 P∧P.length≤18∧(∀ p,p∈P→p.Ok n∧p.BD.length≤18)∧Kj n F T P
def PW (F T : List Int) (P : List Pt) : Prop:=∀ p,p∈P→Wk F T p.AB p.BD p.to
def hU (n : Nat) (P : List Pt) : Prop:=∀ x : Nat,x<n→(⟨x,x,[]⟩ : Pt)∈P
def uO (F T : List Int) (P : List Pt) (pk : Pt) (e : Nat) : Prop:=∀ e',e'<e→F.getD e' default=pk.to→(⟨pk.AB,T.getD e' default,pk.BD++[(e' : Int)]⟩ : Pt)∈P
def cA (F T : List Int) (P : List Pt) (j : Nat) : Prop:=∀ i,i<j→uO F T P (P.getD i default) F.length
theorem PW.snoc {F T : List Int} {P : List Pt} (h : PW F T P) {q : Pt} (hq : Wk F T q.AB q.BD q.to) : PW F T (P++[q]):=fun p hp=>by
 rcases List.mem_append.mp hp with h1 | h1
 ·exact h p h1
 ·rw [List.mem_singleton] at h1; subst h1; exact hq
theorem hU.snoc {n : Nat} {P : List Pt} (h : hU n P) (q : Pt) : hU n (P++[q]):=fun x hx=>List.mem_append_left _ (h x hx)
theorem uO.snoc {F T : List Int} {P : List Pt} {pk : Pt} {e : Nat} (h : uO F T P pk e) (q : Pt) : uO F T (P++[q]) pk e:=fun x hx hf=>List.mem_append_left _ (h x hx hf)
theorem cA.snoc {F T : List Int} {P : List Pt} {j : Nat} (h : cA F T P j) (hj : j≤P.length) (q : Pt) : cA F T (P++[q]) j:=fun i hi=>by
 rw [EU (by omega)]; exact (h i hi).snoc q
theorem cA.next {F T : List Int} {P : List Pt} {j : Nat} (h : cA F T P j) (h2 : uO F T P (P.getD j default) F.length) : cA F T P (j+1):=fun i hi=>by
 by_cases e : i=j
 ·subst e; exact h2
 ·exact h i (by omega)
theorem ZD {P : List Pt} {i j : Nat} (hi : i<P.length) (hj : j<P.length) (q : Pt) : q∈(P.set i (P.getD j default)).set j (P.getD i default)↔q∈P:=by
 constructor
 ·intro h
  rcases List.mem_or_eq_of_mem_set h with h1 | h1
  ·rcases List.mem_or_eq_of_mem_set h1 with h2 | h2
   ·exact h2
   ·rw [h2]; exact AE.mpr ⟨j,hj,rfl⟩
  ·rw [h1]; exact AE.mpr ⟨i,hi,rfl⟩
 ·intro h
  obtain ⟨t,ht,rfl⟩:=AE.mp h
  by_cases e1 : j=t
  ·subst e1
   by_cases e2 : i=j
   ·subst e2;exact AE.mpr ⟨i,by simpa using hi,by rw [B8,if_pos ⟨rfl,by simpa using hi⟩]⟩
   ·exact AE.mpr ⟨i,by simpa using hi,by rw [B8,if_neg fun z=>e2 z.1.symm,B8,if_pos ⟨rfl,hi⟩]⟩
  ·by_cases e2 : i=t
   ·subst e2;exact AE.mpr ⟨j,by simpa using hj,by rw [B8,if_pos ⟨rfl,by simpa using hj⟩]⟩
   ·exact AE.mpr ⟨t,by simpa using ht,by rw [B8,if_neg fun z=>e1 z.1,B8,if_neg fun z=>e2 z.1]⟩
def HS (n : Nat) (P : List Pt) : Prop:=∀ p,p∈P→p.Ok n∧p.BD.length≤P.length
theorem cH {n : Nat} {F T : List Int} {P : List Pt} (h0 : HS n P) (h1 : PW F T P) (h2 : hU n P) (h3 : cA F T P P.length) : Kj n F T P :=
 ⟨fun p hp=>⟨(h0 p hp).1.1,(h0 p hp).1.2,h1 p hp⟩,h2,fun p hp e he hf=>by
  obtain ⟨i,hi,rfl⟩:=AE.mp hp;exact h3 i hi e he hf⟩
theorem HS.snoc {n : Nat} {P : List Pt} (h : HS n P) {p : Pt} (hp : p.Ok n) (hl : p.BD.length≤P.length+1) : HS n (P++[p]):=fun q hq=>by
 rw [List.length_append,List.length_singleton]
 rcases List.mem_append.mp hq with h1 | h1
 ·exact ⟨(h q h1).1,by have:=(h q h1).2; omega⟩
 ·rw [List.mem_singleton] at h1; subst h1; exact ⟨hp,hl⟩
theorem HS.set {n : Nat} {P : List Pt} (h : HS n P) {x y : Nat} (hy : y<P.length) : HS n (P.set x (P.getD y default)):=fun q hq=>by
 rw [List.length_set]
 rcases List.mem_or_eq_of_mem_set hq with h1 | h1
 ·exact h q h1
 ·subst h1; exact h _ (AE.mpr ⟨y,hy,rfl⟩)
theorem HS.mz {n : Nat} {P Q : List Pt} (h : HS n P) (hq : HS n Q) (hl : P.length=Q.length) {x y : Nat} (hy : y<P.length) : HS n (Q.set x (P.getD y default)):=fun q hm=>by
 rw [List.length_set]
 rcases List.mem_or_eq_of_mem_set hm with h1 | h1
 ·exact hq q h1
 ·subst h1; rw [← hl]; exact h _ (AE.mpr ⟨y,hy,rfl⟩)
theorem WQ (P : List Pt) (a b : Int) (E : List Int) : flat (P.map J0)++[iI a,iI b,iL E]=flat ((P++[(⟨a,b,E⟩ : Pt)]).map J0):=by
 rw [List.map_append,Jw]; rfl
end Go.Shf
namespace Go.Proofs.Shf
open Go.AW Go.Proofs Go.Shf
theorem XD (B n : Nat) (F T : List Int) (g : Gr n F T) : Dt B 282 [iI n,iL F,iL T] (PtQ n F T):=by
 intro H0;refine wC.go fun _=>?_
 obtain ⟨gn,gl,gt,gu⟩:=g;refine tt ?_;refine AP (.nil _) fun E9 H o=>tt ?_
 refine AD [0,1,2] (G:=Nat × List Pt) (fun k g=>[(7,some (.buf g.1 g.2.length)),(8,some (.int .i64 (k : Int)))])
  (fun k g H=>g.2.length=k∧HS n g.2∧(PW F T g.2∧hU k g.2)∧FP g.2≤(if k=0 then 0 else if k=1 then 13 else if k=2 then 17 else 18)∧A9 H0 H [(g.1,AG.cells 3 (flat (g.2.map J0)) 0)]) n (E9,[]) ⟨rfl,fun p hp=>by simp at hp,⟨fun p hp=>by simp at hp,fun x hx=>by omega⟩,by simp [FP],o⟩ rfl ?_
 clear o
 rintro k ⟨E9,P⟩ H hk ⟨hP,DW,Lx,hw,o⟩;dsimp only at Lx hP DW hw o;refine tt ?_;refine ⟨fun h1=>At.mk ?_,fun h1=>At.mk ?_⟩
 ·have AU:=A6 h1
  have w:=ws k;refine tt ?_;refine GS (f:=J0) (n:=3) ⟨(k : Int),(k : Int),[]⟩ o rfl rfl (by simp only [AN]; omega) fun E9 H o=>?_;refine tw w ?_;refine A4 (E9,P++[⟨(k : Int),(k : Int),[]⟩]) AU ⟨by simp [hP], ?_,⟨Lx.1.snoc (q:=⟨(k : Int),(k : Int),[]⟩) rfl,fun x hx=>?_⟩, ?_,o⟩ rfl;rotate_left 1
  ·show (⟨x,x,[]⟩ : Pt)∈P++[⟨(k : Int),(k : Int),[]⟩]
   by_cases e : x=k
   ·subst e; exact List.mem_append_right _ (List.mem_singleton_self _)
   ·exact List.mem_append_left _ (Lx.2 x (by omega))
  rotate_left 1
  ·exact DW.snoc ⟨⟨by show (0 : Int)≤(k : Int); omega,by show (k : Int)<n; omega⟩,by show (0 : Int)≤(k : Int); omega,by show (k : Int)<n; omega⟩ (Nat.zero_le _)
  ·show FP (P++[⟨(k : Int),(k : Int),[]⟩])≤_
   rw [MR]
   have e : FP [(⟨(k : Int),(k : Int),[]⟩ : Pt)]=Wc k:=by simp [FP]
   rw [e]
   have : k=0∨k=1∨k=2:=by omega
   rcases this with rfl | rfl | rfl
   ·simp [Wc] at hw ⊢; omega
   ·simp [Wc] at hw ⊢; omega
   ·simp [Wc] at hw ⊢; omega
 ·have AU:=A7 h1
  obtain rfl : k=n:=by omega
  have xK : FP P≤18:=by
   refine Nat.le_trans hw ?_
   split <;> (try split) <;> (try split) <;> omega
  clear hw h1 AU hk;refine tt ?_
  refine AD [1,2] (G:=Nat × List Pt) (fun k g=>[(7,some (.buf g.1 g.2.length)),(9,some (.int .i64 (k : Int)))])
   (fun j g H=>HS k g.2∧j≤g.2.length∧((PW F T g.2∧hU k g.2)∧cA F T g.2 j)∧FP (g.2.drop j)+j≤18∧A9 H0 H [(g.1,AG.cells 3 (flat (g.2.map J0)) 0)]) 18 (E9,P) ⟨DW,by simp,⟨Lx,fun i hi=>by omega⟩,by simpa using xK,o⟩ rfl ?_
  clear o DW xK hP Lx
  rintro j ⟨E9,P⟩ H hj ⟨DW,Fb,Lx,hw,o⟩;dsimp only at Lx DW Fb hw o
  have hlen : P.length≤18:=by
   have:=Mj (P.drop j);rw [List.length_drop] at this; omega
  refine tt ?_;refine ⟨fun h1=>At.mk ?_,fun h1=>At.mk ?_⟩
  case' refine_1 =>
   have AU:=A6 h1
   have Aq : decide ((P.length : Int)≤40)=true:=decide_eq_true (by omega);refine t2 h1 Aq ?_
   obtain ⟨pk,Ni⟩ : ∃ pk,P.getD j default=pk:=⟨_,rfl⟩
   have hw1 : FP (P.drop (j+1))+(j+1)+F.length*Xg pk.to≤18:=by
    have e1 : P.drop j=[pk]++P.drop (j+1):=by
     rw [List.drop_eq_getElem_cons (by omega),← Ni]
     simp [Go.AW.gE,show j<P.length by omega]
    rw [e1,MR] at hw
    have e2 : FP [pk]=Wc pk.to:=by simp [FP]
    have e3:=uS pk.to
    have e4 : F.length*Xg pk.to≤3*Xg pk.to:=Nat.mul_le_mul_right _ gl;omega
   have xD : j<P.length:=by omega
   refine AD [1,2,9] (G:=Nat × List Pt) (fun k g=>[(7,some (.buf g.1 g.2.length)),(10,some (.int .i64 (k : Int)))])
    (fun e g H=>HS k g.2∧j<g.2.length∧g.2.getD j default=pk∧(((PW F T g.2∧hU k g.2)∧cA F T g.2 j)∧uO F T g.2 pk e)∧FP (g.2.drop (j+1))+(j+1)+(F.length - e)*Xg pk.to≤18∧A9 H0 H [(g.1,AG.cells 3 (flat (g.2.map J0)) 0)]) F.length (E9,P) ⟨DW,xD,Ni,⟨Lx,fun e he=>by omega⟩,hw1,o⟩ rfl ?_
   clear o DW Fb hw hlen Ni hw1 xD h1 Aq AU Lx
   rintro e ⟨E9,P⟩ H he ⟨DW,Fb,Ni,Lx,hw,o⟩;dsimp only at Lx DW Fb Ni hw o
   have hlen : P.length≤18:=by
    have:=Mj (P.drop (j+1));rw [List.length_drop] at this; omega
   refine tt ?_;refine ⟨fun h2=>At.mk ?_,fun h2=>At.mk ?_⟩
   ·have Aq:=A6 h2
    have gue:=gu e Aq
    have we:=ws e
    have Dw : (F.length - e)*Xg pk.to=(F.length - (e+1))*Xg pk.to+Xg pk.to:=by
     rw [show F.length - e=(F.length - (e+1))+1 by omega,Nat.succ_mul]
    refine tt ?_;refine ⟨by omega,by omega,UO (f:=J0) (n:=3) o Fb (by omega) ?_⟩;rw [Ni];refine tt ?_;refine ⟨fun h3=>At.mk ?_,fun h3=>At.mk ?_⟩
    ·have BH:=A6 h3;refine tt ?_
     have lC:=DW pk (by rw [← Ni]; exact AE.mpr ⟨j,Fb,rfl⟩)
     have hpo2:=lC.2;refine ⟨Fb,⟨_,_,o.h0⟩,UO (f:=J0) (n:=3) o Fb (by omega) ?_⟩;rw [Ni];refine tt ?_;refine ⟨by omega,Fb,⟨_,_,o.h0⟩,UO (f:=J0) (n:=3) o Fb (by omega) ?_⟩;rw [Ni];refine tt ?_;refine ID.go' (E7 B pk.BD) o fun X1 p1 H ⟨O0,e1,e2⟩ o hs=>⟨hs, ?_⟩;subst e1 e2;refine tt ?_;refine BB _ o rfl rfl (by simp only [AN]; omega) fun O0 H E eE hE o=>tt ?_;refine Za (f:=J0) (n:=3) o.swap rfl rfl (by first | (simp only [go_sem]; done) | ((try simp only [go_sem]); simp [AV.one,Ay])) (by simp only [AN]; omega) fun E9 H o=>tt ?_;refine B6 (f:=iI) ((flat (P.map J0)).length+2) o (by rw [List.getElem?_append_right (by omega)]; simp) rfl fun H o=>AX ?_;rw [List.set_append_right _ _ (by omega),show (flat (P.map J0)).length+2 - (flat (P.map J0)).length=2 by omega] at o;have o:=s1 o
     have o : A9 H0 H [(E9,AG.cells 3 (flat ((P++[(⟨pk.AB,T.getD e default,E⟩ : Pt)]).map J0)) 0)]:=by rw [← WQ]; exact o
     refine tw we ?_
     have CF:=iF gue.1 gue.2.1 (by omega);rw [BH] at CF;refine A4 (E9,P++[(⟨pk.AB,T.getD e default,E⟩ : Pt)]) Aq ⟨?_,by simp; omega, ?_, ?_, ?_,o⟩ (by simp);rotate_left 2
     ·have XR:=Lx.1.1.1 pk (by rw [← Ni]; exact AE.mpr ⟨j,Fb,rfl⟩);refine ⟨⟨⟨Lx.1.1.1.snoc ?_,Lx.1.1.2.snoc _⟩,Lx.1.2.snoc (by omega) _⟩,fun e' oO hf=>?_⟩
      ·show Wk F T pk.AB E (T.getD e default)
       rw [eE]; exact XR.app (Wk.one (by omega) BH)
      ·by_cases ee : e'=e
       ·subst ee;rw [← eE]; exact List.mem_append_right _ (List.mem_singleton_self _)
       ·exact List.mem_append_left _ (Lx.2 e' (by omega) hf)
     rotate_left 1
     ·exact DW.snoc ⟨lC.1.1,by show 0≤T.getD e default; omega,by show T.getD e default<k; omega⟩ (by show E.length≤_; omega)
     ·show (P++[_]).getD j default=pk
      rw [Go.AW.gE,List.getElem?_append_left Fb,← Go.AW.gE]; exact Ni
     ·show FP ((P++[_]).drop (j+1))+(j+1)+(F.length - (e+1))*Xg pk.to≤18
      rw [List.drop_append_of_le_length (by omega),MR]
      have e2 : FP [(⟨pk.AB,T.getD e default,E⟩ : Pt)]=Wc (T.getD e default):=by simp [FP]
      rw [e2]; omega
    ·refine tt ?_;refine AX ?_;refine tw we ?_
     have BH:=A7 h3
     exact A4 (E9,P) Aq ⟨DW,Fb,Ni,⟨Lx.1,fun e' oO hf=>by
      by_cases ee : e'=e
      ·subst ee; exact absurd hf BH
      ·exact Lx.2 e' (by omega) hf⟩,by show FP (P.drop (j+1))+(j+1)+_≤18; omega,o⟩ rfl
   ·have wj:=ws j;refine tw wj ?_
    have xB:=A7 h2
    have oL : e=F.length:=by omega
    exact A4 (E9,P) (by omega) ⟨DW,Fb,⟨Lx.1.1,Lx.1.2.next (by rw [Ni,← oL]; exact Lx.2)⟩,by show FP (P.drop (j+1))+(j+1)≤18; omega,o⟩ rfl
  case' refine_2 =>
   have Ng : j=P.length:=by have:=A7 h1; omega
   have KY : Kj k F T P:=cH DW Lx.1.1 Lx.1.2 (Ng ▸ Lx.2);refine tw h1 ?_;clear hw hj Fb h1 Ng Lx
   generalize hL : P.length=L at *;refine AD [7] (G:=List Pt) (fun x _=>[(11,some (.int .i64 ((1+x : Nat) : Int)))]) (fun x P H=>P.length=L∧HS k P∧Kj k F T P∧A9 H0 H [(E9,AG.cells 3 (flat (P.map J0)) 0)]) L P ⟨hL,DW,KY,o⟩ rfl ?_;clear o DW hL KY
   rintro x P H hx ⟨hL,DW,KY,o⟩
   replace KY : Kj k F T P:=KY
   replace hL : P.length=L:=hL
   replace DW : HS k P:=DW
   replace o : A9 H0 H [(E9,AG.cells 3 (flat (P.map J0)) 0)]:=o;refine tt ?_;refine ⟨fun h1=>At.mk ?_,fun h1=>At.mk ?_⟩
   ·have AU:=A6 h1
    have wx:=Oi (k:=1+x) (by omega);refine tt ?_;refine E3 [7,11] (G:=Nat × List Pt) (fun g=>[(12,some (.int .i64 (g.1 : Int)))]) (fun m g H=>m=g.1∧g.1<L∧g.2.length=L∧HS k g.2∧Kj k F T g.2∧A9 H0 H [(E9,AG.cells 3 (flat (g.2.map J0)) 0)]) (1+x) (1+x,P) ⟨rfl,by simp only; omega,hL,DW,KY,o⟩ rfl ?_;clear o DW hL KY
    rintro m ⟨y,P⟩ H ⟨hm,hy,hL,DW,KY,o⟩;dsimp only at KY hm;subst hm;dsimp only at hy hL DW o;refine tt ?_;refine ⟨fun h2=>At.mk ?_,fun h2=>At.mk ?_⟩
    case' refine_1 =>
     have Aq:=A6 h2
     have wp : IntKind.i64.wrap ((m : Int) - 1)=((m - 1 : Nat) : Int):=W0 (by omega) (by omega);refine tw h2 ?_;refine ⟨by omega,Ky (f:=J0) (n:=3) o (by omega) ?_⟩;refine tw wp ?_;refine ⟨by omega,Ky (f:=J0) (n:=3) o (by omega) ?_⟩;refine tt ?_;refine ⟨_,QW B _ _,tt ?_⟩;refine ⟨fun h3=>At.mk ?_,fun h3=>At.mk ?_⟩
     case' refine_1 =>
      refine tt ?_;refine ⟨by omega,Ky (f:=J0) (n:=3) o (by omega) ?_⟩;refine tt ?_;refine Ai o fun UH H o=>tt ?_;refine sw o fun H o=>?_;refine tw wp ?_;refine ⟨by omega,Ky (f:=J0) (n:=3) o.tl (by omega) ?_⟩;refine tt ?_;refine ⟨by omega, ?_⟩;refine Yo (f:=J0) (n:=3) o.swap (by omega) (P.getD (m - 1) default) rfl fun H o=>?_;refine tw wp ?_
      have CG:=o.tl.rc 3 0 (by simp);refine AO o.tl (by simp) (tt ?_);refine ⟨by omega, ?_⟩;refine Yo (f:=J0) (n:=3) o (by simp; omega) (P.getD m default) rfl fun H o=>?_;refine tw wp ?_
      have II : HS k (P.set m (P.getD (m - 1) default)):=DW.set (by omega);exact CJ (m - 1) (m - 1,(P.set m (P.getD (m - 1) default)).set (m - 1) (P.getD m default)) (by omega) ⟨rfl,by show m - 1<L; omega,by simp [hL],DW.mz II (by simp) (by omega),KY.mem fun q=>ZD (by omega) (by omega) q,o.swap.tl⟩ rfl
    all_goals
     try (try simp only [go_sem,↓reduceIte,reduceEqDiff,reduceAdd,reduceMul,reduceLeDiff,reduceLT,h2])
     refine tw wx ?_;exact A4 P (by omega) ⟨hL,DW,KY,o⟩ rfl
   ·refine tt ?_;refine Qr (f:=J0) (n:=3) o hL.symm fun H o=>tt ?_;exact B0 ⟨P,rfl,by omega,fun p hp=>⟨(DW p hp).1,by have:=(DW p hp).2; omega⟩,KY⟩ o.sub
end Go.Proofs.Shf
namespace Go.Shf
open Go.AW
def kG (n : Nat) (P : List Pt) (I : List Int) (k : Nat) : Prop:=∀ x : Nat,x<n→(∃ i,i<k∧(P.getD i default).AB=x∧(P.getD i default).BD=[]) →
 (0≤I.getD x default∧I.getD x default<(P.length : Int))∧(ix P (I.getD x default)).AB=x∧(ix P (I.getD x default)).BD=[]
theorem kG.yes {n : Nat} {P : List Pt} {I : List Int} {k : Nat} (h : kG n P I k) (hI : I.length=n) (hk : k<P.length) (he : (P.getD k default).BD=[]) (hf : 0≤(P.getD k default).AB) : kG n P (I.set (P.getD k default).AB.toNat k) (k+1):=fun x hx ⟨i,hi,h1,h2⟩=>by
 rw [B8]
 by_cases e : (P.getD k default).AB.toNat=x
 ·rw [if_pos ⟨e,by omega⟩,AR];exact ⟨by omega,by omega,he⟩
 ·rw [if_neg fun z=>e z.1];refine h x hx ⟨i, ?_,h1,h2⟩
  by_cases ei : i=k
  ·subst ei; omega
  ·omega
theorem kG.no {n : Nat} {P : List Pt} {I : List Int} {k : Nat} (h : kG n P I k) (he : (P.getD k default).BD≠[]) : kG n P I (k+1):=fun x hx ⟨i,hi,h1,h2⟩=>by
 refine h x hx ⟨i, ?_,h1,h2⟩
 by_cases ei : i=k
 ·subst ei; exact absurd h2 he
 ·omega
def fM (P : List Pt) (fr : Int) (both : List Int) (z : Nat) (h : Int) : Prop:=(h=-1∧∀ k,k<z→¬ ((P.getD k default).AB=fr∧(P.getD k default).BD=both)) ∨
 ((0≤h∧h<(P.length : Int))∧(ix P h).AB=fr∧(ix P h).BD=both)
theorem fM.Sc {P : List Pt} {fr : Int} {both : List Int} {z : Nat} (hz : z<P.length) (h1 : (P.getD z default).AB=fr) (h2 : (P.getD z default).BD=both) : fM P fr both (z+1) z :=
 .inr ⟨by omega,by rw [AR]; exact h1,by rw [AR]; exact h2⟩
theorem fM.skip {P : List Pt} {fr : Int} {both : List Int} {z : Nat} {h : Int} (s : fM P fr both z h) (hn : ¬ ((P.getD z default).AB=fr∧(P.getD z default).BD=both)) : fM P fr both (z+1) h :=
 s.imp (fun ⟨a,b⟩=>⟨a,fun k hk=>by
  by_cases e : k=z
  ·subst e; exact hn
  ·exact b k (by omega)⟩) id
end Go.Shf
namespace Go.Proofs.Shf
open Go.AW Go.Proofs Go.Shf
theorem IC (B n : Nat) (F T : List Int) (g : Gr n F T) : Dt B 243 [iI n,iL F,iL T] (T9 18):=by
 intro H0;refine u3.go fun _=>?_
 have gn:=g.n3;refine tt ?_;refine Ai (.nil _) fun Ba H o=>tt ?_;refine (XD B n F T g).go fun r _ ⟨P,e,zz,mB,hPp⟩=>?_;subst e;refine tt ?_;refine AP o fun a H o=>tt ?_;refine AP o fun b H o=>tt ?_;refine ⟨by simp only [AN]; omega, ?_⟩;refine EI iI 0 rfl o fun i H o=>tt ?_;refine AP o fun d H o=>tt ?_;refine Ai o fun Cm H o=>tt ?_;refine sw o fun H o=>tt ?_
 refine AD [6,7,8] (G:=(Nat × List Int) × (Nat × List Int) × List Int) (fun k _=>[(9,some (.int .i64 (k : Int)))])
  (fun k g H=>g.1.2=(P.map Pt.AB).take k∧g.2.1.2=(P.map Pt.to).take k∧(g.2.2.length=n∧kG n P g.2.2 k)∧A9 H0 H (D4 Cm Ba n g.1.1 g.1.2 g.2.1.1 g.2.1.2 i g.2.2 d [])) P.length ((a,[]),(b,[]),List.replicate n 0) ⟨by simp,by simp,⟨by simp,fun x hx ⟨i,hi,_⟩=>by omega⟩,by unfold D4; simp only [List.length_replicate]; exact o.pm⟩ rfl ?_
 clear o
 rintro k ⟨⟨a,A⟩,⟨b,C⟩,I⟩ H hk ⟨ER,F0,⟨hI,GC⟩,o⟩;dsimp only at ER F0 GC
 have hA : A.length=k:=by rw [ER,List.length_take,List.length_map]; omega
 have hC : C.length=k:=by rw [F0,List.length_take,List.length_map]; omega
 dsimp only at hI o;refine tt ?_;refine ⟨fun h1=>At.mk ?_,fun h1=>At.mk ?_⟩
 ·have AU:=A6 h1
  have w:=ws k
  have Ni:=mB (P.getD k default) (AE.mpr ⟨k,AU,rfl⟩)
  have hpf:=Ni.1.1;unfold D4 at o;refine tt ?_;refine AH o (by simp) (tt ?_);refine ⟨AU,BB _ o.swap rfl rfl (by simp only [AN]; omega) fun a H A2 eA2 Xq o=>?_⟩;refine tt ?_;refine sw o.swap fun H o=>tt ?_;refine AH o (by simp) (tt ?_);refine ⟨AU,BB _ (o.pull [_,_]) rfl rfl (by simp only [AN]; omega) fun b H C2 eC2 wu o=>?_⟩;refine tt ?_;refine sw o.swap fun H o=>tt ?_;refine ⟨AU, ?_⟩
  have o : A9 H0 H (D4 Cm Ba n a A2 b C2 i I d []):=by
   try unfold D4
   exact o.pm
  have eA3 : A2=(P.map Pt.AB).take (k+1):=by rw [eA2,ER,Ar _ (by simpa using AU),BC _ AU]
  have eC3 : C2=(P.map Pt.to).take (k+1):=by rw [eC2,F0,Ar _ (by simpa using AU),BC _ AU]
  refine ⟨fun h2=>At.mk ?_,fun h2=>At.mk ?_⟩
  ·unfold D4 at o;refine tt ?_;refine AH o (by simp) (tt ?_);refine ⟨AU,by omega, ?_⟩;refine BT (k : Int) (o.pull [_,_,_]) rfl (by omega) fun H o=>?_;refine tw w ?_;refine A4 ((a,A2),(b,C2),I.set (P.getD k default).AB.toNat k) AU ⟨eA3,eC3,⟨by simp [hI],GC.yes hI AU (List.length_eq_zero_iff.mp (by have:=A6 h2; omega)) hpf.1⟩, ?_⟩ rfl
   try unfold D4
   simp only [List.length_set];exact o.pm
  ·refine tw w ?_;exact A4 ((a,A2),(b,C2),I) AU ⟨eA3,eC3,⟨hI,GC.no fun z=>A7 h2 (by rw [z]; rfl)⟩,o⟩ rfl
 ·have AU:=A7 h1
  obtain rfl : k=P.length:=by omega
  have o5 : A=P.map Pt.AB:=by rw [ER,List.take_of_length_le (by simp)]
  have yX : C=P.map Pt.to:=by rw [F0,List.take_of_length_le (by simp)]
  have vB : ∀ x : Nat,x<n→(0≤I.getD x default∧I.getD x default<(P.length : Int))∧(ix P (I.getD x default)).AB=x∧(ix P (I.getD x default)).BD=[]:=fun x hx=>by
   obtain ⟨i,hi,ei⟩:=AE.mp (hPp.tr x hx);exact GC x hx ⟨i,hi,by rw [ei],by rw [ei]⟩
  clear h1 AU hk ER F0;unfold D4 at o;refine tt ?_;refine B6 1 o rfl rfl fun H o=>?_;have o:=s1 o;refine B6 2 o rfl rfl fun H o=>?_;have o:=s1 o;refine B6 3 o rfl rfl fun H o=>AX ?_;have o:=s1 o
  have o : A9 H0 H [(Cm,AG.cells 5 [iI n,iL A,iL C,iL I,.buf d 0] 0),(d,AG.cells 1 [] 0),(Ba,AG.cells 5 [iI 0,.A0,.A0,.A0,.A0] 0)]:=o;refine tt ?_;refine AO o (by simp) (tt ?_);refine B9.KP (es:=[.agg (Ax.cells ⟨n,A,C,I,[]⟩)]) (.bool _) rfl (fun j hj=>?_) (N8 B ⟨n,A,C,I,[]⟩).run ?_
  ·have : j=0:=by simp at hj; omega
   subst this;refine Tr.arg (.agg _ _ rfl fun q hq=>?_)
   match q,hq with
   | 0,_=>exact .val _
   | 1,_=>exact .val _
   | 2,_=>exact .val _
   | 3,_=>exact .val _
   | 4,_=>exact .buf d 0 [] [] o.tl.h0 rfl (by simp) (by simp)
  rw [Av (show (n : Int)≤8∧A.length≤40 from ⟨by omega,by omega⟩)];refine tt ?_
  refine AD [6,7,8] (G:=Nat × List (List Int)) (fun k _=>[(10,some (.int .i64 (k : Int)))])
   (fun k g H=>g.2.length=k∧((∀ r,r∈g.2→r.length=P.length)∧∀ f q,f<k→q<P.length→XJ P f q ((g.2.getD f default).getD q default))∧A9 H0 H [(Cm,AG.cells 5 [iI n,iL A,iL C,iL I,.buf g.1 g.2.length] 0),(g.1,AG.cells 1 (g.2.map iL) 0),(Ba,AG.cells 5 [iI 0,.A0,.A0,.A0,.A0] 0)]) P.length (d,[]) ⟨rfl,⟨by simp,fun f q hf=>by omega⟩,o⟩ rfl ?_
  clear o
  rintro x ⟨d,D⟩ H hx ⟨hD,⟨zw,PZ⟩,o⟩;dsimp only at hD zw PZ o;refine tt ?_;refine ⟨fun h1=>At.mk ?_,fun h1=>At.mk ?_⟩
  ·have AU:=A6 h1
   have hpx:=mB (P.getD x default) (AE.mpr ⟨x,AU,rfl⟩);refine tt ?_;refine AP o fun Bt H o=>tt ?_
   refine AD [6,7,8,10] (G:=Nat × List Int) (fun y g=>[(11,some (.buf g.1 g.2.length)),(12,some (.int .i64 (y : Int)))])
    (fun y g H=>g.2.length=y∧(∀ q,q<y→XJ P x q (g.2.getD q default))∧A9 H0 H [(g.1,AG.cells 1 (g.2.map iI) 0),(Cm,AG.cells 5 [iI n,iL A,iL C,iL I,.buf d D.length] 0),(d,AG.cells 1 (D.map iL) 0),(Ba,AG.cells 5 [iI 0,.A0,.A0,.A0,.A0] 0)]) P.length (Bt,[]) ⟨rfl,fun q hq=>by omega,o⟩ rfl ?_
   clear o
   rintro y ⟨Bt,row⟩ H hy ⟨hr,Dv,o⟩;dsimp only at hr Dv
   have hsn : ∀ (v : Int),XJ P x y v→∀ q,q<y+1→XJ P x q ((row++[v]).getD q default):=fun v hv q hq=>by
    by_cases e : q<y
    ·rw [EU (by omega)]; exact Dv q e
    ·have eq : q=y:=by omega
     rw [G7 (by omega),eq,hr,Nat.sub_self]; exact hv
   dsimp only at o;refine tt ?_;refine ⟨fun h2=>At.mk ?_,fun h2=>At.mk ?_⟩
   ·have Aq:=A6 h2
    have w:=ws y
    have hpy:=mB (P.getD y default) (AE.mpr ⟨y,Aq,rfl⟩);refine tt ?_;refine ⟨AU,Aq, ?_⟩;refine ⟨fun h3=>At.mk ?_,fun h3=>At.mk ?_⟩
    ·refine tt ?_;refine ⟨AU,Aq, ?_⟩;refine ID.go' (E7 B (P.getD x default).BD) o fun X1 p1 H ⟨O0,e1,e2⟩ o hs=>⟨hs, ?_⟩;subst e1 e2;refine tt ?_;refine Hh (f:=iI) (r:=(P.getD y default).BD) o rfl (by simp only [AN]; omega) fun O0 H o=>tt ?_;refine Am o rfl fun H o=>tt ?_
     obtain ⟨both,qB⟩ : ∃ both,(P.getD x default).BD++(P.getD y default).BD=both:=⟨_,rfl⟩;rw [qB]
     have BH:=A6 h3
     refine AD [6,7,8,10,11,12,14] (G:=Int) (fun z h=>[(13,some (.int .i64 h)),(15,some (.int .i64 (z : Int)))])
      (fun z h H=>fM P (P.getD x default).AB both z h∧A9 H0 H [(Bt,AG.cells 1 (row.map iI) 0),(Cm,AG.cells 5 [iI n,iL A,iL C,iL I,.buf d D.length] 0),(d,AG.cells 1 (D.map iL) 0),(Ba,AG.cells 5 [iI 0,.A0,.A0,.A0,.A0] 0)]) P.length (-1) ⟨.inl ⟨rfl,fun k hk=>by omega⟩,o⟩ rfl ?_
     clear o
     rintro z h H hz ⟨dJ,o⟩
     replace dJ : fM P (P.getD x default).AB both z h:=dJ;refine tt ?_;refine ⟨fun h4=>At.mk ?_,fun h4=>At.mk ?_⟩
     ·have D9:=A6 h4
      have wz:=ws z;refine tt ?_;refine ⟨D9,AU, ?_⟩;refine ⟨fun h5=>At.mk ?_,fun h5=>At.mk ?_⟩
      case' refine_1 =>
       refine tw h5 ?_;refine ⟨D9,_,(D7 ..).run,tt ?_⟩;refine ⟨fun h6=>At.mk ?_,fun h6=>At.mk ?_⟩
       case' refine_1 =>
        have mC : fM P (P.getD x default).AB both (z+1) z:=.Sc D9 (A6 h5) ((Gz.mp h6));refine tt ?_
      all_goals
       try (try simp only [go_sem,↓reduceIte,reduceEqDiff,reduceAdd,reduceMul,reduceLeDiff,reduceLT,h5])
       try (try simp only [go_sem,↓reduceIte,reduceEqDiff,reduceAdd,reduceMul,reduceLeDiff,reduceLT,wz])
       first
       | exact A4 _ D9 ⟨mC,o⟩ rfl
       | exact A4 h D9 ⟨dJ.skip fun q=>(by rw [Av q.2] at h6; cases h6),o⟩ rfl
       | exact A4 h D9 ⟨dJ.skip fun q=>A7 h5 q.1,o⟩ rfl
     ·have xn : z=P.length:=by have:=A7 h4; omega
      refine tt ?_;refine BB _ o rfl rfl (by simp only [AN]; omega) fun Bt H row2 er2 G2 o=>?_;refine tw w ?_;refine A4 (Bt,row2) Aq ⟨by show row2.length=_; omega, ?_,o⟩ rfl;rw [er2];refine hsn h ⟨fun q=>absurd BH q,fun _=>?_⟩;rw [xn] at dJ;rw [qB]; exact dJ
    ·refine tt ?_;refine BB _ o rfl rfl (by simp only [AN]; omega) fun Bt H row2 er2 G2 o=>?_;refine tw w ?_;refine A4 (Bt,row2) Aq ⟨by show row2.length=_; omega, ?_,o⟩ rfl;rw [er2];exact hsn _ ⟨fun _=>rfl,fun q=>absurd q (A7 h3)⟩
   ·have Aq:=A7 h2
    have w:=ws x;refine tt ?_;refine Am o rfl fun H o=>tt ?_;refine AH o (by simp) (tt ?_);refine BB row o.swap rfl rfl (by simp only [AN]; omega) fun d H D2 eD hD2 o=>tt ?_;refine sw o.swap fun H o=>?_;refine tw w ?_;refine A4 (d,D2) AU ⟨by show D2.length=_; omega,⟨fun r CG=>?_,fun f q hf hq=>?_⟩,o⟩ rfl;rotate_left 1
    ·show XJ P f q ((D2.getD f default).getD q default)
     rw [eD]
     by_cases e : f<x
     ·rw [EU (by omega)]; exact PZ f q e hq
     ·have ef : f=x:=by omega
      rw [G7 (by omega),ef,hD,Nat.sub_self]; exact Dv q (by omega)
    dsimp only at CG;rw [eD] at CG
    rcases List.mem_append.mp CG with h | h
    ·exact zw r h
    ·rw [List.mem_singleton] at h; subst h; omega
  ·have AU:=A7 h1;refine tt ?_;refine B6 4 o rfl rfl fun H o=>AX ?_;have o:=s1 o;refine tt ?_;refine AO o (by simp) (tt ?_);refine sw o.swap fun H o=>tt ?_
   have CG:=o.rc 5 0 (by simp);simp only [List.drop_zero] at CG;rw [CG];refine tt ?_
   have xr : x=P.length:=by omega
   rw [xr] at hD;refine B0 ⟨⟨n,P.map Pt.AB,P.map Pt.to,I,D⟩,by rw [o5,yX]; rfl,hPp.qn (by omega) zz hI vB hD (fun f hf=>zw _ (AE.mpr ⟨f,by omega,rfl⟩)) fun f g hf hg=>PZ f g (by omega) hg⟩ o.sub
end Go.Proofs.Shf
