/- A part of a proof. -/
import Derived.Test.YthflgdphhajkbaaGreatF6
set_option linter.unusedVariables false
set_option linter.unusedSimpArgs false
set_option linter.unusedSectionVars false
open Nat (reduceEqDiff reduceAdd reduceMul reduceLeDiff reduceLT)
namespace Go.AW
theorem Ez.XX {α : Type} {f : α→AV} {Xs : List AV} {As : List (List α)} {o p : List (Nat × AF)} {X : AV} {A : List α} (h : Ez f Xs As o) (hp : Q6 f p X A) : Ez f (Xs++[X]) (As++[A]) (o++p):=by
 induction h with
 | nil=>simpa using Ez.cons hp .nil
 | cons q _ ih=>simpa using Ez.cons q ih
theorem Na {H0 H : AA} {l : Ob} {K : Ap} {id n : Nat} {Xs : List AV} {Y : AV} (o : AB H0 H ((id,.cells 1 Xs 0)::l)) (hn : n=Xs.length) (h1 : Y.cells=[Y]) (h2 : Y.one=true) (hm : Xs.length+1≤AK)
  (hk : ∀ Ca H',AB H0 H' ((Ca,.cells 1 (Xs++[Y]) 0)::l)→K (.buf Ca (Xs.length+1)) H') : Ds 1 (some (.buf id n)) (some (.sl [Y])) K H:=by
 subst hn
 have FJ : Da 1 [Y]:=by
  intro e he;rw [List.mem_singleton] at he; subst he;rw [h1];exact ⟨rfl,fun c hc=>by rw [List.mem_singleton] at hc; subst hc; exact h2⟩
 have h0:=o.h0;simp only at h0;simp only [Ds,h0,DD,Gf];refine ⟨⟨trivial,by simp,by simp; omega,by simp; omega,FJ⟩,fun Ca hn=>?_⟩
 have G7 : flat [Y]=[Y]:=by simp [flat,h1]
 rw [G7];exact hk Ca _ (o.mv hn (.cells 1 (Xs++[Y]) 0))
end Go.AW
namespace Go.Proofs.Shf
open Go.AW Go.Proofs Go.Shf
@[go_sem] def Fc (Cv BN : Nat) (x0 : Int) (a : Nat) (A : List Int) (b : Nat) (C : List Int) (i : Nat) (I : List Int) (d : Nat) (Xs : List AV) (ob : Ob) : Ob :=
 (Cv,.cells 5 [iI x0,.buf a A.length,.buf b C.length,.buf i I.length,.buf d Xs.length] 0)::(a,.cells 1 (A.map iI) 0)::(b,.cells 1 (C.map iI) 0)::(i,.cells 1 (I.map iI) 0)::(d,.cells 1 Xs 0)::(ob++[(BN,.cells 5 [iI 0,.A1,.A1,.A1,.A1] 0)])
theorem Oe (B N M : Nat) (hNM : N+M≤4096) (c e : B0) (hc : c.Sh N) (he : e.Sh M) : IX Tryz.prog B 207 [.agg c.cells,.agg e.cells] (fun p X=>∃ c' : B0,c'.Sh (N+M)∧OCb c' p X):=by
 refine ⟨fun H0=>wB.go fun _=>?_⟩
 obtain ⟨cob,cil,cml,ctl,ccl,crow⟩:=hc
 obtain ⟨eob,eil,eml,etl,ecl,erow⟩:=he;refine tt ?_;refine Am (.nil _) fun BN H o=>tt ?_;refine IX.go' (Nh B c) o fun X1 p1 H ⟨a,b,i,d,Xs,ob,e1,hX,e2⟩ o _=>?_;subst e1 e2
 have JN:=hX.len;refine tt ?_;refine Am o fun Cv H o=>tt ?_;refine sw o fun H o=>tt ?_
 have wo : IntKind.i64.wrap (c.AR+e.AR)=c.AR+e.AR:=wrap_i64 (by omega) (by omega);refine tw wo ?_;refine sw o fun H o=>tt ?_
 have o : AB H0 H (Fc Cv BN (c.AR+e.AR) a c.AH b c.to i c.Aw d Xs ob):=o
 refine AD [3,4,5,6,7] (G:=Nat × List Int) (fun k _=>[(8,some (.int .i64 (k : Int)))])
  (fun k g H=>g.2.length=c.Aw.length+k∧AB H0 H (Fc Cv BN (c.AR+e.AR) a c.AH b c.to g.1 g.2 d Xs ob)) e.AR.toNat (i,c.Aw) ⟨rfl,o⟩ rfl ?_
 clear o
 rintro k ⟨i,I⟩ H hk ⟨hI,o⟩;dsimp only at hI o;unfold Fc at o;refine tt ?_;apply bk <;> intro h1
 ·have AU:=A7 h1
  have w:=ws k;refine tt ?_;refine AN o (by simp) (tt ?_);refine ⟨by omega, ?_⟩;refine BJ _ (o.pull [_,_,_]) rfl rfl (by simp only [AK]; omega) fun i H I2 _ hI2 o=>tt ?_;refine sw o.swap fun H o=>?_;refine tw w ?_;refine A5 (i,I2) (by omega) ⟨by show I2.length=_; omega, ?_⟩ rfl
  try unfold Fc
  exact o.pm
 ·have AU:=A9 h1
  have hIl : I.length=c.Aw.length+e.AR.toNat:=by omega
  clear h1 AU hk hI;refine tt ?_
  refine AD [3,4,5,6,7] (G:=List AV × Ob × List (List Int)) (fun f _=>[(9,some (.int .i64 (f : Int)))])
   (fun f g H=>Ez iI g.1 g.2.2 g.2.1∧g.2.2.length=c.AH.length∧(∀ x,x<c.AH.length→(g.2.2.getD x []).length=c.AH.length+if x<f then e.AH.length else 0) ∧
    AB H0 H (Fc Cv BN (c.AR+e.AR) a c.AH b c.to i I d g.1 g.2.1)) c.AH.length (Xs,ob,c.comp) ⟨hX,ccl,fun x hx=>by rw [if_neg (by omega)]; exact crow x hx,o⟩ rfl ?_
  clear o hX JN
  rintro f ⟨Xs,ob,As⟩ H hf ⟨hX,Lt,Mf,o⟩;dsimp only at hX Lt Mf o
  have JN:=hX.len;unfold Fc at o;refine tt ?_;refine AN o (by simp) (tt ?_);apply bk <;> intro h1
  ·have AU:=A7 h1
   have T5 : f<c.AH.length:=by omega
   clear h1 AU;refine tt ?_
   refine AD [3,4,5,6,7,9] (G:=List AV × Ob × List (List Int)) (fun j _=>[(10,some (.int .i64 (j : Int)))])
    (fun j g H=>Ez iI g.1 g.2.2 g.2.1∧g.2.2.length=c.AH.length∧(∀ x,x<c.AH.length→(g.2.2.getD x []).length=c.AH.length+if x<f then e.AH.length else if x=f then j else 0) ∧
     AB H0 H (Fc Cv BN (c.AR+e.AR) a c.AH b c.to i I d g.1 g.2.1)) e.AH.length (Xs,ob,As) ⟨hX,Lt,fun x hx=>by rw [Mf x hx]; split <;> simp,o⟩ rfl ?_
   clear o hX JN Lt Mf
   rintro j ⟨Xs,ob,As⟩ H hj ⟨hX,Lt,Mf,o⟩;dsimp only at hX Lt Mf o
   have JN:=hX.len;unfold Fc at o;refine tt ?_;apply bk <;> intro h2
   ·have Ah:=A7 h2
    have w:=ws j;refine tt ?_;refine ⟨⟨_,_,o.h0⟩,AN o (by simp) ?_⟩;refine tt ?_;refine ⟨⟨_,_,o.h0⟩,AN o (by simp) ?_⟩;refine tt ?_;refine ⟨by omega, ?_⟩
    have od:=o.pull [_,_,_,_];simp only [List.cons_append,List.nil_append] at od;refine AN od (by omega) (tt ?_)
    have od2 : AB H0 H ((d,AF.cells 1 Xs 0)::(ob++[(Cv,AF.cells 5 [iI (c.AR+e.AR),.buf a c.AH.length,.buf b c.to.length,.buf i I.length,.buf d Xs.length] 0),(a,AF.cells 1 (c.AH.map iI) 0),(b,AF.cells 1 (c.to.map iI) 0),(i,AF.cells 1 (I.map iI) 0),(BN,AF.cells 5 [iI 0,.A1,.A1,.A1,.A1] 0)])):=od.pm
    have B4:=Mf f T5;rw [if_neg (by omega),if_pos rfl] at B4;refine HP od2 hX (by omega) (-1) rfl (by simp only [AK]; omega) fun X' ob' H T7 Jw o=>?_;try simp only [go_sem,↓reduceIte,reduceEqDiff,reduceAdd,reduceMul,reduceLeDiff,reduceLT,AV.cells_one T7]
    refine ⟨by omega,Aq o (by omega) (by (try simp only [go_sem]); (try simp)) (by simp [T7]) fun H o=>?_⟩
    have hw : wr Xs f [X']=Xs.set f X':=rfl;rw [hw] at o;refine tw w ?_
    have qR : (Xs.set f X').length=Xs.length:=by simp
    refine A5 (Xs.set f X',ob',As.set f (As.getD f []++[-1])) Ah ⟨Jw,by simp [Lt],fun x hx=>?_, ?_⟩ rfl
    ·show ((As.set f (As.getD f []++[-1])).getD x []).length=_
     rw [BL]
     by_cases hxf : f=x
     ·subst hxf;rw [if_pos ⟨rfl,by omega⟩,List.length_append,B4,if_neg (by omega),if_pos rfl]; simp; omega
     ·rw [if_neg (fun q=>hxf q.1),Mf x hx]
      by_cases QX : x<f
      ·rw [if_pos QX,if_pos QX]
      ·rw [if_neg QX,if_neg QX,if_neg (by omega),if_neg (by omega)]
    ·try unfold Fc
     try rw [qR]
     exact o.pm
   ·have Ah:=A9 h2
    have w:=ws f;refine tw w ?_;refine A5 (Xs,ob,As) T5 ⟨hX,Lt,fun x hx=>?_,o⟩ rfl
    have:=Mf x hx
    show (As.getD x []).length=_
    rw [this]
    by_cases QX : x<f
    ·rw [if_pos QX,if_pos (by omega)]
    ·by_cases hx3 : x=f
     ·rw [if_neg QX,if_pos hx3,if_pos (by omega)]; omega
     ·rw [if_neg QX,if_neg hx3,if_neg (by omega)]
  ·have AU:=A9 h1
   have ja : ∀ x,x<c.AH.length→(As.getD x []).length=c.AH.length+e.AH.length:=fun x hx=>by rw [Mf x hx,if_pos (by omega)]
   clear h1 AU hf Mf;refine tt ?_
   refine AD [3,4,5,6,7] (G:=(Nat × List Int) × (Nat × List Int) × Nat × List AV × Ob × List (List Int)) (fun f _=>[(11,some (.int .i64 (f : Int)))])
    (fun f g H=>g.1.2.length=c.AH.length+f∧g.2.1.2.length=c.AH.length+f∧Ez iI g.2.2.2.1 g.2.2.2.2.2 g.2.2.2.2.1∧g.2.2.2.2.2.length=c.AH.length+f∧(∀ x,x<c.AH.length+f→(g.2.2.2.2.2.getD x []).length=c.AH.length+e.AH.length) ∧
     AB H0 H (Fc Cv BN (c.AR+e.AR) g.1.1 g.1.2 g.2.1.1 g.2.1.2 i I g.2.2.1 g.2.2.2.1 g.2.2.2.2.1)) e.AH.length ((a,c.AH),(b,c.to),d,Xs,ob,As) ⟨rfl,ctl,hX,Lt,ja,o⟩ rfl ?_
   clear o hX JN Lt ja
   rintro f ⟨⟨a,A⟩,⟨b,C⟩,d,Xs,ob,As⟩ H hf ⟨hA,hC,hX,Lt,Mf,o⟩;dsimp only at hA hC hX Lt Mf o
   have JN:=hX.len;unfold Fc at o;refine tt ?_;apply bk <;> intro h1
   ·have AU:=A7 h1;refine tt ?_;refine AN o (by simp) (tt ?_);refine ⟨AU,BJ _ o.swap rfl rfl (by simp only [AK]; omega) fun a H A2 _ YN o=>?_⟩;refine tt ?_;refine sw o.swap fun H o=>tt ?_;refine AN o (by simp) (tt ?_);refine ⟨by omega,BJ _ (o.pull [_,_]) rfl rfl (by simp only [AK]; omega) fun b H C2 _ hC2 o=>?_⟩;refine tt ?_;refine sw o.swap fun H o=>tt ?_
    have o : AB H0 H (Fc Cv BN (c.AR+e.AR) a A2 b C2 i I d Xs ob):=by
     try unfold Fc
     exact o.pm
    refine Af o fun BW H o=>tt ?_
    refine AD [3,4,5,6,7,11] (G:=Nat × List Int) (fun j g=>[(12,some (.buf g.1 g.2.length)),(13,some (.int .i64 (j : Int)))])
     (fun j g H=>g.2.length=j∧AB H0 H ((g.1,AF.cells 1 (g.2.map iI) 0)::Fc Cv BN (c.AR+e.AR) a A2 b C2 i I d Xs ob)) c.AH.length (BW,[]) ⟨rfl,o⟩ rfl ?_
    clear o
    rintro j ⟨BW,row⟩ H hj ⟨hr,o⟩;dsimp only at hr o;refine tt ?_;apply bk <;> intro h2
    ·have Ah:=A7 h2
     have w:=ws j;refine tt ?_;refine BJ _ o rfl rfl (by simp only [AK]; omega) fun BW H row2 _ Dr o=>?_;refine tw w ?_;exact A5 (BW,row2) Ah ⟨by show row2.length=_; omega,o⟩ rfl
    ·have Ah:=A9 h2
     have rD : row.length=c.AH.length:=by omega
     clear h2 Ah hj hr;refine tt ?_
     refine AD [3,4,5,6,7,11] (G:=Nat × List Int) (fun j g=>[(12,some (.buf g.1 g.2.length)),(14,some (.int .i64 (j : Int)))])
      (fun j g H=>g.2.length=c.AH.length+j∧AB H0 H ((g.1,AF.cells 1 (g.2.map iI) 0)::Fc Cv BN (c.AR+e.AR) a A2 b C2 i I d Xs ob)) e.AH.length (BW,row) ⟨rD,o⟩ rfl ?_
     clear o rD
     rintro j ⟨BW,row⟩ H hj ⟨hr,o⟩;dsimp only at hr o;refine tt ?_;apply bk <;> intro h3
     ·have BB:=A7 h3
      have w:=ws j
      have her:=erow f (by omega);refine tt ?_;refine ⟨by omega,by omega, ?_⟩;apply bk <;> intro h4
      ·refine tt ?_;refine BJ _ o rfl rfl (by simp only [AK]; omega) fun BW H row2 _ Dr o=>?_;refine tw w ?_;exact A5 (BW,row2) BB ⟨by show row2.length=_; omega,o⟩ rfl
      ·refine tt ?_;refine BJ _ o rfl rfl (by simp only [AK]; omega) fun BW H row2 _ Dr o=>?_;refine tw w ?_;exact A5 (BW,row2) BB ⟨by show row2.length=_; omega,o⟩ rfl
     ·have BB:=A9 h3
      have w:=ws f;unfold Fc at o;refine tt ?_;refine AN o.tl (by simp) (tt ?_);refine Na (o.pull [_,_,_,_,_]) rfl rfl rfl (by simp only [AK]; omega) fun d H o=>tt ?_
      have o:=o.pull [_,_];simp only [List.cons_append,List.nil_append] at o;refine sw o fun H o=>?_;refine tw w ?_
      have qR : (Xs++[AV.buf BW row.length]).length=Xs.length+1:=by simp
      refine A5 ((a,A2),(b,C2),d,Xs++[AV.buf BW row.length],ob++[(BW,AF.cells 1 (row.map iI) 0)],As++[row]) AU ⟨by show A2.length=_; omega,by show C2.length=_; omega,hX.XX (.inr ⟨BW,rfl,rfl⟩),by simp; omega,fun x hx=>?_, ?_⟩ rfl
      ·show ((As++[row]).getD x []).length=_
       by_cases QX : x<c.AH.length+f
       ·have e1 : (As++[row]).getD x []=As.getD x []:=by rw [gE,List.getElem?_append_left (by omega),← gE]
        rw [e1]; exact Mf x QX
       ·have e1 : (As++[row]).getD x []=row:=by
         have : x=As.length:=by omega
         subst this; simp
        rw [e1]; omega
      ·try unfold Fc
       try rw [qR]
       exact o.pm
   ·have AU:=A9 h1
    obtain rfl : f=e.AH.length:=by omega
    refine tt ?_;refine AZ o (by simp) (tt ?_)
    have o : AB H0 H ((BN,AF.cells 5 [iI 0,.A1,.A1,.A1,.A1] 0)::(Cv,AF.cells 5 [iI (c.AR+e.AR),.buf a A.length,.buf b C.length,.buf i I.length,.buf d Xs.length] 0)::(a,AF.cells 1 (A.map iI) 0)::(b,AF.cells 1 (C.map iI) 0)::(i,AF.cells 1 (I.map iI) 0)::(d,AF.cells 1 Xs 0)::ob):=o.pm;refine sw o fun H o=>tt ?_
    have BZ:=o.rc 5 0 (by simp);simp only [List.drop_zero] at BZ;rw [BZ];refine tt ?_
    refine ⟨H,.refl H,_,⟨⟨c.AR+e.AR,A,C,I,As⟩,⟨⟨by show 0≤c.AR+e.AR; omega,by show c.AR+e.AR≤((N+M : Nat) : Int); omega⟩,by show (I.length : Int)=c.AR+e.AR; omega,by show A.length≤N+M; omega,by show C.length=A.length; omega,by show As.length=A.length; omega,fun x hx=>?_⟩,
     a,b,i,d,Xs,ob,rfl,hX,rfl⟩,o.tl.tl⟩
    show (As.getD x []).length=A.length
    rw [Mf x (by have : x<A.length:=hx; omega)]; omega
theorem PY (B N M : Nat) (hNM : N+M≤4096) (hNM2 : N*M≤65536) (c e : B0) (hc : c.Sh N) (he : e.Sh M) : LH B 275 [.agg c.cells,.agg e.cells] (QC (N+M+N*M)):=by
 intro H0;refine xN.go fun _=>?_
 have cob:=hc.ob
 have eob:=he.ob;refine tt ?_;refine Am (.nil _) fun BN H o=>tt ?_;refine IX.go' (Oe B N M hNM c e hc he) o fun X1 p1 H ⟨q,hq,a,b,i,d,Xs,ob,e1,hX,e2⟩ o _=>?_;subst e1 e2
 have JN:=hX.len
 obtain ⟨qob,qil,qml,qtl,qcl,qrow⟩:=hq
 obtain ⟨qo,A,C,I,As⟩:=q;simp only at qob qil qml qtl qcl qrow hX JN;refine tt ?_;refine Am o fun CS H o=>tt ?_;refine sw o fun H o=>tt ?_
 have o : AB H0 H (Fc CS BN qo a A b C i I d Xs ob):=o;unfold Fc at o;refine AN o (by simp) (tt ?_)
 generalize hm : A.length=m at *
 refine AD [2,3,4,5,6] (G:=(Nat × List Int) × (Nat × List Int)) (fun k _=>[(7,some (.int .i64 (k : Int)))])
  (fun k g H=>g.2.2.length=g.1.2.length∧m≤g.1.2.length∧g.1.2.length=m+k*e.AR.toNat∧AB H0 H (Fc CS BN qo g.1.1 g.1.2 g.2.1 g.2.2 i I d Xs ob)) c.AR.toNat ((a,A),(b,C)) ⟨by simp only; omega,by simp only; omega,by simp [hm],by unfold Fc; rw [hm]; exact o⟩ rfl ?_
 clear o hm qtl
 rintro k ⟨⟨a,A⟩,⟨b,C⟩⟩ H hk ⟨hC,vQ,hA,o⟩;dsimp only at hC vQ hA o
 have hMe : ∀ x,x≤c.AR.toNat→x*e.AR.toNat≤N*M:=fun x hx=>Nat.mul_le_mul (by omega) (by omega);refine tt ?_;apply bk <;> intro h1
 ·have AU:=A7 h1
  have Sv : k+1≤c.AR.toNat:=by omega
  refine tt ?_
  refine AD [2,3,4,5,6,7] (G:=(Nat × List Int) × (Nat × List Int)) (fun j _=>[(8,some (.int .i64 (j : Int)))])
   (fun j g H=>g.2.2.length=g.1.2.length∧m≤g.1.2.length∧g.1.2.length=m+k*e.AR.toNat+j∧AB H0 H (Fc CS BN qo g.1.1 g.1.2 g.2.1 g.2.2 i I d Xs ob)) e.AR.toNat ((a,A),(b,C)) ⟨hC,vQ,hA,o⟩ rfl ?_
  clear o hC vQ hA
  rintro j ⟨⟨a,A⟩,⟨b,C⟩⟩ H hj ⟨hC,vQ,hA,o⟩;dsimp only at hC vQ hA o
  have hM1:=hMe (k+1) Sv;rw [Nat.succ_mul] at hM1;refine tt ?_;apply bk <;> intro h2
  ·have Ah:=A7 h2
   have w:=ws j;unfold Fc at o;refine tt ?_;refine AN o (by simp) (tt ?_);refine BJ _ o.swap rfl rfl (by simp only [AK]; omega) fun a H A2 _ YN o=>tt ?_;refine sw o.swap fun H o=>tt ?_;refine AN o (by simp) (tt ?_);refine BJ _ (o.pull [_,_]) rfl rfl (by simp only [AK]; omega) fun b H C2 _ hC2 o=>tt ?_;refine sw o.swap fun H o=>?_;refine tw w ?_;refine A5 ((a,A2),(b,C2)) (by omega) ⟨by show C2.length=A2.length; omega,by show m≤A2.length; omega,by show A2.length=_; omega, ?_⟩ rfl
   try unfold Fc
   exact o.pm
  ·have Ah:=A9 h2
   have w:=ws k;refine tw w ?_;exact A5 ((a,A),(b,C)) (by omega) ⟨hC,vQ,by show A.length=_; rw [Nat.succ_mul]; omega,o⟩ rfl
 ·have AU:=A9 h1
  have hAb : A.length≤N+M+N*M:=by have:=hMe k hk; omega
  clear h1 AU hk hA;unfold Fc at o;refine tt ?_
  have od : AB H0 H ((d,AF.cells 1 Xs 0)::(ob++[(CS,AF.cells 5 [iI qo,.buf a A.length,.buf b C.length,.buf i I.length,.buf d Xs.length] 0),(a,AF.cells 1 (A.map iI) 0),(b,AF.cells 1 (C.map iI) 0),(i,AF.cells 1 (I.map iI) 0),(BN,AF.cells 5 [iI 0,.A1,.A1,.A1,.A1] 0)])):=o.pm;refine Cy hX [] H od fun H o=>?_;simp only [List.nil_append] at o
  have o : AB H0 H [(CS,AF.cells 5 [iI qo,.buf a A.length,.buf b C.length,.buf i I.length,.buf d Xs.length] 0),(d,AF.cells 1 (As.map iL) 0),(a,AF.cells 1 (A.map iI) 0),(b,AF.cells 1 (C.map iI) 0),(i,AF.cells 1 (I.map iI) 0),(BN,AF.cells 5 [iI 0,.A1,.A1,.A1,.A1] 0)]:=o.pm;refine B7 4 o rfl JN fun H o=>?_;have o:=s1 o;refine B7 1 o rfl rfl fun H o=>?_;have o:=s1 o;refine B7 2 o rfl rfl fun H o=>?_;have o:=s1 o;refine B7 3 o rfl rfl fun H o=>AX ?_;have o:=s1 o;clear od;refine tt ?_;refine Af o fun gp H o=>tt ?_
  refine AD [2,3,4,5,6] (G:=Nat × List (List Int)) (fun f g=>[(9,some (.buf g.1 g.2.length)),(10,some (.int .i64 (f : Int)))])
   (fun f g H=>g.2.length=f∧(∀ r,r∈g.2→r.length=A.length)∧AB H0 H [(g.1,AF.cells 1 (g.2.map iL) 0),(CS,AF.cells 5 [iI qo,iL A,iL C,iL I,BD As] 0),(BN,AF.cells 5 [iI 0,.A1,.A1,.A1,.A1] 0)]) A.length (gp,[]) ⟨rfl,by simp,o⟩ rfl ?_
  clear o
  rintro f ⟨gp,T⟩ H hf ⟨hT,rZ,o⟩;dsimp only at hT rZ o;refine tt ?_;refine AN o.tl (by simp) (tt ?_);apply bk <;> intro h2
  ·have Ah:=A7 h2;refine tt ?_;refine Af o fun BW H o=>tt ?_
   refine AD [2,3,4,5,6,9,10] (G:=Nat × List Int) (fun g r=>[(11,some (.buf r.1 r.2.length)),(12,some (.int .i64 (g : Int)))])
    (fun g r H=>r.2.length=g∧AB H0 H [(r.1,AF.cells 1 (r.2.map iI) 0),(gp,AF.cells 1 (T.map iL) 0),(CS,AF.cells 5 [iI qo,iL A,iL C,iL I,BD As] 0),(BN,AF.cells 5 [iI 0,.A1,.A1,.A1,.A1] 0)]) A.length (BW,[]) ⟨rfl,o⟩ rfl ?_
   clear o
   rintro g ⟨BW,row⟩ H hg ⟨hr,o⟩;dsimp only at hr o;refine tt ?_;refine AN o.tl.tl (by simp) (tt ?_);apply bk <;> intro h3
   ·have BB:=A7 h3
    have w:=ws g;refine tt ?_;refine AN o.tl.tl (by simp) (tt ?_);refine ⟨by omega,AN o.tl.tl (by simp) ?_⟩;refine tt ?_;refine ⟨by omega,tt ?_⟩;apply bk <;> intro h4
    ·refine tt ?_;refine BJ _ o rfl rfl (by simp only [AK]; omega) fun BW H row2 _ Dr o=>?_;refine tw w ?_;exact A5 (BW,row2) BB ⟨by show row2.length=_; omega,o⟩ rfl
    ·refine tt ?_;apply bk <;> intro h5
     ·have Hj:=A7 h5;refine tw h5 ?_;apply bk <;> intro h6
      ·have Lo:=A7 h6
       have hq:=qrow f Hj;refine tt ?_;refine AN o.tl.tl (by simp) (tt ?_);refine ⟨by omega,by omega, ?_⟩;refine BJ _ o rfl rfl (by simp only [AK]; omega) fun BW H row2 _ Dr o=>?_;refine tw w ?_;exact A5 (BW,row2) BB ⟨by show row2.length=_; omega,o⟩ rfl
      ·refine tt ?_;refine AN o.tl.tl (by simp) (tt ?_);refine ⟨by omega,tt ?_⟩;refine AN o.tl.tl (by simp) (tt ?_);refine ⟨by omega,tt ?_⟩;refine BJ _ o rfl rfl (by simp only [AK]; omega) fun BW H row2 _ Dr o=>?_;refine tw w ?_;exact A5 (BW,row2) BB ⟨by show row2.length=_; omega,o⟩ rfl
     ·refine tw h5 ?_;refine AN o.tl.tl (by simp) (tt ?_);refine ⟨by omega,tt ?_⟩;refine AN o.tl.tl (by simp) (tt ?_);refine ⟨by omega,tt ?_⟩;refine BJ _ o rfl rfl (by simp only [AK]; omega) fun BW H row2 _ Dr o=>?_;refine tw w ?_;exact A5 (BW,row2) BB ⟨by show row2.length=_; omega,o⟩ rfl
   ·have BB:=A9 h3
    have w:=ws f;refine tt ?_;refine Ak o rfl fun H o=>tt ?_;refine Ac row o rfl rfl (by simp only [AK]; omega) fun gp H o=>?_;refine tw w ?_;refine A5 (gp,T++[row]) Ah ⟨by simp [hT], ?_,o⟩ rfl
    intro r BZ
    rcases List.mem_append.mp BZ with h | h
    ·exact rZ r h
    ·rw [List.mem_singleton] at h; subst h; omega
  ·have Ah:=A9 h2;refine tt ?_;refine Ak o rfl fun H o=>tt ?_;refine sw o fun H o=>tt ?_;refine AZ o (by simp) (tt ?_);refine sw o.swap fun H o=>tt ?_
   have BZ:=o.rc 5 0 (by simp);simp only [List.drop_zero] at BZ;rw [BZ];refine tt ?_
   have hTA : T.length=A.length:=by omega
   refine Ce ⟨⟨qo,A,C,I,T⟩,rfl,⟨qob.1,Int.le_trans qob.2 (Int.ofNat_le.mpr (Nat.le_add_right _ _))⟩,qil,hAb,hC,hTA,fun x hx=>?_⟩ o.sub;exact rZ _ (AE.mpr ⟨x,by rw [hTA]; exact hx,rfl⟩)
@[go_sem] def Dv (Cv BN : Nat) (x0 : Int) (a : Nat) (A : List Int) (b : Nat) (C : List Int) (i : Nat) (I : List Int) (d : Nat) (D : List (List Int)) : Ob :=
 [(Cv,.cells 5 [iI x0,.buf a A.length,.buf b C.length,.buf i I.length,.buf d D.length] 0),(a,.cells 1 (A.map iI) 0),(b,.cells 1 (C.map iI) 0),(i,.cells 1 (I.map iI) 0),(d,.cells 1 (D.map iL) 0),(BN,.cells 5 [iI 0,.A1,.A1,.A1,.A1] 0)]
theorem QO (B N M : Nat) (hN : N≤65536) (hM : M≤65536) (hNM : N*M≤65536) (c e : B0) (hc : c.Sh N) (he : e.Sh M) : LH B 208 [.agg c.cells,.agg e.cells] (QC (N*M)):=by
 intro H0;refine xY.go fun _=>?_
 obtain ⟨cob,cil,cml,ctl,ccl,crow⟩:=hc
 obtain ⟨eob,eil,eml,etl,ecl,erow⟩:=he
 have gU : 0≤c.AR*e.AR:=Int.mul_nonneg cob.1 eob.1
 have hpN : c.AR*e.AR≤(N : Int)*(M : Int):=Int.mul_le_mul cob.2 eob.2 eob.1 (Int.natCast_nonneg N)
 have hpe : ((N*M : Nat) : Int)=(N : Int)*(M : Int):=Int.natCast_mul N M
 have wo : IntKind.i64.wrap (c.AR*e.AR)=c.AR*e.AR:=wrap_i64 (by omega) (by omega)
 have hoe : c.AR*e.AR=((c.AR.toNat*e.AR.toNat : Nat) : Int):=by rw [Int.natCast_mul,Int.toNat_of_nonneg cob.1,Int.toNat_of_nonneg eob.1]
 have hMo : ∀ x,x≤c.AR.toNat→x*e.AR.toNat≤N*M:=fun x hx=>Nat.mul_le_mul (by omega) (by omega)
 have hMf : ∀ x,x≤c.AH.length→x*e.AH.length≤N*M:=fun x hx=>Nat.mul_le_mul (by omega) (by omega);refine tw wo ?_;refine Am (.nil _) fun BN H o=>?_;refine tw wo ?_;refine Af o fun a H o=>tt ?_;refine Af o fun b H o=>tt ?_;refine Af o fun i H o=>tt ?_;refine Af o fun d H o=>tt ?_;refine Am o fun Cv H o=>tt ?_;refine sw o fun H o=>tt ?_
 refine AD [2,3,4,5,6,7] (G:=Nat × List Int) (fun k _=>[(8,some (.int .i64 (k : Int)))])
  (fun k g H=>g.2.length=k*e.AR.toNat∧AB H0 H (Dv Cv BN (c.AR*e.AR) a [] b [] g.1 g.2 d [])) c.AR.toNat (i,[]) ⟨by simp,by unfold Dv; exact o.pm⟩ rfl ?_
 clear o
 rintro k ⟨i,I⟩ H hk ⟨hI,o⟩;dsimp only at hI o;refine tt ?_;apply bk <;> intro h1
 ·have AU:=A7 h1
  have Sv:=hMo (k+1) (by omega);rw [Nat.succ_mul] at Sv;refine tt ?_
  refine AD [2,3,4,5,6,7,8] (G:=Nat × List Int) (fun j _=>[(9,some (.int .i64 (j : Int)))])
   (fun j g H=>g.2.length=k*e.AR.toNat+j∧AB H0 H (Dv Cv BN (c.AR*e.AR) a [] b [] g.1 g.2 d [])) e.AR.toNat (i,I) ⟨hI,o⟩ rfl ?_
  clear o hI
  rintro j ⟨i,I⟩ H hj ⟨hI,o⟩;dsimp only at hI o;refine tt ?_;apply bk <;> intro h2
  ·have Ah:=A7 h2
   have w:=ws j;unfold Dv at o;refine tt ?_;refine AN o (by simp) (tt ?_);refine ⟨by omega,by omega, ?_⟩;refine BJ _ (o.pull [_,_,_]) rfl rfl (by simp only [AK]; omega) fun i H I2 _ hI2 o=>tt ?_;refine sw o.swap fun H o=>?_;refine tw w ?_;refine A5 (i,I2) (by omega) ⟨by show I2.length=_; omega, ?_⟩ rfl
   try unfold Dv
   exact o.pm
  ·have Ah:=A9 h2
   have w:=ws k;refine tw w ?_;exact A5 (i,I) (by omega) ⟨by show I.length=_; rw [Nat.succ_mul]; omega,o⟩ rfl
 ·have AU:=A9 h1
  obtain rfl : k=c.AR.toNat:=by omega
  clear h1 AU hk;refine tt ?_
  refine AD [2,3,4,5,6,7] (G:=(Nat × List Int) × (Nat × List Int) × (Nat × List (List Int))) (fun k _=>[(10,some (.int .i64 (k : Int)))])
   (fun k g H=>g.1.2.length=k*e.AH.length∧g.2.1.2.length=k*e.AH.length∧g.2.2.2.length=k*e.AH.length∧(∀ r,r∈g.2.2.2→r.length=c.AH.length*e.AH.length) ∧
    AB H0 H (Dv Cv BN (c.AR*e.AR) g.1.1 g.1.2 g.2.1.1 g.2.1.2 i I g.2.2.1 g.2.2.2)) c.AH.length ((a,[]),(b,[]),(d,[])) ⟨by simp,by simp,by simp,by simp,o⟩ rfl ?_
  clear o
  rintro k ⟨⟨a,A⟩,⟨b,C⟩,⟨d,D⟩⟩ H hk ⟨hA,hC,hD,VH,o⟩;dsimp only at hA hC hD VH o;refine tt ?_;apply bk <;> intro h1
  ·have AU:=A7 h1
   have Sv:=hMf (k+1) (by omega);rw [Nat.succ_mul] at Sv
   have crk:=crow k AU;refine tt ?_
   refine AD [2,3,4,5,6,7,10] (G:=(Nat × List Int) × (Nat × List Int) × (Nat × List (List Int))) (fun j _=>[(11,some (.int .i64 (j : Int)))])
    (fun j g H=>g.1.2.length=k*e.AH.length+j∧g.2.1.2.length=k*e.AH.length+j∧g.2.2.2.length=k*e.AH.length+j∧(∀ r,r∈g.2.2.2→r.length=c.AH.length*e.AH.length) ∧
     AB H0 H (Dv Cv BN (c.AR*e.AR) g.1.1 g.1.2 g.2.1.1 g.2.1.2 i I g.2.2.1 g.2.2.2)) e.AH.length ((a,A),(b,C),(d,D)) ⟨hA,hC,hD,VH,o⟩ rfl ?_
   clear o hA hC hD VH
   rintro j ⟨⟨a,A⟩,⟨b,C⟩,⟨d,D⟩⟩ H hj ⟨hA,hC,hD,VH,o⟩;dsimp only at hA hC hD VH o;refine tt ?_;apply bk <;> intro h2
   ·have Ah:=A7 h2
    have erj:=erow j Ah;unfold Dv at o;refine tt ?_;refine AN o (by simp) (tt ?_);refine ⟨by omega,by omega, ?_⟩;refine BJ _ o.swap rfl rfl (by simp only [AK]; omega) fun a H A2 _ YN o=>tt ?_;refine sw o.swap fun H o=>tt ?_;refine AN o (by simp) (tt ?_);refine ⟨by omega,by omega, ?_⟩;refine BJ _ (o.pull [_,_]) rfl rfl (by simp only [AK]; omega) fun b H C2 _ hC2 o=>tt ?_;refine sw o.swap fun H o=>tt ?_
    have o : AB H0 H (Dv Cv BN (c.AR*e.AR) a A2 b C2 i I d D):=by
     try unfold Dv
     exact o.pm
    refine Af o fun BW H o=>tt ?_
    refine AD [2,3,4,5,6,7,10,11] (G:=Nat × List Int) (fun f g=>[(12,some (.buf g.1 g.2.length)),(13,some (.int .i64 (f : Int)))])
     (fun f g H=>g.2.length=f*e.AH.length∧AB H0 H ((g.1,AF.cells 1 (g.2.map iI) 0)::Dv Cv BN (c.AR*e.AR) a A2 b C2 i I d D)) c.AH.length (BW,[]) ⟨by simp,o⟩ rfl ?_
    clear o
    rintro f ⟨BW,row⟩ H hf ⟨hr,o⟩;dsimp only at hr o;refine tt ?_;apply bk <;> intro h3
    ·have BB:=A7 h3
     have T5:=hMf (f+1) (by omega);rw [Nat.succ_mul] at T5;refine tt ?_
     refine AD [2,3,4,5,6,7,10,11,13] (G:=Nat × List Int) (fun g r=>[(12,some (.buf r.1 r.2.length)),(14,some (.int .i64 (g : Int)))])
      (fun g r H=>r.2.length=f*e.AH.length+g∧AB H0 H ((r.1,AF.cells 1 (r.2.map iI) 0)::Dv Cv BN (c.AR*e.AR) a A2 b C2 i I d D)) e.AH.length (BW,row) ⟨hr,o⟩ rfl ?_
     clear o hr
     rintro g ⟨BW,row⟩ H hg ⟨hr,o⟩;dsimp only at hr o;refine tt ?_;apply bk <;> intro h4
     ·have DC:=A7 h4
      have w:=ws g;refine tt ?_;refine ⟨by omega,by omega,tt ?_⟩;apply bk <;> intro h5
      ·refine tw h5 ?_;refine ⟨by omega,by omega,tt ?_⟩;apply bk <;> intro h6
       ·refine tt ?_;refine ⟨by omega,by omega,by omega,by omega, ?_⟩;refine BJ _ o rfl rfl (by simp only [AK]; omega) fun BW H row2 _ Dr o=>?_;refine tw w ?_;exact A5 (BW,row2) DC ⟨by show row2.length=_; omega,o⟩ rfl
       ·refine tt ?_;refine BJ _ o rfl rfl (by simp only [AK]; omega) fun BW H row2 _ Dr o=>?_;refine tw w ?_;exact A5 (BW,row2) DC ⟨by show row2.length=_; omega,o⟩ rfl
      ·refine tw h5 ?_;refine BJ _ o rfl rfl (by simp only [AK]; omega) fun BW H row2 _ Dr o=>?_;refine tw w ?_;exact A5 (BW,row2) DC ⟨by show row2.length=_; omega,o⟩ rfl
     ·have DC:=A9 h4
      have w:=ws f;refine tw w ?_;exact A5 (BW,row) BB ⟨by show row.length=_; rw [Nat.succ_mul]; omega,o⟩ rfl
    ·have BB:=A9 h3
     obtain rfl : f=c.AH.length:=by omega
     have w:=ws j;unfold Dv at o;refine tt ?_;refine Ak o rfl fun H o=>tt ?_;refine AN o (by simp) (tt ?_);refine BJ row (o.pull [_,_,_,_]) rfl rfl (by simp only [AK]; omega) fun d H D2 eD hD2 o=>tt ?_;refine sw o.swap fun H o=>?_;refine tw w ?_;refine A5 ((a,A2),(b,C2),(d,D2)) Ah ⟨by show A2.length=_; omega,by show C2.length=_; omega,by show D2.length=_; omega,fun r BZ=>?_, ?_⟩ rfl
     ·dsimp only at BZ;rw [eD] at BZ
      rcases List.mem_append.mp BZ with h | h
      ·exact VH r h
      ·rw [List.mem_singleton] at h; subst h; exact hr
     ·try unfold Dv
      exact o.pm
   ·have Ah:=A9 h2
    have w:=ws k;refine tw w ?_;exact A5 ((a,A),(b,C),(d,D)) AU ⟨by show A.length=_; rw [Nat.succ_mul]; omega,by show C.length=_; rw [Nat.succ_mul]; omega,by show D.length=_; rw [Nat.succ_mul]; omega,VH,o⟩ rfl
  ·have AU:=A9 h1
   obtain rfl : k=c.AH.length:=by omega
   have hAb : A.length≤N*M:=by rw [hA]; exact hMf _ (Nat.le_refl _)
   unfold Dv at o;refine tt ?_
   have o : AB H0 H [(Cv,AF.cells 5 [iI (c.AR*e.AR),.buf a A.length,.buf b C.length,.buf i I.length,.buf d D.length] 0),(d,AF.cells 1 (D.map iL) 0),(a,AF.cells 1 (A.map iI) 0),(b,AF.cells 1 (C.map iI) 0),(i,AF.cells 1 (I.map iI) 0),(BN,AF.cells 5 [iI 0,.A1,.A1,.A1,.A1] 0)]:=o.pm;refine B7 4 o rfl rfl fun H o=>?_;have o:=s1 o;refine B7 1 o rfl rfl fun H o=>?_;have o:=s1 o;refine B7 2 o rfl rfl fun H o=>?_;have o:=s1 o;refine B7 3 o rfl rfl fun H o=>AX ?_;have o:=s1 o;refine tt ?_;refine AZ o (by simp) (tt ?_);refine sw o.swap fun H o=>tt ?_
   have BZ:=o.rc 5 0 (by simp);simp only [List.drop_zero] at BZ;rw [BZ];refine tt ?_
   have nE : D.length=A.length:=by omega
   refine Ce ⟨⟨c.AR*e.AR,A,C,I,D⟩,rfl,⟨gU,by show c.AR*e.AR≤_; omega⟩,by show (I.length : Int)=c.AR*e.AR; omega,hAb,by show C.length=A.length; omega,nE,fun x hx=>?_⟩ o.sub;rw [VH _ (AE.mpr ⟨x,by rw [nE]; exact hx,rfl⟩)]; exact hA.symm
end Go.Proofs.Shf
namespace Go.AW
theorem RF {α : Type} {f : α→AV} : ∀ (ms : List (Nat × List α)) (x : Nat) (h : x<ms.length),∃ r,(inner f ms).Perm (((ms.getD x default).1,AF.cells 1 ((ms.getD x default).2.map f) 0)::r) ∧
  ∀ m : Nat × List α,(inner f (ms.set x m)).Perm ((m.1,AF.cells 1 (m.2.map f) 0)::r)
 | [],x,h=>by simp at h
 | m::ms,0,h=>⟨inner f ms,.refl _,fun m'=>.refl _⟩
 | m::ms,x+1,h=>by
  obtain ⟨r,h1,h2⟩:=RF ms x (by simpa using h);refine ⟨(m.1,AF.cells 1 (m.2.map f) 0)::r, ?_,fun m'=>?_⟩
  ·exact (List.Perm.cons _ h1).trans (.swap _ _ _)
  ·exact (List.Perm.cons _ (h2 m')).trans (.swap _ _ _)
theorem HW {α : Type} [Inhabited α] {f : α→AV} [One f] {H0 H : AA} {l : Ob} {K : Ap} {id fr : Nat} {ms : List (Nat × List α)} (o : AB H0 H ((id,.cells 1 (ms.map CQ) fr)::(inner f ms++l))) {x y : Nat} (hx : x<ms.length) (hy : y<(ms.getD x default).2.length) (v : α) {c : AV} (hc : c=f v)
  (hk : ∀ H',AB H0 H' ((id,.cells 1 ((ms.set x ((ms.getD x default).1,(ms.getD x default).2.set y v)).map CQ) fr)::(inner f (ms.set x ((ms.getD x default).1,(ms.getD x default).2.set y v))++l))→K nv H') :
  Oa (H.get (ms.getD x default).1) (ms.getD x default).1 y 1 [c] K H:=by
 subst hc
 obtain ⟨r,h1,h2⟩:=RF (f:=f) ms x hx
 have o1 : AB H0 H (((ms.getD x default).1,AF.cells 1 ((ms.getD x default).2.map f) 0)::(id,.cells 1 (ms.map CQ) fr)::(r++l)):=by
  refine o.perm (((List.Perm.append_right l h1).cons _).trans ?_);simp only [List.cons_append];exact .swap _ _ _
 refine Aq o1 (by rw [List.length_map]; omega) rfl (by simp [One.one]) fun H' o2=>?_
 have e1 : wr ((ms.getD x default).2.map f) y [f v]=((ms.getD x default).2.set y v).map f:=by
  simp [wr,List.map_set]
 have e2 : (ms.set x ((ms.getD x default).1,(ms.getD x default).2.set y v)).map CQ=ms.map (CQ (α:=α)):=by
  rw [List.map_set];apply List.ext_getElem?
  intro j
  by_cases hj : x=j
  ·subst hj;rw [List.getElem?_set_self (by simpa using hx)]
   simp [hx,CQ,gE]
  ·rw [List.getElem?_set_ne hj]
 rw [e1] at o2;refine hk H' ?_;rw [e2];refine o2.perm ((List.Perm.swap _ _ _).trans (.cons _ ?_))
 have:=List.Perm.append_right l (h2 ((ms.getD x default).1,(ms.getD x default).2.set y v)).symm
 simpa using this
end Go.AW
namespace Go.Proofs.Shf
open Go.AW Go.Proofs Go.Shf
theorem Rd.FU {B : Nat} {fn : FuncId} {args : List AV} {Q : AV→Prop} {id : Nat} {s : Src} {H0 H : AA} {l : List (Nat × AF)} {K : Ap} (h : Rd B fn args Q) (hs : s.Ok) (o : AB H0 H ((id,s.obj)::l))
  (hk : ∀ (r : AV) (s' : Src) (H' : AA),r.Eb→Q r→s'.Ok→AB H0 H' ((id,s'.obj)::l)→(∀ z,z≠3→H.QH z H')→K r H') : CB B fn (.ref id 0::args) H K :=
 (h id s _ H hs o.self).J7 fun r H' hf ⟨q,s',Hf,o'⟩=>hk r s' H' hf q Hf (o.del.trans o') fun z hz i cs f e=>by
  have h0:=o.h0;refine o'.sub i _ ?_;rw [AA.CA]
  ·exact e
  ·rintro rfl;simp only at h0;rw [h0] at e;simp only [Src.obj] at e
   cases e;exact hz rfl
theorem It (B n : Nat) (hn : n≤4) : Rd B 269 [iI n] (SqQ 4):=by
 intro id s H0 H hs o;refine yP.go fun _=>?_;refine tt ?_;refine Af o fun KB H o=>tt ?_
 refine AD [0,1] (G:=Src × Nat × List (Nat × List Int)) (fun k g=>[(5,some (.buf g.2.1 g.2.2.length)),(6,some (.int .i64 (k : Int)))])
  (fun k g H=>g.1.Ok∧g.2.2.length=k∧(∀ m,m∈g.2.2→m.2.length=n)∧AB H0 H ((g.2.1,AF.cells 1 (g.2.2.map CQ) 0)::(inner iI g.2.2++[(id,g.1.obj)]))) n (s,KB,[]) ⟨hs,rfl,by simp,o⟩ rfl ?_
 clear o hs
 rintro k ⟨s,KB,ms⟩ H hk ⟨hs,Dz,KG,o⟩;dsimp only at hs Dz KG o;refine tt ?_;refine ⟨fun h1=>At.mk ?_,fun h1=>At.mk ?_⟩
 ·have AU:=A7 h1;refine tt ?_;refine ⟨by simp only [AK]; omega, ?_⟩;refine DL iI 0 rfl o fun BW H o=>tt ?_;refine ⟨by omega,C4 1 o rfl (by simp; omega) fun H o=>?_⟩
  have wk1:=ws k;refine tw wk1 ?_
  refine AD [0,1,5,6,7] (G:=Src × List Int) (fun q g=>[(8,some (.int .i64 ((k+1+q : Nat) : Int)))])
   (fun q g H=>g.1.Ok∧g.2.length=n∧AB H0 H ((BW,AF.cells 1 (g.2.map iI) 0)::(KB,AF.cells 1 (ms.map CQ) 0)::(inner iI ms++[(id,g.1.obj)]))) (n - (k+1)) (s,(List.replicate n 0).set k 1) ⟨hs,by simp,o⟩ rfl ?_
  clear o hs
  rintro q ⟨s,row⟩ H hq ⟨hs,hr,o⟩;dsimp only at hs hr o;refine tt ?_;refine ⟨fun h2=>At.mk ?_,fun h2=>At.mk ?_⟩
  ·have Ah:=A7 h2
   have w:=PK (k:=k+1+q) (by omega);refine tt ?_
   have o : AB H0 H ((id,s.obj)::(BW,AF.cells 1 (row.map iI) 0)::(KB,AF.cells 1 (ms.map CQ) 0)::inner iI ms):=o.pm;refine (AY B 2).go hs o fun r s H _ ⟨v,e,_⟩ hs o=>?_;subst e;refine tt ?_;refine ⟨by omega, ?_⟩
   have o:=o.swap;refine C4 v o rfl (by omega) fun H o=>?_;refine tw w ?_;refine A5 (s,row.set (k+1+q) v) (by omega) ⟨hs,by simp [hr],o.pm⟩ rfl
  ·have Ah:=A9 h2
   have w:=ws k;refine tt ?_;refine Ac (f:=CQ) (BW,row) o.swap (by simp [CQ,hr]) rfl (by simp only [AK]; omega) fun KB H o=>?_;refine tw w ?_;refine A5 (s,KB,ms++[(BW,row)]) AU ⟨hs,by simp [Dz], ?_, ?_⟩ rfl
   ·intro m hm
    rcases List.mem_append.mp hm with h | h
    ·exact KG m h
    ·rw [List.mem_singleton] at h; subst h; exact hr
   ·refine o.perm (.cons _ ?_);simp only [inner,List.map_append,List.map_cons,List.map_nil,List.append_assoc,List.cons_append,List.nil_append];exact List.perm_middle.symm
 ·have AU:=A9 h1
  obtain rfl : k=n:=by omega
  clear h1 AU hk;refine tt ?_
  have o : AB H0 H ((id,s.obj)::(KB,AF.cells 1 (ms.map CQ) 0)::inner iI ms):=o.pm;refine ⟨fun h2=>At.mk ?_,fun h2=>At.mk ?_⟩
  case' refine_1 =>
   have Ah:=A7 h2;refine tw h2 ?_;refine (AY B 4).go hs o fun r s H _ ⟨v,e,_⟩ hs o=>?_;subst e;refine tt ?_;refine ⟨fun h3=>At.mk ?_,fun h3=>At.mk ?_⟩
   case' refine_1 =>
    have wp : IntKind.i64.wrap ((k : Int) - 1)=((k - 1 : Nat) : Int):=K2 (by omega) (by omega);refine tw wp ?_;refine ⟨by omega,⟨_,_,o.tl.h0⟩,AN o.tl (by simp; omega) ?_⟩;refine tt ?_;refine (AY B k).FU hs o fun r s H _ ⟨v,e,K9,CJ,_⟩ hs o hz=>⟨hz, ?_⟩;subst e
    have CJ:=CJ (by omega)
    have hrk:=KG (ms.getD (k - 1) default) (AE.mpr ⟨k - 1,by omega,rfl⟩);rw [getD_map ms (by omega)];refine tt ?_;refine ⟨by omega, ?_⟩
    have o : AB H0 H ((KB,AF.cells 1 (ms.map CQ) 0)::(inner iI ms++[(id,s.obj)])):=o.pm;refine HW o (by omega) (by omega) 1 rfl fun H o=>?_
    have Dz : (ms.set (k - 1) ((ms.getD (k - 1) default).1,(ms.getD (k - 1) default).2.set v.toNat 1)).length=k:=by simp [Dz]
    have KG : ∀ m,m∈ms.set (k - 1) ((ms.getD (k - 1) default).1,(ms.getD (k - 1) default).2.set v.toNat 1)→m.2.length=k:=by
     intro m hm
     rcases List.mem_or_eq_of_mem_set hm with h | h
     ·exact KG m h
     ·rw [h]; simpa using hrk
    generalize ms.set (k - 1) ((ms.getD (k - 1) default).1,(ms.getD (k - 1) default).2.set v.toNat 1)=ms at Dz KG o
    have o : AB H0 H ((id,s.obj)::(KB,AF.cells 1 (ms.map CQ) 0)::inner iI ms):=o.pm
  all_goals
   try (try simp only [go_sem,↓reduceIte,reduceEqDiff,reduceAdd,reduceMul,reduceLeDiff,reduceLT,h2])
   clear h2
   have o : AB H0 H ((KB,AF.cells 1 (ms.map CQ) 0)::(inner iI ms++[(id,s.obj)])):=o.pm
   generalize VG : ms.length=m0
   replace VG : m0=k:=by omega
   refine AD [1,5] (G:=List (Nat × List Int)) (fun x _=>[(9,some (.int .i64 (x : Int)))]) (fun _ ms H=>ms.length=k∧(∀ m,m∈ms→m.2.length=k)∧AB H0 H ((KB,AF.cells 1 (ms.map CQ) 0)::(inner iI ms++[(id,s.obj)]))) k ms ⟨Dz,KG,o⟩ rfl ?_;clear o Dz KG
   rintro x ms H hx ⟨Dz,KG,o⟩
   replace Dz : ms.length=k:=Dz
   replace KG : ∀ m,m∈ms→m.2.length=k:=KG
   replace o : AB H0 H ((KB,AF.cells 1 (ms.map CQ) 0)::(inner iI ms++[(id,s.obj)])):=o;refine tt ?_;refine ⟨fun g1=>At.mk ?_,fun g1=>At.mk ?_⟩
   ·have CO:=A7 g1
    have wx:=ws x;refine tt ?_;refine AD [1,5,9] (G:=List (Nat × List Int)) (fun y _=>[(10,some (.int .i64 (y : Int)))]) (fun _ ms H=>ms.length=k∧(∀ m,m∈ms→m.2.length=k)∧AB H0 H ((KB,AF.cells 1 (ms.map CQ) 0)::(inner iI ms++[(id,s.obj)]))) k ms ⟨Dz,KG,o⟩ rfl ?_;clear o Dz KG
    rintro y ms H hy ⟨Dz,KG,o⟩
    replace Dz : ms.length=k:=Dz
    replace KG : ∀ m,m∈ms→m.2.length=k:=KG
    replace o : AB H0 H ((KB,AF.cells 1 (ms.map CQ) 0)::(inner iI ms++[(id,s.obj)])):=o;refine tt ?_;refine ⟨fun g2=>At.mk ?_,fun g2=>At.mk ?_⟩
    ·have CR:=A7 g2
     have wy:=ws y;refine tt ?_;refine AD [1,5,9,10] (G:=List (Nat × List Int)) (fun z _=>[(11,some (.int .i64 (z : Int)))]) (fun _ ms H=>ms.length=k∧(∀ m,m∈ms→m.2.length=k)∧AB H0 H ((KB,AF.cells 1 (ms.map CQ) 0)::(inner iI ms++[(id,s.obj)]))) k ms ⟨Dz,KG,o⟩ rfl ?_;clear o Dz KG
     rintro z ms H hz ⟨Dz,KG,o⟩
     replace Dz : ms.length=k:=Dz
     replace KG : ∀ m,m∈ms→m.2.length=k:=KG
     replace o : AB H0 H ((KB,AF.cells 1 (ms.map CQ) 0)::(inner iI ms++[(id,s.obj)])):=o;refine tt ?_;refine ⟨fun g3=>At.mk ?_,fun g3=>At.mk ?_⟩
     ·have Di:=A7 g3
      have wz:=ws z
      have hry:=KG (ms.getD y default) (AE.mpr ⟨y,by omega,rfl⟩)
      have jJ:=KG (ms.getD x default) (AE.mpr ⟨x,by omega,rfl⟩);refine tt ?_;refine ⟨by omega,AN o (by simp; omega) ?_⟩;rw [getD_map ms (by omega)];refine tt ?_;refine ⟨by omega,CD (o.FG (by omega)) (by omega) ?_⟩;refine tt ?_;refine ⟨fun g4=>At.mk ?_,fun g4=>At.mk ?_⟩
      case' refine_1 =>
       refine tw g4 ?_;refine ⟨by omega,AN o (by simp; omega) ?_⟩;rw [getD_map ms (by omega)];refine tt ?_;refine ⟨by omega,CD (o.FG (by omega)) (by omega) ?_⟩;refine tt ?_;refine ⟨fun g5=>At.mk ?_,fun g5=>At.mk ?_⟩
       case' refine_1 =>
        refine tt ?_;refine ⟨by omega,AN o (by simp; omega) ?_⟩;rw [getD_map ms (by omega)];refine tt ?_;refine ⟨by omega, ?_⟩;refine HW o (by omega) (by omega) 1 rfl fun H o=>?_
        have Dz : (ms.set y ((ms.getD y default).1,(ms.getD y default).2.set z 1)).length=k:=by simp [Dz]
        have KG : ∀ m,m∈ms.set y ((ms.getD y default).1,(ms.getD y default).2.set z 1)→m.2.length=k:=by
         intro m hm
         rcases List.mem_or_eq_of_mem_set hm with h | h
         ·exact KG m h
         ·rw [h]; simpa using hry
        generalize ms.set y ((ms.getD y default).1,(ms.getD y default).2.set z 1)=ms at Dz KG o
      all_goals
       try (try simp only [go_sem,↓reduceIte,reduceEqDiff,reduceAdd,reduceMul,reduceLeDiff,reduceLT,g4])
       try (try simp only [go_sem,↓reduceIte,reduceEqDiff,reduceAdd,reduceMul,reduceLeDiff,reduceLT,wz])
       exact A5 ms Di ⟨Dz,KG,o⟩ rfl
     ·refine tw wy ?_;exact A5 ms CR ⟨Dz,KG,o⟩ rfl
    ·refine tw wx ?_;exact A5 ms CO ⟨Dz,KG,o⟩ rfl
   ·refine tt ?_;refine SB (f:=iI) ms [] H o fun H o=>AX ?_;simp only [List.nil_append] at o;refine tt ?_;refine Ak (f:=iL) o (by simp; omega) fun H o=>tt ?_;refine Az ⟨ms.map Prod.snd,rfl,by simp; omega,fun i hi=>?_⟩ hs o
    have Fg : i<ms.length:=by simpa using hi
    have e1 : (ms.map Prod.snd).getD i default=(ms.getD i default).2:=by simp [gE,Fg]
    rw [e1,KG _ (AE.mpr ⟨i,Fg,rfl⟩)]; simp [Dz]
end Go.Proofs.Shf
namespace Go.Shf
open Go.AW
def S5 (ms : List (Nat × List Bool)) : Nat:=(ms.map fun m=>(m.2.filter fun b=>!b).length).sum
theorem fM (l : List Bool) (y : Nat) (h : y<l.length) (h0 : l.getD y default=false) : ((l.set y true).filter fun b=>!b).length+1=(l.filter fun b=>!b).length:=by
 induction l generalizing y with
 | nil=>simp at h
 | cons a l ih =>
  cases y with
  | zero =>
   simp only [List.getD_cons_zero] at h0;subst h0
   simp [List.set]
  | succ y =>
   have:=ih y (by simpa using h) (by simpa using h0);simp only [List.set,List.filter_cons]
   split <;> simp_all <;> omega
theorem eI (ms : List (Nat × List Bool)) (x y : Nat) (hx : x<ms.length) (hy : y<(ms.getD x default).2.length) (h0 : (ms.getD x default).2.getD y default=false) :
  S5 (ms.set x ((ms.getD x default).1,(ms.getD x default).2.set y true))+1=S5 ms:=by
 induction ms generalizing x with
 | nil=>simp at hx
 | cons a ms ih =>
  cases x with
  | zero =>
   simp only [List.getD_cons_zero] at hy h0 ⊢
   have:=fM a.2 y hy h0;simp only [S5,List.set,List.map_cons,List.sum_cons];omega
  | succ x =>
   have:=ih x (by simpa using hx) (by simpa using hy) (by simpa using h0);simp only [List.getD_cons_succ,S5,List.set,List.map_cons,List.sum_cons] at this ⊢;omega
theorem Ua {L : List (List (List Int))} {ms : List (Nat × List Bool)} (hM : DV L (ms.map Prod.snd)) (x y : Nat) (hx : x<ms.length) (b : Bool) : DV L ((ms.set x ((ms.getD x default).1,(ms.getD x default).2.set y b)).map Prod.snd):=by
 refine ⟨by simpa using hM.len,fun z hz=>?_⟩
 have jI:=hM.row z hz
 have hl : z<ms.length:=by have:=hM.len; simp at this; omega
 rw [B8 _ (by simpa using hl)] at ⊢;rw [B8 _ hl] at jI;rw [BL]
 split
 ·rename_i e
  obtain ⟨rfl,_⟩:=e;simp only [List.length_set]; exact jI
 ·exact jI
end Go.Shf
namespace Go.Proofs.Shf
open Go.AW Go.Proofs Go.Shf
def mE (L : List (List (List Int))) (ms : List (Nat × List Bool)) (id : Nat) (l : Ob) (H0 : AA) : Ap:=fun r H' =>
 (r=.bool false∧AB H0 H' ((id,.cells 1 (ms.map CQ) 0)::(inner AV.bool ms++l))) ∨
 (r=.bool true∧∃ ms' : List (Nat × List Bool),ms'.length=ms.length∧DV L (ms'.map Prod.snd)∧S5 ms'<S5 ms∧AB H0 H' ((id,.cells 1 (ms'.map CQ) 0)::(inner AV.bool ms'++l)))
theorem UI (B : Nat) (c : B0) (L : List (List (List Int))) (t : Dt c L) (ms : List (Nat × List Bool)) (hM : DV L (ms.map Prod.snd)) (id : Nat) (H0 H : AA) (l : List (Nat × AF))
  (o : AB H0 H ((id,.cells 1 (ms.map CQ) 0)::(inner AV.bool ms++l))) :
  CB B 296 [.agg (BE c L),.buf id ms.length] H (mE L ms id l H0):=by
 refine mM.go fun _=>?_
 have hm:=t.is.1.m
 have Cu:=t.is.1.He
 have Dz:=hM.len
 have hmM : (ms.map Prod.snd).length=ms.length:=List.length_map ..
 have nN:=Hc (c:=c) (L:=L)
 have Ko:=JT (c:=c) (L:=L)
 have hLo:=t.len
 have Fh:=t.is.1.o
 have gM : ∀ x : Nat,x<ms.length→((ms.getD x default).2).length=(L.getD x default).length:=fun x hx=>by rw [← BP ms hx]; exact hM.row x (by omega)
 have mgM : ∀ (x : Nat) (k : Int),x<ms.length→mg (ms.map Prod.snd) x k=ix (ms.getD x default).2 k:=fun x k hx=>by rw [mg,AJ,BP ms hx]
 have stop : ∀ {Hn : AA} {v : AV} {x y : Nat},x<ms.length→y<(ms.getD x default).2.length→(ms.getD x default).2.getD y default=false →
   AB H0 Hn ((id,.cells 1 ((ms.set x ((ms.getD x default).1,(ms.getD x default).2.set y true)).map CQ) 0)::(inner AV.bool (ms.set x ((ms.getD x default).1,(ms.getD x default).2.set y true))++l))→v=.bool true→Ig (mE L ms id l H0) v Hn:=by
  intro Hn v x y hx hy h0 o h3
  have:=eI ms x y hx hy h0;exact ⟨Hn,.refl _,.inr ⟨h3,_,by simp,Ua hM x y hx true,by omega,o⟩⟩
 refine tt ?_;refine AD [1,2] (fun x _=>[(5,some (.int .i64 (x : Int)))]) (fun x _ H'=>H'=H∧∀ y,y<x→XOk c L (ms.map Prod.snd) y) ms.length () ⟨rfl,by simp⟩ rfl ?_
 rintro x _ H' Pp ⟨rfl,Aj⟩;refine tt ?_;apply bk <;> intro h1
 rotate_left
 ·refine tt ?_
  have AU:=dd h1;exact ⟨H',.refl _,.inl ⟨rfl,o⟩⟩
 refine tt ?_
 have AU:=dd h1
 have w1:=ws x
 have Gl:=t.top (x:=x) (by omega)
 have B4:=gM x AU
 have Bf:=t.YH x (by omega)
 have lQ:=o.FG AU;refine ⟨AU,BX o AU ?_⟩;refine tt ?_;refine ⟨by omega,⟨Gl.1.1,by omega⟩,CD lQ (by omega) ?_⟩;refine tt ?_;apply bk <;> intro h2
 ·refine tw h2 ?_
  have Ah:=dd h2;refine ⟨AU,BX o AU ?_⟩;refine tt ?_;refine ⟨by omega,⟨Gl.1.1,by omega⟩, ?_⟩;refine HW o (by omega) (by omega) true rfl fun H o=>tt ?_;exact stop (by omega) (by omega) (by assumption) o rfl
 refine tw h2 ?_
 have Ah:=dd h2
 have hxt : mg (ms.map Prod.snd) x ((C9 c L).getD x default)=true:=by rw [mgM _ _ AU]; exact Ah
 refine AD [1,2,5] (fun s _=>[(6,some (.int .i64 (s : Int)))]) (fun s _ H2=>H2=H'∧∀ y,y<s→vh c L (ms.map Prod.snd) x y) (ms.getD x default).2.length () ⟨rfl,by simp⟩ rfl ?_
 rintro s _ H2 Gd ⟨rfl,Pf⟩;refine tt ?_;refine ⟨AU,BX o AU ?_⟩;refine tt ?_;apply bk <;> intro h3
 rotate_left
 ·refine tw w1 ?_
  have BB:=dd h3;exact A5 () AU ⟨rfl,AG Aj ⟨hxt,fun y hy=>Pf y (by rw [BP ms AU] at hy; omega)⟩⟩ rfl
 refine tt ?_
 have BB:=dd h3
 have w3:=ws s;refine ⟨AU,BX o AU ?_⟩;refine tt ?_;refine ⟨BB,CD lQ BB ?_⟩;refine tt ?_;apply bk <;> intro h4
 ·refine t2 h4 w3 ?_
  have DC:=dd h4;exact A5 () BB ⟨rfl,AG Pf fun e=>by rw [BP ms AU,DC] at e; cases e⟩ rfl
 refine tw h4 ?_
 have DC:=dd h4;refine AD [1,2,5,6] (fun a _=>[(7,some (.int .i64 (a : Int)))]) (fun a _ H3=>H3=H2∧∀ y,y<a→v8 c L (ms.map Prod.snd) x s y) c.AH.length () ⟨rfl,by simp⟩ rfl ?_
 rintro a _ H3 Pz ⟨rfl,Pu⟩;refine tt ?_;rw [Ko];refine tt ?_;apply bk <;> intro h5
 ·refine tt ?_
  have Hj:=dd h5
  have w5:=ws a
  have GZ : 0≤(a : Int)∧(a : Int).toNat<c.AH.length:=⟨by omega,by simpa using Hj⟩;refine ⟨Hj, ?_⟩;apply bk <;> intro h6
  rotate_left
  ·refine t2 h6 w5 ?_
   have Lo:=dd h6;exact A5 () Hj ⟨rfl,AG Pu fun e=>absurd e Lo⟩ rfl
  refine tw h6 ?_
  have Lo:=dd h6
  have Cu:=t.to GZ;simp only [AJ,HZ] at Cu
  have rn:=JW (L:=L) GZ;simp only [AJ] at rn
  have iT : s<(ix L (ix c.AH a)).length:=by rw [AJ,Lo,AJ,← B4]; exact BB
  have hp:=(t.pull GZ iT).1;simp only [AJ] at hp
  have hy : (c.to.getD a default).toNat<ms.length:=by omega
  have sn:=o.FG hy
  have ga:=gM _ hy
  have iR : ix ms (c.to.getD a default)=ms.getD (c.to.getD a default).toNat default:=rfl
  have sH : ix L (c.to.getD a default)=L.getD (c.to.getD a default).toNat default:=rfl;simp only [AJ] at iT;rw [sH] at hp;refine ⟨by omega,⟨Cu.1,hy⟩,BX o hy ?_⟩;refine tt ?_;refine ⟨by omega,by omega,⟨hp.1,by omega⟩,CD sn (by omega) ?_⟩;refine tt ?_
  have vO : mg (ms.map Prod.snd) (c.to.getD a default) (((BC c L).getD a default).getD s default)=(ms.getD (c.to.getD a default).toNat default).2.getD (((BC c L).getD a default).getD s default).toNat default:=by
   have:=mgM (c.to.getD a default).toNat (((BC c L).getD a default).getD s default) hy;rw [Int.toNat_of_nonneg Cu.1] at this;rw [this]; rfl
  apply bk <;> intro h7
  ·refine tw h7 ?_
   have VJ:=dd h7;refine ⟨by omega,⟨Cu.1,hy⟩,BX o hy ?_⟩;refine tt ?_;refine ⟨by omega,by omega,⟨hp.1,by omega⟩, ?_⟩;refine HW o (by omega) (by omega) true rfl fun H o=>tt ?_;exact stop (by omega) (by omega) (by assumption) o rfl
  ·refine t2 h7 w5 ?_
   have VJ:=dd h7;exact A5 () Hj ⟨rfl,AG Pu fun _=>by rw [vO]; exact VJ⟩ rfl
 ·refine tt ?_
  have Hj:=dd h5
  have ha0 : ∀ y,y<c.AH.length→v8 c L (ms.map Prod.snd) x s y:=fun y hy=>Pu y (by omega);refine AD [1,2,5,6] (fun k _=>[(8,some (.int .i64 (k : Int)))]) (fun k _ H4=>H4=H3∧∀ y,y<k→KOk c L (ms.map Prod.snd) x s y) (ms.getD x default).2.length () ⟨rfl,by simp⟩ rfl ?_
  rintro k _ H4 Nc ⟨rfl,Pe⟩;refine tt ?_;refine ⟨AU,BX o AU ?_⟩;refine tt ?_;apply bk <;> intro h8
  ·refine tt ?_
   have V3:=dd h8
   have w8:=ws k;refine ⟨AU,BX o AU ?_⟩;refine tt ?_;refine ⟨V3,CD lQ V3 ?_⟩;refine tt ?_;apply bk <;> intro h9
   ·refine tw h9 ?_
    have vK:=dd h9
    refine BG.GR (r:=.bool (dec (QF c L (ms.map Prod.snd) x s k))) (es:=[.agg (BE c L),uW (ms.map Prod.snd),.int .i64 x,.int .i64 s,.int .i64 k]) (.bool _) rfl (fun i hi=>?_)
     (Mx B c L t (ms.map Prod.snd) hM x s k (by omega) (by omega) (by omega)).run ?_
    ·obtain rfl | rfl | rfl | rfl | rfl : i=0∨i=1∨i=2∨i=3∨i=4:=by simp only [List.length_cons,List.length_nil] at hi; omega
     ·exact DT _
     ·exact R2 o rfl
     ·exact DT _
     ·exact DT _
     ·exact DT _
    refine tt ?_;apply bk <;> intro YM
    ·refine tt ?_
     have aA:=dd YM;refine ⟨AU,BX o AU ?_⟩;refine tt ?_;refine ⟨V3, ?_⟩;refine HW o (by omega) (by omega) true rfl fun H o=>tt ?_;exact stop (by omega) (by omega) (by assumption) o rfl
    ·refine tw w8 ?_
     have aA:=dd YM;exact A5 () V3 ⟨rfl,AG Pe (.inr aA)⟩ rfl
   ·refine t2 h9 w8 ?_
    have vK:=dd h9;exact A5 () V3 ⟨rfl,AG Pe (.inl (by rw [BP ms AU]; exact vK))⟩ rfl
  ·refine tw w3 ?_
   have V3:=dd h8;exact A5 () BB ⟨rfl,AG Pf fun _=>⟨ha0,fun y hy=>Pe y (by rw [BP ms AU] at hy; omega)⟩⟩ rfl
end Go.Proofs.Shf
namespace Go.AW
section
variable {α : Type} [Inhabited α] {f : α→AV} {n : Nat} [h : QM n f] {H0 H : AA} {l : Ob} {K : Ap}
theorem RA : ∀ (l : List α) (x : Nat),(flat (l.map f)).drop (x*n)=flat ((l.drop x).map f)
 | l,0=>by simp
 | [],x+1=>by simp [flat]
 | a::r,x+1=>by
  have e : (x+1)*n=(f a).cells.length+x*n:=by rw [h.len a,Nat.succ_mul,Nat.add_comm]
  simp only [List.map_cons,flat,List.drop_succ_cons];rw [e,← List.drop_drop,List.drop_left];exact RA r x
theorem O6 {A : List α} {x : Nat} (hx : x<A.length) : ((flat (A.map f)).drop (x*n)).take n=(f (A.getD x default)).cells:=by
 rw [RA,List.drop_eq_getElem_cons hx,List.map_cons,flat,List.take_left' (h.len _)]
 congr 2
 simp [gE,hx]
theorem fS {A : List α} {x off : Nat} (hx : x<A.length) (ho : off<n) : (flat (A.map f)).getD (x*n+off) nv=(f (A.getD x default)).cells.getD off nv:=by
 rw [← O6 (f:=f) (n:=n) hx];simp only [gE,List.getElem?_take,List.getElem?_drop];rw [if_pos ho]
theorem KT {A : List α} {x off m : Nat} (hx : x<A.length) (ho : off+m≤n) : x*n+off+m≤(flat (A.map f)).length:=by
 rw [HU (f:=f) (n:=n)]
 have:=Nat.mul_le_mul_right n (show x+1≤A.length by omega);rw [Nat.succ_mul] at this; omega
theorem cV : ∀ (vs a b c : List AV),vs.length=b.length→wr (a++(b++c)) a.length vs=a++(vs++c)
 | [],a,[],c,_=>by simp [wr]
 | v::vs,a,[],c,hl=>by simp at hl
 | [],a,d::b,c,hl=>by simp at hl
 | v::vs,a,d::b,c,hl=>by
  rw [wr]
  have e : (a++(d::b++c)).set a.length v=(a++[v])++(b++c):=by simp
  rw [e]
  have:=cV vs (a++[v]) b c (by simpa using hl)
  simpa using this
theorem jN {A : List α} {x : Nat} (hx : x<A.length) (a : α) : wr (flat (A.map f)) (x*n) (f a).cells=flat ((A.set x a).map f):=by
 have e1 : A=A.take x++(A.getD x default::A.drop (x+1)):=by
  conv=>lhs; rw [← List.take_append_drop x A,List.drop_eq_getElem_cons hx]
  simp [gE,hx]
 have e2 : A.set x a=A.take x++(a::A.drop (x+1)):=by rw [List.set_eq_take_append_cons_drop,if_pos hx]
 have hl : (flat ((A.take x).map f)).length=x*n:=by rw [HU (f:=f) (n:=n),List.length_take,Nat.min_eq_left (by omega)]
 rw [e2]
 conv=>lhs; rw [e1]
 rw [List.map_append,List.map_append,Ky,Ky,List.map_cons,List.map_cons,flat,flat,← hl];exact cV _ _ _ _ (by rw [h.len,h.len])
theorem Wn {id x off fr : Nat} {A : List α} (o : AB H0 H ((id,.cells n (flat (A.map f)) fr)::l)) (hx : x<A.length) (ho : off<n) (hk : K ((f (A.getD x default)).cells.getD off nv) H) : M6 (H.get id) none (x*n+off) K H:=by
 refine AN o ?_ ?_
 ·have:=KT (f:=f) (n:=n) hx (show off+1≤n by omega); omega
 ·rw [fS hx ho]; exact hk
theorem Rb {id x fr : Nat} {A : List α} (o : AB H0 H ((id,.cells n (flat (A.map f)) fr)::l)) (hx : x<A.length) (hk : K (f (A.getD x default)) H) : M6 (H.get id) (some n) (x*n) K H:=by
 refine AZ o ?_ ?_
 ·have:=KT (f:=f) (n:=n) hx (show 0+n≤n by omega); omega
 ·rw [O6 hx,← h.agg]; exact hk
theorem bO {id x : Nat} {A : List α} (o : AB H0 H ((id,.cells n (flat (A.map f)) 0)::l)) (hx : x<A.length) (a : α) {cs : List AV} (hc : cs=(f a).cells) (hk : ∀ H',AB H0 H' ((id,.cells n (flat ((A.set x a).map f)) 0)::l)→K nv H') : Oa (H.get id) id (x*n) n cs K H:=by
 subst hc;refine Aq o ?_ (h.len a) (h.one a) fun H' o'=>hk H' ?_
 ·have:=KT (f:=f) (n:=n) hx (show 0+n≤n by omega); omega
 ·rw [jN hx] at o'; exact o'
theorem fI {id m : Nat} {A : List α} {cs : List AV} (o : AB H0 H ((id,.cells n (flat (A.map f)) 0)::l)) (hn : m=A.length) (h1 : cs.length=n) (h2 : ∀ c,c∈cs→c.one=true) (hm : (A.length+1)*n≤AK)
  (hk : ∀ Ca H',AB H0 H' ((Ca,.cells n (flat (A.map f)++cs) 0)::l)→K (.buf Ca (A.length+1)) H') : Ds n (some (.buf id m)) (some (.sl [.agg cs])) K H:=by
 subst hn
 have h0:=o.h0;simp only at h0
 have h3:=h.two;simp only [Ds,h0,DD,Gf]
 have hle : A.length+1≤AK:=Nat.le_trans (Nat.le_mul_of_pos_right _ (by omega)) hm;refine ⟨⟨trivial,HU A,hle,hm,fun e he=>?_⟩,fun Ca hn=>?_⟩
 ·simp only [List.mem_singleton] at he; subst he; exact ⟨h1,h2⟩
 ·have G7 : flat [AV.agg cs]=cs:=by simp [flat,AV.cells]
  rw [G7];exact hk Ca _ (o.mv hn _)
end
structure Pt where
 AH : Int
 to : Int
 Cp : List Int
 deriving Inhabited
@[go_sem] def Jz (p : Pt) : AV:=.agg [iI p.AH,iI p.to,iL p.Cp]
instance : QM 3 Jz:=⟨by omega,fun _=>rfl,fun _=>rfl,fun a c hc=>by
 simp only [Jz,AV.cells,List.mem_cons,List.not_mem_nil,or_false] at hc
 rcases hc with rfl | rfl | rfl <;> rfl⟩
@[go_sem] theorem mj (l : List Pt) (k : IntKind) (i : Int) {d : Option Nat} {F : Env→AA→Prop} {σ : Env} {H : AA} :
  pE d F σ H (Hl 3 (some (mL Jz l)) (some (.int k i)))=((0≤i∧i.toNat<l.length)∧DP d F σ (.ptr [iI (ix l i).AH,iI (ix l i).to,iL (ix l i).Cp]) H):=PC (f:=Jz) l k i
@[go_sem] theorem qu (l : List Pt) : FF (some (mL Jz l))=some (True,.int .i64 l.length):=by simp [mL,FF]
end Go.AW
namespace Go.Proofs.Shf
open Go.AW Go.Proofs Go.Shf
theorem Rv (B : Nat) (p q : Pt) : JC Tryz.prog B 319 [Jz p,Jz q] (.bool (dec (p.AH<q.AH∨p.AH=q.AH∧(p.to<q.to∨p.to=q.to∧cmp p.Cp q.Cp<0)))):=by
 intro H0;refine yk.go fun hf=>?_;refine tt ?_;apply bk <;> intro h1
 ·refine tt ?_
  have AU : p.AH≠q.AH:=by simpa using h1
  refine A6 ?_ (.refl _)
  congr 1; rw [BO]
  exact Bc ⟨fun h=>.inl h,fun h=>h.elim id fun h=>absurd h.1 AU⟩
 ·have AU : p.AH=q.AH:=by simpa using h1
  refine tt ?_;apply bk <;> intro h2
  ·refine tt ?_
   have Ah : p.to≠q.to:=by simpa using h2
   refine A6 ?_ (.refl _)
   congr 1; rw [BO]
   exact Bc ⟨fun h=>.inr ⟨AU,.inl h⟩,fun h=>h.elim (fun h=>by omega) fun h=>h.2.elim id fun h=>absurd h.1 Ah⟩
  ·have Ah : p.to=q.to:=by simpa using h2
   refine tt ?_;refine (KS ..).go fun _=>tt ?_;refine A6 ?_ (.refl _)
   congr 1
   exact Bc ⟨fun h=>.inr ⟨AU,.inr ⟨Ah,h⟩⟩,fun h=>h.elim (fun h=>by omega) fun h=>h.2.elim (fun h=>by omega) fun h=>h.2⟩
end Go.Proofs.Shf
namespace Go.Shf
open Go.AW
structure Gr (n : Nat) (F T : List Int) : Prop where
 n3 : n≤3
 l3 : F.length≤3
 tl : T.length=F.length
 up : ∀ e,e<F.length→0≤F.getD e default∧F.getD e default<T.getD e default∧T.getD e default<n
def Yc (v : Int) : Nat:=if v=0 then 13 else if v=1 then 4 else 1
def aK (v : Int) : Nat:=if v=0 then 4 else if v=1 then 1 else 0
theorem kX (v : Int) : 1≤Yc v:=by unfold Yc; split <;> (try split) <;> omega
theorem wA (v : Int) : 1+3*aK v≤Yc v:=by unfold Yc aK; split <;> (try split) <;> omega
theorem oR {v t : Int} (h0 : 0≤v) (h1 : v<t) (h2 : t<3) : Yc t≤aK v:=by
 unfold Yc aK
 by_cases e0 : v=0
 ·rw [if_pos e0]; split <;> (try split) <;> omega
 ·by_cases e1 : v=1
  ·rw [if_neg e0,if_pos e1,if_neg (by omega),if_neg (by omega)]; omega
  ·omega
def GL (P : List Pt) : Nat:=(P.map fun p=>Yc p.to).sum
theorem OZ (P Q : List Pt) : GL (P++Q)=GL P+GL Q:=by simp [GL]
theorem PF : ∀ (P : List Pt),P.length≤GL P
 | []=>by simp [GL]
 | p::P=>by
  have:=PF P
  have:=kX p.to;simp only [GL,List.map_cons,List.sum_cons,List.length_cons] at *;omega
def _root_.Go.AW.Pt.Ok (n : Nat) (p : Pt) : Prop:=(0≤p.AH∧p.AH<n)∧0≤p.to∧p.to<n
def PtQ (n : Nat) (r : AV) : Prop:=∃ P : List Pt,r=mL Jz P∧P.length≤18∧∀ p,p∈P→p.Ok n∧p.Cp.length≤18
def JI (n : Nat) (P : List Pt) : Prop:=∀ p,p∈P→p.Ok n∧p.Cp.length≤P.length
theorem JI.snoc {n : Nat} {P : List Pt} (h : JI n P) {p : Pt} (hp : p.Ok n) (hl : p.Cp.length≤P.length+1) : JI n (P++[p]):=fun q hq=>by
 rw [List.length_append,List.length_singleton]
 rcases List.mem_append.mp hq with h1 | h1
 ·exact ⟨(h q h1).1,by have:=(h q h1).2; omega⟩
 ·rw [List.mem_singleton] at h1; subst h1; exact ⟨hp,hl⟩
theorem JI.set {n : Nat} {P : List Pt} (h : JI n P) {x y : Nat} (hy : y<P.length) : JI n (P.set x (P.getD y default)):=fun q hq=>by
 rw [List.length_set]
 rcases List.mem_or_eq_of_mem_set hq with h1 | h1
 ·exact h q h1
 ·subst h1; exact h _ (AE.mpr ⟨y,hy,rfl⟩)
theorem JI.zk {n : Nat} {P Q : List Pt} (h : JI n P) (hq : JI n Q) (hl : P.length=Q.length) {x y : Nat} (hy : y<P.length) : JI n (Q.set x (P.getD y default)):=fun q hm=>by
 rw [List.length_set]
 rcases List.mem_or_eq_of_mem_set hm with h1 | h1
 ·exact hq q h1
 ·subst h1; rw [← hl]; exact h _ (AE.mpr ⟨y,hy,rfl⟩)
theorem Ye (P : List Pt) (a b : Int) (E : List Int) : flat (P.map Jz)++[iI a,iI b,iL E]=flat ((P++[(⟨a,b,E⟩ : Pt)]).map Jz):=by
 rw [List.map_append,Ky]; rfl
end Go.Shf
namespace Go.Proofs.Shf
open Go.AW Go.Proofs Go.Shf
theorem Zf (B n : Nat) (F T : List Int) (g : Gr n F T) : LH B 302 [iI n,iL F,iL T] (PtQ n):=by
 intro H0;refine w7.go fun _=>?_
 obtain ⟨gn,gl,gt,gu⟩:=g;refine tt ?_;refine Af (.nil _) fun FM H o=>tt ?_
 refine AD [0,1,2] (G:=Nat × List Pt) (fun k g=>[(7,some (.buf g.1 g.2.length)),(8,some (.int .i64 (k : Int)))])
  (fun k g H=>g.2.length=k∧JI n g.2∧GL g.2≤(if k=0 then 0 else if k=1 then 13 else if k=2 then 17 else 18)∧AB H0 H [(g.1,AF.cells 3 (flat (g.2.map Jz)) 0)]) n (FM,[]) ⟨rfl,fun p hp=>by simp at hp,by simp [GL],o⟩ rfl ?_
 clear o
 rintro k ⟨FM,P⟩ H hk ⟨hP,FJ,hw,o⟩;dsimp only at hP FJ hw o;refine tt ?_;refine ⟨fun h1=>At.mk ?_,fun h1=>At.mk ?_⟩
 ·have AU:=A7 h1
  have w:=ws k;refine tt ?_;refine L0 (f:=Jz) (n:=3) ⟨(k : Int),(k : Int),[]⟩ o rfl rfl (by simp only [AK]; omega) fun FM H o=>?_;refine tw w ?_;refine A5 (FM,P++[⟨(k : Int),(k : Int),[]⟩]) AU ⟨by simp [hP], ?_, ?_,o⟩ rfl
  ·exact FJ.snoc ⟨⟨by show (0 : Int)≤(k : Int); omega,by show (k : Int)<n; omega⟩,by show (0 : Int)≤(k : Int); omega,by show (k : Int)<n; omega⟩ (Nat.zero_le _)
  ·show GL (P++[⟨(k : Int),(k : Int),[]⟩])≤_
   rw [OZ]
   have e : GL [(⟨(k : Int),(k : Int),[]⟩ : Pt)]=Yc k:=by simp [GL]
   rw [e]
   have : k=0∨k=1∨k=2:=by omega
   rcases this with rfl | rfl | rfl
   ·simp [Yc] at hw ⊢; omega
   ·simp [Yc] at hw ⊢; omega
   ·simp [Yc] at hw ⊢; omega
 ·have AU:=A9 h1
  obtain rfl : k=n:=by omega
  have ib : GL P≤18:=by
   refine Nat.le_trans hw ?_
   split <;> (try split) <;> (try split) <;> omega
  clear hw h1 AU hk;refine tt ?_
  refine AD [1,2] (G:=Nat × List Pt) (fun k g=>[(7,some (.buf g.1 g.2.length)),(9,some (.int .i64 (k : Int)))])
   (fun j g H=>JI k g.2∧j≤g.2.length∧GL (g.2.drop j)+j≤18∧AB H0 H [(g.1,AF.cells 3 (flat (g.2.map Jz)) 0)]) 18 (FM,P) ⟨FJ,by simp,by simpa using ib,o⟩ rfl ?_
  clear o FJ ib hP
  rintro j ⟨FM,P⟩ H hj ⟨FJ,VD,hw,o⟩;dsimp only at FJ VD hw o
  have hlen : P.length≤18:=by
   have:=PF (P.drop j);rw [List.length_drop] at this; omega
  refine tt ?_;refine ⟨fun h1=>At.mk ?_,fun h1=>At.mk ?_⟩
  case' refine_1 =>
   have AU:=A7 h1
   have Ah : decide ((P.length : Int)≤40)=true:=decide_eq_true (by omega);refine t2 h1 Ah ?_
   obtain ⟨pk,QY⟩ : ∃ pk,P.getD j default=pk:=⟨_,rfl⟩
   have hw1 : GL (P.drop (j+1))+(j+1)+F.length*aK pk.to≤18:=by
    have e1 : P.drop j=[pk]++P.drop (j+1):=by
     rw [List.drop_eq_getElem_cons (by omega),← QY]
     simp [gE,show j<P.length by omega]
    rw [e1,OZ] at hw
    have e2 : GL [pk]=Yc pk.to:=by simp [GL]
    have e3:=wA pk.to
    have e4 : F.length*aK pk.to≤3*aK pk.to:=Nat.mul_le_mul_right _ gl;omega
   have jd : j<P.length:=by omega
   refine AD [1,2,9] (G:=Nat × List Pt) (fun k g=>[(7,some (.buf g.1 g.2.length)),(10,some (.int .i64 (k : Int)))])
    (fun e g H=>JI k g.2∧j<g.2.length∧g.2.getD j default=pk∧GL (g.2.drop (j+1))+(j+1)+(F.length - e)*aK pk.to≤18∧AB H0 H [(g.1,AF.cells 3 (flat (g.2.map Jz)) 0)]) F.length (FM,P) ⟨FJ,jd,QY,hw1,o⟩ rfl ?_
   clear o FJ VD hw hlen QY hw1 jd h1 Ah AU
   rintro e ⟨FM,P⟩ H he ⟨FJ,VD,QY,hw,o⟩;dsimp only at FJ VD QY hw o
   have hlen : P.length≤18:=by
    have:=PF (P.drop (j+1));rw [List.length_drop] at this; omega
   refine tt ?_;refine ⟨fun h2=>At.mk ?_,fun h2=>At.mk ?_⟩
   ·have Ah:=A7 h2
    have gue:=gu e Ah
    have we:=ws e
    have Cq : (F.length - e)*aK pk.to=(F.length - (e+1))*aK pk.to+aK pk.to:=by
     rw [show F.length - e=(F.length - (e+1))+1 by omega,Nat.succ_mul]
    refine tt ?_;refine ⟨by omega,by omega,Wn (f:=Jz) (n:=3) o VD (by omega) ?_⟩;rw [QY];refine tt ?_;refine ⟨fun h3=>At.mk ?_,fun h3=>At.mk ?_⟩
    ·have BB:=A7 h3;refine tt ?_
     have sP:=FJ pk (by rw [← QY]; exact AE.mpr ⟨j,VD,rfl⟩)
     have hpo2:=sP.2;refine ⟨VD,⟨_,_,o.h0⟩,Wn (f:=Jz) (n:=3) o VD (by omega) ?_⟩;rw [QY];refine tt ?_;refine ⟨by omega,VD,⟨_,_,o.h0⟩,Wn (f:=Jz) (n:=3) o VD (by omega) ?_⟩;rw [QY];refine tt ?_;refine IX.go' (FA B pk.Cp) o fun X1 p1 H ⟨Qc,e1,e2⟩ o hs=>⟨hs, ?_⟩;subst e1 e2;refine tt ?_;refine BJ _ o rfl rfl (by simp only [AK]; omega) fun Qc H E _ hE o=>tt ?_;refine fI (f:=Jz) (n:=3) o.swap rfl rfl (by first | (simp only [go_sem]; done) | ((try simp only [go_sem]); simp [AV.one,EJ])) (by simp only [AK]; omega) fun FM H o=>tt ?_;refine B7 (f:=iI) ((flat (P.map Jz)).length+2) o (by rw [List.getElem?_append_right (by omega)]; simp) rfl fun H o=>AX ?_;rw [List.set_append_right _ _ (by omega),show (flat (P.map Jz)).length+2 - (flat (P.map Jz)).length=2 by omega] at o;have o:=s1 o
     have o : AB H0 H [(FM,AF.cells 3 (flat ((P++[(⟨pk.AH,T.getD e default,E⟩ : Pt)]).map Jz)) 0)]:=by rw [← Ye]; exact o
     refine tw we ?_
     have D3:=oR gue.1 gue.2.1 (by omega);rw [BB] at D3;refine A5 (FM,P++[(⟨pk.AH,T.getD e default,E⟩ : Pt)]) Ah ⟨?_,by simp; omega, ?_, ?_,o⟩ (by simp)
     ·exact FJ.snoc ⟨sP.1.1,by show 0≤T.getD e default; omega,by show T.getD e default<k; omega⟩ (by show E.length≤_; omega)
     ·show (P++[_]).getD j default=pk
      rw [gE,List.getElem?_append_left VD,← gE]; exact QY
     ·show GL ((P++[_]).drop (j+1))+(j+1)+(F.length - (e+1))*aK pk.to≤18
      rw [List.drop_append_of_le_length (by omega),OZ]
      have e2 : GL [(⟨pk.AH,T.getD e default,E⟩ : Pt)]=Yc (T.getD e default):=by simp [GL]
      rw [e2]; omega
    ·refine tt ?_;refine AX ?_;refine tw we ?_;exact A5 (FM,P) Ah ⟨FJ,VD,QY,by show GL (P.drop (j+1))+(j+1)+_≤18; omega,o⟩ rfl
   ·have wj:=ws j;refine tw wj ?_;exact A5 (FM,P) (by omega) ⟨FJ,VD,by show GL (P.drop (j+1))+(j+1)≤18; omega,o⟩ rfl
  case' refine_2 =>
   refine tw h1 ?_;clear hw hj VD h1
   generalize hL : P.length=L at *;refine AD [7] (G:=List Pt) (fun x _=>[(11,some (.int .i64 ((1+x : Nat) : Int)))]) (fun x P H=>P.length=L∧JI k P∧AB H0 H [(FM,AF.cells 3 (flat (P.map Jz)) 0)]) L P ⟨hL,FJ,o⟩ rfl ?_;clear o FJ hL
   rintro x P H hx ⟨hL,FJ,o⟩
   replace hL : P.length=L:=hL
   replace FJ : JI k P:=FJ
   replace o : AB H0 H [(FM,AF.cells 3 (flat (P.map Jz)) 0)]:=o;refine tt ?_;refine ⟨fun h1=>At.mk ?_,fun h1=>At.mk ?_⟩
   ·have AU:=A7 h1
    have wx:=PK (k:=1+x) (by omega);refine tt ?_;refine De [7,11] (G:=Nat × List Pt) (fun g=>[(12,some (.int .i64 (g.1 : Int)))]) (fun m g H=>m=g.1∧g.1<L∧g.2.length=L∧JI k g.2∧AB H0 H [(FM,AF.cells 3 (flat (g.2.map Jz)) 0)]) (1+x) (1+x,P) ⟨rfl,by simp only; omega,hL,FJ,o⟩ rfl ?_;clear o FJ hL
    rintro m ⟨y,P⟩ H ⟨hm,hy,hL,FJ,o⟩;dsimp only at hm;subst hm;dsimp only at hy hL FJ o;refine tt ?_;refine ⟨fun h2=>At.mk ?_,fun h2=>At.mk ?_⟩
    case' refine_1 =>
     have Ah:=A7 h2
     have wp : IntKind.i64.wrap ((m : Int) - 1)=((m - 1 : Nat) : Int):=K2 (by omega) (by omega);refine tw h2 ?_;refine ⟨by omega,Rb (f:=Jz) (n:=3) o (by omega) ?_⟩;refine tw wp ?_;refine ⟨by omega,Rb (f:=Jz) (n:=3) o (by omega) ?_⟩;refine tt ?_;refine ⟨_,Rv B _ _,tt ?_⟩;refine ⟨fun h3=>At.mk ?_,fun h3=>At.mk ?_⟩
     case' refine_1 =>
      refine tt ?_;refine ⟨by omega,Rb (f:=Jz) (n:=3) o (by omega) ?_⟩;refine tt ?_;refine Am o fun Jv H o=>tt ?_;refine sw o fun H o=>?_;refine tw wp ?_;refine ⟨by omega,Rb (f:=Jz) (n:=3) o.tl (by omega) ?_⟩;refine tt ?_;refine ⟨by omega, ?_⟩;refine bO (f:=Jz) (n:=3) o.swap (by omega) (P.getD (m - 1) default) rfl fun H o=>?_;refine tw wp ?_
      have BZ:=o.tl.rc 3 0 (by simp);refine AZ o.tl (by simp) (tt ?_);refine ⟨by omega, ?_⟩;refine bO (f:=Jz) (n:=3) o (by simp; omega) (P.getD m default) rfl fun H o=>?_;refine tw wp ?_
      have JO : JI k (P.set m (P.getD (m - 1) default)):=FJ.set (by omega);exact CY (m - 1) (m - 1,(P.set m (P.getD (m - 1) default)).set (m - 1) (P.getD m default)) (by omega) ⟨rfl,by show m - 1<L; omega,by simp [hL],FJ.zk JO (by simp) (by omega),o.swap.tl⟩ rfl
    all_goals
     try (try simp only [go_sem,↓reduceIte,reduceEqDiff,reduceAdd,reduceMul,reduceLeDiff,reduceLT,h2])
     refine tw wx ?_;exact A5 P (by omega) ⟨hL,FJ,o⟩ rfl
   ·refine tt ?_;refine RX (f:=Jz) (n:=3) o hL.symm fun H o=>tt ?_;exact Ce ⟨P,rfl,by omega,fun p hp=>⟨(FJ p hp).1,by have:=(FJ p hp).2; omega⟩⟩ o.sub
theorem JF (B n : Nat) (F T : List Int) (g : Gr n F T) : LH B 270 [iI n,iL F,iL T] (QC 18):=by
 intro H0;refine bt.go fun _=>?_
 have gn:=g.n3;refine tt ?_;refine Am (.nil _) fun F8 H o=>tt ?_;refine (Zf B n F T g).go fun r _ ⟨P,e,hP18,rX⟩=>?_;subst e;refine tt ?_;refine Af o fun a H o=>tt ?_;refine Af o fun b H o=>tt ?_;refine ⟨by simp only [AK]; omega, ?_⟩;refine DL iI 0 rfl o fun i H o=>tt ?_;refine Af o fun d H o=>tt ?_;refine Am o fun Ec H o=>tt ?_;refine sw o fun H o=>tt ?_
 refine AD [6,7,8] (G:=(Nat × List Int) × (Nat × List Int) × List Int) (fun k _=>[(9,some (.int .i64 (k : Int)))])
  (fun k g H=>g.1.2.length=k∧g.2.1.2.length=k∧g.2.2.length=n∧AB H0 H (Dv Ec F8 n g.1.1 g.1.2 g.2.1.1 g.2.1.2 i g.2.2 d [])) P.length ((a,[]),(b,[]),List.replicate n 0) ⟨rfl,rfl,by simp,by unfold Dv; simp only [List.length_replicate]; exact o.pm⟩ rfl ?_
 clear o
 rintro k ⟨⟨a,A⟩,⟨b,C⟩,I⟩ H hk ⟨hA,hC,hI,o⟩;dsimp only at hA hC hI o;refine tt ?_;refine ⟨fun h1=>At.mk ?_,fun h1=>At.mk ?_⟩
 ·have AU:=A7 h1
  have w:=ws k
  have QY:=rX (P.getD k default) (AE.mpr ⟨k,AU,rfl⟩)
  have hpf:=QY.1.1;unfold Dv at o;refine tt ?_;refine AN o (by simp) (tt ?_);refine ⟨AU,BJ _ o.swap rfl rfl (by simp only [AK]; omega) fun a H A2 _ YN o=>?_⟩;refine tt ?_;refine sw o.swap fun H o=>tt ?_;refine AN o (by simp) (tt ?_);refine ⟨AU,BJ _ (o.pull [_,_]) rfl rfl (by simp only [AK]; omega) fun b H C2 _ hC2 o=>?_⟩;refine tt ?_;refine sw o.swap fun H o=>tt ?_;refine ⟨AU, ?_⟩
  have o : AB H0 H (Dv Ec F8 n a A2 b C2 i I d []):=by
   try unfold Dv
   exact o.pm
  refine ⟨fun h2=>At.mk ?_,fun h2=>At.mk ?_⟩
  ·unfold Dv at o;refine tt ?_;refine AN o (by simp) (tt ?_);refine ⟨AU,by omega, ?_⟩;refine C4 (k : Int) (o.pull [_,_,_]) rfl (by omega) fun H o=>?_;refine tw w ?_;refine A5 ((a,A2),(b,C2),I.set (P.getD k default).AH.toNat k) AU ⟨by show A2.length=_; omega,by show C2.length=_; omega,by simp [hI], ?_⟩ rfl
   try unfold Dv
   simp only [List.length_set];exact o.pm
  ·refine tw w ?_;exact A5 ((a,A2),(b,C2),I) AU ⟨by show A2.length=_; omega,by show C2.length=_; omega,hI,o⟩ rfl
 ·have AU:=A9 h1
  obtain rfl : k=P.length:=by omega
  clear h1 AU hk;unfold Dv at o;refine tt ?_;refine B7 1 o rfl rfl fun H o=>?_;have o:=s1 o;refine B7 2 o rfl rfl fun H o=>?_;have o:=s1 o;refine B7 3 o rfl rfl fun H o=>AX ?_;have o:=s1 o
  have o : AB H0 H [(Ec,AF.cells 5 [iI n,iL A,iL C,iL I,.buf d 0] 0),(d,AF.cells 1 [] 0),(F8,AF.cells 5 [iI 0,.A1,.A1,.A1,.A1] 0)]:=o;refine tt ?_;refine AZ o (by simp) (tt ?_);refine BG.GR (es:=[.agg (B0.cells ⟨n,A,C,I,[]⟩)]) (.bool _) rfl (fun j hj=>?_) (Nr B ⟨n,A,C,I,[]⟩).run ?_
  ·have : j=0:=by simp at hj; omega
   subst this;refine Tr.arg (.agg _ _ rfl fun q hq=>?_)
   match q,hq with
   | 0,_=>exact .val _
   | 1,_=>exact .val _
   | 2,_=>exact .val _
   | 3,_=>exact .val _
   | 4,_=>exact .buf d 0 [] [] o.tl.h0 rfl (by simp) (by simp)
  rw [Ay (show (n : Int)≤8∧A.length≤40 from ⟨by omega,by omega⟩)];refine tt ?_
  refine AD [6,7,8] (G:=Nat × List (List Int)) (fun k _=>[(10,some (.int .i64 (k : Int)))])
   (fun k g H=>g.2.length=k∧(∀ r,r∈g.2→r.length=P.length)∧AB H0 H [(Ec,AF.cells 5 [iI n,iL A,iL C,iL I,.buf g.1 g.2.length] 0),(g.1,AF.cells 1 (g.2.map iL) 0),(F8,AF.cells 5 [iI 0,.A1,.A1,.A1,.A1] 0)]) P.length (d,[]) ⟨rfl,by simp,o⟩ rfl ?_
  clear o
  rintro x ⟨d,D⟩ H hx ⟨hD,VH,o⟩;dsimp only at hD VH o;refine tt ?_;refine ⟨fun h1=>At.mk ?_,fun h1=>At.mk ?_⟩
  ·have AU:=A7 h1
   have th:=rX (P.getD x default) (AE.mpr ⟨x,AU,rfl⟩);refine tt ?_;refine Af o fun BW H o=>tt ?_
   refine AD [6,7,8,10] (G:=Nat × List Int) (fun y g=>[(11,some (.buf g.1 g.2.length)),(12,some (.int .i64 (y : Int)))])
    (fun y g H=>g.2.length=y∧AB H0 H [(g.1,AF.cells 1 (g.2.map iI) 0),(Ec,AF.cells 5 [iI n,iL A,iL C,iL I,.buf d D.length] 0),(d,AF.cells 1 (D.map iL) 0),(F8,AF.cells 5 [iI 0,.A1,.A1,.A1,.A1] 0)]) P.length (BW,[]) ⟨rfl,o⟩ rfl ?_
   clear o
   rintro y ⟨BW,row⟩ H hy ⟨hr,o⟩;dsimp only at hr o;refine tt ?_;refine ⟨fun h2=>At.mk ?_,fun h2=>At.mk ?_⟩
   ·have Ah:=A7 h2
    have w:=ws y
    have hpy:=rX (P.getD y default) (AE.mpr ⟨y,Ah,rfl⟩);refine tt ?_;refine ⟨AU,Ah, ?_⟩;refine ⟨fun h3=>At.mk ?_,fun h3=>At.mk ?_⟩
    ·refine tt ?_;refine ⟨AU,Ah, ?_⟩;refine IX.go' (FA B (P.getD x default).Cp) o fun X1 p1 H ⟨Qc,e1,e2⟩ o hs=>⟨hs, ?_⟩;subst e1 e2;refine tt ?_;refine Eg (f:=iI) (r:=(P.getD y default).Cp) o rfl (by simp only [AK]; omega) fun Qc H o=>tt ?_;refine Ak o rfl fun H o=>tt ?_
     generalize (P.getD x default).Cp++(P.getD y default).Cp=both
     refine AD [6,7,8,10,11,12,14] (G:=Int) (fun z h=>[(13,some (.int .i64 h)),(15,some (.int .i64 (z : Int)))])
      (fun z h H=>AB H0 H [(BW,AF.cells 1 (row.map iI) 0),(Ec,AF.cells 5 [iI n,iL A,iL C,iL I,.buf d D.length] 0),(d,AF.cells 1 (D.map iL) 0),(F8,AF.cells 5 [iI 0,.A1,.A1,.A1,.A1] 0)]) P.length (-1) o rfl ?_
     clear o
     rintro z h H hz o;refine tt ?_;refine ⟨fun h4=>At.mk ?_,fun h4=>At.mk ?_⟩
     ·have DC:=A7 h4
      have wz:=ws z;refine tt ?_;refine ⟨DC,AU, ?_⟩;refine ⟨fun h5=>At.mk ?_,fun h5=>At.mk ?_⟩
      case' refine_1 =>
       refine tw h5 ?_;refine ⟨DC,_,(EN ..).run,tt ?_⟩;refine ⟨fun h6=>At.mk ?_,fun h6=>At.mk ?_⟩
       case' refine_1 =>
        refine tt ?_
      all_goals
       try (try simp only [go_sem,↓reduceIte,reduceEqDiff,reduceAdd,reduceMul,reduceLeDiff,reduceLT,h5])
       try (try simp only [go_sem,↓reduceIte,reduceEqDiff,reduceAdd,reduceMul,reduceLeDiff,reduceLT,wz])
       exact A5 _ DC o rfl
     ·refine tt ?_;refine BJ _ o rfl rfl (by simp only [AK]; omega) fun BW H row2 _ Dr o=>?_;refine tw w ?_;exact A5 (BW,row2) Ah ⟨by show row2.length=_; omega,o⟩ rfl
    ·refine tt ?_;refine BJ _ o rfl rfl (by simp only [AK]; omega) fun BW H row2 _ Dr o=>?_;refine tw w ?_;exact A5 (BW,row2) Ah ⟨by show row2.length=_; omega,o⟩ rfl
   ·have Ah:=A9 h2
    have w:=ws x;refine tt ?_;refine Ak o rfl fun H o=>tt ?_;refine AN o (by simp) (tt ?_);refine BJ row o.swap rfl rfl (by simp only [AK]; omega) fun d H D2 eD hD2 o=>tt ?_;refine sw o.swap fun H o=>?_;refine tw w ?_;refine A5 (d,D2) AU ⟨by show D2.length=_; omega,fun r BZ=>?_,o⟩ rfl;dsimp only at BZ;rw [eD] at BZ
    rcases List.mem_append.mp BZ with h | h
    ·exact VH r h
    ·rw [List.mem_singleton] at h; subst h; omega
  ·have AU:=A9 h1;refine tt ?_;refine B7 4 o rfl rfl fun H o=>AX ?_;have o:=s1 o;refine tt ?_;refine AZ o (by simp) (tt ?_);refine sw o.swap fun H o=>tt ?_
   have BZ:=o.rc 5 0 (by simp);simp only [List.drop_zero] at BZ;rw [BZ];refine tt ?_
   have nE : D.length=A.length:=by omega
   refine Ce ⟨⟨n,A,C,I,D⟩,rfl,⟨by show (0 : Int)≤(n : Int); omega,by show (n : Int)≤((18 : Nat) : Int); omega⟩,by show (I.length : Int)=n; omega,by show A.length≤18; omega,by show C.length=A.length; omega,nE,fun q hq=>?_⟩ o.sub;rw [VH _ (AE.mpr ⟨q,by rw [nE]; exact hq,rfl⟩)]; exact hA.symm
theorem sq1 : rk 4 [[1]]:=⟨by decide,by decide⟩
theorem Hu (B : Nat) : Rd B 206 [] (QC 100):=by
 intro id s H0 H hs o;refine yH.go fun _=>?_;refine tt ?_;refine Am o fun ES H o=>tt ?_;refine (AY B 12).go hs o.swap fun r s H _ ⟨k,e,hk0,Sv,_⟩ hs o=>?_;subst e
 have Sv:=Sv (by omega);refine tt ?_;apply bk <;> intro q0
 ·refine tt ?_;refine (AY B 5).go hs o fun r s H _ ⟨v,e,K9,CJ,_⟩ hs o=>?_;subst e
  have CJ:=CJ (by omega);refine tt ?_
  obtain ⟨v,rfl⟩:=Int.eq_ofNat_of_zero_le K9;refine (It B v (by omega)).go hs o fun r s H _ ⟨T,e,hT⟩ hs o=>?_;subst e;refine tt ?_;refine (DQ B T hT).go fun r _ ⟨c,e,hc⟩=>?_;subst e;refine tt ?_;refine sw o.swap fun H o=>tt ?_
  have BZ:=o.rc 5 0 (by simp);simp only [List.drop_zero] at BZ;rw [BZ];refine tt ?_;exact Az ⟨c,rfl,hc.mono (by omega)⟩ hs o.swap
 refine tt ?_;apply bk <;> intro q1
 ·refine tt ?_;refine (DQ B [[1,1],[0,1]] ⟨by decide,by decide⟩).go fun r _ ⟨c,e,hc⟩=>?_;subst e;refine tt ?_;refine sw o.swap fun H o=>tt ?_
  have BZ:=o.rc 5 0 (by simp);simp only [List.drop_zero] at BZ;rw [BZ];refine tt ?_;exact Az ⟨c,rfl,hc.mono (by omega)⟩ hs o.swap
 refine tt ?_;apply bk <;> intro q2
 ·refine tt ?_;refine (DQ B [[1,1,1],[0,1,0],[0,0,1]] ⟨by decide,by decide⟩).go fun r _ ⟨c,e,hc⟩=>?_;subst e;refine tt ?_;refine sw o.swap fun H o=>tt ?_
  have BZ:=o.rc 5 0 (by simp);simp only [List.drop_zero] at BZ;rw [BZ];refine tt ?_;exact Az ⟨c,rfl,hc.mono (by omega)⟩ hs o.swap
 refine tt ?_;apply bk <;> intro q3
 ·refine tt ?_;refine (JF B 2 [0,0] [1,1] ⟨by decide,by decide,by decide,by decide⟩).go fun r _ ⟨c,e,hc⟩=>?_;subst e;refine tt ?_;refine sw o.swap fun H o=>tt ?_
  have BZ:=o.rc 5 0 (by simp);simp only [List.drop_zero] at BZ;rw [BZ];refine tt ?_;exact Az ⟨c,rfl,hc.mono (by omega)⟩ hs o.swap
 refine tt ?_;apply bk <;> intro q4
 ·refine tt ?_;refine (Hv B).go hs o fun r s H _ ⟨T,e,hT⟩ hs o=>?_;subst e;refine tt ?_;refine (IA B T hT).go fun r _ ⟨c,e,hc⟩=>?_;subst e;refine tt ?_;refine sw o.swap fun H o=>tt ?_
  have BZ:=o.rc 5 0 (by simp);simp only [List.drop_zero] at BZ;rw [BZ];refine tt ?_;exact Az ⟨c,rfl,hc.mono (by omega)⟩ hs o.swap
 refine tt ?_;apply bk <;> intro q5
 ·refine tt ?_;refine (AY B 3).go hs o fun r s H _ ⟨v,e,K9,CJ,_⟩ hs o=>?_;subst e
  have CJ:=CJ (by omega)
  obtain ⟨v,rfl⟩:=Int.eq_ofNat_of_zero_le K9
  have wv : IntKind.i64.wrap (1+(v : Int))=((1+v : Nat) : Int):=by rw [wrap_i64 (by omega) (by omega)]; omega
  generalize hm : 1+v=m at *;refine tw wv ?_;refine Af o fun BW H o=>tt ?_;refine AD [2,3] (G:=Nat × List (List Int)) (fun i g=>[(4,some (.buf g.1 g.2.length)),(5,some (.int .i64 (i : Int)))]) (fun i g H=>g.2.length=i∧(∀ r,r∈g.2→r.length=m)∧AB H0 H [(g.1,AF.cells 1 (g.2.map iL) 0),(id,s.obj),(ES,AF.cells 5 [.int .i64 0,.A1,.A1,.A1,.A1] 0)]) m (BW,[]) ⟨rfl,by simp,o⟩ rfl ?_;clear o
  rintro i ⟨BW,T⟩ H hi ⟨hT,rZ,o⟩;dsimp only at hT rZ o;refine tt ?_;apply bk <;> intro h1
  ·have AU:=A7 h1
   have wi:=ws i;refine tt ?_;refine Af o fun vL H o=>tt ?_;refine AD [2,3,4,5] (G:=Nat × List Int) (fun j g=>[(6,some (.buf g.1 g.2.length)),(7,some (.int .i64 (j : Int)))]) (fun j g H=>g.2.length=j∧AB H0 H [(g.1,AF.cells 1 (g.2.map iI) 0),(BW,AF.cells 1 (T.map iL) 0),(id,s.obj),(ES,AF.cells 5 [.int .i64 0,.A1,.A1,.A1,.A1] 0)]) m (vL,[]) ⟨rfl,o⟩ rfl ?_;clear o
   rintro j ⟨vL,row⟩ H hj ⟨hr,o⟩;dsimp only at hr o;refine tt ?_;apply bk <;> intro h2
   ·have Ah:=A7 h2
    have wj:=ws j;refine tt ?_;refine BJ _ o rfl rfl (by simp only [AK]; omega) fun vL H row2 _ Dr o=>?_;refine tw wj ?_;exact A5 (vL,row2) Ah ⟨by show row2.length=_; omega,o⟩ rfl
   ·have Ah:=A9 h2;refine tt ?_;refine Ak o rfl fun H o=>tt ?_;refine BJ row o rfl rfl (by simp only [AK]; omega) fun BW H T2 eT hT2 o=>?_;refine tw wi ?_;refine A5 (BW,T2) AU ⟨by show T2.length=_; omega,fun r BZ=>?_,o⟩ rfl;dsimp only at BZ;rw [eT] at BZ
    rcases List.mem_append.mp BZ with h | h
    ·exact rZ r h
    ·rw [List.mem_singleton] at h; subst h; omega
  have AU:=A9 h1;refine tt ?_;refine Ak o rfl fun H o=>tt ?_;refine (DQ B T ⟨by omega,fun x hx=>by rw [rZ _ (AE.mpr ⟨x,hx,rfl⟩)]; omega⟩).go fun r _ ⟨c,e,hc⟩=>?_;subst e;refine tt ?_;refine sw o.swap fun H o=>tt ?_
  have BZ:=o.rc 5 0 (by simp);simp only [List.drop_zero] at BZ;rw [BZ];refine tt ?_;exact Az ⟨c,rfl,hc.mono (by omega)⟩ hs o.swap
 refine tt ?_;apply bk <;> intro q6
 ·refine tt ?_;refine (JF B 3 [0,1,0] [1,2,2] ⟨by decide,by decide,by decide,by decide⟩).go fun r _ ⟨c,e,hc⟩=>?_;subst e;refine tt ?_;refine sw o.swap fun H o=>tt ?_
  have BZ:=o.rc 5 0 (by simp);simp only [List.drop_zero] at BZ;rw [BZ];refine tt ?_;exact Az ⟨c,rfl,hc.mono (by omega)⟩ hs o.swap
 refine tt ?_;apply bk <;> intro q7
 ·refine tt ?_;refine (Tl B).go fun r _ ⟨c,e,hc⟩=>?_;subst e;refine tt ?_;refine sw o.swap fun H o=>tt ?_
  have BZ:=o.rc 5 0 (by simp);simp only [List.drop_zero] at BZ;rw [BZ];refine tt ?_;exact Az ⟨c,rfl,hc.mono (by omega)⟩ hs o.swap
 refine tt ?_;apply bk <;> intro q8
 ·refine tt ?_;refine (Hv B).go hs o fun r s H _ ⟨T,e,hT⟩ hs o=>?_;subst e;refine tt ?_;refine (IA B T hT).go fun r _ ⟨c,e,hc⟩=>?_;subst e;refine tt ?_;refine (DQ B [[1]] sq1).go fun r _ ⟨d,e,hd⟩=>?_;subst e;refine tt ?_;refine (PY B 4 16 (by omega) (by omega) c d hc hd).go fun r _ ⟨c,e,hc⟩=>?_;subst e;refine tt ?_;refine (bX B (4+16+4*16) (by omega) c hc).go fun r _ ⟨c,e,hc⟩=>?_;subst e;refine tt ?_;refine sw o.swap fun H o=>tt ?_
  have BZ:=o.rc 5 0 (by simp);simp only [List.drop_zero] at BZ;rw [BZ];refine tt ?_;exact Az ⟨c,rfl,hc.mono (by omega)⟩ hs o.swap
 refine tt ?_;apply bk <;> intro q9
 ·refine tt ?_;refine (Hv B).go hs o fun r s H _ ⟨T,e,hT⟩ hs o=>?_;subst e;refine tt ?_;refine (IA B T hT).go fun r _ ⟨c,e,hc⟩=>?_;subst e;refine tt ?_;refine (DQ B [[1]] sq1).go fun r _ ⟨d,e,hd⟩=>?_;subst e;refine tt ?_;refine (PY B 4 16 (by omega) (by omega) c d hc hd).go fun r _ ⟨c,e,hc⟩=>?_;subst e;refine tt ?_;refine sw o.swap fun H o=>tt ?_
  have BZ:=o.rc 5 0 (by simp);simp only [List.drop_zero] at BZ;rw [BZ];refine tt ?_;exact Az ⟨c,rfl,hc.mono (by omega)⟩ hs o.swap
 refine tt ?_;apply bk <;> intro q10
 ·refine tt ?_;refine (AY B 2).go hs o fun r s H _ ⟨v,e,K9,CJ,_⟩ hs o=>?_;subst e
  have CJ:=CJ (by omega)
  obtain ⟨v,rfl⟩:=Int.eq_ofNat_of_zero_le K9
  have wv : IntKind.i64.wrap (2+(v : Int))=((2+v : Nat) : Int):=by rw [wrap_i64 (by omega) (by omega)]; omega
  refine tw wv ?_;refine (It B (2+v) (by omega)).go hs o fun r s H _ ⟨T,e,hT⟩ hs o=>?_;subst e;refine tt ?_;refine (DQ B T hT).go fun r _ ⟨c,e,hc⟩=>?_;subst e;refine tt ?_;refine sw o.swap fun H o=>tt ?_
  have BZ:=o.rc 5 0 (by simp);simp only [List.drop_zero] at BZ;rw [BZ];refine tt ?_;exact Az ⟨c,rfl,hc.mono (by omega)⟩ hs o.swap
 refine tt ?_;refine (AY B 2).go hs o fun r s H _ ⟨v,e,K9,CJ,_⟩ hs o=>?_;subst e
 have CJ:=CJ (by omega)
 obtain ⟨v,rfl⟩:=Int.eq_ofNat_of_zero_le K9
 have wv : IntKind.i64.wrap (2+(v : Int))=((2+v : Nat) : Int):=by rw [wrap_i64 (by omega) (by omega)]; omega
 obtain ⟨n,hn⟩ : ∃ n,2+v=n:=⟨_,rfl⟩;rw [hn] at wv
 have hn23 : n=2∨n=3:=by omega
 clear K9 CJ hn;refine tw wv ?_;refine Af o fun f H o=>tt ?_;refine Af o fun t H o=>tt ?_;refine (AY B 4).go hs (o.pull [_,_]) fun r s H _ ⟨q,e,vU,RJ,_⟩ hs o=>?_;subst e
 have RJ:=RJ (by omega)
 obtain ⟨q,rfl⟩:=Int.eq_ofNat_of_zero_le vU;refine tt ?_
 refine De [0,2,8] (G:=Src × (Nat × List Int) × (Nat × List Int) × Nat) (fun g=>[(9,some (.buf g.2.1.1 g.2.1.2.length)),(10,some (.buf g.2.2.1.1 g.2.2.1.2.length)),(11,some (.int .i64 (g.2.2.2 : Int)))])
  (fun m g H=>m=g.2.2.2∧g.1.Ok∧g.2.1.2.length+g.2.2.2≤3∧g.2.2.1.2.length=g.2.1.2.length∧(∀ e,e<g.2.1.2.length→0≤g.2.1.2.getD e default∧g.2.1.2.getD e default<g.2.2.1.2.getD e default∧g.2.2.1.2.getD e default<n) ∧
   AB H0 H [(id,g.1.obj),(g.2.2.1.1,AF.cells 1 (g.2.2.1.2.map iI) 0),(g.2.1.1,AF.cells 1 (g.2.1.2.map iI) 0),(ES,AF.cells 5 [.int .i64 0,.A1,.A1,.A1,.A1] 0)]) q (s,(f,[]),(t,[]),q) ⟨rfl,hs,by simp only [List.length_nil]; omega,rfl,fun e he=>by simp at he,o⟩ rfl ?_
 clear o hs vU RJ
 rintro m ⟨s,⟨f,F⟩,⟨t,T⟩,q⟩ H ⟨hm,hs,hF,hT,hE,o⟩;dsimp only at hm;subst hm;dsimp only at hs hF hT hE o
 have wn : IntKind.i64.wrap ((n : Int) - 1)=((n - 1 : Nat) : Int):=K2 (by omega) (by omega);refine tt ?_;apply bk <;> intro h1
 ·have AU:=A7 h1
  have wm : IntKind.i64.wrap ((m : Int) - 1)=((m - 1 : Nat) : Int):=K2 (by omega) (by omega);refine tw wn ?_;refine (AY B ((n - 1 : Nat) : Int)).go hs o fun r s H _ ⟨x,e,hx0,gK,_⟩ hs o=>?_;subst e
  have gK:=gK (by omega)
  obtain ⟨x,rfl⟩:=Int.eq_ofNat_of_zero_le hx0;refine tt ?_;refine BJ _ (o.pull [_,_]) rfl rfl (by simp only [AK]; omega) fun f H F2 eF hF2 o=>?_
  have w1 : IntKind.i64.wrap ((x : Int)+1)=((x+1 : Nat) : Int):=PK (by omega)
  have w2 : IntKind.i64.wrap (((n - 1 : Nat) : Int) - (x : Int))=((n - 1 - x : Nat) : Int):=by rw [wrap_i64 (by omega) (by omega)]; omega
  try simp only [go_sem,↓reduceIte,reduceEqDiff,reduceAdd,reduceMul,reduceLeDiff,reduceLT,wn,w1,w2]
  refine (AY B ((n - 1 - x : Nat) : Int)).go hs o.swap fun r s H _ ⟨y,e,hy0,ia,_⟩ hs o=>?_;subst e
  have ia:=ia (by omega)
  obtain ⟨y,rfl⟩:=Int.eq_ofNat_of_zero_le hy0
  have w3 : IntKind.i64.wrap (((x+1 : Nat) : Int)+(y : Int))=((x+1+y : Nat) : Int):=by rw [wrap_i64 (by omega) (by omega)]; omega
  refine tw w3 ?_;refine BJ _ (o.pull [_,_]) rfl rfl (by simp only [AK]; omega) fun t H T2 eT hT2 o=>?_;refine tw wm ?_;refine CY (m - 1) (s,(f,F2),(t,T2),m - 1) (by omega) ⟨rfl,hs,by show F2.length+(m - 1)≤3; omega,by show T2.length=F2.length; omega,fun e he=>?_, ?_⟩ rfl
  ·show 0≤F2.getD e default∧F2.getD e default<T2.getD e default∧T2.getD e default<n
   dsimp only at he
   by_cases h2 : e<F.length
   ·have e1 : F2.getD e default=F.getD e default:=by rw [eF,gE,List.getElem?_append_left h2,← gE]
    have e2 : T2.getD e default=T.getD e default:=by rw [eT,gE,List.getElem?_append_left (by omega),← gE]
    rw [e1,e2]; exact hE e h2
   ·have e0 : e=F.length:=by omega
    have e1 : F2.getD e default=(x : Int):=by rw [eF,e0]; simp
    have e2 : T2.getD e default=((x+1+y : Nat) : Int):=by rw [eT,e0,← hT]; simp
    rw [e1,e2]; omega
  ·exact o.pm
 ·have AU:=A9 h1;refine tt ?_;refine Ak o.swap rfl fun H o=>tt ?_;refine Ak o.swap rfl fun H o=>tt ?_;refine (JF B n F T ⟨by omega,by omega,hT,hE⟩).go fun r _ ⟨c,e,hc⟩=>?_;subst e;refine tt ?_;refine sw o.swap fun H o=>tt ?_
  have BZ:=o.rc 5 0 (by simp);simp only [List.drop_zero] at BZ;rw [BZ];refine tt ?_;exact Az ⟨c,rfl,hc.mono (by omega)⟩ hs o.swap
theorem I8 (B : Nat) (mo ma : Int) : Rd B 125 [iI mo,iI ma] (QC 20000):=by
 intro id s H0 H hs o;refine yZ.go fun _=>?_;refine tt ?_;refine Am o fun F8 H o=>tt ?_;refine AD [0,1,2,6] (G:=Src) (fun k _=>[(7,some (.int .i64 (k : Int)))]) (fun k s H=>s.Ok∧AB H0 H [(id,s.obj),(F8,AF.cells 5 [.int .i64 0,.A1,.A1,.A1,.A1] 0)]) 12 s ⟨hs,o.swap⟩ rfl ?_;clear o hs
 rintro k s H hk ⟨hs,o⟩
 replace hs : s.Ok:=hs
 replace o : AB H0 H [(id,s.obj),(F8,AF.cells 5 [.int .i64 0,.A1,.A1,.A1,.A1] 0)]:=o;refine tt ?_;refine ⟨fun h1=>At.mk ?_,fun h1=>At.mk ?_⟩
 ·have AU:=A7 h1
  have wk1:=ws k;refine tt ?_;refine (Hu B).go hs o fun r s H _ ⟨c0,e,vG⟩ hs o=>?_;subst e;refine tt ?_;refine Am o fun Ec H o=>tt ?_;refine sw o fun H o=>tt ?_;refine (AY B 5).go hs o.swap fun r s H _ ⟨v,e,_⟩ hs o=>?_;subst e;refine tt ?_;refine ⟨fun h2=>At.mk ?_,fun h2=>At.mk ?_⟩
  case' refine_1 =>
   refine tt ?_;refine ⟨⟨_,_,o.tl.h0⟩,AZ o.tl (by simp) ?_⟩;refine tt ?_;refine (Hu B).FU hs o fun r s H _ ⟨c2,e,gk⟩ hs o hz=>⟨hz, ?_⟩;subst e;refine tt ?_;refine IX.go' (Oe B 100 100 (by omega) c0 c2 vG gk) o fun X1 p1 H ⟨q,hq,a,b,i,d,Xs,ob,e1,hX,e2⟩ o _=>?_;subst e1 e2;refine tt ?_
   have o : AB H0 H ((Ec,AF.cells 5 [iI c0.AR,iL c0.AH,iL c0.to,iL c0.Aw,BD c0.comp] 0)::(d,AF.cells 1 Xs 0)::(a,AF.cells 1 (q.AH.map iI) 0)::(b,AF.cells 1 (q.to.map iI) 0)::(i,AF.cells 1 (q.Aw.map iI) 0)::(id,s.obj)::(F8,AF.cells 5 [.int .i64 0,.A1,.A1,.A1,.A1] 0)::ob):=o.pm;refine sw o fun H o=>tt ?_
   have JN:=hX.len
   have od : AB H0 H ((d,AF.cells 1 Xs 0)::(ob++[(Ec,AF.cells 5 [iI q.AR,.buf a q.AH.length,.buf b q.to.length,.buf i q.Aw.length,.buf d Xs.length] 0),(a,AF.cells 1 (q.AH.map iI) 0),(b,AF.cells 1 (q.to.map iI) 0),(i,AF.cells 1 (q.Aw.map iI) 0),(id,s.obj),(F8,AF.cells 5 [.int .i64 0,.A1,.A1,.A1,.A1] 0)])):=o.pm;refine Cy hX [] H od fun H o=>?_;simp only [List.nil_append] at o
   have o : AB H0 H [(Ec,AF.cells 5 [iI q.AR,.buf a q.AH.length,.buf b q.to.length,.buf i q.Aw.length,.buf d Xs.length] 0),(d,AF.cells 1 (q.comp.map iL) 0),(a,AF.cells 1 (q.AH.map iI) 0),(b,AF.cells 1 (q.to.map iI) 0),(i,AF.cells 1 (q.Aw.map iI) 0),(id,s.obj),(F8,AF.cells 5 [.int .i64 0,.A1,.A1,.A1,.A1] 0)]:=o.pm;refine B7 4 o rfl JN fun H o=>?_;have o:=s1 o;refine B7 1 o rfl rfl fun H o=>?_;have o:=s1 o;refine B7 2 o rfl rfl fun H o=>?_;have o:=s1 o;refine B7 3 o rfl rfl fun H o=>AX ?_;have o:=s1 o
   have o:=o.swap
   obtain ⟨c,rfl⟩ : ∃ c,c=q:=⟨_,rfl⟩
   have hc : c.Sh 200:=hq
  case' refine_2 =>
   refine tt ?_;refine AX ?_
   obtain ⟨c,rfl⟩ : ∃ c,c=c0:=⟨_,rfl⟩
   have hc : c.Sh 200:=vG.mono (show 100≤200 by omega)
  all_goals
   try clear h2
   refine tt ?_;refine (AY B 8).go hs o fun r s H _ ⟨v2,e,_⟩ hs o=>?_;subst e;refine tt ?_;refine ⟨fun h3=>At.mk ?_,fun h3=>At.mk ?_⟩
   case' refine_1 =>
    refine tt ?_;refine ⟨⟨_,_,o.tl.h0⟩,AZ o.tl (by simp) ?_⟩;refine tt ?_;refine (Hu B).FU hs o fun r s H _ ⟨c2,e,gk⟩ hs o hz=>⟨hz, ?_⟩;subst e;refine tt ?_;refine (QO B 200 100 (by omega) (by omega) (by omega) c c2 hc gk).go fun r _ ⟨q,e,hq⟩=>?_;subst e;refine tt ?_;refine sw o.swap fun H o=>?_
    have o:=o.swap
    have hc:=hq
    obtain ⟨c,rfl⟩ : ∃ c,c=q:=⟨_,rfl⟩
    replace hc : c.Sh 20000:=hc
   case' refine_2 =>
    have hc:=hc.mono (show 200≤20000 by omega)
   all_goals
    try clear h3
    refine tt ?_;refine AN o.tl (by simp) (tt ?_);refine ⟨fun g1=>At.mk ?_,fun g1=>At.mk ?_⟩
    case' refine_1 =>
     refine tw g1 ?_;refine AN o.tl (by simp) (tt ?_);refine ⟨fun g2=>At.mk ?_,fun g2=>At.mk ?_⟩
     case' refine_1 =>
      refine tw g2 ?_;refine AZ o.tl (by simp) (tt ?_);refine (Nr B c).go fun _=>tt ?_;refine ⟨fun g3=>At.mk ?_,fun g3=>At.mk ?_⟩
      case refine_1 =>
       refine tt ?_;refine AZ o.tl (by simp) (tt ?_);refine sw (o.pull [_,_]) fun H o=>tt ?_
       have BZ:=o.rc 5 0 (by simp);simp only [List.drop_zero] at BZ;rw [BZ];refine tt ?_;exact Az ⟨c,rfl,hc⟩ hs o.swap
    all_goals
     try (try simp only [go_sem,↓reduceIte,reduceEqDiff,reduceAdd,reduceMul,reduceLeDiff,reduceLT,g1])
     try (try simp only [go_sem,↓reduceIte,reduceEqDiff,reduceAdd,reduceMul,reduceLeDiff,reduceLT,g2])
     try (try simp only [go_sem,↓reduceIte,reduceEqDiff,reduceAdd,reduceMul,reduceLeDiff,reduceLT,wk1])
     exact A5 s (by omega) ⟨hs,o.swap.tl⟩ rfl
 ·refine tt ?_;refine (DQ B [[1]] sq1).go fun r _ ⟨c,e,hc⟩=>?_;subst e;refine tt ?_;refine sw o.swap fun H o=>tt ?_
  have BZ:=o.rc 5 0 (by simp);simp only [List.drop_zero] at BZ;rw [BZ];refine tt ?_;exact Az ⟨c,rfl,hc.mono (by omega)⟩ hs o.swap
end Go.Proofs.Shf
namespace Go.AW
open Go.Shf
@[go_sem] theorem og {P : Program} {B : Nat} {d : Option Nat} {F : Env→AA→Prop} {σ : Env} {H : AA} (n : Nat) (x : X) (lo hi : Option X) : FZ P B d (.nG n x lo hi) F σ H=pE d F σ H (Ki n (val σ x) (lo.map (val σ)) (hi.map (val σ))):=rfl
theorem Rq {F : Env→AA→Prop} {σ : Env} {H0 H : AA} {l : Ob} {id fr : Nat} {x : Int} {a b i d : Nat} {A C I : List Int} {D : List (List Int)}
  (o : AB H0 H ((id,.cells 5 [iI x,.buf a A.length,.buf b C.length,.buf i I.length,.buf d D.length] fr)::(a,.cells 1 (A.map iI) 0)::(b,.cells 1 (C.map iI) 0)::(i,.cells 1 (I.map iI) 0)::(d,.cells 1 (D.map iL) 0)::l))
  (hk : ∀ H',AB H0 H' ((id,.cells 5 (B0.cells ⟨x,A,C,I,D⟩) fr)::l)→Gb F σ H') : Gb F σ H:=by
 refine B7 1 o rfl rfl fun H o=>?_;have o:=s1 o;refine B7 2 o rfl rfl fun H o=>?_;have o:=s1 o;refine B7 3 o rfl rfl fun H o=>?_;have o:=s1 o;refine B7 4 o rfl rfl fun H o=>?_;have o:=s1 o;exact hk H o
theorem Fb {F : Env→AA→Prop} {σ : Env} {H0 H : AA} {l : Ob} {id fr : Nat} {x : Int} {a b i d : Nat} {A C I : List Int} {Xs : List AV} {As : List (List Int)} {ob : Ob} (h : Ez iI Xs As ob)
  (o : AB H0 H ((id,.cells 5 [iI x,.buf a A.length,.buf b C.length,.buf i I.length,.buf d Xs.length] fr)::(a,.cells 1 (A.map iI) 0)::(b,.cells 1 (C.map iI) 0)::(i,.cells 1 (I.map iI) 0)::(d,.cells 1 Xs 0)::(ob++l)))
  (hk : ∀ H',AB H0 H' ((id,.cells 5 (B0.cells ⟨x,A,C,I,As⟩) fr)::l)→Gb F σ H') : Gb F σ H:=by
 have hl:=h.len
 have od : AB H0 H ((d,.cells 1 Xs 0)::(ob++((id,.cells 5 [iI x,.buf a A.length,.buf b C.length,.buf i I.length,.buf d Xs.length] fr)::(a,.cells 1 (A.map iI) 0)::(b,.cells 1 (C.map iI) 0)::(i,.cells 1 (I.map iI) 0)::l))):=o.pm;refine Cy h [] H od fun H o=>?_;simp only [List.nil_append] at o;rw [hl] at o
 have o : AB H0 H ((id,.cells 5 [iI x,.buf a A.length,.buf b C.length,.buf i I.length,.buf d As.length] fr)::(a,.cells 1 (A.map iI) 0)::(b,.cells 1 (C.map iI) 0)::(i,.cells 1 (I.map iI) 0)::(d,.cells 1 (As.map iL) 0)::l):=o.pm;exact Rq o hk
theorem Ez.row {α : Type} [Inhabited α] {f : α→AV} [One f] {Xs : List AV} {As : List (List α)} {ob : Ob} (h : Ez f Xs As ob) {i : Nat} (hi : i<Xs.length) (hp : 0<(As.getD i []).length) :
  ∃ BW,Xs.getD i nv=.buf BW (As.getD i []).length∧∀ {H0 H : AA} {l : Ob} {id : Nat} {K : Ap} (o : AB H0 H ((id,.cells 1 Xs 0)::(ob++l))) (y : Nat) (hy : y<(As.getD i []).length) (v : α) {c : AV} (hc : c=f v)
   (hk : ∀ H' ob',Ez f Xs (As.set i ((As.getD i []).set y v)) ob'→AB H0 H' ((id,.cells 1 Xs 0)::(ob'++l))→K nv H'),Oa (H.get BW) BW y 1 [c] K H:=by
 obtain ⟨p,r,h1,h2,h3⟩:=h.split i hi
 rcases h2 with ⟨_,_,e⟩ | ⟨BW,rfl,e⟩
 ·rw [e] at hp; simp at hp
 ·refine ⟨BW,e,fun {H0 H l id K} o y hy v {c} hc hk=>?_⟩
  have o1 : AB H0 H ((BW,.cells 1 ((As.getD i []).map f) 0)::(id,.cells 1 Xs 0)::(r++l)):=by
   refine o.perm (((List.Perm.append_right l h1).cons _).trans ?_);simp only [List.cons_append,List.nil_append];exact .swap _ _ _
  refine C4 v o1 hc hy fun H' o2=>?_
  obtain ⟨o',k1,k2⟩:=h3 (.buf BW ((As.getD i []).set y v).length) ((As.getD i []).set y v) [(BW,.cells 1 (((As.getD i []).set y v).map f) 0)] (.inr ⟨BW,rfl,rfl⟩)
  have e2 : Xs.set i (.buf BW ((As.getD i []).set y v).length)=Xs:=by
   rw [List.length_set,← e];apply List.ext_getElem?
   intro j
   by_cases hj : i=j
   ·subst hj; rw [List.getElem?_set_self hi]; simp [gE,hi]
   ·rw [List.getElem?_set_ne hj]
  rw [e2] at k1;refine hk H' o' k1 (o2.perm ((List.Perm.swap _ _ _).trans (.cons _ ?_)))
  have:=List.Perm.append_right l k2.symm
  simpa using this
end Go.AW
namespace Go.Proofs.Shf
open Go.AW Go.Proofs Go.Shf
def kQ (r : AV) : Prop:=∃ c : B0,r=.agg c.cells
theorem n8 (x : Int) (A C I : List Int) (D : List (List Int)) : kQ (.agg [iI x,iL A,iL C,iL I,BD D]):=⟨⟨x,A,C,I,D⟩,rfl⟩
@[go_sem] def U4 (Ch : Nat) (x : Int) (a : Nat) (A : List Int) (b : Nat) (C : List Int) (i : Nat) (I : List Int) (d : Nat) (Xs : List AV) (l : Ob) : Ob :=
 (Ch,.cells 5 [iI x,.buf a A.length,.buf b C.length,.buf i I.length,.buf d Xs.length] 0)::(a,.cells 1 (A.map iI) 0)::(b,.cells 1 (C.map iI) 0)::(i,.cells 1 (I.map iI) 0)::(d,.cells 1 Xs 0)::l
theorem PG (B N : Nat) (hN : N≤65536) (c : B0) (hc : c.Sh N) : Rd B 126 [.agg c.cells] kQ:=by
 intro id s H0 H hs o;refine cq.go fun _=>?_
 obtain ⟨cob,cil,cml,ctl,ccl,crow⟩:=hc;refine tt ?_;refine Am o fun Ch H o=>tt ?_;refine Am o fun BN H o=>tt ?_;refine AZ o.tl (by simp) (tt ?_);refine IX.go' (Nh B c) o fun X1 p1 H ⟨a,b,i,d,Xs,ob,e1,hX,e2⟩ o _=>?_;subst e1 e2
 have JN:=hX.len;refine tt ?_
 have o : AB H0 H ((Ch,AF.cells 5 [iI c.AR,iL c.AH,iL c.to,iL c.Aw,BD c.comp] 0)::(a,.cells 1 (c.AH.map iI) 0)::(b,.cells 1 (c.to.map iI) 0)::(i,.cells 1 (c.Aw.map iI) 0)::(d,.cells 1 Xs 0)::(ob++[(id,s.obj),(BN,AF.cells 5 [.int .i64 0,.A1,.A1,.A1,.A1] 0)])):=o.pm;refine sw o fun H o=>tt ?_;refine AN o (by simp) (tt ?_)
 have F3 : ∀ {H : AA} {s : Src} {Xs : List AV} {ob : Ob} {a b i : Nat} {A C I : List Int} {x : Int},AB H0 H (U4 Ch x a A b C i I d Xs (ob++[(id,s.obj),(BN,AF.cells 5 [.int .i64 0,.A1,.A1,.A1,.A1] 0)])) →
   AB H0 H ((id,s.obj)::U4 Ch x a A b C i I d Xs (ob++[(BN,AF.cells 5 [.int .i64 0,.A1,.A1,.A1,.A1] 0)])):=by
  intro H s Xs ob a b i A C I x o;unfold U4 at o ⊢;exact o.pm
 have o:=F3 (by unfold U4; exact o);unfold U4 at o;refine (AY B c.AH.length).go hs o fun r s H _ ⟨f,e,hf0,T5,Zt⟩ hs o=>?_;subst e
 obtain ⟨f,rfl⟩:=Int.eq_ofNat_of_zero_le hf0;refine tt ?_;refine (AY B 8).go hs o fun r s H _ ⟨v,e,_⟩ hs o=>?_;subst e;refine tt ?_;apply bk <;> intro q0
 focus
  refine tt ?_;refine AN o.tl (by simp) (tt ?_);refine (KW B [IntKind.i64.wrap (c.AR+1),-1,9] (by simp)).go hs o fun r s H _ ⟨v,e,_⟩ hs o=>?_;subst e;refine tt ?_;refine sw o.swap fun H o=>tt ?_
  have o : AB H0 H ((Ch,.cells 5 [iI (v),.buf a (c.AH).length,.buf b (c.to).length,.buf i (c.Aw).length,.buf d (Xs).length] 0)::(a,.cells 1 ((c.AH).map iI) 0)::(b,.cells 1 ((c.to).map iI) 0)::(i,.cells 1 ((c.Aw).map iI) 0)::(d,.cells 1 (Xs) 0)::(ob++[(id,s.obj),(BN,AF.cells 5 [.int .i64 0,.A1,.A1,.A1,.A1] 0)])):=o.pm;refine Fb hX o fun H o=>?_
 rotate_left 1;refine tt ?_;apply bk <;> intro q1
 focus
  refine tt ?_;refine AN o.tl (by simp) (tt ?_);refine BJ _ (o.pull [_,_]) rfl rfl (by simp only [AK]; omega) fun a H A2 _ YN o=>tt ?_;refine sw (o.pull [_,_]) fun H o=>tt ?_
  have o : AB H0 H ((Ch,.cells 5 [iI (c.AR),.buf a (A2).length,.buf b (c.to).length,.buf i (c.Aw).length,.buf d (Xs).length] 0)::(a,.cells 1 ((A2).map iI) 0)::(b,.cells 1 ((c.to).map iI) 0)::(i,.cells 1 ((c.Aw).map iI) 0)::(d,.cells 1 (Xs) 0)::(ob++[(id,s.obj),(BN,AF.cells 5 [.int .i64 0,.A1,.A1,.A1,.A1] 0)])):=o.pm;refine Fb hX o fun H o=>?_
 rotate_left 1;refine tt ?_;apply bk <;> intro q2
 focus
  refine tt ?_;refine AN o.tl (by simp) (tt ?_);apply bk <;> intro g1
  focus
   have CO:=A7 g1;refine tt ?_;refine ⟨⟨_,_,o.tl.h0⟩,AN o.tl (by simp) ?_⟩;refine tt ?_;refine (AY B _).FU hs o fun r s H _ ⟨v,e,_⟩ hs o hz=>⟨hz, ?_⟩;subst e;refine tt ?_;refine ⟨by omega, ?_⟩;refine C4 v (o.pull [_,_,_,_]) rfl (by omega) fun H o=>tt ?_
   have o : AB H0 H ((Ch,.cells 5 [iI (c.AR),.buf a (c.AH).length,.buf b (c.to).length,.buf i (c.Aw.set (Int.toNat 0) v).length,.buf d (Xs).length] 0)::(a,.cells 1 ((c.AH).map iI) 0)::(b,.cells 1 ((c.to).map iI) 0)::(i,.cells 1 ((c.Aw.set (Int.toNat 0) v).map iI) 0)::(d,.cells 1 (Xs) 0)::(ob++[(id,s.obj),(BN,AF.cells 5 [.int .i64 0,.A1,.A1,.A1,.A1] 0)])):=o.pm;refine Fb hX o fun H o=>?_
  rotate_left 1;refine tt ?_
  have o : AB H0 H ((Ch,.cells 5 [iI (c.AR),.buf a (c.AH).length,.buf b (c.to).length,.buf i (c.Aw).length,.buf d (Xs).length] 0)::(a,.cells 1 ((c.AH).map iI) 0)::(b,.cells 1 ((c.to).map iI) 0)::(i,.cells 1 ((c.Aw).map iI) 0)::(d,.cells 1 (Xs) 0)::(ob++[(id,s.obj),(BN,AF.cells 5 [.int .i64 0,.A1,.A1,.A1,.A1] 0)])):=o.pm;refine Fb hX o fun H o=>?_
 rotate_left 2;refine tt ?_;apply bk <;> intro q3
 focus
  refine tw q3 ?_;apply bk <;> intro g1
  focus
   have CO:=A7 g1
   have T5:=T5 (by omega)
   have B4:=crow f (by omega);refine tt ?_;refine ⟨⟨_,_,o.tl.h0⟩,AN o.tl (by simp) ?_⟩;refine tt ?_;refine ⟨by omega, ?_⟩
   have od:=o.pull [_,_,_,_,_];simp only [List.cons_append,List.nil_append] at od;refine ⟨⟨_,_,od.h0⟩,AN od (by omega) ?_⟩
   obtain ⟨BW,jK,HJ⟩:=hX.row (i:=f) (by omega) (by have : (c.comp.getD f []).length=c.AH.length:=B4; omega);rw [jK];refine tt ?_;refine (AY B _).FU hs o fun r s H _ ⟨v,e,K9,CJ,_⟩ hs o hz=>⟨hz, ?_⟩;subst e
   have CJ:=CJ (by omega);refine tt ?_;refine (AY B _).FU hs o fun r s H _ ⟨v2,e,_⟩ hs o hz=>⟨hz, ?_⟩;subst e
   have Lu : (c.comp.getD f []).length=c.AH.length:=B4;refine tt ?_;refine ⟨by omega, ?_⟩
   have od : AB H0 H ((d,AF.cells 1 Xs 0)::(ob++((id,s.obj)::(Ch,.cells 5 [iI c.AR,.buf a c.AH.length,.buf b c.to.length,.buf i c.Aw.length,.buf d Xs.length] 0)::(a,.cells 1 (c.AH.map iI) 0)::(b,.cells 1 (c.to.map iI) 0)::(i,.cells 1 (c.Aw.map iI) 0)::[(BN,AF.cells 5 [.int .i64 0,.A1,.A1,.A1,.A1] 0)]))):=o.pm;refine HJ od v.toNat (by omega) _ rfl fun H ob2 Wx o=>tt ?_
   have o : AB H0 H ((Ch,.cells 5 [iI (c.AR),.buf a (c.AH).length,.buf b (c.to).length,.buf i (c.Aw).length,.buf d (Xs).length] 0)::(a,.cells 1 ((c.AH).map iI) 0)::(b,.cells 1 ((c.to).map iI) 0)::(i,.cells 1 ((c.Aw).map iI) 0)::(d,.cells 1 (Xs) 0)::(ob2++[(id,s.obj),(BN,AF.cells 5 [.int .i64 0,.A1,.A1,.A1,.A1] 0)])):=o.pm;refine Fb Wx o fun H o=>?_
  rotate_left 1;refine tt ?_
  have o : AB H0 H ((Ch,.cells 5 [iI (c.AR),.buf a (c.AH).length,.buf b (c.to).length,.buf i (c.Aw).length,.buf d (Xs).length] 0)::(a,.cells 1 ((c.AH).map iI) 0)::(b,.cells 1 ((c.to).map iI) 0)::(i,.cells 1 ((c.Aw).map iI) 0)::(d,.cells 1 (Xs) 0)::(ob++[(id,s.obj),(BN,AF.cells 5 [.int .i64 0,.A1,.A1,.A1,.A1] 0)])):=o.pm;refine Fb hX o fun H o=>?_
 rotate_left 2;refine tt ?_;apply bk <;> intro q4
 focus
  refine tw q4 ?_;apply bk <;> intro g1
  focus
   have CO:=A7 g1
   have T5:=T5 (by omega)
   have B4:=crow f (by omega);refine tt ?_;refine ⟨⟨_,_,o.tl.h0⟩,AN o.tl (by simp) ?_⟩;refine tt ?_;refine ⟨by omega, ?_⟩
   have od:=o.pull [_,_,_,_,_];simp only [List.cons_append,List.nil_append] at od;refine ⟨⟨_,_,od.h0⟩,AN od (by omega) ?_⟩
   obtain ⟨BW,jK,HJ⟩:=hX.row (i:=f) (by omega) (by have : (c.comp.getD f []).length=c.AH.length:=B4; omega);rw [jK];refine tt ?_;refine (AY B _).FU hs o fun r s H _ ⟨v,e,K9,CJ,_⟩ hs o hz=>⟨hz, ?_⟩;subst e
   have CJ:=CJ (by omega);refine tt ?_;refine (AY B _).FU hs o fun r s H _ ⟨v2,e,_⟩ hs o hz=>⟨hz, ?_⟩;subst e
   have Lu : (c.comp.getD f []).length=c.AH.length:=B4;refine tt ?_;refine ⟨by omega, ?_⟩
   have od : AB H0 H ((d,AF.cells 1 Xs 0)::(ob++((id,s.obj)::(Ch,.cells 5 [iI c.AR,.buf a c.AH.length,.buf b c.to.length,.buf i c.Aw.length,.buf d Xs.length] 0)::(a,.cells 1 (c.AH.map iI) 0)::(b,.cells 1 (c.to.map iI) 0)::(i,.cells 1 (c.Aw.map iI) 0)::[(BN,AF.cells 5 [.int .i64 0,.A1,.A1,.A1,.A1] 0)]))):=o.pm;refine HJ od v.toNat (by omega) _ rfl fun H ob2 Wx o=>tt ?_
   have o : AB H0 H ((Ch,.cells 5 [iI (c.AR),.buf a (c.AH).length,.buf b (c.to).length,.buf i (c.Aw).length,.buf d (Xs).length] 0)::(a,.cells 1 ((c.AH).map iI) 0)::(b,.cells 1 ((c.to).map iI) 0)::(i,.cells 1 ((c.Aw).map iI) 0)::(d,.cells 1 (Xs) 0)::(ob2++[(id,s.obj),(BN,AF.cells 5 [.int .i64 0,.A1,.A1,.A1,.A1] 0)])):=o.pm;refine Fb Wx o fun H o=>?_
  rotate_left 1;refine tt ?_
  have o : AB H0 H ((Ch,.cells 5 [iI (c.AR),.buf a (c.AH).length,.buf b (c.to).length,.buf i (c.Aw).length,.buf d (Xs).length] 0)::(a,.cells 1 ((c.AH).map iI) 0)::(b,.cells 1 ((c.to).map iI) 0)::(i,.cells 1 ((c.Aw).map iI) 0)::(d,.cells 1 (Xs) 0)::(ob++[(id,s.obj),(BN,AF.cells 5 [.int .i64 0,.A1,.A1,.A1,.A1] 0)])):=o.pm;refine Fb hX o fun H o=>?_
 rotate_left 2;refine tt ?_;apply bk <;> intro q5
 focus
  refine tw q5 ?_;apply bk <;> intro g1
  focus
   have CO:=A7 g1
   have T5:=T5 (by omega)
   have B4:=crow f (by omega);refine tt ?_;refine ⟨⟨_,_,o.tl.h0⟩,AN o.tl (by simp) ?_⟩;refine tt ?_;refine ⟨by omega, ?_⟩
   have od:=o.pull [_,_,_,_,_];simp only [List.cons_append,List.nil_append] at od;refine ⟨⟨_,_,od.h0⟩,AN od (by omega) ?_⟩
   obtain ⟨BW,jK,HJ⟩:=hX.row (i:=f) (by omega) (by have : (c.comp.getD f []).length=c.AH.length:=B4; omega);rw [jK];refine tt ?_;refine (AY B _).FU hs o fun r s H _ ⟨v,e,K9,CJ,_⟩ hs o hz=>⟨hz, ?_⟩;subst e
   have CJ:=CJ (by omega);refine tt ?_;refine (AY B _).FU hs o fun r s H _ ⟨v2,e,_⟩ hs o hz=>⟨hz, ?_⟩;subst e
   have Lu : (c.comp.getD f []).length=c.AH.length:=B4;refine tt ?_;refine ⟨by omega, ?_⟩
   have od : AB H0 H ((d,AF.cells 1 Xs 0)::(ob++((id,s.obj)::(Ch,.cells 5 [iI c.AR,.buf a c.AH.length,.buf b c.to.length,.buf i c.Aw.length,.buf d Xs.length] 0)::(a,.cells 1 (c.AH.map iI) 0)::(b,.cells 1 (c.to.map iI) 0)::(i,.cells 1 (c.Aw.map iI) 0)::[(BN,AF.cells 5 [.int .i64 0,.A1,.A1,.A1,.A1] 0)]))):=o.pm;refine HJ od v.toNat (by omega) _ rfl fun H ob2 Wx o=>tt ?_
   have o : AB H0 H ((Ch,.cells 5 [iI (c.AR),.buf a (c.AH).length,.buf b (c.to).length,.buf i (c.Aw).length,.buf d (Xs).length] 0)::(a,.cells 1 ((c.AH).map iI) 0)::(b,.cells 1 ((c.to).map iI) 0)::(i,.cells 1 ((c.Aw).map iI) 0)::(d,.cells 1 (Xs) 0)::(ob2++[(id,s.obj),(BN,AF.cells 5 [.int .i64 0,.A1,.A1,.A1,.A1] 0)])):=o.pm;refine Fb Wx o fun H o=>?_
  rotate_left 1;refine tt ?_
  have o : AB H0 H ((Ch,.cells 5 [iI (c.AR),.buf a (c.AH).length,.buf b (c.to).length,.buf i (c.Aw).length,.buf d (Xs).length] 0)::(a,.cells 1 ((c.AH).map iI) 0)::(b,.cells 1 ((c.to).map iI) 0)::(i,.cells 1 ((c.Aw).map iI) 0)::(d,.cells 1 (Xs) 0)::(ob++[(id,s.obj),(BN,AF.cells 5 [.int .i64 0,.A1,.A1,.A1,.A1] 0)])):=o.pm;refine Fb hX o fun H o=>?_
 rotate_left 2;refine tw q5 ?_;apply bk <;> intro q6
 focus
  refine tt ?_;apply bk <;> intro g1
  focus
   have CO:=A7 g1
   have T5:=T5 (by omega);refine tt ?_;refine ⟨⟨_,_,o.tl.h0⟩,AN o.tl (by simp) ?_⟩;refine tt ?_;refine ⟨⟨_,_,o.tl.h0⟩,AN o.tl (by simp) ?_⟩;refine tt ?_;refine (AY B _).FU hs o fun r s H _ ⟨v,e,_⟩ hs o hz=>⟨hz, ?_⟩;subst e;refine tt ?_;refine ⟨by omega, ?_⟩;refine C4 v (o.pull [_,_,_]) rfl (by omega) fun H o=>tt ?_
   have o : AB H0 H ((Ch,.cells 5 [iI (c.AR),.buf a (c.AH).length,.buf b (c.to.set f v).length,.buf i (c.Aw).length,.buf d (Xs).length] 0)::(a,.cells 1 ((c.AH).map iI) 0)::(b,.cells 1 ((c.to.set f v).map iI) 0)::(i,.cells 1 ((c.Aw).map iI) 0)::(d,.cells 1 (Xs) 0)::(ob++[(id,s.obj),(BN,AF.cells 5 [.int .i64 0,.A1,.A1,.A1,.A1] 0)])):=o.pm;refine Fb hX o fun H o=>?_
  rotate_left 1;refine tt ?_
  have o : AB H0 H ((Ch,.cells 5 [iI (c.AR),.buf a (c.AH).length,.buf b (c.to).length,.buf i (c.Aw).length,.buf d (Xs).length] 0)::(a,.cells 1 ((c.AH).map iI) 0)::(b,.cells 1 ((c.to).map iI) 0)::(i,.cells 1 ((c.Aw).map iI) 0)::(d,.cells 1 (Xs) 0)::(ob++[(id,s.obj),(BN,AF.cells 5 [.int .i64 0,.A1,.A1,.A1,.A1] 0)])):=o.pm;refine Fb hX o fun H o=>?_
 rotate_left 2;refine tt ?_
 have od : AB H0 H ((d,AF.cells 1 Xs 0)::(ob++((id,s.obj)::(Ch,.cells 5 [iI c.AR,.buf a c.AH.length,.buf b c.to.length,.buf i c.Aw.length,.buf d Xs.length] 0)::(a,.cells 1 (c.AH.map iI) 0)::(b,.cells 1 (c.to.map iI) 0)::(i,.cells 1 (c.Aw.map iI) 0)::[(BN,AF.cells 5 [.int .i64 0,.A1,.A1,.A1,.A1] 0)]))):=o.pm;refine Cy hX [] H od fun H o=>AX ?_;simp only [List.nil_append] at o;refine tt ?_;apply bk <;> intro g1
 focus
  have CO:=A7 g1
  have T5:=T5 (by omega)
  have B4:=crow f (by omega);refine tt ?_;refine ⟨⟨_,_,o.tl.tl.h0⟩,AN o.tl.tl (by simp) ?_⟩;refine tt ?_;refine ⟨⟨_,_,o.tl.tl.h0⟩,AN o.tl.tl (by simp) ?_⟩;refine tt ?_;refine ⟨by omega,⟨_,_,o.h0⟩,BX (f:=iL) o (by omega) ?_⟩;refine tt ?_;refine ⟨⟨by omega,by omega⟩,by omega, ?_⟩;refine C4 (f:=iL) ((c.comp.getD f default).drop (Int.toNat 1)) o rfl (by omega) fun H o=>tt ?_
  have o : AB H0 H ((Ch,.cells 5 [iI c.AR,.buf a c.AH.length,.buf b c.to.length,.buf i c.Aw.length,.buf d (c.comp.set f ((c.comp.getD f default).drop (Int.toNat 1))).length] 0)::(a,.cells 1 (c.AH.map iI) 0)::(b,.cells 1 (c.to.map iI) 0)::(i,.cells 1 (c.Aw.map iI) 0)::(d,.cells 1 ((c.comp.set f ((c.comp.getD f default).drop (Int.toNat 1))).map iL) 0)::[(id,s.obj),(BN,AF.cells 5 [.int .i64 0,.A1,.A1,.A1,.A1] 0)]):=by
   rw [show Xs.length=c.comp.length from JN] at o;exact o.pm
  refine Rq o fun H o=>?_
 rotate_left 1;refine tt ?_
 have o : AB H0 H ((Ch,.cells 5 [iI c.AR,.buf a c.AH.length,.buf b c.to.length,.buf i c.Aw.length,.buf d (c.comp).length] 0)::(a,.cells 1 (c.AH.map iI) 0)::(b,.cells 1 (c.to.map iI) 0)::(i,.cells 1 (c.Aw.map iI) 0)::(d,.cells 1 ((c.comp).map iL) 0)::[(id,s.obj),(BN,AF.cells 5 [.int .i64 0,.A1,.A1,.A1,.A1] 0)]):=by
  have:=JN;rw [show Xs.length=c.comp.length from JN] at o;exact o.pm
 refine Rq o fun H o=>?_
 all_goals
  refine AX ?_;refine tt ?_;refine AZ o (by simp [B0.cells]) ?_;try simp only [go_sem,↓reduceIte,reduceEqDiff,reduceAdd,reduceMul,reduceLeDiff,reduceLT,B0.cells]
  refine sw (o.pull [_,_]) fun H o=>tt ?_
  have BZ:=o.rc 5 0 (by simp);simp only [List.drop_zero] at BZ;rw [BZ];refine tt ?_;exact Az (n8 _ _ _ _ _) hs (o.pull [_,_])
theorem Pa (B : Nat) (mo ma : Int) : Rd B 55 [iI mo,iI ma] kQ:=by
 intro id s H0 H hs o;refine c55.go fun _=>?_;refine tt ?_;refine Am o fun F8 H o=>tt ?_;refine (I8 B mo ma).go hs o.swap fun r s H _ ⟨c,e,hc⟩ hs o=>?_;subst e;refine tt ?_;refine Am o fun Cv H o=>tt ?_;refine sw o fun H o=>tt ?_;refine (AY B 24).go hs o.swap fun r s H _ ⟨v,e,_⟩ hs o=>?_;subst e;refine tt ?_;apply bk <;> intro h1
 focus
  refine tt ?_;refine AZ o.tl (by simp) (tt ?_);refine (PG B 20000 (by omega) c hc).go hs o fun r s H _ ⟨c2,e⟩ hs o=>?_;subst e;refine tt ?_;refine sw (o.pull [_,_]) fun H o=>?_
 rotate_left 1
 focus
  refine tt ?_;refine AZ o.tl (by simp) (tt ?_);refine sw (o.pull [_,_]) fun H o=>?_
 all_goals
  refine tt ?_
  have BZ:=o.rc 5 0 (by simp);simp only [List.drop_zero] at BZ;rw [BZ];refine tt ?_;exact Az (n8 _ _ _ _ _) hs o.swap
end Go.Proofs.Shf
namespace Go.Shf
open Go.AW
theorem oI {α : Type} {a b : List α} {i : Nat} {d : α} (h : i<a.length) : (a++b).getD i d=a.getD i d:=by
 rw [gE,List.getElem?_append_left h,← gE]
theorem oT {α : Type} {a b : List α} {i : Nat} {d : α} (h : a.length≤i) : (a++b).getD i d=b.getD (i - a.length) d:=by
 rw [gE,List.getElem?_append_right h,← gE]
end Go.Shf
namespace Go.Proofs.Shf
open Go.AW Go.Proofs Go.Shf
theorem VU (B : Nat) : Rd B 288 [] (QC 20000):=by
 intro id s H0 H hs o;refine c288.go fun _=>?_;refine tt ?_;refine Am o fun ES H o=>tt ?_;refine (AY B 20).go hs o.swap fun r s H _ ⟨k,e,_⟩ hs o=>?_;subst e;refine tt ?_;apply bk <;> intro h1
 ·refine tt ?_;refine (I8 B 6 24).go hs o fun r s H _ ⟨c,e,h1⟩ hs o=>?_;subst e;refine tt ?_;refine sw o.swap fun H o=>tt ?_
  have hr:=o.rc 5 0 (by simp);simp only [List.drop_zero] at hr;rw [hr];refine tt ?_;exact Az ⟨c,rfl,h1⟩ hs o.swap
 ·refine tt ?_;refine (I8 B 4 9).go hs o fun r s H _ ⟨c,e,h1⟩ hs o=>?_;subst e;refine tt ?_;refine sw o.swap fun H o=>tt ?_
  have hr:=o.rc 5 0 (by simp);simp only [List.drop_zero] at hr;rw [hr];refine tt ?_;exact Az ⟨c,rfl,h1⟩ hs o.swap
def CatK (c : B0) (H0 : AA) : Ap:=fun r H'=>(∃ cod,cod≠0∧r=.CK [.agg [.int .i64 0,.A1,.A1,.A1,.A1,.A1,.A1,.A1],.A1,iI cod]∧H'=H0) ∨
 ((c.Is∧Be c)∧∃ (id : Nat) (ms : List (Nat × List Bool)),r=.CK [.agg (BE c (AM c)),.buf id ms.length,iI 0]∧DV (AM c) (ms.map Prod.snd)∧AB H0 H' ((id,.cells 1 (ms.map CQ) 0)::inner AV.bool ms))
theorem ND (B : Nat) (c : B0) (H0 : AA) : CB B 289 [.agg c.cells] H0 (CatK c H0):=by
 refine bb.go fun _=>?_
 have o : AB H0 H0 []:=.nil _;refine tt ?_;refine nb o fun ES H o=>tt ?_;refine (JG B c).go fun _=>?_
 by_cases hc : c.Is
 rotate_left 1
 ·rw [Ab hc];refine tt ?_;refine sw o fun H o=>tt ?_
  have hr:=o.rc 8 0 (by simp);simp only [List.drop_zero] at hr;rw [hr];refine tt ?_;exact ⟨H0,o.sub,.inl ⟨1,by decide,rfl,rfl⟩⟩
 rw [Ay hc];refine tt ?_;refine (KV B c hc).go fun _=>?_
 by_cases hf : Be c
 rotate_left 1
 ·rw [Ab hf,VQ hf];refine tt ?_;refine nb o fun CS H o=>tt ?_;refine sw o fun H o=>tt ?_;refine sw o.swap fun H o=>tt ?_
  have hr:=o.rc 8 0 (by simp);simp only [List.drop_zero] at hr;rw [hr];refine tt ?_;exact ⟨H0,o.sub,.inl ⟨3,by decide,rfl,rfl⟩⟩
 rw [Ay hf,Wv hf]
 have hL : (AM c).length=c.AR.toNat:=by simp [AM]
 have hT:=HT hc hf;refine tt ?_;refine nb o fun CS H o=>tt ?_;refine sw o fun H o=>tt ?_;refine Af o fun KE H o=>tt ?_
 refine AD [2,5] (G:=Nat × List (Nat × List Bool)) (fun k g=>[(7,some (.buf g.1 g.2.length)),(8,some (.int .i64 (k : Int)))])
  (fun k g H=>(g.2.length=k∧∀ x,x<k→(g.2.getD x default).2.length=((AM c).getD x default).length)∧AB H0 H ((g.1,.cells 1 (g.2.map CQ) 0)::(inner AV.bool g.2++[(CS,AF.cells 8 (BE c (AM c)) 0),(ES,AF.cells 8 [.int .i64 0,.A1,.A1,.A1,.A1,.A1,.A1,.A1] 0)]))) (AM c).length (KE,[]) ⟨⟨rfl,fun x hx=>by omega⟩,o⟩ rfl ?_
 clear o
 rintro k ⟨KE,ms⟩ H hk ⟨⟨hl,B4⟩,o⟩;dsimp only at hl B4 o
 have g5 : H.get CS=some (AF.cells 8 (BE c (AM c)) 0):=o.get (CS,AF.cells 8 (BE c (AM c)) 0) (by simp)
 have Fh:=hc.1.o;refine tt ?_;refine Al g5 (by simp [BE]) (tt ?_);apply bk <;> intro h1
 ·have AU:=A7 h1
  have w:=ws k
  have Bf:=hT.YH k AU;refine tt ?_;refine Al g5 (by simp [BE]) (tt ?_);refine ⟨AU,tt ?_⟩;refine ⟨⟨by omega,by simp only [AK]; omega⟩,DL AV.bool false rfl o fun BW H o=>?_⟩;refine tt ?_;refine Ac (f:=CQ) (BW,List.replicate ((AM c).getD k default).length false) o.swap (by simp [CQ]) rfl (by simp only [AK]; omega) fun KE H o=>?_;refine tw w ?_;refine A5 (KE,ms++[(BW,List.replicate ((AM c).getD k default).length false)]) AU ⟨⟨by simp [hl],fun x hx=>?_⟩, ?_⟩ rfl
  ·show ((ms++[_]).getD x default).2.length=_
   by_cases e : x<k
   ·rw [oI (by omega)]; exact B4 x e
   ·have ex : x=k:=by omega
    rw [oT (by omega),ex,hl,Nat.sub_self]; simp
  ·refine o.perm (.cons _ ?_);simp only [inner,List.map_append,List.map_cons,List.map_nil,List.append_assoc,List.cons_append,List.nil_append];exact List.perm_middle.symm
 ·have AU : k=(AM c).length:=by have:=A9 h1; omega
  refine tt ?_
  have o : AB H0 H ((CS,AF.cells 8 (BE c (AM c)) 0)::(ES,AF.cells 8 [.int .i64 0,.A1,.A1,.A1,.A1,.A1,.A1,.A1] 0)::(KE,.cells 1 (ms.map CQ) 0)::inner AV.bool ms):=o.pm;refine AZ o (by simp [BE]) (tt ?_);refine Aq o.swap (by simp) (by simp [BE]) (by first | (simp only [go_sem]; done) | ((try simp only [go_sem]); simp [AV.one,EJ])) fun H o=>?_;have o:=s2 o;refine tt ?_
  have hr:=o.rc 8 0 (by simp);simp only [List.drop_zero] at hr;rw [hr];refine tt ?_;refine ⟨H,.refl _,.inr ⟨⟨hc,hf⟩,KE,ms,rfl,⟨by simp [hl,AU],fun x hx=>?_⟩,o.tl.tl⟩⟩;rw [B8 _ (by omega)]; exact B4 x (by omega)
theorem QA (B : Nat) (c : B0) (L : List (List (List Int))) (t : Dt c L) (ms : List (Nat × List Bool)) (hM : DV L (ms.map Prod.snd)) (id : Nat) (H0 H : AA) (l : Ob)
  (o : AB H0 H ((id,.cells 1 (ms.map CQ) 0)::(inner AV.bool ms++l))) :
  CB B 290 [.agg (BE c L),.buf id ms.length] H (fun r H'=>r=.CK []∧∃ ms' : List (Nat × List Bool),ms'.length=ms.length∧DV L (ms'.map Prod.snd)∧AB H0 H' ((id,.cells 1 (ms'.map CQ) 0)::(inner AV.bool ms'++l))):=by
 refine yv.go fun _=>?_
 obtain ⟨n,hn⟩ : ∃ n,ms.length=n:=⟨_,rfl⟩;rw [hn];refine tt ?_;refine De [1,2] (G:=List (Nat × List Bool)) (fun _=>[]) (fun m ms' H=>m=S5 ms'∧ms'.length=n∧DV L (ms'.map Prod.snd)∧AB H0 H ((id,.cells 1 (ms'.map CQ) 0)::(inner AV.bool ms'++l))) (S5 ms) ms ⟨rfl,hn,hM,o⟩ rfl ?_;clear o
 rintro m ms' H ⟨rfl,hl,sy,o⟩
 have Fq:=UI B c L t ms' sy id H0 H l o;rw [hl] at Fq;refine tt ?_;refine Fq.mono ?_
 rintro r H' (⟨rfl,o⟩ | ⟨rfl,ms2,Ia,hM2,D3,o⟩)
 ·refine tt ?_;exact ⟨H',.refl _,rfl,ms',hl,sy,o⟩
 ·refine tt ?_;exact CY (S5 ms2) ms2 D3 ⟨rfl,Ia.trans hl,hM2,o⟩ rfl
def xW (c : B0) (C : List (List (List Int))) (p : Ob) (X : AV) : Prop:=∃ (Ex : Nat) (Xs : List AV) (ob : Ob),X=.agg [iI c.AR,iL c.AH,iL c.to,iL c.Aw,BD c.comp,.buf Ex Xs.length]∧Ez iL Xs C ob∧(Xs.length≤1000∧∀ r,r∈C→r.length≤1000)∧p=(Ex,.cells 1 Xs 0)::ob
@[go_sem] def Ip (c : B0) (X : AV) : AF:=.cells 6 [iI c.AR,iL c.AH,iL c.to,iL c.Aw,BD c.comp,X] 0
theorem Q5 (B : Nat) (c : B0) (hc : c.Is) (L : List (List (List Int))) (t : Dt c L) (M : List (List Bool)) (hM : DV L M) : IX Tryz.prog B 291 [.agg (BE c L),mL (mL AV.bool) M] (fun p X=>∃ C,xW c C p X):=by
 refine ⟨fun H0=>zx.go fun _=>?_⟩
 have o : AB H0 H0 []:=.nil _
 have Fh:=hc.1.o
 have l9:=t.len
 have jc:=hM.len;refine tt ?_;refine nb o fun BN H o=>tt ?_;refine (EX B c).go fun _=>tt ?_;refine Af o fun Ex H o=>tt ?_;refine nb o fun CS H o=>tt ?_;refine sw o fun H o=>tt ?_
 have o : AB H0 H ((CS,Ip c (.buf Ex ([] : List AV).length))::(Ex,.cells 1 [] 0)::([]++[(BN,AF.cells 6 [.int .i64 0,.A1,.A1,.A1,.A1,.A1] 0)])):=o
 refine AD [1,2,4,5] (G:=Nat × List AV × Ob × List (List (List Int))) (fun x _=>[(6,some (.int .i64 (x : Int)))])
  (fun x g H=>Ez iL g.2.1 g.2.2.2 g.2.2.1∧(g.2.1.length=x∧∀ r,r∈g.2.2.2→r.length≤1000)∧AB H0 H ((CS,Ip c (.buf g.1 g.2.1.length))::(g.1,.cells 1 g.2.1 0)::(g.2.2.1++[(BN,AF.cells 6 [.int .i64 0,.A1,.A1,.A1,.A1,.A1] 0)]))) M.length (Ex,[],[],[]) ⟨.nil,⟨rfl,by simp⟩,o⟩ rfl ?_
 clear o
 rintro x ⟨Ex,Xs,ob,C⟩ H hx ⟨hX,⟨JN,aD⟩,o⟩;dsimp only at hX JN aD o;refine tt ?_;apply bk <;> intro h1
 ·have AU:=A7 h1
  have w:=ws x
  have B4:=hM.row x (by omega)
  have Bf:=t.YH x (by omega);refine tt ?_;refine Af o fun BW H o=>tt ?_
  refine AD [1,2,4,5,6] (G:=Nat × List (List Int)) (fun k g=>[(7,some (.buf g.1 g.2.length)),(8,some (.int .i64 (k : Int)))])
   (fun k g H=>g.2.length≤k∧AB H0 H ((g.1,.cells 1 (g.2.map iL) 0)::(CS,Ip c (.buf Ex Xs.length))::(Ex,.cells 1 Xs 0)::(ob++[(BN,AF.cells 6 [.int .i64 0,.A1,.A1,.A1,.A1,.A1] 0)]))) (M.getD x default).length (BW,[]) ⟨by simp,o⟩ rfl ?_
  clear o
  rintro k ⟨BW,A⟩ H hk ⟨hA,o⟩;dsimp only at hA o;refine tt ?_;refine ⟨AU, ?_⟩;apply bk <;> intro h2
  ·have Ah:=A7 h2
   have wk:=ws k;refine tt ?_;refine ⟨AU,Ah, ?_⟩
   cases hb : (M.getD x default).getD k default with
   | false =>
    refine tw wk ?_;exact A5 (BW,A) Ah ⟨by show A.length≤_; omega,o⟩ rfl
   | true =>
    refine tt ?_;refine ⟨by omega,by omega, ?_⟩;refine (Dg ..).go fun _=>tt ?_;refine Ac (f:=iL) ((L.getD x default).getD k default) o rfl rfl (by simp only [AK]; omega) fun BW H o=>?_;refine tw wk ?_;exact A5 (BW,A++[(L.getD x default).getD k default]) Ah ⟨by simp; omega,o⟩ rfl
  ·have Ah : k=(M.getD x default).length:=by have:=A9 h2; omega
   refine tt ?_;refine AN o.tl (by simp) (tt ?_)
   have o : AB H0 H ((Ex,.cells 1 Xs 0)::((BW,.cells 1 (A.map iL) 0)::(ob++[(CS,Ip c (.buf Ex Xs.length)),(BN,AF.cells 6 [.int .i64 0,.A1,.A1,.A1,.A1,.A1] 0)]))):=o.pm;refine Na o rfl rfl rfl (by simp only [AK]; omega) fun iQ H o=>tt ?_
   have o : AB H0 H ((CS,Ip c (.buf Ex Xs.length))::(iQ,.cells 1 (Xs++[AV.buf BW A.length]) 0)::(BW,.cells 1 (A.map iL) 0)::(ob++[(BN,AF.cells 6 [.int .i64 0,.A1,.A1,.A1,.A1,.A1] 0)])):=o.pm;refine sw o fun H o=>?_;refine tw w ?_
   have hXs : (Xs++[AV.buf BW A.length]).length=Xs.length+1:=by simp
   refine A5 (iQ,Xs++[AV.buf BW A.length],ob++[(BW,AF.cells 1 (A.map iL) 0)],C++[A]) AU ⟨hX.XX (.inr ⟨BW,rfl,rfl⟩),⟨by simp [JN],fun r hr=>?_⟩, ?_⟩ rfl;rotate_left 1;simp only [Ip];rw [hXs];exact o.pm
   rcases List.mem_append.mp hr with h | h
   ·exact aD r h
   ·rw [List.mem_singleton] at h; subst h; omega
 ·refine tt ?_
  have o : AB H0 H ((CS,Ip c (.buf Ex Xs.length))::(BN,AF.cells 6 [.int .i64 0,.A1,.A1,.A1,.A1,.A1] 0)::(Ex,.cells 1 Xs 0)::ob):=o.pm;refine AZ o (by simp) (tt ?_);refine sw o.swap fun H o=>tt ?_
  have BZ:=o.rc 6 0 (by simp);simp only [List.drop_zero] at BZ;rw [BZ];refine tt ?_;exact ⟨H,.refl H,_,⟨C,Ex,Xs,ob,rfl,hX,⟨by omega,aD⟩,rfl⟩,o.tl.tl⟩
end Go.Proofs.Shf
