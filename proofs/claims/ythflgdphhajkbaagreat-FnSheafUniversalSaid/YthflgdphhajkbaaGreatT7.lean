/- A part of a proof. -/
import Derived.Test.YthflgdphhajkbaaGreatT6
set_option linter.unusedVariables false
set_option linter.unusedSimpArgs false
set_option linter.unusedSectionVars false
open Nat (reduceEqDiff reduceAdd reduceMul reduceLeDiff reduceLT)
namespace Go.AW
theorem Et.Y9 {α : Type} {f : α→AV} {Xs : List AV} {As : List (List α)} {o p : List (Nat × AF)} {X : AV} {A : List α} (h : Et f Xs As o) (hp : QA f p X A) : Et f (Xs++[X]) (As++[A]) (o++p):=by
 induction h with
 | nil=>simpa using Et.cons hp .nil
 | cons q _ ih=>simpa using Et.cons q ih
theorem Nh {H0 H : AB} {l : Ob} {K : Am} {id n : Nat} {Xs : List AV} {Y : AV} (o : AA H0 H ((id,.cells 1 Xs 0)::l)) (hn : n=Xs.length) (h1 : Y.cells=[Y]) (h2 : Y.one=true) (hm : Xs.length+1≤AL)
  (hk : ∀ CT H',AA H0 H' ((CT,.cells 1 (Xs++[Y]) 0)::l)→K (.buf CT (Xs.length+1)) H') : DW 1 (some (.buf id n)) (some (.sl [Y])) K H:=by
 subst hn
 have Eb : DK 1 [Y]:=by
  intro e he;rw [List.mem_singleton] at he; subst he;rw [h1];exact ⟨rfl,fun c hc=>by rw [List.mem_singleton] at hc; subst hc; exact h2⟩
 have h0:=o.h0;simp only at h0;simp only [DW,h0,Ct,Gc];refine ⟨⟨trivial,by simp,by simp; omega,by simp; omega,Eb⟩,fun CT hn=>?_⟩
 have Fc : flat [Y]=[Y]:=by simp [flat,h1]
 rw [Fc];exact hk CT _ (o.mv hn (.cells 1 (Xs++[Y]) 0))
end Go.AW
namespace Go.Proofs.Shf
open Go.AW Go.Proofs Go.Shf
@[go_sem] def Fe (Cq BJ : Nat) (x0 : Int) (a : Nat) (A : List Int) (b : Nat) (C : List Int) (i : Nat) (I : List Int) (d : Nat) (Xs : List AV) (ob : Ob) : Ob :=
 (Cq,.cells 5 [iI x0,.buf a A.length,.buf b C.length,.buf i I.length,.buf d Xs.length] 0)::(a,.cells 1 (A.map iI) 0)::(b,.cells 1 (C.map iI) 0)::(i,.cells 1 (I.map iI) 0)::(d,.cells 1 Xs 0)::(ob++[(BJ,.cells 5 [iI 0,.A1,.A1,.A1,.A1] 0)])
theorem P7 (B N M : Nat) (hNM : N+M≤4096) (c e : Ay) (hc : c.Sh N) (he : e.Sh M) : Gk Tryz.prog B 207 [.agg c.cells,.agg e.cells] (fun p X=>∃ c' : Ay,c'.Sh (N+M)∧OCb c' p X):=by
 refine ⟨fun H0=>cz.go fun _=>?_⟩
 obtain ⟨cob,cil,cml,ctl,ccl,crow⟩:=hc
 obtain ⟨eob,eil,eml,etl,ecl,erow⟩:=he;refine tt ?_;refine Ai (.nil _) fun BJ H o=>tt ?_;refine Gk.go' (PD B c) o fun X1 p1 H ⟨a,b,i,d,Xs,ob,e1,hX,e2⟩ o _=>?_;subst e1 e2
 have IV:=hX.len;refine tt ?_;refine Ai o fun Cq H o=>tt ?_;refine sw o fun H o=>tt ?_
 have wo : IntKind.i64.wrap (c.AO+e.AO)=c.AO+e.AO:=wrap_i64 (by omega) (by omega);refine tw wo ?_;refine sw o fun H o=>tt ?_
 have o : AA H0 H (Fe Cq BJ (c.AO+e.AO) a c.AJ b c.to i c.Av d Xs ob):=o
 refine AD [3,4,5,6,7] (G:=Nat × List Int) (fun k _=>[(8,some (.int .i64 (k : Int)))])
  (fun k g H=>g.2.length=c.Av.length+k∧AA H0 H (Fe Cq BJ (c.AO+e.AO) a c.AJ b c.to g.1 g.2 d Xs ob)) e.AO.toNat (i,c.Av) ⟨rfl,o⟩ rfl ?_
 clear o
 rintro k ⟨i,I⟩ H hk ⟨hI,o⟩;dsimp only at hI o;unfold Fe at o;refine tt ?_;apply bk <;> intro h1
 ·have AR:=A7 h1
  have w:=ws k;refine tt ?_;refine AK o (by simp) (tt ?_);refine ⟨by omega, ?_⟩;refine BG _ (o.pull [_,_,_]) rfl rfl (by simp only [AL]; omega) fun i H I2 _ hI2 o=>tt ?_;refine sw o.swap fun H o=>?_;refine tw w ?_;refine A5 (i,I2) (by omega) ⟨by show I2.length=_; omega, ?_⟩ rfl
  try unfold Fe
  exact o.pm
 ·have AR:=A9 h1
  have hIl : I.length=c.Av.length+e.AO.toNat:=by omega
  clear h1 AR hk hI;refine tt ?_
  refine AD [3,4,5,6,7] (G:=List AV × Ob × List (List Int)) (fun f _=>[(9,some (.int .i64 (f : Int)))])
   (fun f g H=>Et iI g.1 g.2.2 g.2.1∧g.2.2.length=c.AJ.length∧(∀ x,x<c.AJ.length→(g.2.2.getD x []).length=c.AJ.length+if x<f then e.AJ.length else 0) ∧
    AA H0 H (Fe Cq BJ (c.AO+e.AO) a c.AJ b c.to i I d g.1 g.2.1)) c.AJ.length (Xs,ob,c.comp) ⟨hX,ccl,fun x hx=>by rw [if_neg (by omega)]; exact crow x hx,o⟩ rfl ?_
  clear o hX IV
  rintro f ⟨Xs,ob,As⟩ H hf ⟨hX,Lz,Mi,o⟩;dsimp only at hX Lz Mi o
  have IV:=hX.len;unfold Fe at o;refine tt ?_;refine AK o (by simp) (tt ?_);apply bk <;> intro h1
  ·have AR:=A7 h1
   have TP : f<c.AJ.length:=by omega
   clear h1 AR;refine tt ?_
   refine AD [3,4,5,6,7,9] (G:=List AV × Ob × List (List Int)) (fun j _=>[(10,some (.int .i64 (j : Int)))])
    (fun j g H=>Et iI g.1 g.2.2 g.2.1∧g.2.2.length=c.AJ.length∧(∀ x,x<c.AJ.length→(g.2.2.getD x []).length=c.AJ.length+if x<f then e.AJ.length else if x=f then j else 0) ∧
     AA H0 H (Fe Cq BJ (c.AO+e.AO) a c.AJ b c.to i I d g.1 g.2.1)) e.AJ.length (Xs,ob,As) ⟨hX,Lz,fun x hx=>by rw [Mi x hx]; split <;> simp,o⟩ rfl ?_
   clear o hX IV Lz Mi
   rintro j ⟨Xs,ob,As⟩ H hj ⟨hX,Lz,Mi,o⟩;dsimp only at hX Lz Mi o
   have IV:=hX.len;unfold Fe at o;refine tt ?_;apply bk <;> intro h2
   ·have Ah:=A7 h2
    have w:=ws j;refine tt ?_;refine ⟨⟨_,_,o.h0⟩,AK o (by simp) ?_⟩;refine tt ?_;refine ⟨⟨_,_,o.h0⟩,AK o (by simp) ?_⟩;refine tt ?_;refine ⟨by omega, ?_⟩
    have od:=o.pull [_,_,_,_];simp only [List.cons_append,List.nil_append] at od;refine AK od (by omega) (tt ?_)
    have od2 : AA H0 H ((d,AF.cells 1 Xs 0)::(ob++[(Cq,AF.cells 5 [iI (c.AO+e.AO),.buf a c.AJ.length,.buf b c.to.length,.buf i I.length,.buf d Xs.length] 0),(a,AF.cells 1 (c.AJ.map iI) 0),(b,AF.cells 1 (c.to.map iI) 0),(i,AF.cells 1 (I.map iI) 0),(BJ,AF.cells 5 [iI 0,.A1,.A1,.A1,.A1] 0)])):=od.pm
    have B3:=Mi f TP;rw [if_neg (by omega),if_pos rfl] at B3;refine Ha od2 hX (by omega) (-1) rfl (by simp only [AL]; omega) fun X' ob' H QB HJ o=>?_;try simp only [go_sem,↓reduceIte,reduceEqDiff,reduceAdd,reduceMul,reduceLeDiff,reduceLT,AV.cells_one QB]
    refine ⟨by omega,Ap o (by omega) (by (try simp only [go_sem]); (try simp)) (by simp [QB]) fun H o=>?_⟩
    have hw : wr Xs f [X']=Xs.set f X':=rfl;rw [hw] at o;refine tw w ?_
    have tE : (Xs.set f X').length=Xs.length:=by simp
    refine A5 (Xs.set f X',ob',As.set f (As.getD f []++[-1])) Ah ⟨HJ,by simp [Lz],fun x hx=>?_, ?_⟩ rfl
    ·show ((As.set f (As.getD f []++[-1])).getD x []).length=_
     rw [BH]
     by_cases hxf : f=x
     ·subst hxf;rw [if_pos ⟨rfl,by omega⟩,List.length_append,B3,if_neg (by omega),if_pos rfl]; simp; omega
     ·rw [if_neg (fun q=>hxf q.1),Mi x hx]
      by_cases Qk : x<f
      ·rw [if_pos Qk,if_pos Qk]
      ·rw [if_neg Qk,if_neg Qk,if_neg (by omega),if_neg (by omega)]
    ·try unfold Fe
     try rw [tE]
     exact o.pm
   ·have Ah:=A9 h2
    have w:=ws f;refine tw w ?_;refine A5 (Xs,ob,As) TP ⟨hX,Lz,fun x hx=>?_,o⟩ rfl
    have:=Mi x hx
    show (As.getD x []).length=_
    rw [this]
    by_cases Qk : x<f
    ·rw [if_pos Qk,if_pos (by omega)]
    ·by_cases hx3 : x=f
     ·rw [if_neg Qk,if_pos hx3,if_pos (by omega)]; omega
     ·rw [if_neg Qk,if_neg hx3,if_neg (by omega)]
  ·have AR:=A9 h1
   have js : ∀ x,x<c.AJ.length→(As.getD x []).length=c.AJ.length+e.AJ.length:=fun x hx=>by rw [Mi x hx,if_pos (by omega)]
   clear h1 AR hf Mi;refine tt ?_
   refine AD [3,4,5,6,7] (G:=(Nat × List Int) × (Nat × List Int) × Nat × List AV × Ob × List (List Int)) (fun f _=>[(11,some (.int .i64 (f : Int)))])
    (fun f g H=>g.1.2.length=c.AJ.length+f∧g.2.1.2.length=c.AJ.length+f∧Et iI g.2.2.2.1 g.2.2.2.2.2 g.2.2.2.2.1∧g.2.2.2.2.2.length=c.AJ.length+f∧(∀ x,x<c.AJ.length+f→(g.2.2.2.2.2.getD x []).length=c.AJ.length+e.AJ.length) ∧
     AA H0 H (Fe Cq BJ (c.AO+e.AO) g.1.1 g.1.2 g.2.1.1 g.2.1.2 i I g.2.2.1 g.2.2.2.1 g.2.2.2.2.1)) e.AJ.length ((a,c.AJ),(b,c.to),d,Xs,ob,As) ⟨rfl,ctl,hX,Lz,js,o⟩ rfl ?_
   clear o hX IV Lz js
   rintro f ⟨⟨a,A⟩,⟨b,C⟩,d,Xs,ob,As⟩ H hf ⟨hA,hC,hX,Lz,Mi,o⟩;dsimp only at hA hC hX Lz Mi o
   have IV:=hX.len;unfold Fe at o;refine tt ?_;apply bk <;> intro h1
   ·have AR:=A7 h1;refine tt ?_;refine AK o (by simp) (tt ?_);refine ⟨AR,BG _ o.swap rfl rfl (by simp only [AL]; omega) fun a H A2 _ aZ o=>?_⟩;refine tt ?_;refine sw o.swap fun H o=>tt ?_;refine AK o (by simp) (tt ?_);refine ⟨by omega,BG _ (o.pull [_,_]) rfl rfl (by simp only [AL]; omega) fun b H C2 _ hC2 o=>?_⟩;refine tt ?_;refine sw o.swap fun H o=>tt ?_
    have o : AA H0 H (Fe Cq BJ (c.AO+e.AO) a A2 b C2 i I d Xs ob):=by
     try unfold Fe
     exact o.pm
    refine Ae o fun BQ H o=>tt ?_
    refine AD [3,4,5,6,7,11] (G:=Nat × List Int) (fun j g=>[(12,some (.buf g.1 g.2.length)),(13,some (.int .i64 (j : Int)))])
     (fun j g H=>g.2.length=j∧AA H0 H ((g.1,AF.cells 1 (g.2.map iI) 0)::Fe Cq BJ (c.AO+e.AO) a A2 b C2 i I d Xs ob)) c.AJ.length (BQ,[]) ⟨rfl,o⟩ rfl ?_
    clear o
    rintro j ⟨BQ,row⟩ H hj ⟨hr,o⟩;dsimp only at hr o;refine tt ?_;apply bk <;> intro h2
    ·have Ah:=A7 h2
     have w:=ws j;refine tt ?_;refine BG _ o rfl rfl (by simp only [AL]; omega) fun BQ H row2 _ E3 o=>?_;refine tw w ?_;exact A5 (BQ,row2) Ah ⟨by show row2.length=_; omega,o⟩ rfl
    ·have Ah:=A9 h2
     have sA : row.length=c.AJ.length:=by omega
     clear h2 Ah hj hr;refine tt ?_
     refine AD [3,4,5,6,7,11] (G:=Nat × List Int) (fun j g=>[(12,some (.buf g.1 g.2.length)),(14,some (.int .i64 (j : Int)))])
      (fun j g H=>g.2.length=c.AJ.length+j∧AA H0 H ((g.1,AF.cells 1 (g.2.map iI) 0)::Fe Cq BJ (c.AO+e.AO) a A2 b C2 i I d Xs ob)) e.AJ.length (BQ,row) ⟨sA,o⟩ rfl ?_
     clear o sA
     rintro j ⟨BQ,row⟩ H hj ⟨hr,o⟩;dsimp only at hr o;refine tt ?_;apply bk <;> intro h3
     ·have B8:=A7 h3
      have w:=ws j
      have her:=erow f (by omega);refine tt ?_;refine ⟨by omega,by omega, ?_⟩;apply bk <;> intro h4
      ·refine tt ?_;refine BG _ o rfl rfl (by simp only [AL]; omega) fun BQ H row2 _ E3 o=>?_;refine tw w ?_;exact A5 (BQ,row2) B8 ⟨by show row2.length=_; omega,o⟩ rfl
      ·refine tt ?_;refine BG _ o rfl rfl (by simp only [AL]; omega) fun BQ H row2 _ E3 o=>?_;refine tw w ?_;exact A5 (BQ,row2) B8 ⟨by show row2.length=_; omega,o⟩ rfl
     ·have B8:=A9 h3
      have w:=ws f;unfold Fe at o;refine tt ?_;refine AK o.tl (by simp) (tt ?_);refine Nh (o.pull [_,_,_,_,_]) rfl rfl rfl (by simp only [AL]; omega) fun d H o=>tt ?_
      have o:=o.pull [_,_];simp only [List.cons_append,List.nil_append] at o;refine sw o fun H o=>?_;refine tw w ?_
      have tE : (Xs++[AV.buf BQ row.length]).length=Xs.length+1:=by simp
      refine A5 ((a,A2),(b,C2),d,Xs++[AV.buf BQ row.length],ob++[(BQ,AF.cells 1 (row.map iI) 0)],As++[row]) AR ⟨by show A2.length=_; omega,by show C2.length=_; omega,hX.Y9 (.inr ⟨BQ,rfl,rfl⟩),by simp; omega,fun x hx=>?_, ?_⟩ rfl
      ·show ((As++[row]).getD x []).length=_
       by_cases Qk : x<c.AJ.length+f
       ·have e1 : (As++[row]).getD x []=As.getD x []:=by rw [gE,List.getElem?_append_left (by omega),← gE]
        rw [e1]; exact Mi x Qk
       ·have e1 : (As++[row]).getD x []=row:=by
         have : x=As.length:=by omega
         subst this; simp
        rw [e1]; omega
      ·try unfold Fe
       try rw [tE]
       exact o.pm
   ·have AR:=A9 h1
    obtain rfl : f=e.AJ.length:=by omega
    refine tt ?_;refine Ac o (by simp) (tt ?_)
    have o : AA H0 H ((BJ,AF.cells 5 [iI 0,.A1,.A1,.A1,.A1] 0)::(Cq,AF.cells 5 [iI (c.AO+e.AO),.buf a A.length,.buf b C.length,.buf i I.length,.buf d Xs.length] 0)::(a,AF.cells 1 (A.map iI) 0)::(b,AF.cells 1 (C.map iI) 0)::(i,AF.cells 1 (I.map iI) 0)::(d,AF.cells 1 Xs 0)::ob):=o.pm;refine sw o fun H o=>tt ?_
    have BV:=o.rc 5 0 (by simp);simp only [List.drop_zero] at BV;rw [BV];refine tt ?_
    refine ⟨H,.refl H,_,⟨⟨c.AO+e.AO,A,C,I,As⟩,⟨⟨by show 0≤c.AO+e.AO; omega,by show c.AO+e.AO≤((N+M : Nat) : Int); omega⟩,by show (I.length : Int)=c.AO+e.AO; omega,by show A.length≤N+M; omega,by show C.length=A.length; omega,by show As.length=A.length; omega,fun x hx=>?_⟩,
     a,b,i,d,Xs,ob,rfl,hX,rfl⟩,o.tl.tl⟩
    show (As.getD x []).length=A.length
    rw [Mi x (by have : x<A.length:=hx; omega)]; omega
theorem Oi (B N M : Nat) (hNM : N+M≤4096) (hNM2 : N*M≤65536) (c e : Ay) (hc : c.Sh N) (he : e.Sh M) : Jq B 275 [.agg c.cells,.agg e.cells] (QN (N+M+N*M)):=by
 intro H0;refine dt.go fun _=>?_
 have cob:=hc.ob
 have eob:=he.ob;refine tt ?_;refine Ai (.nil _) fun BJ H o=>tt ?_;refine Gk.go' (P7 B N M hNM c e hc he) o fun X1 p1 H ⟨q,hq,a,b,i,d,Xs,ob,e1,hX,e2⟩ o _=>?_;subst e1 e2
 have IV:=hX.len
 obtain ⟨qob,qil,qml,qtl,qcl,qrow⟩:=hq
 obtain ⟨qo,A,C,I,As⟩:=q;simp only at qob qil qml qtl qcl qrow hX IV;refine tt ?_;refine Ai o fun CP H o=>tt ?_;refine sw o fun H o=>tt ?_
 have o : AA H0 H (Fe CP BJ qo a A b C i I d Xs ob):=o;unfold Fe at o;refine AK o (by simp) (tt ?_)
 generalize hm : A.length=m at *
 refine AD [2,3,4,5,6] (G:=(Nat × List Int) × (Nat × List Int)) (fun k _=>[(7,some (.int .i64 (k : Int)))])
  (fun k g H=>g.2.2.length=g.1.2.length∧m≤g.1.2.length∧g.1.2.length=m+k*e.AO.toNat∧AA H0 H (Fe CP BJ qo g.1.1 g.1.2 g.2.1 g.2.2 i I d Xs ob)) c.AO.toNat ((a,A),(b,C)) ⟨by simp only; omega,by simp only; omega,by simp [hm],by unfold Fe; rw [hm]; exact o⟩ rfl ?_
 clear o hm qtl
 rintro k ⟨⟨a,A⟩,⟨b,C⟩⟩ H hk ⟨hC,wB,hA,o⟩;dsimp only at hC wB hA o
 have hMe : ∀ x,x≤c.AO.toNat→x*e.AO.toNat≤N*M:=fun x hx=>Nat.mul_le_mul (by omega) (by omega);refine tt ?_;apply bk <;> intro h1
 ·have AR:=A7 h1
  have TG : k+1≤c.AO.toNat:=by omega
  refine tt ?_
  refine AD [2,3,4,5,6,7] (G:=(Nat × List Int) × (Nat × List Int)) (fun j _=>[(8,some (.int .i64 (j : Int)))])
   (fun j g H=>g.2.2.length=g.1.2.length∧m≤g.1.2.length∧g.1.2.length=m+k*e.AO.toNat+j∧AA H0 H (Fe CP BJ qo g.1.1 g.1.2 g.2.1 g.2.2 i I d Xs ob)) e.AO.toNat ((a,A),(b,C)) ⟨hC,wB,hA,o⟩ rfl ?_
  clear o hC wB hA
  rintro j ⟨⟨a,A⟩,⟨b,C⟩⟩ H hj ⟨hC,wB,hA,o⟩;dsimp only at hC wB hA o
  have hM1:=hMe (k+1) TG;rw [Nat.succ_mul] at hM1;refine tt ?_;apply bk <;> intro h2
  ·have Ah:=A7 h2
   have w:=ws j;unfold Fe at o;refine tt ?_;refine AK o (by simp) (tt ?_);refine BG _ o.swap rfl rfl (by simp only [AL]; omega) fun a H A2 _ aZ o=>tt ?_;refine sw o.swap fun H o=>tt ?_;refine AK o (by simp) (tt ?_);refine BG _ (o.pull [_,_]) rfl rfl (by simp only [AL]; omega) fun b H C2 _ hC2 o=>tt ?_;refine sw o.swap fun H o=>?_;refine tw w ?_;refine A5 ((a,A2),(b,C2)) (by omega) ⟨by show C2.length=A2.length; omega,by show m≤A2.length; omega,by show A2.length=_; omega, ?_⟩ rfl
   try unfold Fe
   exact o.pm
  ·have Ah:=A9 h2
   have w:=ws k;refine tw w ?_;exact A5 ((a,A),(b,C)) (by omega) ⟨hC,wB,by show A.length=_; rw [Nat.succ_mul]; omega,o⟩ rfl
 ·have AR:=A9 h1
  have hAb : A.length≤N+M+N*M:=by have:=hMe k hk; omega
  clear h1 AR hk hA;unfold Fe at o;refine tt ?_
  have od : AA H0 H ((d,AF.cells 1 Xs 0)::(ob++[(CP,AF.cells 5 [iI qo,.buf a A.length,.buf b C.length,.buf i I.length,.buf d Xs.length] 0),(a,AF.cells 1 (A.map iI) 0),(b,AF.cells 1 (C.map iI) 0),(i,AF.cells 1 (I.map iI) 0),(BJ,AF.cells 5 [iI 0,.A1,.A1,.A1,.A1] 0)])):=o.pm;refine Cy hX [] H od fun H o=>?_;simp only [List.nil_append] at o
  have o : AA H0 H [(CP,AF.cells 5 [iI qo,.buf a A.length,.buf b C.length,.buf i I.length,.buf d Xs.length] 0),(d,AF.cells 1 (As.map iL) 0),(a,AF.cells 1 (A.map iI) 0),(b,AF.cells 1 (C.map iI) 0),(i,AF.cells 1 (I.map iI) 0),(BJ,AF.cells 5 [iI 0,.A1,.A1,.A1,.A1] 0)]:=o.pm;refine B5 4 o rfl IV fun H o=>?_;have o:=s1 o;refine B5 1 o rfl rfl fun H o=>?_;have o:=s1 o;refine B5 2 o rfl rfl fun H o=>?_;have o:=s1 o;refine B5 3 o rfl rfl fun H o=>AY ?_;have o:=s1 o;clear od;refine tt ?_;refine Ae o fun jd H o=>tt ?_
  refine AD [2,3,4,5,6] (G:=Nat × List (List Int)) (fun f g=>[(9,some (.buf g.1 g.2.length)),(10,some (.int .i64 (f : Int)))])
   (fun f g H=>g.2.length=f∧(∀ r,r∈g.2→r.length=A.length)∧AA H0 H [(g.1,AF.cells 1 (g.2.map iL) 0),(CP,AF.cells 5 [iI qo,iL A,iL C,iL I,BA As] 0),(BJ,AF.cells 5 [iI 0,.A1,.A1,.A1,.A1] 0)]) A.length (jd,[]) ⟨rfl,by simp,o⟩ rfl ?_
  clear o
  rintro f ⟨jd,T⟩ H hf ⟨hT,rX,o⟩;dsimp only at hT rX o;refine tt ?_;refine AK o.tl (by simp) (tt ?_);apply bk <;> intro h2
  ·have Ah:=A7 h2;refine tt ?_;refine Ae o fun BQ H o=>tt ?_
   refine AD [2,3,4,5,6,9,10] (G:=Nat × List Int) (fun g r=>[(11,some (.buf r.1 r.2.length)),(12,some (.int .i64 (g : Int)))])
    (fun g r H=>r.2.length=g∧AA H0 H [(r.1,AF.cells 1 (r.2.map iI) 0),(jd,AF.cells 1 (T.map iL) 0),(CP,AF.cells 5 [iI qo,iL A,iL C,iL I,BA As] 0),(BJ,AF.cells 5 [iI 0,.A1,.A1,.A1,.A1] 0)]) A.length (BQ,[]) ⟨rfl,o⟩ rfl ?_
   clear o
   rintro g ⟨BQ,row⟩ H hg ⟨hr,o⟩;dsimp only at hr o;refine tt ?_;refine AK o.tl.tl (by simp) (tt ?_);apply bk <;> intro h3
   ·have B8:=A7 h3
    have w:=ws g;refine tt ?_;refine AK o.tl.tl (by simp) (tt ?_);refine ⟨by omega,AK o.tl.tl (by simp) ?_⟩;refine tt ?_;refine ⟨by omega,tt ?_⟩;apply bk <;> intro h4
    ·refine tt ?_;refine BG _ o rfl rfl (by simp only [AL]; omega) fun BQ H row2 _ E3 o=>?_;refine tw w ?_;exact A5 (BQ,row2) B8 ⟨by show row2.length=_; omega,o⟩ rfl
    ·refine tt ?_;apply bk <;> intro h5
     ·have Ho:=A7 h5;refine tw h5 ?_;apply bk <;> intro h6
      ·have Ln:=A7 h6
       have hq:=qrow f Ho;refine tt ?_;refine AK o.tl.tl (by simp) (tt ?_);refine ⟨by omega,by omega, ?_⟩;refine BG _ o rfl rfl (by simp only [AL]; omega) fun BQ H row2 _ E3 o=>?_;refine tw w ?_;exact A5 (BQ,row2) B8 ⟨by show row2.length=_; omega,o⟩ rfl
      ·refine tt ?_;refine AK o.tl.tl (by simp) (tt ?_);refine ⟨by omega,tt ?_⟩;refine AK o.tl.tl (by simp) (tt ?_);refine ⟨by omega,tt ?_⟩;refine BG _ o rfl rfl (by simp only [AL]; omega) fun BQ H row2 _ E3 o=>?_;refine tw w ?_;exact A5 (BQ,row2) B8 ⟨by show row2.length=_; omega,o⟩ rfl
     ·refine tw h5 ?_;refine AK o.tl.tl (by simp) (tt ?_);refine ⟨by omega,tt ?_⟩;refine AK o.tl.tl (by simp) (tt ?_);refine ⟨by omega,tt ?_⟩;refine BG _ o rfl rfl (by simp only [AL]; omega) fun BQ H row2 _ E3 o=>?_;refine tw w ?_;exact A5 (BQ,row2) B8 ⟨by show row2.length=_; omega,o⟩ rfl
   ·have B8:=A9 h3
    have w:=ws f;refine tt ?_;refine Al o rfl fun H o=>tt ?_;refine Ad row o rfl rfl (by simp only [AL]; omega) fun jd H o=>?_;refine tw w ?_;refine A5 (jd,T++[row]) Ah ⟨by simp [hT], ?_,o⟩ rfl
    intro r BV
    rcases List.mem_append.mp BV with h | h
    ·exact rX r h
    ·rw [List.mem_singleton] at h; subst h; omega
  ·have Ah:=A9 h2;refine tt ?_;refine Al o rfl fun H o=>tt ?_;refine sw o fun H o=>tt ?_;refine Ac o (by simp) (tt ?_);refine sw o.swap fun H o=>tt ?_
   have BV:=o.rc 5 0 (by simp);simp only [List.drop_zero] at BV;rw [BV];refine tt ?_
   have hTA : T.length=A.length:=by omega
   refine Bj ⟨⟨qo,A,C,I,T⟩,rfl,⟨qob.1,Int.le_trans qob.2 (Int.ofNat_le.mpr (Nat.le_add_right _ _))⟩,qil,hAb,hC,hTA,fun x hx=>?_⟩ o.sub;exact rX _ (AE.mpr ⟨x,by rw [hTA]; exact hx,rfl⟩)
@[go_sem] def Dv (Cq BJ : Nat) (x0 : Int) (a : Nat) (A : List Int) (b : Nat) (C : List Int) (i : Nat) (I : List Int) (d : Nat) (D : List (List Int)) : Ob :=
 [(Cq,.cells 5 [iI x0,.buf a A.length,.buf b C.length,.buf i I.length,.buf d D.length] 0),(a,.cells 1 (A.map iI) 0),(b,.cells 1 (C.map iI) 0),(i,.cells 1 (I.map iI) 0),(d,.cells 1 (D.map iL) 0),(BJ,.cells 5 [iI 0,.A1,.A1,.A1,.A1] 0)]
theorem QK (B N M : Nat) (hN : N≤65536) (hM : M≤65536) (hNM : N*M≤65536) (c e : Ay) (hc : c.Sh N) (he : e.Sh M) : Jq B 208 [.agg c.cells,.agg e.cells] (QN (N*M)):=by
 intro H0;refine ir.go fun _=>?_
 obtain ⟨cob,cil,cml,ctl,ccl,crow⟩:=hc
 obtain ⟨eob,eil,eml,etl,ecl,erow⟩:=he
 have gA : 0≤c.AO*e.AO:=Int.mul_nonneg cob.1 eob.1
 have hpN : c.AO*e.AO≤(N : Int)*(M : Int):=Int.mul_le_mul cob.2 eob.2 eob.1 (Int.natCast_nonneg N)
 have uz : ((N*M : Nat) : Int)=(N : Int)*(M : Int):=Int.natCast_mul N M
 have wo : IntKind.i64.wrap (c.AO*e.AO)=c.AO*e.AO:=wrap_i64 (by omega) (by omega)
 have hoe : c.AO*e.AO=((c.AO.toNat*e.AO.toNat : Nat) : Int):=by rw [Int.natCast_mul,Int.toNat_of_nonneg cob.1,Int.toNat_of_nonneg eob.1]
 have hMo : ∀ x,x≤c.AO.toNat→x*e.AO.toNat≤N*M:=fun x hx=>Nat.mul_le_mul (by omega) (by omega)
 have hMf : ∀ x,x≤c.AJ.length→x*e.AJ.length≤N*M:=fun x hx=>Nat.mul_le_mul (by omega) (by omega);refine tw wo ?_;refine Ai (.nil _) fun BJ H o=>?_;refine tw wo ?_;refine Ae o fun a H o=>tt ?_;refine Ae o fun b H o=>tt ?_;refine Ae o fun i H o=>tt ?_;refine Ae o fun d H o=>tt ?_;refine Ai o fun Cq H o=>tt ?_;refine sw o fun H o=>tt ?_
 refine AD [2,3,4,5,6,7] (G:=Nat × List Int) (fun k _=>[(8,some (.int .i64 (k : Int)))])
  (fun k g H=>g.2.length=k*e.AO.toNat∧AA H0 H (Dv Cq BJ (c.AO*e.AO) a [] b [] g.1 g.2 d [])) c.AO.toNat (i,[]) ⟨by simp,by unfold Dv; exact o.pm⟩ rfl ?_
 clear o
 rintro k ⟨i,I⟩ H hk ⟨hI,o⟩;dsimp only at hI o;refine tt ?_;apply bk <;> intro h1
 ·have AR:=A7 h1
  have TG:=hMo (k+1) (by omega);rw [Nat.succ_mul] at TG;refine tt ?_
  refine AD [2,3,4,5,6,7,8] (G:=Nat × List Int) (fun j _=>[(9,some (.int .i64 (j : Int)))])
   (fun j g H=>g.2.length=k*e.AO.toNat+j∧AA H0 H (Dv Cq BJ (c.AO*e.AO) a [] b [] g.1 g.2 d [])) e.AO.toNat (i,I) ⟨hI,o⟩ rfl ?_
  clear o hI
  rintro j ⟨i,I⟩ H hj ⟨hI,o⟩;dsimp only at hI o;refine tt ?_;apply bk <;> intro h2
  ·have Ah:=A7 h2
   have w:=ws j;unfold Dv at o;refine tt ?_;refine AK o (by simp) (tt ?_);refine ⟨by omega,by omega, ?_⟩;refine BG _ (o.pull [_,_,_]) rfl rfl (by simp only [AL]; omega) fun i H I2 _ hI2 o=>tt ?_;refine sw o.swap fun H o=>?_;refine tw w ?_;refine A5 (i,I2) (by omega) ⟨by show I2.length=_; omega, ?_⟩ rfl
   try unfold Dv
   exact o.pm
  ·have Ah:=A9 h2
   have w:=ws k;refine tw w ?_;exact A5 (i,I) (by omega) ⟨by show I.length=_; rw [Nat.succ_mul]; omega,o⟩ rfl
 ·have AR:=A9 h1
  obtain rfl : k=c.AO.toNat:=by omega
  clear h1 AR hk;refine tt ?_
  refine AD [2,3,4,5,6,7] (G:=(Nat × List Int) × (Nat × List Int) × (Nat × List (List Int))) (fun k _=>[(10,some (.int .i64 (k : Int)))])
   (fun k g H=>g.1.2.length=k*e.AJ.length∧g.2.1.2.length=k*e.AJ.length∧g.2.2.2.length=k*e.AJ.length∧(∀ r,r∈g.2.2.2→r.length=c.AJ.length*e.AJ.length) ∧
    AA H0 H (Dv Cq BJ (c.AO*e.AO) g.1.1 g.1.2 g.2.1.1 g.2.1.2 i I g.2.2.1 g.2.2.2)) c.AJ.length ((a,[]),(b,[]),(d,[])) ⟨by simp,by simp,by simp,by simp,o⟩ rfl ?_
  clear o
  rintro k ⟨⟨a,A⟩,⟨b,C⟩,⟨d,D⟩⟩ H hk ⟨hA,hC,hD,VY,o⟩;dsimp only at hA hC hD VY o;refine tt ?_;apply bk <;> intro h1
  ·have AR:=A7 h1
   have TG:=hMf (k+1) (by omega);rw [Nat.succ_mul] at TG
   have crk:=crow k AR;refine tt ?_
   refine AD [2,3,4,5,6,7,10] (G:=(Nat × List Int) × (Nat × List Int) × (Nat × List (List Int))) (fun j _=>[(11,some (.int .i64 (j : Int)))])
    (fun j g H=>g.1.2.length=k*e.AJ.length+j∧g.2.1.2.length=k*e.AJ.length+j∧g.2.2.2.length=k*e.AJ.length+j∧(∀ r,r∈g.2.2.2→r.length=c.AJ.length*e.AJ.length) ∧
     AA H0 H (Dv Cq BJ (c.AO*e.AO) g.1.1 g.1.2 g.2.1.1 g.2.1.2 i I g.2.2.1 g.2.2.2)) e.AJ.length ((a,A),(b,C),(d,D)) ⟨hA,hC,hD,VY,o⟩ rfl ?_
   clear o hA hC hD VY
   rintro j ⟨⟨a,A⟩,⟨b,C⟩,⟨d,D⟩⟩ H hj ⟨hA,hC,hD,VY,o⟩;dsimp only at hA hC hD VY o;refine tt ?_;apply bk <;> intro h2
   ·have Ah:=A7 h2
    have erj:=erow j Ah;unfold Dv at o;refine tt ?_;refine AK o (by simp) (tt ?_);refine ⟨by omega,by omega, ?_⟩;refine BG _ o.swap rfl rfl (by simp only [AL]; omega) fun a H A2 _ aZ o=>tt ?_;refine sw o.swap fun H o=>tt ?_;refine AK o (by simp) (tt ?_);refine ⟨by omega,by omega, ?_⟩;refine BG _ (o.pull [_,_]) rfl rfl (by simp only [AL]; omega) fun b H C2 _ hC2 o=>tt ?_;refine sw o.swap fun H o=>tt ?_
    have o : AA H0 H (Dv Cq BJ (c.AO*e.AO) a A2 b C2 i I d D):=by
     try unfold Dv
     exact o.pm
    refine Ae o fun BQ H o=>tt ?_
    refine AD [2,3,4,5,6,7,10,11] (G:=Nat × List Int) (fun f g=>[(12,some (.buf g.1 g.2.length)),(13,some (.int .i64 (f : Int)))])
     (fun f g H=>g.2.length=f*e.AJ.length∧AA H0 H ((g.1,AF.cells 1 (g.2.map iI) 0)::Dv Cq BJ (c.AO*e.AO) a A2 b C2 i I d D)) c.AJ.length (BQ,[]) ⟨by simp,o⟩ rfl ?_
    clear o
    rintro f ⟨BQ,row⟩ H hf ⟨hr,o⟩;dsimp only at hr o;refine tt ?_;apply bk <;> intro h3
    ·have B8:=A7 h3
     have TP:=hMf (f+1) (by omega);rw [Nat.succ_mul] at TP;refine tt ?_
     refine AD [2,3,4,5,6,7,10,11,13] (G:=Nat × List Int) (fun g r=>[(12,some (.buf r.1 r.2.length)),(14,some (.int .i64 (g : Int)))])
      (fun g r H=>r.2.length=f*e.AJ.length+g∧AA H0 H ((r.1,AF.cells 1 (r.2.map iI) 0)::Dv Cq BJ (c.AO*e.AO) a A2 b C2 i I d D)) e.AJ.length (BQ,row) ⟨hr,o⟩ rfl ?_
     clear o hr
     rintro g ⟨BQ,row⟩ H hg ⟨hr,o⟩;dsimp only at hr o;refine tt ?_;apply bk <;> intro h4
     ·have Cr:=A7 h4
      have w:=ws g;refine tt ?_;refine ⟨by omega,by omega,tt ?_⟩;apply bk <;> intro h5
      ·refine tw h5 ?_;refine ⟨by omega,by omega,tt ?_⟩;apply bk <;> intro h6
       ·refine tt ?_;refine ⟨by omega,by omega,by omega,by omega, ?_⟩;refine BG _ o rfl rfl (by simp only [AL]; omega) fun BQ H row2 _ E3 o=>?_;refine tw w ?_;exact A5 (BQ,row2) Cr ⟨by show row2.length=_; omega,o⟩ rfl
       ·refine tt ?_;refine BG _ o rfl rfl (by simp only [AL]; omega) fun BQ H row2 _ E3 o=>?_;refine tw w ?_;exact A5 (BQ,row2) Cr ⟨by show row2.length=_; omega,o⟩ rfl
      ·refine tw h5 ?_;refine BG _ o rfl rfl (by simp only [AL]; omega) fun BQ H row2 _ E3 o=>?_;refine tw w ?_;exact A5 (BQ,row2) Cr ⟨by show row2.length=_; omega,o⟩ rfl
     ·have Cr:=A9 h4
      have w:=ws f;refine tw w ?_;exact A5 (BQ,row) B8 ⟨by show row.length=_; rw [Nat.succ_mul]; omega,o⟩ rfl
    ·have B8:=A9 h3
     obtain rfl : f=c.AJ.length:=by omega
     have w:=ws j;unfold Dv at o;refine tt ?_;refine Al o rfl fun H o=>tt ?_;refine AK o (by simp) (tt ?_);refine BG row (o.pull [_,_,_,_]) rfl rfl (by simp only [AL]; omega) fun d H D2 eD hD2 o=>tt ?_;refine sw o.swap fun H o=>?_;refine tw w ?_;refine A5 ((a,A2),(b,C2),(d,D2)) Ah ⟨by show A2.length=_; omega,by show C2.length=_; omega,by show D2.length=_; omega,fun r BV=>?_, ?_⟩ rfl
     ·dsimp only at BV;rw [eD] at BV
      rcases List.mem_append.mp BV with h | h
      ·exact VY r h
      ·rw [List.mem_singleton] at h; subst h; exact hr
     ·try unfold Dv
      exact o.pm
   ·have Ah:=A9 h2
    have w:=ws k;refine tw w ?_;exact A5 ((a,A),(b,C),(d,D)) AR ⟨by show A.length=_; rw [Nat.succ_mul]; omega,by show C.length=_; rw [Nat.succ_mul]; omega,by show D.length=_; rw [Nat.succ_mul]; omega,VY,o⟩ rfl
  ·have AR:=A9 h1
   obtain rfl : k=c.AJ.length:=by omega
   have hAb : A.length≤N*M:=by rw [hA]; exact hMf _ (Nat.le_refl _)
   unfold Dv at o;refine tt ?_
   have o : AA H0 H [(Cq,AF.cells 5 [iI (c.AO*e.AO),.buf a A.length,.buf b C.length,.buf i I.length,.buf d D.length] 0),(d,AF.cells 1 (D.map iL) 0),(a,AF.cells 1 (A.map iI) 0),(b,AF.cells 1 (C.map iI) 0),(i,AF.cells 1 (I.map iI) 0),(BJ,AF.cells 5 [iI 0,.A1,.A1,.A1,.A1] 0)]:=o.pm;refine B5 4 o rfl rfl fun H o=>?_;have o:=s1 o;refine B5 1 o rfl rfl fun H o=>?_;have o:=s1 o;refine B5 2 o rfl rfl fun H o=>?_;have o:=s1 o;refine B5 3 o rfl rfl fun H o=>AY ?_;have o:=s1 o;refine tt ?_;refine Ac o (by simp) (tt ?_);refine sw o.swap fun H o=>tt ?_
   have BV:=o.rc 5 0 (by simp);simp only [List.drop_zero] at BV;rw [BV];refine tt ?_
   have n4 : D.length=A.length:=by omega
   refine Bj ⟨⟨c.AO*e.AO,A,C,I,D⟩,rfl,⟨gA,by show c.AO*e.AO≤_; omega⟩,by show (I.length : Int)=c.AO*e.AO; omega,hAb,by show C.length=A.length; omega,n4,fun x hx=>?_⟩ o.sub;rw [VY _ (AE.mpr ⟨x,by rw [n4]; exact hx,rfl⟩)]; exact hA.symm
end Go.Proofs.Shf
namespace Go.AW
theorem RB {α : Type} {f : α→AV} : ∀ (ms : List (Nat × List α)) (x : Nat) (h : x<ms.length),∃ r,(inner f ms).Perm (((ms.getD x default).1,AF.cells 1 ((ms.getD x default).2.map f) 0)::r) ∧
  ∀ m : Nat × List α,(inner f (ms.set x m)).Perm ((m.1,AF.cells 1 (m.2.map f) 0)::r)
 | [],x,h=>by simp at h
 | m::ms,0,h=>⟨inner f ms,.refl _,fun m'=>.refl _⟩
 | m::ms,x+1,h=>by
  obtain ⟨r,h1,h2⟩:=RB ms x (by simpa using h);refine ⟨(m.1,AF.cells 1 (m.2.map f) 0)::r, ?_,fun m'=>?_⟩
  ·exact (List.Perm.cons _ h1).trans (.swap _ _ _)
  ·exact (List.Perm.cons _ (h2 m')).trans (.swap _ _ _)
theorem HP {α : Type} [Inhabited α] {f : α→AV} [One f] {H0 H : AB} {l : Ob} {K : Am} {id fr : Nat} {ms : List (Nat × List α)} (o : AA H0 H ((id,.cells 1 (ms.map CM) fr)::(inner f ms++l))) {x y : Nat} (hx : x<ms.length) (hy : y<(ms.getD x default).2.length) (v : α) {c : AV} (hc : c=f v)
  (hk : ∀ H',AA H0 H' ((id,.cells 1 ((ms.set x ((ms.getD x default).1,(ms.getD x default).2.set y v)).map CM) fr)::(inner f (ms.set x ((ms.getD x default).1,(ms.getD x default).2.set y v))++l))→K nv H') :
  OZ (H.get (ms.getD x default).1) (ms.getD x default).1 y 1 [c] K H:=by
 subst hc
 obtain ⟨r,h1,h2⟩:=RB (f:=f) ms x hx
 have o1 : AA H0 H (((ms.getD x default).1,AF.cells 1 ((ms.getD x default).2.map f) 0)::(id,.cells 1 (ms.map CM) fr)::(r++l)):=by
  refine o.perm (((List.Perm.append_right l h1).cons _).trans ?_);simp only [List.cons_append];exact .swap _ _ _
 refine Ap o1 (by rw [List.length_map]; omega) rfl (by simp [One.one]) fun H' o2=>?_
 have e1 : wr ((ms.getD x default).2.map f) y [f v]=((ms.getD x default).2.set y v).map f:=by
  simp [wr,List.map_set]
 have e2 : (ms.set x ((ms.getD x default).1,(ms.getD x default).2.set y v)).map CM=ms.map (CM (α:=α)):=by
  rw [List.map_set];apply List.ext_getElem?
  intro j
  by_cases hj : x=j
  ·subst hj;rw [List.getElem?_set_self (by simpa using hx)]
   simp [hx,CM,gE]
  ·rw [List.getElem?_set_ne hj]
 rw [e1] at o2;refine hk H' ?_;rw [e2];refine o2.perm ((List.Perm.swap _ _ _).trans (.cons _ ?_))
 have:=List.Perm.append_right l (h2 ((ms.getD x default).1,(ms.getD x default).2.set y v)).symm
 simpa using this
end Go.AW
namespace Go.Proofs.Shf
open Go.AW Go.Proofs Go.Shf
theorem Rd.FT {B : Nat} {fn : FuncId} {args : List AV} {Q : AV→Prop} {id : Nat} {s : Src} {H0 H : AB} {l : List (Nat × AF)} {K : Am} (h : Rd B fn args Q) (hs : s.Ok) (o : AA H0 H ((id,s.obj)::l))
  (hk : ∀ (r : AV) (s' : Src) (H' : AB),r.EY→Q r→s'.Ok→AA H0 H' ((id,s'.obj)::l)→(∀ z,z≠3→H.Qf z H')→K r H') : CB B fn (.ref id 0::args) H K :=
 (h id s _ H hs o.self).Iu fun r H' hf ⟨q,s',Hl,o'⟩=>hk r s' H' hf q Hl (o.del.trans o') fun z hz i cs f e=>by
  have h0:=o.h0;refine o'.sub i _ ?_;rw [AB.C3]
  ·exact e
  ·rintro rfl;simp only at h0;rw [h0] at e;simp only [Src.obj] at e
   cases e;exact hz rfl
theorem JL (B n : Nat) (hn : n≤4) : Rd B 269 [iI n] (SqQ 4):=by
 intro id s H0 H hs o;refine xF.go fun _=>?_;refine tt ?_;refine Ae o fun Jl H o=>tt ?_
 refine AD [0,1] (G:=Src × Nat × List (Nat × List Int)) (fun k g=>[(5,some (.buf g.2.1 g.2.2.length)),(6,some (.int .i64 (k : Int)))])
  (fun k g H=>g.1.Ok∧g.2.2.length=k∧(∀ m,m∈g.2.2→m.2.length=n)∧AA H0 H ((g.2.1,AF.cells 1 (g.2.2.map CM) 0)::(inner iI g.2.2++[(id,g.1.obj)]))) n (s,Jl,[]) ⟨hs,rfl,by simp,o⟩ rfl ?_
 clear o hs
 rintro k ⟨s,Jl,ms⟩ H hk ⟨hs,E6,KC,o⟩;dsimp only at hs E6 KC o;refine tt ?_;refine ⟨fun h1=>At.mk ?_,fun h1=>At.mk ?_⟩
 ·have AR:=A7 h1;refine tt ?_;refine ⟨by simp only [AL]; omega, ?_⟩;refine DD iI 0 rfl o fun BQ H o=>tt ?_;refine ⟨by omega,Bw 1 o rfl (by simp; omega) fun H o=>?_⟩
  have wk1:=ws k;refine tw wk1 ?_
  refine AD [0,1,5,6,7] (G:=Src × List Int) (fun q g=>[(8,some (.int .i64 ((k+1+q : Nat) : Int)))])
   (fun q g H=>g.1.Ok∧g.2.length=n∧AA H0 H ((BQ,AF.cells 1 (g.2.map iI) 0)::(Jl,AF.cells 1 (ms.map CM) 0)::(inner iI ms++[(id,g.1.obj)]))) (n - (k+1)) (s,(List.replicate n 0).set k 1) ⟨hs,by simp,o⟩ rfl ?_
  clear o hs
  rintro q ⟨s,row⟩ H hq ⟨hs,hr,o⟩;dsimp only at hs hr o;refine tt ?_;refine ⟨fun h2=>At.mk ?_,fun h2=>At.mk ?_⟩
  ·have Ah:=A7 h2
   have w:=Pe (k:=k+1+q) (by omega);refine tt ?_
   have o : AA H0 H ((id,s.obj)::(BQ,AF.cells 1 (row.map iI) 0)::(Jl,AF.cells 1 (ms.map CM) 0)::inner iI ms):=o.pm;refine (AZ B 2).go hs o fun r s H _ ⟨v,e,_⟩ hs o=>?_;subst e;refine tt ?_;refine ⟨by omega, ?_⟩
   have o:=o.swap;refine Bw v o rfl (by omega) fun H o=>?_;refine tw w ?_;refine A5 (s,row.set (k+1+q) v) (by omega) ⟨hs,by simp [hr],o.pm⟩ rfl
  ·have Ah:=A9 h2
   have w:=ws k;refine tt ?_;refine Ad (f:=CM) (BQ,row) o.swap (by simp [CM,hr]) rfl (by simp only [AL]; omega) fun Jl H o=>?_;refine tw w ?_;refine A5 (s,Jl,ms++[(BQ,row)]) AR ⟨hs,by simp [E6], ?_, ?_⟩ rfl
   ·intro m hm
    rcases List.mem_append.mp hm with h | h
    ·exact KC m h
    ·rw [List.mem_singleton] at h; subst h; exact hr
   ·refine o.perm (.cons _ ?_);simp only [inner,List.map_append,List.map_cons,List.map_nil,List.append_assoc,List.cons_append,List.nil_append];exact List.perm_middle.symm
 ·have AR:=A9 h1
  obtain rfl : k=n:=by omega
  clear h1 AR hk;refine tt ?_
  have o : AA H0 H ((id,s.obj)::(Jl,AF.cells 1 (ms.map CM) 0)::inner iI ms):=o.pm;refine ⟨fun h2=>At.mk ?_,fun h2=>At.mk ?_⟩
  case' refine_1 =>
   have Ah:=A7 h2;refine tw h2 ?_;refine (AZ B 4).go hs o fun r s H _ ⟨v,e,_⟩ hs o=>?_;subst e;refine tt ?_;refine ⟨fun h3=>At.mk ?_,fun h3=>At.mk ?_⟩
   case' refine_1 =>
    have wp : IntKind.i64.wrap ((k : Int) - 1)=((k - 1 : Nat) : Int):=K1 (by omega) (by omega);refine tw wp ?_;refine ⟨by omega,⟨_,_,o.tl.h0⟩,AK o.tl (by simp; omega) ?_⟩;refine tt ?_;refine (AZ B k).FT hs o fun r s H _ ⟨v,e,KB,CF,_⟩ hs o hz=>⟨hz, ?_⟩;subst e
    have CF:=CF (by omega)
    have hrk:=KC (ms.getD (k - 1) default) (AE.mpr ⟨k - 1,by omega,rfl⟩);rw [getD_map ms (by omega)];refine tt ?_;refine ⟨by omega, ?_⟩
    have o : AA H0 H ((Jl,AF.cells 1 (ms.map CM) 0)::(inner iI ms++[(id,s.obj)])):=o.pm;refine HP o (by omega) (by omega) 1 rfl fun H o=>?_
    have E6 : (ms.set (k - 1) ((ms.getD (k - 1) default).1,(ms.getD (k - 1) default).2.set v.toNat 1)).length=k:=by simp [E6]
    have KC : ∀ m,m∈ms.set (k - 1) ((ms.getD (k - 1) default).1,(ms.getD (k - 1) default).2.set v.toNat 1)→m.2.length=k:=by
     intro m hm
     rcases List.mem_or_eq_of_mem_set hm with h | h
     ·exact KC m h
     ·rw [h]; simpa using hrk
    generalize ms.set (k - 1) ((ms.getD (k - 1) default).1,(ms.getD (k - 1) default).2.set v.toNat 1)=ms at E6 KC o
    have o : AA H0 H ((id,s.obj)::(Jl,AF.cells 1 (ms.map CM) 0)::inner iI ms):=o.pm
  all_goals
   try (try simp only [go_sem,↓reduceIte,reduceEqDiff,reduceAdd,reduceMul,reduceLeDiff,reduceLT,h2])
   clear h2
   have o : AA H0 H ((Jl,AF.cells 1 (ms.map CM) 0)::(inner iI ms++[(id,s.obj)])):=o.pm
   generalize Vd : ms.length=m0
   replace Vd : m0=k:=by omega
   refine AD [1,5] (G:=List (Nat × List Int)) (fun x _=>[(9,some (.int .i64 (x : Int)))]) (fun _ ms H=>ms.length=k∧(∀ m,m∈ms→m.2.length=k)∧AA H0 H ((Jl,AF.cells 1 (ms.map CM) 0)::(inner iI ms++[(id,s.obj)]))) k ms ⟨E6,KC,o⟩ rfl ?_;clear o E6 KC
   rintro x ms H hx ⟨E6,KC,o⟩
   replace E6 : ms.length=k:=E6
   replace KC : ∀ m,m∈ms→m.2.length=k:=KC
   replace o : AA H0 H ((Jl,AF.cells 1 (ms.map CM) 0)::(inner iI ms++[(id,s.obj)])):=o;refine tt ?_;refine ⟨fun g1=>At.mk ?_,fun g1=>At.mk ?_⟩
   ·have CK:=A7 g1
    have wx:=ws x;refine tt ?_;refine AD [1,5,9] (G:=List (Nat × List Int)) (fun y _=>[(10,some (.int .i64 (y : Int)))]) (fun _ ms H=>ms.length=k∧(∀ m,m∈ms→m.2.length=k)∧AA H0 H ((Jl,AF.cells 1 (ms.map CM) 0)::(inner iI ms++[(id,s.obj)]))) k ms ⟨E6,KC,o⟩ rfl ?_;clear o E6 KC
    rintro y ms H hy ⟨E6,KC,o⟩
    replace E6 : ms.length=k:=E6
    replace KC : ∀ m,m∈ms→m.2.length=k:=KC
    replace o : AA H0 H ((Jl,AF.cells 1 (ms.map CM) 0)::(inner iI ms++[(id,s.obj)])):=o;refine tt ?_;refine ⟨fun g2=>At.mk ?_,fun g2=>At.mk ?_⟩
    ·have CO:=A7 g2
     have wy:=ws y;refine tt ?_;refine AD [1,5,9,10] (G:=List (Nat × List Int)) (fun z _=>[(11,some (.int .i64 (z : Int)))]) (fun _ ms H=>ms.length=k∧(∀ m,m∈ms→m.2.length=k)∧AA H0 H ((Jl,AF.cells 1 (ms.map CM) 0)::(inner iI ms++[(id,s.obj)]))) k ms ⟨E6,KC,o⟩ rfl ?_;clear o E6 KC
     rintro z ms H hz ⟨E6,KC,o⟩
     replace E6 : ms.length=k:=E6
     replace KC : ∀ m,m∈ms→m.2.length=k:=KC
     replace o : AA H0 H ((Jl,AF.cells 1 (ms.map CM) 0)::(inner iI ms++[(id,s.obj)])):=o;refine tt ?_;refine ⟨fun g3=>At.mk ?_,fun g3=>At.mk ?_⟩
     ·have Dh:=A7 g3
      have wz:=ws z
      have hry:=KC (ms.getD y default) (AE.mpr ⟨y,by omega,rfl⟩)
      have jF:=KC (ms.getD x default) (AE.mpr ⟨x,by omega,rfl⟩);refine tt ?_;refine ⟨by omega,AK o (by simp; omega) ?_⟩;rw [getD_map ms (by omega)];refine tt ?_;refine ⟨by omega,Bo (o.FF (by omega)) (by omega) ?_⟩;refine tt ?_;refine ⟨fun g4=>At.mk ?_,fun g4=>At.mk ?_⟩
      case' refine_1 =>
       refine tw g4 ?_;refine ⟨by omega,AK o (by simp; omega) ?_⟩;rw [getD_map ms (by omega)];refine tt ?_;refine ⟨by omega,Bo (o.FF (by omega)) (by omega) ?_⟩;refine tt ?_;refine ⟨fun g5=>At.mk ?_,fun g5=>At.mk ?_⟩
       case' refine_1 =>
        refine tt ?_;refine ⟨by omega,AK o (by simp; omega) ?_⟩;rw [getD_map ms (by omega)];refine tt ?_;refine ⟨by omega, ?_⟩;refine HP o (by omega) (by omega) 1 rfl fun H o=>?_
        have E6 : (ms.set y ((ms.getD y default).1,(ms.getD y default).2.set z 1)).length=k:=by simp [E6]
        have KC : ∀ m,m∈ms.set y ((ms.getD y default).1,(ms.getD y default).2.set z 1)→m.2.length=k:=by
         intro m hm
         rcases List.mem_or_eq_of_mem_set hm with h | h
         ·exact KC m h
         ·rw [h]; simpa using hry
        generalize ms.set y ((ms.getD y default).1,(ms.getD y default).2.set z 1)=ms at E6 KC o
      all_goals
       try (try simp only [go_sem,↓reduceIte,reduceEqDiff,reduceAdd,reduceMul,reduceLeDiff,reduceLT,g4])
       try (try simp only [go_sem,↓reduceIte,reduceEqDiff,reduceAdd,reduceMul,reduceLeDiff,reduceLT,wz])
       exact A5 ms Dh ⟨E6,KC,o⟩ rfl
     ·refine tw wy ?_;exact A5 ms CO ⟨E6,KC,o⟩ rfl
    ·refine tw wx ?_;exact A5 ms CK ⟨E6,KC,o⟩ rfl
   ·refine tt ?_;refine Sq (f:=iI) ms [] H o fun H o=>AY ?_;simp only [List.nil_append] at o;refine tt ?_;refine Al (f:=iL) o (by simp; omega) fun H o=>tt ?_;refine Ax ⟨ms.map Prod.snd,rfl,by simp; omega,fun i hi=>?_⟩ hs o
    have Fh : i<ms.length:=by simpa using hi
    have e1 : (ms.map Prod.snd).getD i default=(ms.getD i default).2:=by simp [gE,Fh]
    rw [e1,KC _ (AE.mpr ⟨i,Fh,rfl⟩)]; simp [E6]
end Go.Proofs.Shf
namespace Go.Shf
open Go.AW
def Sv (ms : List (Nat × List Bool)) : Nat:=(ms.map fun m=>(m.2.filter fun b=>!b).length).sum
theorem fK (l : List Bool) (y : Nat) (h : y<l.length) (h0 : l.getD y default=false) : ((l.set y true).filter fun b=>!b).length+1=(l.filter fun b=>!b).length:=by
 induction l generalizing y with
 | nil=>simp at h
 | cons a l ih =>
  cases y with
  | zero =>
   simp only [List.getD_cons_zero] at h0;subst h0
   simp [List.set]
  | succ y =>
   have:=ih y (by simpa using h) (by simpa using h0);simp only [List.set,List.filter_cons]
   split <;> simp_all <;> omega
theorem fL (ms : List (Nat × List Bool)) (x y : Nat) (hx : x<ms.length) (hy : y<(ms.getD x default).2.length) (h0 : (ms.getD x default).2.getD y default=false) :
  Sv (ms.set x ((ms.getD x default).1,(ms.getD x default).2.set y true))+1=Sv ms:=by
 induction ms generalizing x with
 | nil=>simp at hx
 | cons a ms ih =>
  cases x with
  | zero =>
   simp only [List.getD_cons_zero] at hy h0 ⊢
   have:=fK a.2 y hy h0;simp only [Sv,List.set,List.map_cons,List.sum_cons];omega
  | succ x =>
   have:=ih x (by simpa using hx) (by simpa using hy) (by simpa using h0);simp only [List.getD_cons_succ,Sv,List.set,List.map_cons,List.sum_cons] at this ⊢;omega
theorem U8 {L : List (List (List Int))} {ms : List (Nat × List Bool)} (hM : DU L (ms.map Prod.snd)) (x y : Nat) (hx : x<ms.length) (b : Bool) : DU L ((ms.set x ((ms.getD x default).1,(ms.getD x default).2.set y b)).map Prod.snd):=by
 refine ⟨by simpa using hM.len,fun z hz=>?_⟩
 have hz2:=hM.row z hz
 have hl : z<ms.length:=by have:=hM.len; simp at this; omega
 rw [BB _ (by simpa using hl)] at ⊢;rw [BB _ hl] at hz2;rw [BH]
 split
 ·rename_i e
  obtain ⟨rfl,_⟩:=e;simp only [List.length_set]; exact hz2
 ·exact hz2
end Go.Shf
namespace Go.Proofs.Shf
open Go.AW Go.Proofs Go.Shf
def mZ (L : List (List (List Int))) (ms : List (Nat × List Bool)) (id : Nat) (l : Ob) (H0 : AB) : Am:=fun r H' =>
 (r=.bool false∧AA H0 H' ((id,.cells 1 (ms.map CM) 0)::(inner AV.bool ms++l))) ∨
 (r=.bool true∧∃ ms' : List (Nat × List Bool),ms'.length=ms.length∧DU L (ms'.map Prod.snd)∧Sv ms'<Sv ms∧AA H0 H' ((id,.cells 1 (ms'.map CM) 0)::(inner AV.bool ms'++l)))
theorem Tw (B : Nat) (c : Ay) (L : List (List (List Int))) (t : Ds c L) (ms : List (Nat × List Bool)) (hM : DU L (ms.map Prod.snd)) (id : Nat) (H0 H : AB) (l : List (Nat × AF))
  (o : AA H0 H ((id,.cells 1 (ms.map CM) 0)::(inner AV.bool ms++l))) :
  CB B 296 [.agg (BE c L),.buf id ms.length] H (mZ L ms id l H0):=by
 refine nE.go fun _=>?_
 have hm:=t.is.1.m
 have DS:=t.is.1.HN
 have E6:=hM.len
 have hmM : (ms.map Prod.snd).length=ms.length:=List.length_map ..
 have nS:=Hg (c:=c) (L:=L)
 have Kn:=JY (c:=c) (L:=L)
 have hLo:=t.len
 have F3:=t.is.1.o
 have gM : ∀ x : Nat,x<ms.length→((ms.getD x default).2).length=(L.getD x default).length:=fun x hx=>by rw [← BO ms hx]; exact hM.row x (by omega)
 have mgM : ∀ (x : Nat) (k : Int),x<ms.length→mg (ms.map Prod.snd) x k=ix (ms.getD x default).2 k:=fun x k hx=>by rw [mg,AH,BO ms hx]
 have stop : ∀ {Hn : AB} {v : AV} {x y : Nat},x<ms.length→y<(ms.getD x default).2.length→(ms.getD x default).2.getD y default=false →
   AA H0 Hn ((id,.cells 1 ((ms.set x ((ms.getD x default).1,(ms.getD x default).2.set y true)).map CM) 0)::(inner AV.bool (ms.set x ((ms.getD x default).1,(ms.getD x default).2.set y true))++l))→v=.bool true→Ik (mZ L ms id l H0) v Hn:=by
  intro Hn v x y hx hy h0 o h3
  have:=fL ms x y hx hy h0;exact ⟨Hn,.refl _,.inr ⟨h3,_,by simp,U8 hM x y hx true,by omega,o⟩⟩
 refine tt ?_;refine AD [1,2] (fun x _=>[(5,some (.int .i64 (x : Int)))]) (fun x _ H'=>H'=H∧∀ y,y<x→ZJ c L (ms.map Prod.snd) y) ms.length () ⟨rfl,by simp⟩ rfl ?_
 rintro x _ H' Rc ⟨rfl,Ak⟩;refine tt ?_;apply bk <;> intro h1
 rotate_left
 ·refine tt ?_
  have AR:=dd h1;exact ⟨H',.refl _,.inl ⟨rfl,o⟩⟩
 refine tt ?_
 have AR:=dd h1
 have w1:=ws x
 have Gm:=t.top (x:=x) (by omega)
 have B3:=gM x AR
 have Bc:=t.Yh x (by omega)
 have mC:=o.FF AR;refine ⟨AR,BU o AR ?_⟩;refine tt ?_;refine ⟨by omega,⟨Gm.1.1,by omega⟩,Bo mC (by omega) ?_⟩;refine tt ?_;apply bk <;> intro h2
 ·refine tw h2 ?_
  have Ah:=dd h2;refine ⟨AR,BU o AR ?_⟩;refine tt ?_;refine ⟨by omega,⟨Gm.1.1,by omega⟩, ?_⟩;refine HP o (by omega) (by omega) true rfl fun H o=>tt ?_;exact stop (by omega) (by omega) (by assumption) o rfl
 refine tw h2 ?_
 have Ah:=dd h2
 have hxt : mg (ms.map Prod.snd) x ((C4 c L).getD x default)=true:=by rw [mgM _ _ AR]; exact Ah
 refine AD [1,2,5] (fun s _=>[(6,some (.int .i64 (s : Int)))]) (fun s _ H2=>H2=H'∧∀ y,y<s→SOk c L (ms.map Prod.snd) x y) (ms.getD x default).2.length () ⟨rfl,by simp⟩ rfl ?_
 rintro s _ H2 Fg ⟨rfl,Q4⟩;refine tt ?_;refine ⟨AR,BU o AR ?_⟩;refine tt ?_;apply bk <;> intro h3
 rotate_left
 ·refine tw w1 ?_
  have B8:=dd h3;exact A5 () AR ⟨rfl,AG Ak ⟨hxt,fun y hy=>Q4 y (by rw [BO ms AR] at hy; omega)⟩⟩ rfl
 refine tt ?_
 have B8:=dd h3
 have w3:=ws s;refine ⟨AR,BU o AR ?_⟩;refine tt ?_;refine ⟨B8,Bo mC B8 ?_⟩;refine tt ?_;apply bk <;> intro h4
 ·refine t2 h4 w3 ?_
  have Cr:=dd h4;exact A5 () B8 ⟨rfl,AG Q4 fun e=>by rw [BO ms AR,Cr] at e; cases e⟩ rfl
 refine tw h4 ?_
 have Cr:=dd h4;refine AD [1,2,5,6] (fun a _=>[(7,some (.int .i64 (a : Int)))]) (fun a _ H3=>H3=H2∧∀ y,y<a→xO c L (ms.map Prod.snd) x s y) c.AJ.length () ⟨rfl,by simp⟩ rfl ?_
 rintro a _ H3 Np ⟨rfl,Q6⟩;refine tt ?_;rw [Kn];refine tt ?_;apply bk <;> intro h5
 ·refine tt ?_
  have Ho:=dd h5
  have w5:=ws a
  have Ge : 0≤(a : Int)∧(a : Int).toNat<c.AJ.length:=⟨by omega,by simpa using Ho⟩;refine ⟨Ho, ?_⟩;apply bk <;> intro h6
  rotate_left
  ·refine t2 h6 w5 ?_
   have Ln:=dd h6;exact A5 () Ho ⟨rfl,AG Q6 fun e=>absurd e Ln⟩ rfl
  refine tw h6 ?_
  have Ln:=dd h6
  have DS:=t.to Ge;simp only [AH,HU] at DS
  have sJ:=Ja (L:=L) Ge;simp only [AH] at sJ
  have iX : s<(ix L (ix c.AJ a)).length:=by rw [AH,Ln,AH,← B3]; exact B8
  have hp:=(t.pull Ge iX).1;simp only [AH] at hp
  have hy : (c.to.getD a default).toNat<ms.length:=by omega
  have vq:=o.FF hy
  have ko:=gM _ hy
  have gQ : ix ms (c.to.getD a default)=ms.getD (c.to.getD a default).toNat default:=rfl
  have tJ : ix L (c.to.getD a default)=L.getD (c.to.getD a default).toNat default:=rfl;simp only [AH] at iX;rw [tJ] at hp;refine ⟨by omega,⟨DS.1,hy⟩,BU o hy ?_⟩;refine tt ?_;refine ⟨by omega,by omega,⟨hp.1,by omega⟩,Bo vq (by omega) ?_⟩;refine tt ?_
  have wE : mg (ms.map Prod.snd) (c.to.getD a default) (((BC c L).getD a default).getD s default)=(ms.getD (c.to.getD a default).toNat default).2.getD (((BC c L).getD a default).getD s default).toNat default:=by
   have:=mgM (c.to.getD a default).toNat (((BC c L).getD a default).getD s default) hy;rw [Int.toNat_of_nonneg DS.1] at this;rw [this]; rfl
  apply bk <;> intro h7
  ·refine tw h7 ?_
   have Vb:=dd h7;refine ⟨by omega,⟨DS.1,hy⟩,BU o hy ?_⟩;refine tt ?_;refine ⟨by omega,by omega,⟨hp.1,by omega⟩, ?_⟩;refine HP o (by omega) (by omega) true rfl fun H o=>tt ?_;exact stop (by omega) (by omega) (by assumption) o rfl
  ·refine t2 h7 w5 ?_
   have Vb:=dd h7;exact A5 () Ho ⟨rfl,AG Q6 fun _=>by rw [wE]; exact Vb⟩ rfl
 ·refine tt ?_
  have Ho:=dd h5
  have ha0 : ∀ y,y<c.AJ.length→xO c L (ms.map Prod.snd) x s y:=fun y hy=>Q6 y (by omega);refine AD [1,2,5,6] (fun k _=>[(8,some (.int .i64 (k : Int)))]) (fun k _ H4=>H4=H3∧∀ y,y<k→KOk c L (ms.map Prod.snd) x s y) (ms.getD x default).2.length () ⟨rfl,by simp⟩ rfl ?_
  rintro k _ H4 Me ⟨rfl,Pv⟩;refine tt ?_;refine ⟨AR,BU o AR ?_⟩;refine tt ?_;apply bk <;> intro h8
  ·refine tt ?_
   have VL:=dd h8
   have w8:=ws k;refine ⟨AR,BU o AR ?_⟩;refine tt ?_;refine ⟨VL,Bo mC VL ?_⟩;refine tt ?_;apply bk <;> intro h9
   ·refine tw h9 ?_
    have wJ:=dd h9
    refine B7.FV (r:=.bool (dec (QT c L (ms.map Prod.snd) x s k))) (es:=[.agg (BE c L),vP (ms.map Prod.snd),.int .i64 x,.int .i64 s,.int .i64 k]) (.bool _) rfl (fun i hi=>?_)
     (Mv B c L t (ms.map Prod.snd) hM x s k (by omega) (by omega) (by omega)).run ?_
    ·obtain rfl | rfl | rfl | rfl | rfl : i=0∨i=1∨i=2∨i=3∨i=4:=by simp only [List.length_cons,List.length_nil] at hi; omega
     ·exact DA _
     ·exact Qz o rfl
     ·exact DA _
     ·exact DA _
     ·exact DA _
    refine tt ?_;apply bk <;> intro Yi
    ·refine tt ?_
     have aF:=dd Yi;refine ⟨AR,BU o AR ?_⟩;refine tt ?_;refine ⟨VL, ?_⟩;refine HP o (by omega) (by omega) true rfl fun H o=>tt ?_;exact stop (by omega) (by omega) (by assumption) o rfl
    ·refine tw w8 ?_
     have aF:=dd Yi;exact A5 () VL ⟨rfl,AG Pv (.inr aF)⟩ rfl
   ·refine t2 h9 w8 ?_
    have wJ:=dd h9;exact A5 () VL ⟨rfl,AG Pv (.inl (by rw [BO ms AR]; exact wJ))⟩ rfl
  ·refine tw w3 ?_
   have VL:=dd h8;exact A5 () B8 ⟨rfl,AG Q4 fun _=>⟨ha0,fun y hy=>Pv y (by rw [BO ms AR] at hy; omega)⟩⟩ rfl
end Go.Proofs.Shf
namespace Go.AW
section
variable {α : Type} [Inhabited α] {f : α→AV} {n : Nat} [h : ON n f] {H0 H : AB} {l : Ob} {K : Am}
theorem R0 : ∀ (l : List α) (x : Nat),(flat (l.map f)).drop (x*n)=flat ((l.drop x).map f)
 | l,0=>by simp
 | [],x+1=>by simp [flat]
 | a::r,x+1=>by
  have e : (x+1)*n=(f a).cells.length+x*n:=by rw [h.len a,Nat.succ_mul,Nat.add_comm]
  simp only [List.map_cons,flat,List.drop_succ_cons];rw [e,← List.drop_drop,List.drop_left];exact R0 r x
theorem OG {A : List α} {x : Nat} (hx : x<A.length) : ((flat (A.map f)).drop (x*n)).take n=(f (A.getD x default)).cells:=by
 rw [R0,List.drop_eq_getElem_cons hx,List.map_cons,flat,List.take_left' (h.len _)]
 congr 2
 simp [gE,hx]
theorem eX {A : List α} {x off : Nat} (hx : x<A.length) (ho : off<n) : (flat (A.map f)).getD (x*n+off) nv=(f (A.getD x default)).cells.getD off nv:=by
 rw [← OG (f:=f) (n:=n) hx];simp only [gE,List.getElem?_take,List.getElem?_drop];rw [if_pos ho]
theorem KT {A : List α} {x off m : Nat} (hx : x<A.length) (ho : off+m≤n) : x*n+off+m≤(flat (A.map f)).length:=by
 rw [HX (f:=f) (n:=n)]
 have:=Nat.mul_le_mul_right n (show x+1≤A.length by omega);rw [Nat.succ_mul] at this; omega
theorem cI : ∀ (vs a b c : List AV),vs.length=b.length→wr (a++(b++c)) a.length vs=a++(vs++c)
 | [],a,[],c,_=>by simp [wr]
 | v::vs,a,[],c,hl=>by simp at hl
 | [],a,d::b,c,hl=>by simp at hl
 | v::vs,a,d::b,c,hl=>by
  rw [wr]
  have e : (a++(d::b++c)).set a.length v=(a++[v])++(b++c):=by simp
  rw [e]
  have:=cI vs (a++[v]) b c (by simpa using hl)
  simpa using this
theorem jQ {A : List α} {x : Nat} (hx : x<A.length) (a : α) : wr (flat (A.map f)) (x*n) (f a).cells=flat ((A.set x a).map f):=by
 have e1 : A=A.take x++(A.getD x default::A.drop (x+1)):=by
  conv=>lhs; rw [← List.take_append_drop x A,List.drop_eq_getElem_cons hx]
  simp [gE,hx]
 have e2 : A.set x a=A.take x++(a::A.drop (x+1)):=by rw [List.set_eq_take_append_cons_drop,if_pos hx]
 have hl : (flat ((A.take x).map f)).length=x*n:=by rw [HX (f:=f) (n:=n),List.length_take,Nat.min_eq_left (by omega)]
 rw [e2]
 conv=>lhs; rw [e1]
 rw [List.map_append,List.map_append,Kt,Kt,List.map_cons,List.map_cons,flat,flat,← hl];exact cI _ _ _ _ (by rw [h.len,h.len])
theorem Wd {id x off fr : Nat} {A : List α} (o : AA H0 H ((id,.cells n (flat (A.map f)) fr)::l)) (hx : x<A.length) (ho : off<n) (hk : K ((f (A.getD x default)).cells.getD off nv) H) : M3 (H.get id) none (x*n+off) K H:=by
 refine AK o ?_ ?_
 ·have:=KT (f:=f) (n:=n) hx (show off+1≤n by omega); omega
 ·rw [eX hx ho]; exact hk
theorem Ns {id x fr : Nat} {A : List α} (o : AA H0 H ((id,.cells n (flat (A.map f)) fr)::l)) (hx : x<A.length) (hk : K (f (A.getD x default)) H) : M3 (H.get id) (some n) (x*n) K H:=by
 refine Ac o ?_ ?_
 ·have:=KT (f:=f) (n:=n) hx (show 0+n≤n by omega); omega
 ·rw [OG hx,← h.agg]; exact hk
theorem eR {id x : Nat} {A : List α} (o : AA H0 H ((id,.cells n (flat (A.map f)) 0)::l)) (hx : x<A.length) (a : α) {cs : List AV} (hc : cs=(f a).cells) (hk : ∀ H',AA H0 H' ((id,.cells n (flat ((A.set x a).map f)) 0)::l)→K nv H') : OZ (H.get id) id (x*n) n cs K H:=by
 subst hc;refine Ap o ?_ (h.len a) (h.one a) fun H' o'=>hk H' ?_
 ·have:=KT (f:=f) (n:=n) hx (show 0+n≤n by omega); omega
 ·rw [jQ hx] at o'; exact o'
theorem dB {id m : Nat} {A : List α} {cs : List AV} (o : AA H0 H ((id,.cells n (flat (A.map f)) 0)::l)) (hn : m=A.length) (h1 : cs.length=n) (h2 : ∀ c,c∈cs→c.one=true) (hm : (A.length+1)*n≤AL)
  (hk : ∀ CT H',AA H0 H' ((CT,.cells n (flat (A.map f)++cs) 0)::l)→K (.buf CT (A.length+1)) H') : DW n (some (.buf id m)) (some (.sl [.agg cs])) K H:=by
 subst hn
 have h0:=o.h0;simp only at h0
 have h3:=h.two;simp only [DW,h0,Ct,Gc]
 have hle : A.length+1≤AL:=Nat.le_trans (Nat.le_mul_of_pos_right _ (by omega)) hm;refine ⟨⟨trivial,HX A,hle,hm,fun e he=>?_⟩,fun CT hn=>?_⟩
 ·simp only [List.mem_singleton] at he; subst he; exact ⟨h1,h2⟩
 ·have Fc : flat [AV.agg cs]=cs:=by simp [flat,AV.cells]
  rw [Fc];exact hk CT _ (o.mv hn _)
end
structure Pt where
 AJ : Int
 to : Int
 Cl : List Int
 deriving Inhabited
@[go_sem] def K3 (p : Pt) : AV:=.agg [iI p.AJ,iI p.to,iL p.Cl]
instance : ON 3 K3:=⟨by omega,fun _=>rfl,fun _=>rfl,fun a c hc=>by
 simp only [K3,AV.cells,List.mem_cons,List.not_mem_nil,or_false] at hc
 rcases hc with rfl | rfl | rfl <;> rfl⟩
@[go_sem] theorem mz (l : List Pt) (k : IntKind) (i : Int) {d : Option Nat} {F : Env→AB→Prop} {σ : Env} {H : AB} :
  pE d F σ H (Hy 3 (some (mL K3 l)) (some (.int k i)))=((0≤i∧i.toNat<l.length)∧DN d F σ (.ptr [iI (ix l i).AJ,iI (ix l i).to,iL (ix l i).Cl]) H):=Pp (f:=K3) l k i
@[go_sem] theorem qn (l : List Pt) : Ee (some (mL K3 l))=some (True,.int .i64 l.length):=by simp [mL,Ee]
end Go.AW
namespace Go.Proofs.Shf
open Go.AW Go.Proofs Go.Shf
theorem SP (B : Nat) (p q : Pt) : Iz Tryz.prog B 319 [K3 p,K3 q] (.bool (dec (p.AJ<q.AJ∨p.AJ=q.AJ∧(p.to<q.to∨p.to=q.to∧cmp p.Cl q.Cl<0)))):=by
 intro H0;refine c319.go fun hf=>?_;refine tt ?_;apply bk <;> intro h1
 ·refine tt ?_
  have AR : p.AJ≠q.AJ:=by simpa using h1
  refine A6 ?_ (.refl _)
  congr 1; rw [BK]
  exact BX ⟨fun h=>.inl h,fun h=>h.elim id fun h=>absurd h.1 AR⟩
 ·have AR : p.AJ=q.AJ:=by simpa using h1
  refine tt ?_;apply bk <;> intro h2
  ·refine tt ?_
   have Ah : p.to≠q.to:=by simpa using h2
   refine A6 ?_ (.refl _)
   congr 1; rw [BK]
   exact BX ⟨fun h=>.inr ⟨AR,.inl h⟩,fun h=>h.elim (fun h=>by omega) fun h=>h.2.elim id fun h=>absurd h.1 Ah⟩
  ·have Ah : p.to=q.to:=by simpa using h2
   refine tt ?_;refine (KM ..).go fun _=>tt ?_;refine A6 ?_ (.refl _)
   congr 1
   exact BX ⟨fun h=>.inr ⟨AR,.inr ⟨Ah,h⟩⟩,fun h=>h.elim (fun h=>by omega) fun h=>h.2.elim (fun h=>by omega) fun h=>h.2⟩
end Go.Proofs.Shf
namespace Go.Shf
open Go.AW
structure Gr (n : Nat) (F T : List Int) : Prop where
 n3 : n≤3
 l3 : F.length≤3
 tl : T.length=F.length
 up : ∀ e,e<F.length→0≤F.getD e default∧F.getD e default<T.getD e default∧T.getD e default<n
def ZC (v : Int) : Nat:=if v=0 then 13 else if v=1 then 4 else 1
def aW (v : Int) : Nat:=if v=0 then 4 else if v=1 then 1 else 0
theorem jO (v : Int) : 1≤ZC v:=by unfold ZC; split <;> (try split) <;> omega
theorem wZ (v : Int) : 1+3*aW v≤ZC v:=by unfold ZC aW; split <;> (try split) <;> omega
theorem qX {v t : Int} (h0 : 0≤v) (h1 : v<t) (h2 : t<3) : ZC t≤aW v:=by
 unfold ZC aW
 by_cases e0 : v=0
 ·rw [if_pos e0]; split <;> (try split) <;> omega
 ·by_cases e1 : v=1
  ·rw [if_neg e0,if_pos e1,if_neg (by omega),if_neg (by omega)]; omega
  ·omega
def GX (P : List Pt) : Nat:=(P.map fun p=>ZC p.to).sum
theorem Oa (P Q : List Pt) : GX (P++Q)=GX P+GX Q:=by simp [GX]
theorem Pd : ∀ (P : List Pt),P.length≤GX P
 | []=>by simp [GX]
 | p::P=>by
  have:=Pd P
  have:=jO p.to;simp only [GX,List.map_cons,List.sum_cons,List.length_cons] at *;omega
def _root_.Go.AW.Pt.Ok (n : Nat) (p : Pt) : Prop:=(0≤p.AJ∧p.AJ<n)∧0≤p.to∧p.to<n
def PtQ (n : Nat) (r : AV) : Prop:=∃ P : List Pt,r=mL K3 P∧P.length≤18∧∀ p,p∈P→p.Ok n∧p.Cl.length≤18
def JC (n : Nat) (P : List Pt) : Prop:=∀ p,p∈P→p.Ok n∧p.Cl.length≤P.length
theorem JC.snoc {n : Nat} {P : List Pt} (h : JC n P) {p : Pt} (hp : p.Ok n) (hl : p.Cl.length≤P.length+1) : JC n (P++[p]):=fun q hq=>by
 rw [List.length_append,List.length_singleton]
 rcases List.mem_append.mp hq with h1 | h1
 ·exact ⟨(h q h1).1,by have:=(h q h1).2; omega⟩
 ·rw [List.mem_singleton] at h1; subst h1; exact ⟨hp,hl⟩
theorem JC.set {n : Nat} {P : List Pt} (h : JC n P) {x y : Nat} (hy : y<P.length) : JC n (P.set x (P.getD y default)):=fun q hq=>by
 rw [List.length_set]
 rcases List.mem_or_eq_of_mem_set hq with h1 | h1
 ·exact h q h1
 ·subst h1; exact h _ (AE.mpr ⟨y,hy,rfl⟩)
theorem JC.set' {n : Nat} {P Q : List Pt} (h : JC n P) (hq : JC n Q) (hl : P.length=Q.length) {x y : Nat} (hy : y<P.length) : JC n (Q.set x (P.getD y default)):=fun q hm=>by
 rw [List.length_set]
 rcases List.mem_or_eq_of_mem_set hm with h1 | h1
 ·exact hq q h1
 ·subst h1; rw [← hl]; exact h _ (AE.mpr ⟨y,hy,rfl⟩)
theorem ZA (P : List Pt) (a b : Int) (E : List Int) : flat (P.map K3)++[iI a,iI b,iL E]=flat ((P++[(⟨a,b,E⟩ : Pt)]).map K3):=by
 rw [List.map_append,Kt]; rfl
end Go.Shf
namespace Go.Proofs.Shf
open Go.AW Go.Proofs Go.Shf
theorem Yo (B n : Nat) (F T : List Int) (g : Gr n F T) : Jq B 302 [iI n,iL F,iL T] (PtQ n):=by
 intro H0;refine bh.go fun _=>?_
 obtain ⟨gn,gl,gt,gu⟩:=g;refine tt ?_;refine Ae (.nil _) fun FJ H o=>tt ?_
 refine AD [0,1,2] (G:=Nat × List Pt) (fun k g=>[(7,some (.buf g.1 g.2.length)),(8,some (.int .i64 (k : Int)))])
  (fun k g H=>g.2.length=k∧JC n g.2∧GX g.2≤(if k=0 then 0 else if k=1 then 13 else if k=2 then 17 else 18)∧AA H0 H [(g.1,AF.cells 3 (flat (g.2.map K3)) 0)]) n (FJ,[]) ⟨rfl,fun p hp=>by simp at hp,by simp [GX],o⟩ rfl ?_
 clear o
 rintro k ⟨FJ,P⟩ H hk ⟨hP,Eb,hw,o⟩;dsimp only at hP Eb hw o;refine tt ?_;refine ⟨fun h1=>At.mk ?_,fun h1=>At.mk ?_⟩
 ·have AR:=A7 h1
  have w:=ws k;refine tt ?_;refine J1 (f:=K3) (n:=3) ⟨(k : Int),(k : Int),[]⟩ o rfl rfl (by simp only [AL]; omega) fun FJ H o=>?_;refine tw w ?_;refine A5 (FJ,P++[⟨(k : Int),(k : Int),[]⟩]) AR ⟨by simp [hP], ?_, ?_,o⟩ rfl
  ·exact Eb.snoc ⟨⟨by show (0 : Int)≤(k : Int); omega,by show (k : Int)<n; omega⟩,by show (0 : Int)≤(k : Int); omega,by show (k : Int)<n; omega⟩ (Nat.zero_le _)
  ·show GX (P++[⟨(k : Int),(k : Int),[]⟩])≤_
   rw [Oa]
   have e : GX [(⟨(k : Int),(k : Int),[]⟩ : Pt)]=ZC k:=by simp [GX]
   rw [e]
   have : k=0∨k=1∨k=2:=by omega
   rcases this with rfl | rfl | rfl
   ·simp [ZC] at hw ⊢; omega
   ·simp [ZC] at hw ⊢; omega
   ·simp [ZC] at hw ⊢; omega
 ·have AR:=A9 h1
  obtain rfl : k=n:=by omega
  have mb : GX P≤18:=by
   refine Nat.le_trans hw ?_
   split <;> (try split) <;> (try split) <;> omega
  clear hw h1 AR hk;refine tt ?_
  refine AD [1,2] (G:=Nat × List Pt) (fun k g=>[(7,some (.buf g.1 g.2.length)),(9,some (.int .i64 (k : Int)))])
   (fun j g H=>JC k g.2∧j≤g.2.length∧GX (g.2.drop j)+j≤18∧AA H0 H [(g.1,AF.cells 3 (flat (g.2.map K3)) 0)]) 18 (FJ,P) ⟨Eb,by simp,by simpa using mb,o⟩ rfl ?_
  clear o Eb mb hP
  rintro j ⟨FJ,P⟩ H hj ⟨Eb,VW,hw,o⟩;dsimp only at Eb VW hw o
  have hlen : P.length≤18:=by
   have:=Pd (P.drop j);rw [List.length_drop] at this; omega
  refine tt ?_;refine ⟨fun h1=>At.mk ?_,fun h1=>At.mk ?_⟩
  case' refine_1 =>
   have AR:=A7 h1
   have Ah : decide ((P.length : Int)≤40)=true:=decide_eq_true (by omega);refine t2 h1 Ah ?_
   obtain ⟨pk,Qg⟩ : ∃ pk,P.getD j default=pk:=⟨_,rfl⟩
   have hw1 : GX (P.drop (j+1))+(j+1)+F.length*aW pk.to≤18:=by
    have e1 : P.drop j=[pk]++P.drop (j+1):=by
     rw [List.drop_eq_getElem_cons (by omega),← Qg]
     simp [gE,show j<P.length by omega]
    rw [e1,Oa] at hw
    have e2 : GX [pk]=ZC pk.to:=by simp [GX]
    have e3:=wZ pk.to
    have e4 : F.length*aW pk.to≤3*aW pk.to:=Nat.mul_le_mul_right _ gl;omega
   have jh : j<P.length:=by omega
   refine AD [1,2,9] (G:=Nat × List Pt) (fun k g=>[(7,some (.buf g.1 g.2.length)),(10,some (.int .i64 (k : Int)))])
    (fun e g H=>JC k g.2∧j<g.2.length∧g.2.getD j default=pk∧GX (g.2.drop (j+1))+(j+1)+(F.length - e)*aW pk.to≤18∧AA H0 H [(g.1,AF.cells 3 (flat (g.2.map K3)) 0)]) F.length (FJ,P) ⟨Eb,jh,Qg,hw1,o⟩ rfl ?_
   clear o Eb VW hw hlen Qg hw1 jh h1 Ah AR
   rintro e ⟨FJ,P⟩ H he ⟨Eb,VW,Qg,hw,o⟩;dsimp only at Eb VW Qg hw o
   have hlen : P.length≤18:=by
    have:=Pd (P.drop (j+1));rw [List.length_drop] at this; omega
   refine tt ?_;refine ⟨fun h2=>At.mk ?_,fun h2=>At.mk ?_⟩
   ·have Ah:=A7 h2
    have gue:=gu e Ah
    have we:=ws e
    have Cs : (F.length - e)*aW pk.to=(F.length - (e+1))*aW pk.to+aW pk.to:=by
     rw [show F.length - e=(F.length - (e+1))+1 by omega,Nat.succ_mul]
    refine tt ?_;refine ⟨by omega,by omega,Wd (f:=K3) (n:=3) o VW (by omega) ?_⟩;rw [Qg];refine tt ?_;refine ⟨fun h3=>At.mk ?_,fun h3=>At.mk ?_⟩
    ·have B8:=A7 h3;refine tt ?_
     have tK:=Eb pk (by rw [← Qg]; exact AE.mpr ⟨j,VW,rfl⟩)
     have hpo2:=tK.2;refine ⟨VW,⟨_,_,o.h0⟩,Wd (f:=K3) (n:=3) o VW (by omega) ?_⟩;rw [Qg];refine tt ?_;refine ⟨by omega,VW,⟨_,_,o.h0⟩,Wd (f:=K3) (n:=3) o VW (by omega) ?_⟩;rw [Qg];refine tt ?_;refine Gk.go' (FE B pk.Cl) o fun X1 p1 H ⟨Qj,e1,e2⟩ o hs=>⟨hs, ?_⟩;subst e1 e2;refine tt ?_;refine BG _ o rfl rfl (by simp only [AL]; omega) fun Qj H E _ hE o=>tt ?_;refine dB (f:=K3) (n:=3) o.swap rfl rfl (by first | (simp only [go_sem]; done) | ((try simp only [go_sem]); simp [AV.one,EP])) (by simp only [AL]; omega) fun FJ H o=>tt ?_;refine B5 (f:=iI) ((flat (P.map K3)).length+2) o (by rw [List.getElem?_append_right (by omega)]; simp) rfl fun H o=>AY ?_;rw [List.set_append_right _ _ (by omega),show (flat (P.map K3)).length+2 - (flat (P.map K3)).length=2 by omega] at o;have o:=s1 o
     have o : AA H0 H [(FJ,AF.cells 3 (flat ((P++[(⟨pk.AJ,T.getD e default,E⟩ : Pt)]).map K3)) 0)]:=by rw [← ZA]; exact o
     refine tw we ?_
     have D1:=qX gue.1 gue.2.1 (by omega);rw [B8] at D1;refine A5 (FJ,P++[(⟨pk.AJ,T.getD e default,E⟩ : Pt)]) Ah ⟨?_,by simp; omega, ?_, ?_,o⟩ (by simp)
     ·exact Eb.snoc ⟨tK.1.1,by show 0≤T.getD e default; omega,by show T.getD e default<k; omega⟩ (by show E.length≤_; omega)
     ·show (P++[_]).getD j default=pk
      rw [gE,List.getElem?_append_left VW,← gE]; exact Qg
     ·show GX ((P++[_]).drop (j+1))+(j+1)+(F.length - (e+1))*aW pk.to≤18
      rw [List.drop_append_of_le_length (by omega),Oa]
      have e2 : GX [(⟨pk.AJ,T.getD e default,E⟩ : Pt)]=ZC (T.getD e default):=by simp [GX]
      rw [e2]; omega
    ·refine tt ?_;refine AY ?_;refine tw we ?_;exact A5 (FJ,P) Ah ⟨Eb,VW,Qg,by show GX (P.drop (j+1))+(j+1)+_≤18; omega,o⟩ rfl
   ·have wj:=ws j;refine tw wj ?_;exact A5 (FJ,P) (by omega) ⟨Eb,VW,by show GX (P.drop (j+1))+(j+1)≤18; omega,o⟩ rfl
  case' refine_2 =>
   refine tw h1 ?_;clear hw hj VW h1
   generalize hL : P.length=L at *;refine AD [7] (G:=List Pt) (fun x _=>[(11,some (.int .i64 ((1+x : Nat) : Int)))]) (fun x P H=>P.length=L∧JC k P∧AA H0 H [(FJ,AF.cells 3 (flat (P.map K3)) 0)]) L P ⟨hL,Eb,o⟩ rfl ?_;clear o Eb hL
   rintro x P H hx ⟨hL,Eb,o⟩
   replace hL : P.length=L:=hL
   replace Eb : JC k P:=Eb
   replace o : AA H0 H [(FJ,AF.cells 3 (flat (P.map K3)) 0)]:=o;refine tt ?_;refine ⟨fun h1=>At.mk ?_,fun h1=>At.mk ?_⟩
   ·have AR:=A7 h1
    have wx:=Pe (k:=1+x) (by omega);refine tt ?_;refine Dg [7,11] (G:=Nat × List Pt) (fun g=>[(12,some (.int .i64 (g.1 : Int)))]) (fun m g H=>m=g.1∧g.1<L∧g.2.length=L∧JC k g.2∧AA H0 H [(FJ,AF.cells 3 (flat (g.2.map K3)) 0)]) (1+x) (1+x,P) ⟨rfl,by simp only; omega,hL,Eb,o⟩ rfl ?_;clear o Eb hL
    rintro m ⟨y,P⟩ H ⟨hm,hy,hL,Eb,o⟩;dsimp only at hm;subst hm;dsimp only at hy hL Eb o;refine tt ?_;refine ⟨fun h2=>At.mk ?_,fun h2=>At.mk ?_⟩
    case' refine_1 =>
     have Ah:=A7 h2
     have wp : IntKind.i64.wrap ((m : Int) - 1)=((m - 1 : Nat) : Int):=K1 (by omega) (by omega);refine tw h2 ?_;refine ⟨by omega,Ns (f:=K3) (n:=3) o (by omega) ?_⟩;refine tw wp ?_;refine ⟨by omega,Ns (f:=K3) (n:=3) o (by omega) ?_⟩;refine tt ?_;refine ⟨_,SP B _ _,tt ?_⟩;refine ⟨fun h3=>At.mk ?_,fun h3=>At.mk ?_⟩
     case' refine_1 =>
      refine tt ?_;refine ⟨by omega,Ns (f:=K3) (n:=3) o (by omega) ?_⟩;refine tt ?_;refine Ai o fun Pu H o=>tt ?_;refine sw o fun H o=>?_;refine tw wp ?_;refine ⟨by omega,Ns (f:=K3) (n:=3) o.tl (by omega) ?_⟩;refine tt ?_;refine ⟨by omega, ?_⟩;refine eR (f:=K3) (n:=3) o.swap (by omega) (P.getD (m - 1) default) rfl fun H o=>?_;refine tw wp ?_
      have BV:=o.tl.rc 3 0 (by simp);refine Ac o.tl (by simp) (tt ?_);refine ⟨by omega, ?_⟩;refine eR (f:=K3) (n:=3) o (by simp; omega) (P.getD m default) rfl fun H o=>?_;refine tw wp ?_
      have Io : JC k (P.set m (P.getD (m - 1) default)):=Eb.set (by omega);exact CY (m - 1) (m - 1,(P.set m (P.getD (m - 1) default)).set (m - 1) (P.getD m default)) (by omega) ⟨rfl,by show m - 1<L; omega,by simp [hL],Eb.set' Io (by simp) (by omega),o.swap.tl⟩ rfl
    all_goals
     try (try simp only [go_sem,↓reduceIte,reduceEqDiff,reduceAdd,reduceMul,reduceLeDiff,reduceLT,h2])
     refine tw wx ?_;exact A5 P (by omega) ⟨hL,Eb,o⟩ rfl
   ·refine tt ?_;refine Ru (f:=K3) (n:=3) o hL.symm fun H o=>tt ?_;exact Bj ⟨P,rfl,by omega,fun p hp=>⟨(Eb p hp).1,by have:=(Eb p hp).2; omega⟩⟩ o.sub
theorem J5 (B n : Nat) (F T : List Int) (g : Gr n F T) : Jq B 270 [iI n,iL F,iL T] (QN 18):=by
 intro H0;refine ck.go fun _=>?_
 have gn:=g.n3;refine tt ?_;refine Ai (.nil _) fun F4 H o=>tt ?_;refine (Yo B n F T g).go fun r _ ⟨P,e,hP18,rZ⟩=>?_;subst e;refine tt ?_;refine Ae o fun a H o=>tt ?_;refine Ae o fun b H o=>tt ?_;refine ⟨by simp only [AL]; omega, ?_⟩;refine DD iI 0 rfl o fun i H o=>tt ?_;refine Ae o fun d H o=>tt ?_;refine Ai o fun Ea H o=>tt ?_;refine sw o fun H o=>tt ?_
 refine AD [6,7,8] (G:=(Nat × List Int) × (Nat × List Int) × List Int) (fun k _=>[(9,some (.int .i64 (k : Int)))])
  (fun k g H=>g.1.2.length=k∧g.2.1.2.length=k∧g.2.2.length=n∧AA H0 H (Dv Ea F4 n g.1.1 g.1.2 g.2.1.1 g.2.1.2 i g.2.2 d [])) P.length ((a,[]),(b,[]),List.replicate n 0) ⟨rfl,rfl,by simp,by unfold Dv; simp only [List.length_replicate]; exact o.pm⟩ rfl ?_
 clear o
 rintro k ⟨⟨a,A⟩,⟨b,C⟩,I⟩ H hk ⟨hA,hC,hI,o⟩;dsimp only at hA hC hI o;refine tt ?_;refine ⟨fun h1=>At.mk ?_,fun h1=>At.mk ?_⟩
 ·have AR:=A7 h1
  have w:=ws k
  have Qg:=rZ (P.getD k default) (AE.mpr ⟨k,AR,rfl⟩)
  have hpf:=Qg.1.1;unfold Dv at o;refine tt ?_;refine AK o (by simp) (tt ?_);refine ⟨AR,BG _ o.swap rfl rfl (by simp only [AL]; omega) fun a H A2 _ aZ o=>?_⟩;refine tt ?_;refine sw o.swap fun H o=>tt ?_;refine AK o (by simp) (tt ?_);refine ⟨AR,BG _ (o.pull [_,_]) rfl rfl (by simp only [AL]; omega) fun b H C2 _ hC2 o=>?_⟩;refine tt ?_;refine sw o.swap fun H o=>tt ?_;refine ⟨AR, ?_⟩
  have o : AA H0 H (Dv Ea F4 n a A2 b C2 i I d []):=by
   try unfold Dv
   exact o.pm
  refine ⟨fun h2=>At.mk ?_,fun h2=>At.mk ?_⟩
  ·unfold Dv at o;refine tt ?_;refine AK o (by simp) (tt ?_);refine ⟨AR,by omega, ?_⟩;refine Bw (k : Int) (o.pull [_,_,_]) rfl (by omega) fun H o=>?_;refine tw w ?_;refine A5 ((a,A2),(b,C2),I.set (P.getD k default).AJ.toNat k) AR ⟨by show A2.length=_; omega,by show C2.length=_; omega,by simp [hI], ?_⟩ rfl
   try unfold Dv
   simp only [List.length_set];exact o.pm
  ·refine tw w ?_;exact A5 ((a,A2),(b,C2),I) AR ⟨by show A2.length=_; omega,by show C2.length=_; omega,hI,o⟩ rfl
 ·have AR:=A9 h1
  obtain rfl : k=P.length:=by omega
  clear h1 AR hk;unfold Dv at o;refine tt ?_;refine B5 1 o rfl rfl fun H o=>?_;have o:=s1 o;refine B5 2 o rfl rfl fun H o=>?_;have o:=s1 o;refine B5 3 o rfl rfl fun H o=>AY ?_;have o:=s1 o
  have o : AA H0 H [(Ea,AF.cells 5 [iI n,iL A,iL C,iL I,.buf d 0] 0),(d,AF.cells 1 [] 0),(F4,AF.cells 5 [iI 0,.A1,.A1,.A1,.A1] 0)]:=o;refine tt ?_;refine Ac o (by simp) (tt ?_);refine B7.FV (es:=[.agg (Ay.cells ⟨n,A,C,I,[]⟩)]) (.bool _) rfl (fun j hj=>?_) (OE B ⟨n,A,C,I,[]⟩).run ?_
  ·have : j=0:=by simp at hj; omega
   subst this;refine Tr.arg (.agg _ _ rfl fun q hq=>?_)
   match q,hq with
   | 0,_=>exact .val _
   | 1,_=>exact .val _
   | 2,_=>exact .val _
   | 3,_=>exact .val _
   | 4,_=>exact .buf d 0 [] [] o.tl.h0 rfl (by simp) (by simp)
  rw [Aw (show (n : Int)≤8∧A.length≤40 from ⟨by omega,by omega⟩)];refine tt ?_
  refine AD [6,7,8] (G:=Nat × List (List Int)) (fun k _=>[(10,some (.int .i64 (k : Int)))])
   (fun k g H=>g.2.length=k∧(∀ r,r∈g.2→r.length=P.length)∧AA H0 H [(Ea,AF.cells 5 [iI n,iL A,iL C,iL I,.buf g.1 g.2.length] 0),(g.1,AF.cells 1 (g.2.map iL) 0),(F4,AF.cells 5 [iI 0,.A1,.A1,.A1,.A1] 0)]) P.length (d,[]) ⟨rfl,by simp,o⟩ rfl ?_
  clear o
  rintro x ⟨d,D⟩ H hx ⟨hD,VY,o⟩;dsimp only at hD VY o;refine tt ?_;refine ⟨fun h1=>At.mk ?_,fun h1=>At.mk ?_⟩
  ·have AR:=A7 h1
   have ug:=rZ (P.getD x default) (AE.mpr ⟨x,AR,rfl⟩);refine tt ?_;refine Ae o fun BQ H o=>tt ?_
   refine AD [6,7,8,10] (G:=Nat × List Int) (fun y g=>[(11,some (.buf g.1 g.2.length)),(12,some (.int .i64 (y : Int)))])
    (fun y g H=>g.2.length=y∧AA H0 H [(g.1,AF.cells 1 (g.2.map iI) 0),(Ea,AF.cells 5 [iI n,iL A,iL C,iL I,.buf d D.length] 0),(d,AF.cells 1 (D.map iL) 0),(F4,AF.cells 5 [iI 0,.A1,.A1,.A1,.A1] 0)]) P.length (BQ,[]) ⟨rfl,o⟩ rfl ?_
   clear o
   rintro y ⟨BQ,row⟩ H hy ⟨hr,o⟩;dsimp only at hr o;refine tt ?_;refine ⟨fun h2=>At.mk ?_,fun h2=>At.mk ?_⟩
   ·have Ah:=A7 h2
    have w:=ws y
    have hpy:=rZ (P.getD y default) (AE.mpr ⟨y,Ah,rfl⟩);refine tt ?_;refine ⟨AR,Ah, ?_⟩;refine ⟨fun h3=>At.mk ?_,fun h3=>At.mk ?_⟩
    ·refine tt ?_;refine ⟨AR,Ah, ?_⟩;refine Gk.go' (FE B (P.getD x default).Cl) o fun X1 p1 H ⟨Qj,e1,e2⟩ o hs=>⟨hs, ?_⟩;subst e1 e2;refine tt ?_;refine Ed (f:=iI) (r:=(P.getD y default).Cl) o rfl (by simp only [AL]; omega) fun Qj H o=>tt ?_;refine Al o rfl fun H o=>tt ?_
     generalize (P.getD x default).Cl++(P.getD y default).Cl=both
     refine AD [6,7,8,10,11,12,14] (G:=Int) (fun z h=>[(13,some (.int .i64 h)),(15,some (.int .i64 (z : Int)))])
      (fun z h H=>AA H0 H [(BQ,AF.cells 1 (row.map iI) 0),(Ea,AF.cells 5 [iI n,iL A,iL C,iL I,.buf d D.length] 0),(d,AF.cells 1 (D.map iL) 0),(F4,AF.cells 5 [iI 0,.A1,.A1,.A1,.A1] 0)]) P.length (-1) o rfl ?_
     clear o
     rintro z h H hz o;refine tt ?_;refine ⟨fun h4=>At.mk ?_,fun h4=>At.mk ?_⟩
     ·have Cr:=A7 h4
      have wz:=ws z;refine tt ?_;refine ⟨Cr,AR, ?_⟩;refine ⟨fun h5=>At.mk ?_,fun h5=>At.mk ?_⟩
      case' refine_1 =>
       refine tw h5 ?_;refine ⟨Cr,_,(Dq ..).run,tt ?_⟩;refine ⟨fun h6=>At.mk ?_,fun h6=>At.mk ?_⟩
       case' refine_1 =>
        refine tt ?_
      all_goals
       try (try simp only [go_sem,↓reduceIte,reduceEqDiff,reduceAdd,reduceMul,reduceLeDiff,reduceLT,h5])
       try (try simp only [go_sem,↓reduceIte,reduceEqDiff,reduceAdd,reduceMul,reduceLeDiff,reduceLT,wz])
       exact A5 _ Cr o rfl
     ·refine tt ?_;refine BG _ o rfl rfl (by simp only [AL]; omega) fun BQ H row2 _ E3 o=>?_;refine tw w ?_;exact A5 (BQ,row2) Ah ⟨by show row2.length=_; omega,o⟩ rfl
    ·refine tt ?_;refine BG _ o rfl rfl (by simp only [AL]; omega) fun BQ H row2 _ E3 o=>?_;refine tw w ?_;exact A5 (BQ,row2) Ah ⟨by show row2.length=_; omega,o⟩ rfl
   ·have Ah:=A9 h2
    have w:=ws x;refine tt ?_;refine Al o rfl fun H o=>tt ?_;refine AK o (by simp) (tt ?_);refine BG row o.swap rfl rfl (by simp only [AL]; omega) fun d H D2 eD hD2 o=>tt ?_;refine sw o.swap fun H o=>?_;refine tw w ?_;refine A5 (d,D2) AR ⟨by show D2.length=_; omega,fun r BV=>?_,o⟩ rfl;dsimp only at BV;rw [eD] at BV
    rcases List.mem_append.mp BV with h | h
    ·exact VY r h
    ·rw [List.mem_singleton] at h; subst h; omega
  ·have AR:=A9 h1;refine tt ?_;refine B5 4 o rfl rfl fun H o=>AY ?_;have o:=s1 o;refine tt ?_;refine Ac o (by simp) (tt ?_);refine sw o.swap fun H o=>tt ?_
   have BV:=o.rc 5 0 (by simp);simp only [List.drop_zero] at BV;rw [BV];refine tt ?_
   have n4 : D.length=A.length:=by omega
   refine Bj ⟨⟨n,A,C,I,D⟩,rfl,⟨by show (0 : Int)≤(n : Int); omega,by show (n : Int)≤((18 : Nat) : Int); omega⟩,by show (I.length : Int)=n; omega,by show A.length≤18; omega,by show C.length=A.length; omega,n4,fun q hq=>?_⟩ o.sub;rw [VY _ (AE.mpr ⟨q,by rw [n4]; exact hq,rfl⟩)]; exact hA.symm
theorem sq1 : oi 4 [[1]]:=⟨by decide,by decide⟩
theorem I9 (B : Nat) : Rd B 206 [] (QN 100):=by
 intro id s H0 H hs o;refine bt.go fun _=>?_;refine tt ?_;refine Ai o fun ER H o=>tt ?_;refine (AZ B 12).go hs o.swap fun r s H _ ⟨k,e,hk0,TG,_⟩ hs o=>?_;subst e
 have TG:=TG (by omega);refine tt ?_;apply bk <;> intro q0
 ·refine tt ?_;refine (AZ B 5).go hs o fun r s H _ ⟨v,e,KB,CF,_⟩ hs o=>?_;subst e
  have CF:=CF (by omega);refine tt ?_
  obtain ⟨v,rfl⟩:=Int.eq_ofNat_of_zero_le KB;refine (JL B v (by omega)).go hs o fun r s H _ ⟨T,e,hT⟩ hs o=>?_;subst e;refine tt ?_;refine (DR B T hT).go fun r _ ⟨c,e,hc⟩=>?_;subst e;refine tt ?_;refine sw o.swap fun H o=>tt ?_
  have BV:=o.rc 5 0 (by simp);simp only [List.drop_zero] at BV;rw [BV];refine tt ?_;exact Ax ⟨c,rfl,hc.mono (by omega)⟩ hs o.swap
 refine tt ?_;apply bk <;> intro q1
 ·refine tt ?_;refine (DR B [[1,1],[0,1]] ⟨by decide,by decide⟩).go fun r _ ⟨c,e,hc⟩=>?_;subst e;refine tt ?_;refine sw o.swap fun H o=>tt ?_
  have BV:=o.rc 5 0 (by simp);simp only [List.drop_zero] at BV;rw [BV];refine tt ?_;exact Ax ⟨c,rfl,hc.mono (by omega)⟩ hs o.swap
 refine tt ?_;apply bk <;> intro q2
 ·refine tt ?_;refine (DR B [[1,1,1],[0,1,0],[0,0,1]] ⟨by decide,by decide⟩).go fun r _ ⟨c,e,hc⟩=>?_;subst e;refine tt ?_;refine sw o.swap fun H o=>tt ?_
  have BV:=o.rc 5 0 (by simp);simp only [List.drop_zero] at BV;rw [BV];refine tt ?_;exact Ax ⟨c,rfl,hc.mono (by omega)⟩ hs o.swap
 refine tt ?_;apply bk <;> intro q3
 ·refine tt ?_;refine (J5 B 2 [0,0] [1,1] ⟨by decide,by decide,by decide,by decide⟩).go fun r _ ⟨c,e,hc⟩=>?_;subst e;refine tt ?_;refine sw o.swap fun H o=>tt ?_
  have BV:=o.rc 5 0 (by simp);simp only [List.drop_zero] at BV;rw [BV];refine tt ?_;exact Ax ⟨c,rfl,hc.mono (by omega)⟩ hs o.swap
 refine tt ?_;apply bk <;> intro q4
 ·refine tt ?_;refine (I6 B).go hs o fun r s H _ ⟨T,e,hT⟩ hs o=>?_;subst e;refine tt ?_;refine (IH B T hT).go fun r _ ⟨c,e,hc⟩=>?_;subst e;refine tt ?_;refine sw o.swap fun H o=>tt ?_
  have BV:=o.rc 5 0 (by simp);simp only [List.drop_zero] at BV;rw [BV];refine tt ?_;exact Ax ⟨c,rfl,hc.mono (by omega)⟩ hs o.swap
 refine tt ?_;apply bk <;> intro q5
 ·refine tt ?_;refine (AZ B 3).go hs o fun r s H _ ⟨v,e,KB,CF,_⟩ hs o=>?_;subst e
  have CF:=CF (by omega)
  obtain ⟨v,rfl⟩:=Int.eq_ofNat_of_zero_le KB
  have wv : IntKind.i64.wrap (1+(v : Int))=((1+v : Nat) : Int):=by rw [wrap_i64 (by omega) (by omega)]; omega
  generalize hm : 1+v=m at *;refine tw wv ?_;refine Ae o fun BQ H o=>tt ?_;refine AD [2,3] (G:=Nat × List (List Int)) (fun i g=>[(4,some (.buf g.1 g.2.length)),(5,some (.int .i64 (i : Int)))]) (fun i g H=>g.2.length=i∧(∀ r,r∈g.2→r.length=m)∧AA H0 H [(g.1,AF.cells 1 (g.2.map iL) 0),(id,s.obj),(ER,AF.cells 5 [.int .i64 0,.A1,.A1,.A1,.A1] 0)]) m (BQ,[]) ⟨rfl,by simp,o⟩ rfl ?_;clear o
  rintro i ⟨BQ,T⟩ H hi ⟨hT,rX,o⟩;dsimp only at hT rX o;refine tt ?_;apply bk <;> intro h1
  ·have AR:=A7 h1
   have wi:=ws i;refine tt ?_;refine Ae o fun wS H o=>tt ?_;refine AD [2,3,4,5] (G:=Nat × List Int) (fun j g=>[(6,some (.buf g.1 g.2.length)),(7,some (.int .i64 (j : Int)))]) (fun j g H=>g.2.length=j∧AA H0 H [(g.1,AF.cells 1 (g.2.map iI) 0),(BQ,AF.cells 1 (T.map iL) 0),(id,s.obj),(ER,AF.cells 5 [.int .i64 0,.A1,.A1,.A1,.A1] 0)]) m (wS,[]) ⟨rfl,o⟩ rfl ?_;clear o
   rintro j ⟨wS,row⟩ H hj ⟨hr,o⟩;dsimp only at hr o;refine tt ?_;apply bk <;> intro h2
   ·have Ah:=A7 h2
    have wj:=ws j;refine tt ?_;refine BG _ o rfl rfl (by simp only [AL]; omega) fun wS H row2 _ E3 o=>?_;refine tw wj ?_;exact A5 (wS,row2) Ah ⟨by show row2.length=_; omega,o⟩ rfl
   ·have Ah:=A9 h2;refine tt ?_;refine Al o rfl fun H o=>tt ?_;refine BG row o rfl rfl (by simp only [AL]; omega) fun BQ H T2 eT hT2 o=>?_;refine tw wi ?_;refine A5 (BQ,T2) AR ⟨by show T2.length=_; omega,fun r BV=>?_,o⟩ rfl;dsimp only at BV;rw [eT] at BV
    rcases List.mem_append.mp BV with h | h
    ·exact rX r h
    ·rw [List.mem_singleton] at h; subst h; omega
  have AR:=A9 h1;refine tt ?_;refine Al o rfl fun H o=>tt ?_;refine (DR B T ⟨by omega,fun x hx=>by rw [rX _ (AE.mpr ⟨x,hx,rfl⟩)]; omega⟩).go fun r _ ⟨c,e,hc⟩=>?_;subst e;refine tt ?_;refine sw o.swap fun H o=>tt ?_
  have BV:=o.rc 5 0 (by simp);simp only [List.drop_zero] at BV;rw [BV];refine tt ?_;exact Ax ⟨c,rfl,hc.mono (by omega)⟩ hs o.swap
 refine tt ?_;apply bk <;> intro q6
 ·refine tt ?_;refine (J5 B 3 [0,1,0] [1,2,2] ⟨by decide,by decide,by decide,by decide⟩).go fun r _ ⟨c,e,hc⟩=>?_;subst e;refine tt ?_;refine sw o.swap fun H o=>tt ?_
  have BV:=o.rc 5 0 (by simp);simp only [List.drop_zero] at BV;rw [BV];refine tt ?_;exact Ax ⟨c,rfl,hc.mono (by omega)⟩ hs o.swap
 refine tt ?_;apply bk <;> intro q7
 ·refine tt ?_;refine (V4 B).go fun r _ ⟨c,e,hc⟩=>?_;subst e;refine tt ?_;refine sw o.swap fun H o=>tt ?_
  have BV:=o.rc 5 0 (by simp);simp only [List.drop_zero] at BV;rw [BV];refine tt ?_;exact Ax ⟨c,rfl,hc.mono (by omega)⟩ hs o.swap
 refine tt ?_;apply bk <;> intro q8
 ·refine tt ?_;refine (I6 B).go hs o fun r s H _ ⟨T,e,hT⟩ hs o=>?_;subst e;refine tt ?_;refine (IH B T hT).go fun r _ ⟨c,e,hc⟩=>?_;subst e;refine tt ?_;refine (DR B [[1]] sq1).go fun r _ ⟨d,e,hd⟩=>?_;subst e;refine tt ?_;refine (Oi B 4 16 (by omega) (by omega) c d hc hd).go fun r _ ⟨c,e,hc⟩=>?_;subst e;refine tt ?_;refine (cU B (4+16+4*16) (by omega) c hc).go fun r _ ⟨c,e,hc⟩=>?_;subst e;refine tt ?_;refine sw o.swap fun H o=>tt ?_
  have BV:=o.rc 5 0 (by simp);simp only [List.drop_zero] at BV;rw [BV];refine tt ?_;exact Ax ⟨c,rfl,hc.mono (by omega)⟩ hs o.swap
 refine tt ?_;apply bk <;> intro q9
 ·refine tt ?_;refine (I6 B).go hs o fun r s H _ ⟨T,e,hT⟩ hs o=>?_;subst e;refine tt ?_;refine (IH B T hT).go fun r _ ⟨c,e,hc⟩=>?_;subst e;refine tt ?_;refine (DR B [[1]] sq1).go fun r _ ⟨d,e,hd⟩=>?_;subst e;refine tt ?_;refine (Oi B 4 16 (by omega) (by omega) c d hc hd).go fun r _ ⟨c,e,hc⟩=>?_;subst e;refine tt ?_;refine sw o.swap fun H o=>tt ?_
  have BV:=o.rc 5 0 (by simp);simp only [List.drop_zero] at BV;rw [BV];refine tt ?_;exact Ax ⟨c,rfl,hc.mono (by omega)⟩ hs o.swap
 refine tt ?_;apply bk <;> intro q10
 ·refine tt ?_;refine (AZ B 2).go hs o fun r s H _ ⟨v,e,KB,CF,_⟩ hs o=>?_;subst e
  have CF:=CF (by omega)
  obtain ⟨v,rfl⟩:=Int.eq_ofNat_of_zero_le KB
  have wv : IntKind.i64.wrap (2+(v : Int))=((2+v : Nat) : Int):=by rw [wrap_i64 (by omega) (by omega)]; omega
  refine tw wv ?_;refine (JL B (2+v) (by omega)).go hs o fun r s H _ ⟨T,e,hT⟩ hs o=>?_;subst e;refine tt ?_;refine (DR B T hT).go fun r _ ⟨c,e,hc⟩=>?_;subst e;refine tt ?_;refine sw o.swap fun H o=>tt ?_
  have BV:=o.rc 5 0 (by simp);simp only [List.drop_zero] at BV;rw [BV];refine tt ?_;exact Ax ⟨c,rfl,hc.mono (by omega)⟩ hs o.swap
 refine tt ?_;refine (AZ B 2).go hs o fun r s H _ ⟨v,e,KB,CF,_⟩ hs o=>?_;subst e
 have CF:=CF (by omega)
 obtain ⟨v,rfl⟩:=Int.eq_ofNat_of_zero_le KB
 have wv : IntKind.i64.wrap (2+(v : Int))=((2+v : Nat) : Int):=by rw [wrap_i64 (by omega) (by omega)]; omega
 obtain ⟨n,hn⟩ : ∃ n,2+v=n:=⟨_,rfl⟩;rw [hn] at wv
 have hn23 : n=2∨n=3:=by omega
 clear KB CF hn;refine tw wv ?_;refine Ae o fun f H o=>tt ?_;refine Ae o fun t H o=>tt ?_;refine (AZ B 4).go hs (o.pull [_,_]) fun r s H _ ⟨q,e,wN,RZ,_⟩ hs o=>?_;subst e
 have RZ:=RZ (by omega)
 obtain ⟨q,rfl⟩:=Int.eq_ofNat_of_zero_le wN;refine tt ?_
 refine Dg [0,2,8] (G:=Src × (Nat × List Int) × (Nat × List Int) × Nat) (fun g=>[(9,some (.buf g.2.1.1 g.2.1.2.length)),(10,some (.buf g.2.2.1.1 g.2.2.1.2.length)),(11,some (.int .i64 (g.2.2.2 : Int)))])
  (fun m g H=>m=g.2.2.2∧g.1.Ok∧g.2.1.2.length+g.2.2.2≤3∧g.2.2.1.2.length=g.2.1.2.length∧(∀ e,e<g.2.1.2.length→0≤g.2.1.2.getD e default∧g.2.1.2.getD e default<g.2.2.1.2.getD e default∧g.2.2.1.2.getD e default<n) ∧
   AA H0 H [(id,g.1.obj),(g.2.2.1.1,AF.cells 1 (g.2.2.1.2.map iI) 0),(g.2.1.1,AF.cells 1 (g.2.1.2.map iI) 0),(ER,AF.cells 5 [.int .i64 0,.A1,.A1,.A1,.A1] 0)]) q (s,(f,[]),(t,[]),q) ⟨rfl,hs,by simp only [List.length_nil]; omega,rfl,fun e he=>by simp at he,o⟩ rfl ?_
 clear o hs wN RZ
 rintro m ⟨s,⟨f,F⟩,⟨t,T⟩,q⟩ H ⟨hm,hs,hF,hT,hE,o⟩;dsimp only at hm;subst hm;dsimp only at hs hF hT hE o
 have wn : IntKind.i64.wrap ((n : Int) - 1)=((n - 1 : Nat) : Int):=K1 (by omega) (by omega);refine tt ?_;apply bk <;> intro h1
 ·have AR:=A7 h1
  have wm : IntKind.i64.wrap ((m : Int) - 1)=((m - 1 : Nat) : Int):=K1 (by omega) (by omega);refine tw wn ?_;refine (AZ B ((n - 1 : Nat) : Int)).go hs o fun r s H _ ⟨x,e,hx0,gW,_⟩ hs o=>?_;subst e
  have gW:=gW (by omega)
  obtain ⟨x,rfl⟩:=Int.eq_ofNat_of_zero_le hx0;refine tt ?_;refine BG _ (o.pull [_,_]) rfl rfl (by simp only [AL]; omega) fun f H F2 eF hF2 o=>?_
  have w1 : IntKind.i64.wrap ((x : Int)+1)=((x+1 : Nat) : Int):=Pe (by omega)
  have w2 : IntKind.i64.wrap (((n - 1 : Nat) : Int) - (x : Int))=((n - 1 - x : Nat) : Int):=by rw [wrap_i64 (by omega) (by omega)]; omega
  try simp only [go_sem,↓reduceIte,reduceEqDiff,reduceAdd,reduceMul,reduceLeDiff,reduceLT,wn,w1,w2]
  refine (AZ B ((n - 1 - x : Nat) : Int)).go hs o.swap fun r s H _ ⟨y,e,hy0,ke,_⟩ hs o=>?_;subst e
  have ke:=ke (by omega)
  obtain ⟨y,rfl⟩:=Int.eq_ofNat_of_zero_le hy0
  have w3 : IntKind.i64.wrap (((x+1 : Nat) : Int)+(y : Int))=((x+1+y : Nat) : Int):=by rw [wrap_i64 (by omega) (by omega)]; omega
  refine tw w3 ?_;refine BG _ (o.pull [_,_]) rfl rfl (by simp only [AL]; omega) fun t H T2 eT hT2 o=>?_;refine tw wm ?_;refine CY (m - 1) (s,(f,F2),(t,T2),m - 1) (by omega) ⟨rfl,hs,by show F2.length+(m - 1)≤3; omega,by show T2.length=F2.length; omega,fun e he=>?_, ?_⟩ rfl
  ·show 0≤F2.getD e default∧F2.getD e default<T2.getD e default∧T2.getD e default<n
   dsimp only at he
   by_cases h2 : e<F.length
   ·have e1 : F2.getD e default=F.getD e default:=by rw [eF,gE,List.getElem?_append_left h2,← gE]
    have e2 : T2.getD e default=T.getD e default:=by rw [eT,gE,List.getElem?_append_left (by omega),← gE]
    rw [e1,e2]; exact hE e h2
   ·have e0 : e=F.length:=by omega
    have e1 : F2.getD e default=(x : Int):=by rw [eF,e0]; simp
    have e2 : T2.getD e default=((x+1+y : Nat) : Int):=by rw [eT,e0,← hT]; simp
    rw [e1,e2]; omega
  ·exact o.pm
 ·have AR:=A9 h1;refine tt ?_;refine Al o.swap rfl fun H o=>tt ?_;refine Al o.swap rfl fun H o=>tt ?_;refine (J5 B n F T ⟨by omega,by omega,hT,hE⟩).go fun r _ ⟨c,e,hc⟩=>?_;subst e;refine tt ?_;refine sw o.swap fun H o=>tt ?_
  have BV:=o.rc 5 0 (by simp);simp only [List.drop_zero] at BV;rw [BV];refine tt ?_;exact Ax ⟨c,rfl,hc.mono (by omega)⟩ hs o.swap
theorem IE (B : Nat) (mo ma : Int) : Rd B 125 [iI mo,iI ma] (QN 20000):=by
 intro id s H0 H hs o;refine dm.go fun _=>?_;refine tt ?_;refine Ai o fun F4 H o=>tt ?_;refine AD [0,1,2,6] (G:=Src) (fun k _=>[(7,some (.int .i64 (k : Int)))]) (fun k s H=>s.Ok∧AA H0 H [(id,s.obj),(F4,AF.cells 5 [.int .i64 0,.A1,.A1,.A1,.A1] 0)]) 12 s ⟨hs,o.swap⟩ rfl ?_;clear o hs
 rintro k s H hk ⟨hs,o⟩
 replace hs : s.Ok:=hs
 replace o : AA H0 H [(id,s.obj),(F4,AF.cells 5 [.int .i64 0,.A1,.A1,.A1,.A1] 0)]:=o;refine tt ?_;refine ⟨fun h1=>At.mk ?_,fun h1=>At.mk ?_⟩
 ·have AR:=A7 h1
  have wk1:=ws k;refine tt ?_;refine (I9 B).go hs o fun r s H _ ⟨c0,e,wQ⟩ hs o=>?_;subst e;refine tt ?_;refine Ai o fun Ea H o=>tt ?_;refine sw o fun H o=>tt ?_;refine (AZ B 5).go hs o.swap fun r s H _ ⟨v,e,_⟩ hs o=>?_;subst e;refine tt ?_;refine ⟨fun h2=>At.mk ?_,fun h2=>At.mk ?_⟩
  case' refine_1 =>
   refine tt ?_;refine ⟨⟨_,_,o.tl.h0⟩,Ac o.tl (by simp) ?_⟩;refine tt ?_;refine (I9 B).FT hs o fun r s H _ ⟨c2,e,ly⟩ hs o hz=>⟨hz, ?_⟩;subst e;refine tt ?_;refine Gk.go' (P7 B 100 100 (by omega) c0 c2 wQ ly) o fun X1 p1 H ⟨q,hq,a,b,i,d,Xs,ob,e1,hX,e2⟩ o _=>?_;subst e1 e2;refine tt ?_
   have o : AA H0 H ((Ea,AF.cells 5 [iI c0.AO,iL c0.AJ,iL c0.to,iL c0.Av,BA c0.comp] 0)::(d,AF.cells 1 Xs 0)::(a,AF.cells 1 (q.AJ.map iI) 0)::(b,AF.cells 1 (q.to.map iI) 0)::(i,AF.cells 1 (q.Av.map iI) 0)::(id,s.obj)::(F4,AF.cells 5 [.int .i64 0,.A1,.A1,.A1,.A1] 0)::ob):=o.pm;refine sw o fun H o=>tt ?_
   have IV:=hX.len
   have od : AA H0 H ((d,AF.cells 1 Xs 0)::(ob++[(Ea,AF.cells 5 [iI q.AO,.buf a q.AJ.length,.buf b q.to.length,.buf i q.Av.length,.buf d Xs.length] 0),(a,AF.cells 1 (q.AJ.map iI) 0),(b,AF.cells 1 (q.to.map iI) 0),(i,AF.cells 1 (q.Av.map iI) 0),(id,s.obj),(F4,AF.cells 5 [.int .i64 0,.A1,.A1,.A1,.A1] 0)])):=o.pm;refine Cy hX [] H od fun H o=>?_;simp only [List.nil_append] at o
   have o : AA H0 H [(Ea,AF.cells 5 [iI q.AO,.buf a q.AJ.length,.buf b q.to.length,.buf i q.Av.length,.buf d Xs.length] 0),(d,AF.cells 1 (q.comp.map iL) 0),(a,AF.cells 1 (q.AJ.map iI) 0),(b,AF.cells 1 (q.to.map iI) 0),(i,AF.cells 1 (q.Av.map iI) 0),(id,s.obj),(F4,AF.cells 5 [.int .i64 0,.A1,.A1,.A1,.A1] 0)]:=o.pm;refine B5 4 o rfl IV fun H o=>?_;have o:=s1 o;refine B5 1 o rfl rfl fun H o=>?_;have o:=s1 o;refine B5 2 o rfl rfl fun H o=>?_;have o:=s1 o;refine B5 3 o rfl rfl fun H o=>AY ?_;have o:=s1 o
   have o:=o.swap
   obtain ⟨c,rfl⟩ : ∃ c,c=q:=⟨_,rfl⟩
   have hc : c.Sh 200:=hq
  case' refine_2 =>
   refine tt ?_;refine AY ?_
   obtain ⟨c,rfl⟩ : ∃ c,c=c0:=⟨_,rfl⟩
   have hc : c.Sh 200:=wQ.mono (show 100≤200 by omega)
  all_goals
   try clear h2
   refine tt ?_;refine (AZ B 8).go hs o fun r s H _ ⟨v2,e,_⟩ hs o=>?_;subst e;refine tt ?_;refine ⟨fun h3=>At.mk ?_,fun h3=>At.mk ?_⟩
   case' refine_1 =>
    refine tt ?_;refine ⟨⟨_,_,o.tl.h0⟩,Ac o.tl (by simp) ?_⟩;refine tt ?_;refine (I9 B).FT hs o fun r s H _ ⟨c2,e,ly⟩ hs o hz=>⟨hz, ?_⟩;subst e;refine tt ?_;refine (QK B 200 100 (by omega) (by omega) (by omega) c c2 hc ly).go fun r _ ⟨q,e,hq⟩=>?_;subst e;refine tt ?_;refine sw o.swap fun H o=>?_
    have o:=o.swap
    have hc:=hq
    obtain ⟨c,rfl⟩ : ∃ c,c=q:=⟨_,rfl⟩
    replace hc : c.Sh 20000:=hc
   case' refine_2 =>
    have hc:=hc.mono (show 200≤20000 by omega)
   all_goals
    try clear h3
    refine tt ?_;refine AK o.tl (by simp) (tt ?_);refine ⟨fun g1=>At.mk ?_,fun g1=>At.mk ?_⟩
    case' refine_1 =>
     refine tw g1 ?_;refine AK o.tl (by simp) (tt ?_);refine ⟨fun g2=>At.mk ?_,fun g2=>At.mk ?_⟩
     case' refine_1 =>
      refine tw g2 ?_;refine Ac o.tl (by simp) (tt ?_);refine (OE B c).go fun _=>tt ?_;refine ⟨fun g3=>At.mk ?_,fun g3=>At.mk ?_⟩
      case refine_1 =>
       refine tt ?_;refine Ac o.tl (by simp) (tt ?_);refine sw (o.pull [_,_]) fun H o=>tt ?_
       have BV:=o.rc 5 0 (by simp);simp only [List.drop_zero] at BV;rw [BV];refine tt ?_;exact Ax ⟨c,rfl,hc⟩ hs o.swap
    all_goals
     try (try simp only [go_sem,↓reduceIte,reduceEqDiff,reduceAdd,reduceMul,reduceLeDiff,reduceLT,g1])
     try (try simp only [go_sem,↓reduceIte,reduceEqDiff,reduceAdd,reduceMul,reduceLeDiff,reduceLT,g2])
     try (try simp only [go_sem,↓reduceIte,reduceEqDiff,reduceAdd,reduceMul,reduceLeDiff,reduceLT,wk1])
     exact A5 s (by omega) ⟨hs,o.swap.tl⟩ rfl
 ·refine tt ?_;refine (DR B [[1]] sq1).go fun r _ ⟨c,e,hc⟩=>?_;subst e;refine tt ?_;refine sw o.swap fun H o=>tt ?_
  have BV:=o.rc 5 0 (by simp);simp only [List.drop_zero] at BV;rw [BV];refine tt ?_;exact Ax ⟨c,rfl,hc.mono (by omega)⟩ hs o.swap
end Go.Proofs.Shf
namespace Go.AW
open Go.Shf
@[go_sem] theorem pg {P : Program} {B : Nat} {d : Option Nat} {F : Env→AB→Prop} {σ : Env} {H : AB} (n : Nat) (x : X) (lo hi : Option X) : Fb P B d (.n5 n x lo hi) F σ H=pE d F σ H (KE n (val σ x) (lo.map (val σ)) (hi.map (val σ))):=rfl
theorem SR {F : Env→AB→Prop} {σ : Env} {H0 H : AB} {l : Ob} {id fr : Nat} {x : Int} {a b i d : Nat} {A C I : List Int} {D : List (List Int)}
  (o : AA H0 H ((id,.cells 5 [iI x,.buf a A.length,.buf b C.length,.buf i I.length,.buf d D.length] fr)::(a,.cells 1 (A.map iI) 0)::(b,.cells 1 (C.map iI) 0)::(i,.cells 1 (I.map iI) 0)::(d,.cells 1 (D.map iL) 0)::l))
  (hk : ∀ H',AA H0 H' ((id,.cells 5 (Ay.cells ⟨x,A,C,I,D⟩) fr)::l)→Gj F σ H') : Gj F σ H:=by
 refine B5 1 o rfl rfl fun H o=>?_;have o:=s1 o;refine B5 2 o rfl rfl fun H o=>?_;have o:=s1 o;refine B5 3 o rfl rfl fun H o=>?_;have o:=s1 o;refine B5 4 o rfl rfl fun H o=>?_;have o:=s1 o;exact hk H o
theorem Ff {F : Env→AB→Prop} {σ : Env} {H0 H : AB} {l : Ob} {id fr : Nat} {x : Int} {a b i d : Nat} {A C I : List Int} {Xs : List AV} {As : List (List Int)} {ob : Ob} (h : Et iI Xs As ob)
  (o : AA H0 H ((id,.cells 5 [iI x,.buf a A.length,.buf b C.length,.buf i I.length,.buf d Xs.length] fr)::(a,.cells 1 (A.map iI) 0)::(b,.cells 1 (C.map iI) 0)::(i,.cells 1 (I.map iI) 0)::(d,.cells 1 Xs 0)::(ob++l)))
  (hk : ∀ H',AA H0 H' ((id,.cells 5 (Ay.cells ⟨x,A,C,I,As⟩) fr)::l)→Gj F σ H') : Gj F σ H:=by
 have hl:=h.len
 have od : AA H0 H ((d,.cells 1 Xs 0)::(ob++((id,.cells 5 [iI x,.buf a A.length,.buf b C.length,.buf i I.length,.buf d Xs.length] fr)::(a,.cells 1 (A.map iI) 0)::(b,.cells 1 (C.map iI) 0)::(i,.cells 1 (I.map iI) 0)::l))):=o.pm;refine Cy h [] H od fun H o=>?_;simp only [List.nil_append] at o;rw [hl] at o
 have o : AA H0 H ((id,.cells 5 [iI x,.buf a A.length,.buf b C.length,.buf i I.length,.buf d As.length] fr)::(a,.cells 1 (A.map iI) 0)::(b,.cells 1 (C.map iI) 0)::(i,.cells 1 (I.map iI) 0)::(d,.cells 1 (As.map iL) 0)::l):=o.pm;exact SR o hk
theorem Et.row {α : Type} [Inhabited α] {f : α→AV} [One f] {Xs : List AV} {As : List (List α)} {ob : Ob} (h : Et f Xs As ob) {i : Nat} (hi : i<Xs.length) (hp : 0<(As.getD i []).length) :
  ∃ BQ,Xs.getD i nv=.buf BQ (As.getD i []).length∧∀ {H0 H : AB} {l : Ob} {id : Nat} {K : Am} (o : AA H0 H ((id,.cells 1 Xs 0)::(ob++l))) (y : Nat) (hy : y<(As.getD i []).length) (v : α) {c : AV} (hc : c=f v)
   (hk : ∀ H' ob',Et f Xs (As.set i ((As.getD i []).set y v)) ob'→AA H0 H' ((id,.cells 1 Xs 0)::(ob'++l))→K nv H'),OZ (H.get BQ) BQ y 1 [c] K H:=by
 obtain ⟨p,r,h1,h2,h3⟩:=h.split i hi
 rcases h2 with ⟨_,_,e⟩ | ⟨BQ,rfl,e⟩
 ·rw [e] at hp; simp at hp
 ·refine ⟨BQ,e,fun {H0 H l id K} o y hy v {c} hc hk=>?_⟩
  have o1 : AA H0 H ((BQ,.cells 1 ((As.getD i []).map f) 0)::(id,.cells 1 Xs 0)::(r++l)):=by
   refine o.perm (((List.Perm.append_right l h1).cons _).trans ?_);simp only [List.cons_append,List.nil_append];exact .swap _ _ _
  refine Bw v o1 hc hy fun H' o2=>?_
  obtain ⟨o',k1,k2⟩:=h3 (.buf BQ ((As.getD i []).set y v).length) ((As.getD i []).set y v) [(BQ,.cells 1 (((As.getD i []).set y v).map f) 0)] (.inr ⟨BQ,rfl,rfl⟩)
  have e2 : Xs.set i (.buf BQ ((As.getD i []).set y v).length)=Xs:=by
   rw [List.length_set,← e];apply List.ext_getElem?
   intro j
   by_cases hj : i=j
   ·subst hj; rw [List.getElem?_set_self hi]; simp [gE,hi]
   ·rw [List.getElem?_set_ne hj]
  rw [e2] at k1;refine hk H' o' k1 (o2.perm ((List.Perm.swap _ _ _).trans (.cons _ ?_)))
  have:=List.Perm.append_right l k2.symm
  simpa using this
end Go.AW
namespace Go.Proofs.Shf
open Go.AW Go.Proofs Go.Shf
def lK (r : AV) : Prop:=∃ c : Ay,r=.agg c.cells
theorem o7 (x : Int) (A C I : List Int) (D : List (List Int)) : lK (.agg [iI x,iL A,iL C,iL I,BA D]):=⟨⟨x,A,C,I,D⟩,rfl⟩
@[go_sem] def U5 (Ce : Nat) (x : Int) (a : Nat) (A : List Int) (b : Nat) (C : List Int) (i : Nat) (I : List Int) (d : Nat) (Xs : List AV) (l : Ob) : Ob :=
 (Ce,.cells 5 [iI x,.buf a A.length,.buf b C.length,.buf i I.length,.buf d Xs.length] 0)::(a,.cells 1 (A.map iI) 0)::(b,.cells 1 (C.map iI) 0)::(i,.cells 1 (I.map iI) 0)::(d,.cells 1 Xs 0)::l
theorem O0 (B N : Nat) (hN : N≤65536) (c : Ay) (hc : c.Sh N) : Rd B 126 [.agg c.cells] lK:=by
 intro id s H0 H hs o;refine yF.go fun _=>?_
 obtain ⟨cob,cil,cml,ctl,ccl,crow⟩:=hc;refine tt ?_;refine Ai o fun Ce H o=>tt ?_;refine Ai o fun BJ H o=>tt ?_;refine Ac o.tl (by simp) (tt ?_);refine Gk.go' (PD B c) o fun X1 p1 H ⟨a,b,i,d,Xs,ob,e1,hX,e2⟩ o _=>?_;subst e1 e2
 have IV:=hX.len;refine tt ?_
 have o : AA H0 H ((Ce,AF.cells 5 [iI c.AO,iL c.AJ,iL c.to,iL c.Av,BA c.comp] 0)::(a,.cells 1 (c.AJ.map iI) 0)::(b,.cells 1 (c.to.map iI) 0)::(i,.cells 1 (c.Av.map iI) 0)::(d,.cells 1 Xs 0)::(ob++[(id,s.obj),(BJ,AF.cells 5 [.int .i64 0,.A1,.A1,.A1,.A1] 0)])):=o.pm;refine sw o fun H o=>tt ?_;refine AK o (by simp) (tt ?_)
 have Ew : ∀ {H : AB} {s : Src} {Xs : List AV} {ob : Ob} {a b i : Nat} {A C I : List Int} {x : Int},AA H0 H (U5 Ce x a A b C i I d Xs (ob++[(id,s.obj),(BJ,AF.cells 5 [.int .i64 0,.A1,.A1,.A1,.A1] 0)])) →
   AA H0 H ((id,s.obj)::U5 Ce x a A b C i I d Xs (ob++[(BJ,AF.cells 5 [.int .i64 0,.A1,.A1,.A1,.A1] 0)])):=by
  intro H s Xs ob a b i A C I x o;unfold U5 at o ⊢;exact o.pm
 have o:=Ew (by unfold U5; exact o);unfold U5 at o;refine (AZ B c.AJ.length).go hs o fun r s H _ ⟨f,e,hf0,TP,Xe⟩ hs o=>?_;subst e
 obtain ⟨f,rfl⟩:=Int.eq_ofNat_of_zero_le hf0;refine tt ?_;refine (AZ B 8).go hs o fun r s H _ ⟨v,e,_⟩ hs o=>?_;subst e;refine tt ?_;apply bk <;> intro q0
 focus
  refine tt ?_;refine AK o.tl (by simp) (tt ?_);refine (Ki B [IntKind.i64.wrap (c.AO+1),-1,9] (by simp)).go hs o fun r s H _ ⟨v,e,_⟩ hs o=>?_;subst e;refine tt ?_;refine sw o.swap fun H o=>tt ?_
  have o : AA H0 H ((Ce,.cells 5 [iI (v),.buf a (c.AJ).length,.buf b (c.to).length,.buf i (c.Av).length,.buf d (Xs).length] 0)::(a,.cells 1 ((c.AJ).map iI) 0)::(b,.cells 1 ((c.to).map iI) 0)::(i,.cells 1 ((c.Av).map iI) 0)::(d,.cells 1 (Xs) 0)::(ob++[(id,s.obj),(BJ,AF.cells 5 [.int .i64 0,.A1,.A1,.A1,.A1] 0)])):=o.pm;refine Ff hX o fun H o=>?_
 rotate_left 1;refine tt ?_;apply bk <;> intro q1
 focus
  refine tt ?_;refine AK o.tl (by simp) (tt ?_);refine BG _ (o.pull [_,_]) rfl rfl (by simp only [AL]; omega) fun a H A2 _ aZ o=>tt ?_;refine sw (o.pull [_,_]) fun H o=>tt ?_
  have o : AA H0 H ((Ce,.cells 5 [iI (c.AO),.buf a (A2).length,.buf b (c.to).length,.buf i (c.Av).length,.buf d (Xs).length] 0)::(a,.cells 1 ((A2).map iI) 0)::(b,.cells 1 ((c.to).map iI) 0)::(i,.cells 1 ((c.Av).map iI) 0)::(d,.cells 1 (Xs) 0)::(ob++[(id,s.obj),(BJ,AF.cells 5 [.int .i64 0,.A1,.A1,.A1,.A1] 0)])):=o.pm;refine Ff hX o fun H o=>?_
 rotate_left 1;refine tt ?_;apply bk <;> intro q2
 focus
  refine tt ?_;refine AK o.tl (by simp) (tt ?_);apply bk <;> intro g1
  focus
   have CK:=A7 g1;refine tt ?_;refine ⟨⟨_,_,o.tl.h0⟩,AK o.tl (by simp) ?_⟩;refine tt ?_;refine (AZ B _).FT hs o fun r s H _ ⟨v,e,_⟩ hs o hz=>⟨hz, ?_⟩;subst e;refine tt ?_;refine ⟨by omega, ?_⟩;refine Bw v (o.pull [_,_,_,_]) rfl (by omega) fun H o=>tt ?_
   have o : AA H0 H ((Ce,.cells 5 [iI (c.AO),.buf a (c.AJ).length,.buf b (c.to).length,.buf i (c.Av.set (Int.toNat 0) v).length,.buf d (Xs).length] 0)::(a,.cells 1 ((c.AJ).map iI) 0)::(b,.cells 1 ((c.to).map iI) 0)::(i,.cells 1 ((c.Av.set (Int.toNat 0) v).map iI) 0)::(d,.cells 1 (Xs) 0)::(ob++[(id,s.obj),(BJ,AF.cells 5 [.int .i64 0,.A1,.A1,.A1,.A1] 0)])):=o.pm;refine Ff hX o fun H o=>?_
  rotate_left 1;refine tt ?_
  have o : AA H0 H ((Ce,.cells 5 [iI (c.AO),.buf a (c.AJ).length,.buf b (c.to).length,.buf i (c.Av).length,.buf d (Xs).length] 0)::(a,.cells 1 ((c.AJ).map iI) 0)::(b,.cells 1 ((c.to).map iI) 0)::(i,.cells 1 ((c.Av).map iI) 0)::(d,.cells 1 (Xs) 0)::(ob++[(id,s.obj),(BJ,AF.cells 5 [.int .i64 0,.A1,.A1,.A1,.A1] 0)])):=o.pm;refine Ff hX o fun H o=>?_
 rotate_left 2;refine tt ?_;apply bk <;> intro q3
 focus
  refine tw q3 ?_;apply bk <;> intro g1
  focus
   have CK:=A7 g1
   have TP:=TP (by omega)
   have B3:=crow f (by omega);refine tt ?_;refine ⟨⟨_,_,o.tl.h0⟩,AK o.tl (by simp) ?_⟩;refine tt ?_;refine ⟨by omega, ?_⟩
   have od:=o.pull [_,_,_,_,_];simp only [List.cons_append,List.nil_append] at od;refine ⟨⟨_,_,od.h0⟩,AK od (by omega) ?_⟩
   obtain ⟨BQ,Vf,HM⟩:=hX.row (i:=f) (by omega) (by have : (c.comp.getD f []).length=c.AJ.length:=B3; omega);rw [Vf];refine tt ?_;refine (AZ B _).FT hs o fun r s H _ ⟨v,e,KB,CF,_⟩ hs o hz=>⟨hz, ?_⟩;subst e
   have CF:=CF (by omega);refine tt ?_;refine (AZ B _).FT hs o fun r s H _ ⟨v2,e,_⟩ hs o hz=>⟨hz, ?_⟩;subst e
   have Mc : (c.comp.getD f []).length=c.AJ.length:=B3;refine tt ?_;refine ⟨by omega, ?_⟩
   have od : AA H0 H ((d,AF.cells 1 Xs 0)::(ob++((id,s.obj)::(Ce,.cells 5 [iI c.AO,.buf a c.AJ.length,.buf b c.to.length,.buf i c.Av.length,.buf d Xs.length] 0)::(a,.cells 1 (c.AJ.map iI) 0)::(b,.cells 1 (c.to.map iI) 0)::(i,.cells 1 (c.Av.map iI) 0)::[(BJ,AF.cells 5 [.int .i64 0,.A1,.A1,.A1,.A1] 0)]))):=o.pm;refine HM od v.toNat (by omega) _ rfl fun H ob2 Xb o=>tt ?_
   have o : AA H0 H ((Ce,.cells 5 [iI (c.AO),.buf a (c.AJ).length,.buf b (c.to).length,.buf i (c.Av).length,.buf d (Xs).length] 0)::(a,.cells 1 ((c.AJ).map iI) 0)::(b,.cells 1 ((c.to).map iI) 0)::(i,.cells 1 ((c.Av).map iI) 0)::(d,.cells 1 (Xs) 0)::(ob2++[(id,s.obj),(BJ,AF.cells 5 [.int .i64 0,.A1,.A1,.A1,.A1] 0)])):=o.pm;refine Ff Xb o fun H o=>?_
  rotate_left 1;refine tt ?_
  have o : AA H0 H ((Ce,.cells 5 [iI (c.AO),.buf a (c.AJ).length,.buf b (c.to).length,.buf i (c.Av).length,.buf d (Xs).length] 0)::(a,.cells 1 ((c.AJ).map iI) 0)::(b,.cells 1 ((c.to).map iI) 0)::(i,.cells 1 ((c.Av).map iI) 0)::(d,.cells 1 (Xs) 0)::(ob++[(id,s.obj),(BJ,AF.cells 5 [.int .i64 0,.A1,.A1,.A1,.A1] 0)])):=o.pm;refine Ff hX o fun H o=>?_
 rotate_left 2;refine tt ?_;apply bk <;> intro q4
 focus
  refine tw q4 ?_;apply bk <;> intro g1
  focus
   have CK:=A7 g1
   have TP:=TP (by omega)
   have B3:=crow f (by omega);refine tt ?_;refine ⟨⟨_,_,o.tl.h0⟩,AK o.tl (by simp) ?_⟩;refine tt ?_;refine ⟨by omega, ?_⟩
   have od:=o.pull [_,_,_,_,_];simp only [List.cons_append,List.nil_append] at od;refine ⟨⟨_,_,od.h0⟩,AK od (by omega) ?_⟩
   obtain ⟨BQ,Vf,HM⟩:=hX.row (i:=f) (by omega) (by have : (c.comp.getD f []).length=c.AJ.length:=B3; omega);rw [Vf];refine tt ?_;refine (AZ B _).FT hs o fun r s H _ ⟨v,e,KB,CF,_⟩ hs o hz=>⟨hz, ?_⟩;subst e
   have CF:=CF (by omega);refine tt ?_;refine (AZ B _).FT hs o fun r s H _ ⟨v2,e,_⟩ hs o hz=>⟨hz, ?_⟩;subst e
   have Mc : (c.comp.getD f []).length=c.AJ.length:=B3;refine tt ?_;refine ⟨by omega, ?_⟩
   have od : AA H0 H ((d,AF.cells 1 Xs 0)::(ob++((id,s.obj)::(Ce,.cells 5 [iI c.AO,.buf a c.AJ.length,.buf b c.to.length,.buf i c.Av.length,.buf d Xs.length] 0)::(a,.cells 1 (c.AJ.map iI) 0)::(b,.cells 1 (c.to.map iI) 0)::(i,.cells 1 (c.Av.map iI) 0)::[(BJ,AF.cells 5 [.int .i64 0,.A1,.A1,.A1,.A1] 0)]))):=o.pm;refine HM od v.toNat (by omega) _ rfl fun H ob2 Xb o=>tt ?_
   have o : AA H0 H ((Ce,.cells 5 [iI (c.AO),.buf a (c.AJ).length,.buf b (c.to).length,.buf i (c.Av).length,.buf d (Xs).length] 0)::(a,.cells 1 ((c.AJ).map iI) 0)::(b,.cells 1 ((c.to).map iI) 0)::(i,.cells 1 ((c.Av).map iI) 0)::(d,.cells 1 (Xs) 0)::(ob2++[(id,s.obj),(BJ,AF.cells 5 [.int .i64 0,.A1,.A1,.A1,.A1] 0)])):=o.pm;refine Ff Xb o fun H o=>?_
  rotate_left 1;refine tt ?_
  have o : AA H0 H ((Ce,.cells 5 [iI (c.AO),.buf a (c.AJ).length,.buf b (c.to).length,.buf i (c.Av).length,.buf d (Xs).length] 0)::(a,.cells 1 ((c.AJ).map iI) 0)::(b,.cells 1 ((c.to).map iI) 0)::(i,.cells 1 ((c.Av).map iI) 0)::(d,.cells 1 (Xs) 0)::(ob++[(id,s.obj),(BJ,AF.cells 5 [.int .i64 0,.A1,.A1,.A1,.A1] 0)])):=o.pm;refine Ff hX o fun H o=>?_
 rotate_left 2;refine tt ?_;apply bk <;> intro q5
 focus
  refine tw q5 ?_;apply bk <;> intro g1
  focus
   have CK:=A7 g1
   have TP:=TP (by omega)
   have B3:=crow f (by omega);refine tt ?_;refine ⟨⟨_,_,o.tl.h0⟩,AK o.tl (by simp) ?_⟩;refine tt ?_;refine ⟨by omega, ?_⟩
   have od:=o.pull [_,_,_,_,_];simp only [List.cons_append,List.nil_append] at od;refine ⟨⟨_,_,od.h0⟩,AK od (by omega) ?_⟩
   obtain ⟨BQ,Vf,HM⟩:=hX.row (i:=f) (by omega) (by have : (c.comp.getD f []).length=c.AJ.length:=B3; omega);rw [Vf];refine tt ?_;refine (AZ B _).FT hs o fun r s H _ ⟨v,e,KB,CF,_⟩ hs o hz=>⟨hz, ?_⟩;subst e
   have CF:=CF (by omega);refine tt ?_;refine (AZ B _).FT hs o fun r s H _ ⟨v2,e,_⟩ hs o hz=>⟨hz, ?_⟩;subst e
   have Mc : (c.comp.getD f []).length=c.AJ.length:=B3;refine tt ?_;refine ⟨by omega, ?_⟩
   have od : AA H0 H ((d,AF.cells 1 Xs 0)::(ob++((id,s.obj)::(Ce,.cells 5 [iI c.AO,.buf a c.AJ.length,.buf b c.to.length,.buf i c.Av.length,.buf d Xs.length] 0)::(a,.cells 1 (c.AJ.map iI) 0)::(b,.cells 1 (c.to.map iI) 0)::(i,.cells 1 (c.Av.map iI) 0)::[(BJ,AF.cells 5 [.int .i64 0,.A1,.A1,.A1,.A1] 0)]))):=o.pm;refine HM od v.toNat (by omega) _ rfl fun H ob2 Xb o=>tt ?_
   have o : AA H0 H ((Ce,.cells 5 [iI (c.AO),.buf a (c.AJ).length,.buf b (c.to).length,.buf i (c.Av).length,.buf d (Xs).length] 0)::(a,.cells 1 ((c.AJ).map iI) 0)::(b,.cells 1 ((c.to).map iI) 0)::(i,.cells 1 ((c.Av).map iI) 0)::(d,.cells 1 (Xs) 0)::(ob2++[(id,s.obj),(BJ,AF.cells 5 [.int .i64 0,.A1,.A1,.A1,.A1] 0)])):=o.pm;refine Ff Xb o fun H o=>?_
  rotate_left 1;refine tt ?_
  have o : AA H0 H ((Ce,.cells 5 [iI (c.AO),.buf a (c.AJ).length,.buf b (c.to).length,.buf i (c.Av).length,.buf d (Xs).length] 0)::(a,.cells 1 ((c.AJ).map iI) 0)::(b,.cells 1 ((c.to).map iI) 0)::(i,.cells 1 ((c.Av).map iI) 0)::(d,.cells 1 (Xs) 0)::(ob++[(id,s.obj),(BJ,AF.cells 5 [.int .i64 0,.A1,.A1,.A1,.A1] 0)])):=o.pm;refine Ff hX o fun H o=>?_
 rotate_left 2;refine tw q5 ?_;apply bk <;> intro q6
 focus
  refine tt ?_;apply bk <;> intro g1
  focus
   have CK:=A7 g1
   have TP:=TP (by omega);refine tt ?_;refine ⟨⟨_,_,o.tl.h0⟩,AK o.tl (by simp) ?_⟩;refine tt ?_;refine ⟨⟨_,_,o.tl.h0⟩,AK o.tl (by simp) ?_⟩;refine tt ?_;refine (AZ B _).FT hs o fun r s H _ ⟨v,e,_⟩ hs o hz=>⟨hz, ?_⟩;subst e;refine tt ?_;refine ⟨by omega, ?_⟩;refine Bw v (o.pull [_,_,_]) rfl (by omega) fun H o=>tt ?_
   have o : AA H0 H ((Ce,.cells 5 [iI (c.AO),.buf a (c.AJ).length,.buf b (c.to.set f v).length,.buf i (c.Av).length,.buf d (Xs).length] 0)::(a,.cells 1 ((c.AJ).map iI) 0)::(b,.cells 1 ((c.to.set f v).map iI) 0)::(i,.cells 1 ((c.Av).map iI) 0)::(d,.cells 1 (Xs) 0)::(ob++[(id,s.obj),(BJ,AF.cells 5 [.int .i64 0,.A1,.A1,.A1,.A1] 0)])):=o.pm;refine Ff hX o fun H o=>?_
  rotate_left 1;refine tt ?_
  have o : AA H0 H ((Ce,.cells 5 [iI (c.AO),.buf a (c.AJ).length,.buf b (c.to).length,.buf i (c.Av).length,.buf d (Xs).length] 0)::(a,.cells 1 ((c.AJ).map iI) 0)::(b,.cells 1 ((c.to).map iI) 0)::(i,.cells 1 ((c.Av).map iI) 0)::(d,.cells 1 (Xs) 0)::(ob++[(id,s.obj),(BJ,AF.cells 5 [.int .i64 0,.A1,.A1,.A1,.A1] 0)])):=o.pm;refine Ff hX o fun H o=>?_
 rotate_left 2;refine tt ?_
 have od : AA H0 H ((d,AF.cells 1 Xs 0)::(ob++((id,s.obj)::(Ce,.cells 5 [iI c.AO,.buf a c.AJ.length,.buf b c.to.length,.buf i c.Av.length,.buf d Xs.length] 0)::(a,.cells 1 (c.AJ.map iI) 0)::(b,.cells 1 (c.to.map iI) 0)::(i,.cells 1 (c.Av.map iI) 0)::[(BJ,AF.cells 5 [.int .i64 0,.A1,.A1,.A1,.A1] 0)]))):=o.pm;refine Cy hX [] H od fun H o=>AY ?_;simp only [List.nil_append] at o;refine tt ?_;apply bk <;> intro g1
 focus
  have CK:=A7 g1
  have TP:=TP (by omega)
  have B3:=crow f (by omega);refine tt ?_;refine ⟨⟨_,_,o.tl.tl.h0⟩,AK o.tl.tl (by simp) ?_⟩;refine tt ?_;refine ⟨⟨_,_,o.tl.tl.h0⟩,AK o.tl.tl (by simp) ?_⟩;refine tt ?_;refine ⟨by omega,⟨_,_,o.h0⟩,BU (f:=iL) o (by omega) ?_⟩;refine tt ?_;refine ⟨⟨by omega,by omega⟩,by omega, ?_⟩;refine Bw (f:=iL) ((c.comp.getD f default).drop (Int.toNat 1)) o rfl (by omega) fun H o=>tt ?_
  have o : AA H0 H ((Ce,.cells 5 [iI c.AO,.buf a c.AJ.length,.buf b c.to.length,.buf i c.Av.length,.buf d (c.comp.set f ((c.comp.getD f default).drop (Int.toNat 1))).length] 0)::(a,.cells 1 (c.AJ.map iI) 0)::(b,.cells 1 (c.to.map iI) 0)::(i,.cells 1 (c.Av.map iI) 0)::(d,.cells 1 ((c.comp.set f ((c.comp.getD f default).drop (Int.toNat 1))).map iL) 0)::[(id,s.obj),(BJ,AF.cells 5 [.int .i64 0,.A1,.A1,.A1,.A1] 0)]):=by
   rw [show Xs.length=c.comp.length from IV] at o;exact o.pm
  refine SR o fun H o=>?_
 rotate_left 1;refine tt ?_
 have o : AA H0 H ((Ce,.cells 5 [iI c.AO,.buf a c.AJ.length,.buf b c.to.length,.buf i c.Av.length,.buf d (c.comp).length] 0)::(a,.cells 1 (c.AJ.map iI) 0)::(b,.cells 1 (c.to.map iI) 0)::(i,.cells 1 (c.Av.map iI) 0)::(d,.cells 1 ((c.comp).map iL) 0)::[(id,s.obj),(BJ,AF.cells 5 [.int .i64 0,.A1,.A1,.A1,.A1] 0)]):=by
  have:=IV;rw [show Xs.length=c.comp.length from IV] at o;exact o.pm
 refine SR o fun H o=>?_
 all_goals
  refine AY ?_;refine tt ?_;refine Ac o (by simp [Ay.cells]) ?_;try simp only [go_sem,↓reduceIte,reduceEqDiff,reduceAdd,reduceMul,reduceLeDiff,reduceLT,Ay.cells]
  refine sw (o.pull [_,_]) fun H o=>tt ?_
  have BV:=o.rc 5 0 (by simp);simp only [List.drop_zero] at BV;rw [BV];refine tt ?_;exact Ax (o7 _ _ _ _ _) hs (o.pull [_,_])
theorem Od (B : Nat) (mo ma : Int) : Rd B 55 [iI mo,iI ma] lK:=by
 intro id s H0 H hs o;refine c55.go fun _=>?_;refine tt ?_;refine Ai o fun F4 H o=>tt ?_;refine (IE B mo ma).go hs o.swap fun r s H _ ⟨c,e,hc⟩ hs o=>?_;subst e;refine tt ?_;refine Ai o fun Cq H o=>tt ?_;refine sw o fun H o=>tt ?_;refine (AZ B 24).go hs o.swap fun r s H _ ⟨v,e,_⟩ hs o=>?_;subst e;refine tt ?_;apply bk <;> intro h1
 focus
  refine tt ?_;refine Ac o.tl (by simp) (tt ?_);refine (O0 B 20000 (by omega) c hc).go hs o fun r s H _ ⟨c2,e⟩ hs o=>?_;subst e;refine tt ?_;refine sw (o.pull [_,_]) fun H o=>?_
 rotate_left 1
 focus
  refine tt ?_;refine Ac o.tl (by simp) (tt ?_);refine sw (o.pull [_,_]) fun H o=>?_
 all_goals
  refine tt ?_
  have BV:=o.rc 5 0 (by simp);simp only [List.drop_zero] at BV;rw [BV];refine tt ?_;exact Ax (o7 _ _ _ _ _) hs o.swap
end Go.Proofs.Shf
namespace Go.Shf
open Go.AW
theorem qU {α : Type} {a b : List α} {i : Nat} {d : α} (h : i<a.length) : (a++b).getD i d=a.getD i d:=by
 rw [gE,List.getElem?_append_left h,← gE]
theorem qQ {α : Type} {a b : List α} {i : Nat} {d : α} (h : a.length≤i) : (a++b).getD i d=b.getD (i - a.length) d:=by
 rw [gE,List.getElem?_append_right h,← gE]
end Go.Shf
namespace Go.Proofs.Shf
open Go.AW Go.Proofs Go.Shf
theorem WE (B : Nat) : Rd B 288 [] (QN 20000):=by
 intro id s H0 H hs o;refine xt.go fun _=>?_;refine tt ?_;refine Ai o fun ER H o=>tt ?_;refine (AZ B 20).go hs o.swap fun r s H _ ⟨k,e,_⟩ hs o=>?_;subst e;refine tt ?_;apply bk <;> intro h1
 ·refine tt ?_;refine (IE B 6 24).go hs o fun r s H _ ⟨c,e,h1⟩ hs o=>?_;subst e;refine tt ?_;refine sw o.swap fun H o=>tt ?_
  have hr:=o.rc 5 0 (by simp);simp only [List.drop_zero] at hr;rw [hr];refine tt ?_;exact Ax ⟨c,rfl,h1⟩ hs o.swap
 ·refine tt ?_;refine (IE B 4 9).go hs o fun r s H _ ⟨c,e,h1⟩ hs o=>?_;subst e;refine tt ?_;refine sw o.swap fun H o=>tt ?_
  have hr:=o.rc 5 0 (by simp);simp only [List.drop_zero] at hr;rw [hr];refine tt ?_;exact Ax ⟨c,rfl,h1⟩ hs o.swap
def CatK (c : Ay) (H0 : AB) : Am:=fun r H'=>(∃ cod,cod≠0∧r=.CG [.agg [.int .i64 0,.A1,.A1,.A1,.A1,.A1,.A1,.A1],.A1,iI cod]∧H'=H0) ∨
 ((c.Is∧Bg c)∧∃ (id : Nat) (ms : List (Nat × List Bool)),r=.CG [.agg (BE c (AN c)),.buf id ms.length,iI 0]∧DU (AN c) (ms.map Prod.snd)∧AA H0 H' ((id,.cells 1 (ms.map CM) 0)::inner AV.bool ms))
theorem NM (B : Nat) (c : Ay) (H0 : AB) : CB B 289 [.agg c.cells] H0 (CatK c H0):=by
 refine ag.go fun _=>?_
 have o : AA H0 H0 []:=.nil _;refine tt ?_;refine nb o fun ER H o=>tt ?_;refine (Iy B c).go fun _=>?_
 by_cases hc : c.Is
 rotate_left 1
 ·rw [Aa hc];refine tt ?_;refine sw o fun H o=>tt ?_
  have hr:=o.rc 8 0 (by simp);simp only [List.drop_zero] at hr;rw [hr];refine tt ?_;exact ⟨H0,o.sub,.inl ⟨1,by decide,rfl,rfl⟩⟩
 rw [Aw hc];refine tt ?_;refine (KF B c hc).go fun _=>?_
 by_cases hf : Bg c
 rotate_left 1
 ·rw [Aa hf,Ww hf];refine tt ?_;refine nb o fun CP H o=>tt ?_;refine sw o fun H o=>tt ?_;refine sw o.swap fun H o=>tt ?_
  have hr:=o.rc 8 0 (by simp);simp only [List.drop_zero] at hr;rw [hr];refine tt ?_;exact ⟨H0,o.sub,.inl ⟨3,by decide,rfl,rfl⟩⟩
 rw [Aw hf,XP hf]
 have hL : (AN c).length=c.AO.toNat:=by simp [AN]
 have hT:=Hj hc hf;refine tt ?_;refine nb o fun CP H o=>tt ?_;refine sw o fun H o=>tt ?_;refine Ae o fun K7 H o=>tt ?_
 refine AD [2,5] (G:=Nat × List (Nat × List Bool)) (fun k g=>[(7,some (.buf g.1 g.2.length)),(8,some (.int .i64 (k : Int)))])
  (fun k g H=>(g.2.length=k∧∀ x,x<k→(g.2.getD x default).2.length=((AN c).getD x default).length)∧AA H0 H ((g.1,.cells 1 (g.2.map CM) 0)::(inner AV.bool g.2++[(CP,AF.cells 8 (BE c (AN c)) 0),(ER,AF.cells 8 [.int .i64 0,.A1,.A1,.A1,.A1,.A1,.A1,.A1] 0)]))) (AN c).length (K7,[]) ⟨⟨rfl,fun x hx=>by omega⟩,o⟩ rfl ?_
 clear o
 rintro k ⟨K7,ms⟩ H hk ⟨⟨hl,B3⟩,o⟩;dsimp only at hl B3 o
 have g5 : H.get CP=some (AF.cells 8 (BE c (AN c)) 0):=o.get (CP,AF.cells 8 (BE c (AN c)) 0) (by simp)
 have F3:=hc.1.o;refine tt ?_;refine Af g5 (by simp [BE]) (tt ?_);apply bk <;> intro h1
 ·have AR:=A7 h1
  have w:=ws k
  have Bc:=hT.Yh k AR;refine tt ?_;refine Af g5 (by simp [BE]) (tt ?_);refine ⟨AR,tt ?_⟩;refine ⟨⟨by omega,by simp only [AL]; omega⟩,DD AV.bool false rfl o fun BQ H o=>?_⟩;refine tt ?_;refine Ad (f:=CM) (BQ,List.replicate ((AN c).getD k default).length false) o.swap (by simp [CM]) rfl (by simp only [AL]; omega) fun K7 H o=>?_;refine tw w ?_;refine A5 (K7,ms++[(BQ,List.replicate ((AN c).getD k default).length false)]) AR ⟨⟨by simp [hl],fun x hx=>?_⟩, ?_⟩ rfl
  ·show ((ms++[_]).getD x default).2.length=_
   by_cases e : x<k
   ·rw [qU (by omega)]; exact B3 x e
   ·have ex : x=k:=by omega
    rw [qQ (by omega),ex,hl,Nat.sub_self]; simp
  ·refine o.perm (.cons _ ?_);simp only [inner,List.map_append,List.map_cons,List.map_nil,List.append_assoc,List.cons_append,List.nil_append];exact List.perm_middle.symm
 ·have AR : k=(AN c).length:=by have:=A9 h1; omega
  refine tt ?_
  have o : AA H0 H ((CP,AF.cells 8 (BE c (AN c)) 0)::(ER,AF.cells 8 [.int .i64 0,.A1,.A1,.A1,.A1,.A1,.A1,.A1] 0)::(K7,.cells 1 (ms.map CM) 0)::inner AV.bool ms):=o.pm;refine Ac o (by simp [BE]) (tt ?_);refine Ap o.swap (by simp) (by simp [BE]) (by first | (simp only [go_sem]; done) | ((try simp only [go_sem]); simp [AV.one,EP])) fun H o=>?_;have o:=s2 o;refine tt ?_
  have hr:=o.rc 8 0 (by simp);simp only [List.drop_zero] at hr;rw [hr];refine tt ?_;refine ⟨H,.refl _,.inr ⟨⟨hc,hf⟩,K7,ms,rfl,⟨by simp [hl,AR],fun x hx=>?_⟩,o.tl.tl⟩⟩;rw [BB _ (by omega)]; exact B3 x (by omega)
theorem QG (B : Nat) (c : Ay) (L : List (List (List Int))) (t : Ds c L) (ms : List (Nat × List Bool)) (hM : DU L (ms.map Prod.snd)) (id : Nat) (H0 H : AB) (l : Ob)
  (o : AA H0 H ((id,.cells 1 (ms.map CM) 0)::(inner AV.bool ms++l))) :
  CB B 290 [.agg (BE c L),.buf id ms.length] H (fun r H'=>r=.CG []∧∃ ms' : List (Nat × List Bool),ms'.length=ms.length∧DU L (ms'.map Prod.snd)∧AA H0 H' ((id,.cells 1 (ms'.map CM) 0)::(inner AV.bool ms'++l))):=by
 refine c290.go fun _=>?_
 obtain ⟨n,hn⟩ : ∃ n,ms.length=n:=⟨_,rfl⟩;rw [hn];refine tt ?_;refine Dg [1,2] (G:=List (Nat × List Bool)) (fun _=>[]) (fun m ms' H=>m=Sv ms'∧ms'.length=n∧DU L (ms'.map Prod.snd)∧AA H0 H ((id,.cells 1 (ms'.map CM) 0)::(inner AV.bool ms'++l))) (Sv ms) ms ⟨rfl,hn,hM,o⟩ rfl ?_;clear o
 rintro m ms' H ⟨rfl,hl,wI,o⟩
 have Fo:=Tw B c L t ms' wI id H0 H l o;rw [hl] at Fo;refine tt ?_;refine Fo.mono ?_
 rintro r H' (⟨rfl,o⟩ | ⟨rfl,ms2,Ii,hM2,D1,o⟩)
 ·refine tt ?_;exact ⟨H',.refl _,rfl,ms',hl,wI,o⟩
 ·refine tt ?_;exact CY (Sv ms2) ms2 D1 ⟨rfl,Ii.trans hl,hM2,o⟩ rfl
def cp (c : Ay) (C : List (List (List Int))) (p : Ob) (X : AV) : Prop:=∃ (Ep : Nat) (Xs : List AV) (ob : Ob),X=.agg [iI c.AO,iL c.AJ,iL c.to,iL c.Av,BA c.comp,.buf Ep Xs.length]∧Et iL Xs C ob∧(Xs.length≤1000∧∀ r,r∈C→r.length≤1000)∧p=(Ep,.cells 1 Xs 0)::ob
@[go_sem] def Ir (c : Ay) (X : AV) : AF:=.cells 6 [iI c.AO,iL c.AJ,iL c.to,iL c.Av,BA c.comp,X] 0
theorem Qb (B : Nat) (c : Ay) (hc : c.Is) (L : List (List (List Int))) (t : Ds c L) (M : List (List Bool)) (hM : DU L M) : Gk Tryz.prog B 291 [.agg (BE c L),mL (mL AV.bool) M] (fun p X=>∃ C,cp c C p X):=by
 refine ⟨fun H0=>c291.go fun _=>?_⟩
 have o : AA H0 H0 []:=.nil _
 have F3:=hc.1.o
 have l5:=t.len
 have jw:=hM.len;refine tt ?_;refine nb o fun BJ H o=>tt ?_;refine (EX B c).go fun _=>tt ?_;refine Ae o fun Ep H o=>tt ?_;refine nb o fun CP H o=>tt ?_;refine sw o fun H o=>tt ?_
 have o : AA H0 H ((CP,Ir c (.buf Ep ([] : List AV).length))::(Ep,.cells 1 [] 0)::([]++[(BJ,AF.cells 6 [.int .i64 0,.A1,.A1,.A1,.A1,.A1] 0)])):=o
 refine AD [1,2,4,5] (G:=Nat × List AV × Ob × List (List (List Int))) (fun x _=>[(6,some (.int .i64 (x : Int)))])
  (fun x g H=>Et iL g.2.1 g.2.2.2 g.2.2.1∧(g.2.1.length=x∧∀ r,r∈g.2.2.2→r.length≤1000)∧AA H0 H ((CP,Ir c (.buf g.1 g.2.1.length))::(g.1,.cells 1 g.2.1 0)::(g.2.2.1++[(BJ,AF.cells 6 [.int .i64 0,.A1,.A1,.A1,.A1,.A1] 0)]))) M.length (Ep,[],[],[]) ⟨.nil,⟨rfl,by simp⟩,o⟩ rfl ?_
 clear o
 rintro x ⟨Ep,Xs,ob,C⟩ H hx ⟨hX,⟨IV,aJ⟩,o⟩;dsimp only at hX IV aJ o;refine tt ?_;apply bk <;> intro h1
 ·have AR:=A7 h1
  have w:=ws x
  have B3:=hM.row x (by omega)
  have Bc:=t.Yh x (by omega);refine tt ?_;refine Ae o fun BQ H o=>tt ?_
  refine AD [1,2,4,5,6] (G:=Nat × List (List Int)) (fun k g=>[(7,some (.buf g.1 g.2.length)),(8,some (.int .i64 (k : Int)))])
   (fun k g H=>g.2.length≤k∧AA H0 H ((g.1,.cells 1 (g.2.map iL) 0)::(CP,Ir c (.buf Ep Xs.length))::(Ep,.cells 1 Xs 0)::(ob++[(BJ,AF.cells 6 [.int .i64 0,.A1,.A1,.A1,.A1,.A1] 0)]))) (M.getD x default).length (BQ,[]) ⟨by simp,o⟩ rfl ?_
  clear o
  rintro k ⟨BQ,A⟩ H hk ⟨hA,o⟩;dsimp only at hA o;refine tt ?_;refine ⟨AR, ?_⟩;apply bk <;> intro h2
  ·have Ah:=A7 h2
   have wk:=ws k;refine tt ?_;refine ⟨AR,Ah, ?_⟩
   cases hb : (M.getD x default).getD k default with
   | false =>
    refine tw wk ?_;exact A5 (BQ,A) Ah ⟨by show A.length≤_; omega,o⟩ rfl
   | true =>
    refine tt ?_;refine ⟨by omega,by omega, ?_⟩;refine (Df ..).go fun _=>tt ?_;refine Ad (f:=iL) ((L.getD x default).getD k default) o rfl rfl (by simp only [AL]; omega) fun BQ H o=>?_;refine tw wk ?_;exact A5 (BQ,A++[(L.getD x default).getD k default]) Ah ⟨by simp; omega,o⟩ rfl
  ·have Ah : k=(M.getD x default).length:=by have:=A9 h2; omega
   refine tt ?_;refine AK o.tl (by simp) (tt ?_)
   have o : AA H0 H ((Ep,.cells 1 Xs 0)::((BQ,.cells 1 (A.map iL) 0)::(ob++[(CP,Ir c (.buf Ep Xs.length)),(BJ,AF.cells 6 [.int .i64 0,.A1,.A1,.A1,.A1,.A1] 0)]))):=o.pm;refine Nh o rfl rfl rfl (by simp only [AL]; omega) fun iZ H o=>tt ?_
   have o : AA H0 H ((CP,Ir c (.buf Ep Xs.length))::(iZ,.cells 1 (Xs++[AV.buf BQ A.length]) 0)::(BQ,.cells 1 (A.map iL) 0)::(ob++[(BJ,AF.cells 6 [.int .i64 0,.A1,.A1,.A1,.A1,.A1] 0)])):=o.pm;refine sw o fun H o=>?_;refine tw w ?_
   have hXs : (Xs++[AV.buf BQ A.length]).length=Xs.length+1:=by simp
   refine A5 (iZ,Xs++[AV.buf BQ A.length],ob++[(BQ,AF.cells 1 (A.map iL) 0)],C++[A]) AR ⟨hX.Y9 (.inr ⟨BQ,rfl,rfl⟩),⟨by simp [IV],fun r hr=>?_⟩, ?_⟩ rfl;rotate_left 1;simp only [Ir];rw [hXs];exact o.pm
   rcases List.mem_append.mp hr with h | h
   ·exact aJ r h
   ·rw [List.mem_singleton] at h; subst h; omega
 ·refine tt ?_
  have o : AA H0 H ((CP,Ir c (.buf Ep Xs.length))::(BJ,AF.cells 6 [.int .i64 0,.A1,.A1,.A1,.A1,.A1] 0)::(Ep,.cells 1 Xs 0)::ob):=o.pm;refine Ac o (by simp) (tt ?_);refine sw o.swap fun H o=>tt ?_
  have BV:=o.rc 6 0 (by simp);simp only [List.drop_zero] at BV;rw [BV];refine tt ?_;exact ⟨H,.refl H,_,⟨C,Ep,Xs,ob,rfl,hX,⟨by omega,aJ⟩,rfl⟩,o.tl.tl⟩
end Go.Proofs.Shf
