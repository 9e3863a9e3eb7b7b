/- Contracts, part 6. -/
import Derived.Test.YtphikjciekmijaaGreatT5
set_option linter.unusedVariables false
set_option linter.unusedSimpArgs false
set_option linter.unusedSectionVars false
set_option maxRecDepth 100000
open Nat (reduceEqDiff reduceAdd reduceMul reduceLeDiff reduceLT)
namespace Go.Proofs.Shf
open Go.AW Go.Proofs Go.Shf
structure NV (k : FU) : Prop where
 s : k.src.Shape
 t : k.AL.Shape
 o : iG k.src k.AL k.ob
 a : Fn k.src k.AL k.ob k.ar
theorem NV.obI {k : FU} (h : NV k) {x : Int} (hx : k.src.ES x) : 0≤x∧x.toNat<k.ob.length:=by
 have:=h.o.len
 have h1:=hx.1
 have h2:=hx.2;exact ⟨h1,by omega⟩
theorem NV.O6 {k : FU} (h : NV k) {a : Int} (ha : k.src.DB a) : 0≤a∧a.toNat<k.ar.length:=⟨ha.1,by rw [h.a.1.len]; exact ha.2⟩
theorem Up {d : Ax} {x y v : Int} (hv : v∈Ir d x y) : d.DB v:=by
 rw [Ir,List.mem_filter] at hv
 have:=Dl.mp hv.1;exact ⟨this.1,this.2.1⟩
theorem SU {d : Ax} (hd : d.Shape) (x y : Int) : (Ir d x y).length≤40:=by
 have h5:=hd.m
 have h6 : (HU d x y d.AB.length).length≤d.AB.length:=K9 _ _ _;rw [GW] at h6; omega
theorem Fe (B : Nat) {k g : FU} (hk : NV k) (hg : NV g) (e : k.AL=g.AL) : ID Tryz.prog B 271 [.agg k.cells,.agg g.cells] fun p X=>TI k.src g.src p X:=by
 refine ⟨fun H0=>wL.go fun _=>?_⟩
 have o : A9 H0 H0 []:=.nil _;refine tt ?_;refine nb o fun B1 H o=>?_
 have o : A9 H0 H [(B1,.cells 13 Af 0)]:=o;refine tt ?_;refine Qd (fun σ H=>σ=[(2,some (.ptr k.cells)),(3,some (.ptr g.cells)),(4,some (.ref B1 0)),(5,some (.ptr k.src.cells)),(6,some (.ptr g.src.cells)),(7,some (.ptr k.AL.cells))]∧A9 H0 H [(B1,.cells 13 Af 0)]) ?_ ?_
 ·refine tt ?_;refine ⟨Ai o fun ik H o=>?_,Ai o fun ik H o=>?_,Ai o fun ik H o=>?_⟩
  all_goals
   refine tt ?_;refine ⟨Ai o fun idb H o=>?_,Ai o fun idb H o=>?_⟩
  all_goals
   refine tt ?_;refine Ai o fun eC H o=>tt ?_
   first
    | refine kT o fun H o=>?_
    | refine kT o.swap fun H o=>?_
    | refine sw (o.pull [_,_]) fun H o=>?_
   refine tt ?_
   first
    | refine kT o fun H o=>?_
    | refine kT o.swap fun H o=>?_
    | refine sw (o.pull [_,_]) fun H o=>?_
   refine tt ?_
   first
    | refine kT o fun H o=>?_
    | refine kT o.swap fun H o=>?_
    | refine sw (o.pull [_,_]) fun H o=>?_
   refine tt ?_;refine Ca 7 o rfl fun H o=>?_;refine Ca 6 o rfl fun H o=>?_;refine Ca 5 o rfl fun H o=>?_;exact Vg [2,3,4,5,6,7] ⟨rfl,o⟩
 rintro σ H ⟨rfl,o⟩
 obtain ⟨c,hc⟩ : ∃ c,k.src=c:=⟨_,rfl⟩
 obtain ⟨b,hb⟩ : ∃ b,g.src=b:=⟨_,rfl⟩
 obtain ⟨d,hd⟩ : ∃ d,k.AL=d:=⟨_,rfl⟩
 have sc:=hk.s
 have sb:=hg.s
 have sd:=hk.t
 have kO:=hk.o
 have gO:=hg.o
 have kA:=hk.a
 have gA:=hg.a
 have kI:=fun x (hx : k.src.ES x)=>hk.obI hx
 have gI:=fun x (hx : g.src.ES x)=>hg.obI hx
 have kJ:=fun x (hx : k.src.DB x)=>hk.O6 hx
 have gJ:=fun x (hx : g.src.DB x)=>hg.O6 hx;rw [← e] at gO gA;rw [hc] at sc kO kA kI kJ ⊢;rw [hb] at sb gO gA gI gJ ⊢;rw [hd] at sd kO kA gO gA ⊢
 have co:=sc.o
 have bo:=sb.o
 have cm:=sc.m
 have bm:=sb.m;refine tt ?_;refine ⟨_,(DI B c).run,_,(DI B b).run,tt ?_⟩;refine nb o fun Bc H o=>tt ?_;refine sw o fun H o=>?_
 have o : A9 H0 H [(Bc,.cells 13 (Bi c b .Dg .Dg .Dg) 0),(B1,.cells 13 Af 0)]:=o;refine tt ?_
 refine AD [2,3,4,5,6,7,8] (G:=AV × Ob × List (List Int)) (fun n _=>[(9,some (.int .i64 (n : Int)))])
  (fun n G H=>(TH G.2.1 G.1 G.2.2∧G.2.2.length=n)∧A9 H0 H ((Bc,.cells 13 (Bi c b G.1 .Dg .Dg) 0)::(G.2.1++[(B1,.cells 13 Af 0)]))) c.AF.toNat (.Dg,[],[]) ⟨⟨.inl ⟨rfl,rfl,rfl⟩,rfl⟩,o⟩ rfl ?_
 clear o
 rintro n ⟨X,q,S⟩ H hn ⟨⟨hX,hS⟩,o⟩
 replace hX : TH q X S:=hX
 replace hS : S.length=n:=hS
 replace o : A9 H0 H ((Bc,.cells 13 (Bi c b X .Dg .Dg) 0)::(q++[(B1,.cells 13 Af 0)])):=o;refine tt ?_;apply bk <;> intro h1
 ·have AU:=A6 h1
  have w:=ws n
  have vi : c.ES n:=⟨by omega,AU⟩;refine tt ?_;refine AP o fun Io H o=>tt ?_
  refine AD [2,3,4,5,6,7,8,9] (G:=Nat × List Int) (fun j G=>[(10,some (.buf G.1 G.2.length)),(11,some (.int .i64 (j : Int)))])
   (fun j G H=>G.2.length=j∧A9 H0 H ((G.1,.cells 1 (G.2.map iI) 0)::(Bc,.cells 13 (Bi c b X .Dg .Dg) 0)::(q++[(B1,.cells 13 Af 0)]))) b.AF.toNat (Io,[]) ⟨rfl,(show A9 H0 H ((Io,.cells 1 (([] : List Int).map iI) 0)::(Bc,.cells 13 (Bi c b X .Dg .Dg) 0)::(q++[(B1,.cells 13 Af 0)])) from o)⟩ rfl ?_
  clear o
  rintro j ⟨Io,row⟩ H hj ⟨Bf,o⟩
  replace Bf : row.length=j:=Bf
  replace o : A9 H0 H ((Io,.cells 1 (row.map iI) 0)::(Bc,.cells 13 (Bi c b X .Dg .Dg) 0)::(q++[(B1,.cells 13 Af 0)])):=o;refine tt ?_;apply bk <;> intro h2
  ·have Aq:=A6 h2
   have w2:=ws j
   have FG : b.ES j:=⟨by omega,Aq⟩;refine tt ?_;refine ⟨(kI _ vi).2,(gI _ FG).2,_,(Kl B d sd _ _).run,tt ?_⟩;refine Ae ((Ir d (k.ob.getD n default) (g.ob.getD j default)).length : Int) o rfl rfl (by rw [Bf]; simp only [AN]; omega) fun Io H o=>?_;refine tw w2 ?_;refine A4 (Io,row++[((Ir d (k.ob.getD n default) (g.ob.getD j default)).length : Int)]) (by omega) ⟨by simp [Bf],o⟩ rfl
  ·have Aq:=A7 h2;refine tt ?_;refine AH o.tl (by simp [Bi]) (tt ?_);refine hX.app (l:=[(Bc,.cells 13 (Bi c b X .Dg .Dg) 0),(B1,.cells 13 Af 0)]) (o.pm) rfl (by rw [hS]; simp only [AN]; omega) fun ids Xs ob H Uw o=>?_
   have o : A9 H0 H ((Bc,.cells 13 (Bi c b X .Dg .Dg) 0)::(((ids,.cells 1 Xs 0)::ob)++[(B1,.cells 13 Af 0)])):=o.pm;refine tt ?_;refine AS o (by simp [Bi]) (by (try simp only [go_sem]); (try simp)) (by first | (simp only [go_sem]; done) | ((try simp only [go_sem]); simp [AV.one,Ay])) fun H o=>?_;unfold Bi at o;have o:=s2 o;refine tw w ?_;exact A4 (.buf ids Xs.length,(ids,.cells 1 Xs 0)::ob,S++[row]) (by omega) ⟨⟨.inr ⟨ids,Xs,ob,rfl,rfl,Uw⟩,by simp [hS]⟩,o⟩ rfl
 clear h1;refine tt ?_
 refine AD [2,3,4,5,6,7,8] (G:=AV × Ob × List (List (List Int))) (fun n _=>[(12,some (.int .i64 (n : Int)))])
  (fun n G H=>(zU B5 G.2.1 G.1 G.2.2∧G.2.2.length=n)∧A9 H0 H ((Bc,.cells 13 (Bi c b X G.1 .Dg) 0)::(G.2.1++(q++[(B1,.cells 13 Af 0)])))) c.AB.length (.Dg,[],[]) ⟨⟨.inl ⟨rfl,rfl,rfl⟩,rfl⟩,o⟩ rfl ?_
 clear o
 rintro n ⟨Y,p,LY⟩ H hn ⟨⟨hY,hS⟩,o⟩
 replace hY : zU B5 p Y LY:=hY
 replace hS : LY.length=n:=hS
 replace o : A9 H0 H ((Bc,.cells 13 (Bi c b X Y .Dg) 0)::(p++(q++[(B1,.cells 13 Af 0)]))):=o;refine tt ?_;apply bk <;> intro h1
 ·have AU:=A6 h1
  have w:=ws n
  have ha : c.DB n:=⟨by omega,by simpa using AU⟩;refine tt ?_;refine AP o fun Io H o=>tt ?_
  refine AD [2,3,4,5,6,7,8,12] (G:=Nat × List (List Int)) (fun j G=>[(13,some (.buf G.1 G.2.length)),(14,some (.int .i64 (j : Int)))])
   (fun j G H=>G.2.length=j∧A9 H0 H ((G.1,.cells 1 (G.2.map iL) 0)::(Bc,.cells 13 (Bi c b X Y .Dg) 0)::(p++(q++[(B1,.cells 13 Af 0)])))) b.AF.toNat (Io,[]) ⟨rfl,(show A9 H0 H ((Io,.cells 1 (([] : List (List Int)).map iL) 0)::(Bc,.cells 13 (Bi c b X Y .Dg) 0)::(p++(q++[(B1,.cells 13 Af 0)]))) from o)⟩ rfl ?_
  clear o
  rintro j ⟨Io,rows⟩ H hj ⟨Dm,o⟩
  replace Dm : rows.length=j:=Dm
  replace o : A9 H0 H ((Io,.cells 1 (rows.map iL) 0)::(Bc,.cells 13 (Bi c b X Y .Dg) 0)::(p++(q++[(B1,.cells 13 Af 0)]))):=o;refine tt ?_;apply bk <;> intro h2
  ·have Aq:=A6 h2
   have w2:=ws j
   have FG : b.ES j:=⟨by omega,Aq⟩
   have i1:=kI _ (sc.qR ha)
   have i2:=kI _ (sc.pO ha)
   have i3:=gI _ FG
   have i4:=sc.v9 ha;refine tt ?_;refine ⟨i4.2,i1,i3.2,_,(Kl B d sd _ _).run,ha.2,i2,i3.2,_,(Kl B d sd _ _).run,AP o fun E9 H o=>?_⟩
   obtain ⟨F,hF⟩ : ∃ F,Ir d (ix k.ob (c.to.getD n default)) (g.ob.getD j default)=F:=⟨_,rfl⟩
   have zl : ∀ v,v∈F→d.DB v:=fun v hv=>Up (by rw [← hF] at hv; exact hv)
   have ya : F.length≤40:=by rw [← hF]; exact SU sd _ _
   obtain ⟨T,hT⟩ : ∃ T,Ir d (ix k.ob (c.AB.getD n default)) (g.ob.getD j default)=T:=⟨_,rfl⟩;rw [hF,hT];refine tt ?_
   refine AD [2,3,4,5,6,7,8,12,13,14,15,16] (G:=Nat × List Int) (fun i G=>[(17,some (.buf G.1 G.2.length)),(18,some (.int .i64 (i : Int)))])
    (fun i G H=>G.2.length=i∧A9 H0 H ((G.1,.cells 1 (G.2.map iI) 0)::(Io,.cells 1 (rows.map iL) 0)::(Bc,.cells 13 (Bi c b X Y .Dg) 0)::(p++(q++[(B1,.cells 13 Af 0)])))) F.length (E9,[])
    ⟨rfl,(show A9 H0 H ((E9,.cells 1 (([] : List Int).map iI) 0)::(Io,.cells 1 (rows.map iL) 0)::(Bc,.cells 13 (Bi c b X Y .Dg) 0)::(p++(q++[(B1,.cells 13 Af 0)]))) from o)⟩ rfl ?_
   clear o
   rintro i ⟨E9,row⟩ H hi ⟨Bf,o⟩
   replace Bf : row.length=i:=Bf
   replace o : A9 H0 H ((E9,.cells 1 (row.map iI) 0)::(Io,.cells 1 (rows.map iL) 0)::(Bc,.cells 13 (Bi c b X Y .Dg) 0)::(p++(q++[(B1,.cells 13 Af 0)]))):=o;refine tt ?_;apply bk <;> intro h3
   ·have BH:=A6 h3
    have MP : i<F.length:=by omega
    have w3:=ws i
    have hv:=zl _ (AE.mpr ⟨i,MP,rfl⟩);refine tt ?_;refine ⟨(kJ _ ha).2,MP,_,(P2 B sd (kA.ar ha).1 hv).run,_,(Hf B T _).run, ?_⟩;refine ⟨by simp [AV.cells,AV.one], ?_⟩;refine Ae (indexOf T (ix (ix d.comp (ix k.ar n)) (F.getD i default)) : Int) o rfl rfl (by rw [Bf]; simp only [AN]; omega) fun E9 H o=>?_;refine tw w3 ?_;exact A4 (E9,row++[(indexOf T (ix (ix d.comp (ix k.ar n)) (F.getD i default)) : Int)]) (by omega) ⟨by simp [Bf],o⟩ rfl
   ·have BH:=A7 h3;refine tt ?_;refine Am o rfl fun H o=>tt ?_;refine Ae (f:=iL) row o rfl rfl (by rw [Dm]; simp only [AN]; omega) fun Io H o=>?_;refine tw w2 ?_;exact A4 (Io,rows++[row]) (by omega) ⟨by simp [Dm],o⟩ rfl
  ·have Aq:=A7 h2;refine tt ?_;refine Am (f:=iL) o rfl fun H o=>tt ?_;refine AH o (by simp [Bi]) (tt ?_);refine (hY.o (l:=(Bc,.cells 13 (Bi c b X Y .Dg) 0)::(q++[(B1,.cells 13 Af 0)])) (o.pm)).app rows rfl (by rw [hS]; simp only [AN]; omega) fun ids H o=>tt ?_;refine AS o.swap (by simp [Bi]) (by (try simp only [go_sem]); (try simp)) (by first | (simp only [go_sem]; done) | ((try simp only [go_sem]); simp [AV.one,Ay])) fun H o=>?_;unfold Bi at o;have o:=s2 o;refine tw w ?_;exact A4 (.buf ids (LY++[rows]).length,[(ids,.cells 1 ((LY++[rows]).map B5) 0)],LY++[rows]) (by omega) ⟨⟨.inr ⟨ids,rfl,rfl⟩,by simp [hS]⟩,o⟩ rfl
 clear h1;refine tt ?_
 refine AD [2,3,4,5,6,7,8] (G:=AV × Ob × List (List (List Int))) (fun n _=>[(19,some (.int .i64 (n : Int)))])
  (fun n G H=>(zU B5 G.2.1 G.1 G.2.2∧G.2.2.length=n)∧A9 H0 H ((Bc,.cells 13 (Bi c b X Y G.1) 0)::(G.2.1++(p++(q++[(B1,.cells 13 Af 0)]))))) b.AB.length (.Dg,[],[]) ⟨⟨.inl ⟨rfl,rfl,rfl⟩,rfl⟩,o⟩ rfl ?_
 clear o
 rintro n ⟨Z,r,LZ⟩ H hn ⟨⟨hZ,hS⟩,o⟩
 replace hZ : zU B5 r Z LZ:=hZ
 replace hS : LZ.length=n:=hS
 replace o : A9 H0 H ((Bc,.cells 13 (Bi c b X Y Z) 0)::(r++(p++(q++[(B1,.cells 13 Af 0)])))):=o;refine tt ?_;apply bk <;> intro h1
 ·have AU:=A6 h1
  have w:=ws n
  have ha : b.DB n:=⟨by omega,by simpa using AU⟩;refine tt ?_;refine AP o fun Io H o=>tt ?_
  refine AD [2,3,4,5,6,7,8,19] (G:=Nat × List (List Int)) (fun j G=>[(20,some (.buf G.1 G.2.length)),(21,some (.int .i64 (j : Int)))])
   (fun j G H=>G.2.length=j∧A9 H0 H ((G.1,.cells 1 (G.2.map iL) 0)::(Bc,.cells 13 (Bi c b X Y Z) 0)::(r++(p++(q++[(B1,.cells 13 Af 0)]))))) c.AF.toNat (Io,[])
   ⟨rfl,(show A9 H0 H ((Io,.cells 1 (([] : List (List Int)).map iL) 0)::(Bc,.cells 13 (Bi c b X Y Z) 0)::(r++(p++(q++[(B1,.cells 13 Af 0)])))) from o)⟩ rfl ?_
  clear o
  rintro j ⟨Io,rows⟩ H hj ⟨Dm,o⟩
  replace Dm : rows.length=j:=Dm
  replace o : A9 H0 H ((Io,.cells 1 (rows.map iL) 0)::(Bc,.cells 13 (Bi c b X Y Z) 0)::(r++(p++(q++[(B1,.cells 13 Af 0)])))):=o;refine tt ?_;apply bk <;> intro h2
  ·have Aq:=A6 h2
   have w2:=ws j
   have FG : c.ES j:=⟨by omega,Aq⟩
   have i1:=gI _ (sb.pO ha)
   have i2:=gI _ (sb.qR ha)
   have i3:=kI _ FG
   have i4:=sb.v9 ha;refine tt ?_;refine ⟨i3.2,ha.2,i1,_,(Kl B d sd _ _).run,i3.2,i4.2,i2,_,(Kl B d sd _ _).run,AP o fun E9 H o=>?_⟩
   obtain ⟨F,hF⟩ : ∃ F,Ir d (k.ob.getD j default) (ix g.ob (b.AB.getD n default))=F:=⟨_,rfl⟩
   have zl : ∀ v,v∈F→d.DB v:=fun v hv=>Up (by rw [← hF] at hv; exact hv)
   have ya : F.length≤40:=by rw [← hF]; exact SU sd _ _
   obtain ⟨T,hT⟩ : ∃ T,Ir d (k.ob.getD j default) (ix g.ob (b.to.getD n default))=T:=⟨_,rfl⟩;rw [hF,hT];refine tt ?_
   refine AD [2,3,4,5,6,7,8,19,20,21,22,23] (G:=Nat × List Int) (fun i G=>[(24,some (.buf G.1 G.2.length)),(25,some (.int .i64 (i : Int)))])
    (fun i G H=>G.2.length=i∧A9 H0 H ((G.1,.cells 1 (G.2.map iI) 0)::(Io,.cells 1 (rows.map iL) 0)::(Bc,.cells 13 (Bi c b X Y Z) 0)::(r++(p++(q++[(B1,.cells 13 Af 0)]))))) F.length (E9,[])
    ⟨rfl,(show A9 H0 H ((E9,.cells 1 (([] : List Int).map iI) 0)::(Io,.cells 1 (rows.map iL) 0)::(Bc,.cells 13 (Bi c b X Y Z) 0)::(r++(p++(q++[(B1,.cells 13 Af 0)])))) from o)⟩ rfl ?_
   clear o
   rintro i ⟨E9,row⟩ H hi ⟨Bf,o⟩
   replace Bf : row.length=i:=Bf
   replace o : A9 H0 H ((E9,.cells 1 (row.map iI) 0)::(Io,.cells 1 (rows.map iL) 0)::(Bc,.cells 13 (Bi c b X Y Z) 0)::(r++(p++(q++[(B1,.cells 13 Af 0)])))):=o;refine tt ?_;apply bk <;> intro h3
   ·have BH:=A6 h3
    have MP : i<F.length:=by omega
    have w3:=ws i
    have hv:=zl _ (AE.mpr ⟨i,MP,rfl⟩);refine tt ?_;refine ⟨MP,(gJ _ ha).2,_,(P2 B sd hv (gA.ar ha).1).run,_,(Hf B T _).run, ?_⟩;refine ⟨by simp [AV.cells,AV.one], ?_⟩;refine Ae (indexOf T (ix (ix d.comp (F.getD i default)) (ix g.ar n)) : Int) o rfl rfl (by rw [Bf]; simp only [AN]; omega) fun E9 H o=>?_;refine tw w3 ?_;exact A4 (E9,row++[(indexOf T (ix (ix d.comp (F.getD i default)) (ix g.ar n)) : Int)]) (by omega) ⟨by simp [Bf],o⟩ rfl
   ·have BH:=A7 h3;refine tt ?_;refine Am o rfl fun H o=>tt ?_;refine Ae (f:=iL) row o rfl rfl (by rw [Dm]; simp only [AN]; omega) fun Io H o=>?_;refine tw w2 ?_;exact A4 (Io,rows++[row]) (by omega) ⟨by simp [Dm],o⟩ rfl
  ·have Aq:=A7 h2;refine tt ?_;refine Am (f:=iL) o rfl fun H o=>tt ?_;refine AH o (by simp [Bi]) (tt ?_);refine (hZ.o (l:=(Bc,.cells 13 (Bi c b X Y Z) 0)::(p++(q++[(B1,.cells 13 Af 0)]))) (o.pm)).app rows rfl (by rw [hS]; simp only [AN]; omega) fun ids H o=>tt ?_;refine AS o.swap (by simp [Bi]) (by (try simp only [go_sem]); (try simp)) (by first | (simp only [go_sem]; done) | ((try simp only [go_sem]); simp [AV.one,Ay])) fun H o=>?_;unfold Bi at o;have o:=s2 o;refine tw w ?_;exact A4 (.buf ids (LZ++[rows]).length,[(ids,.cells 1 ((LZ++[rows]).map B5) 0)],LZ++[rows]) (by omega) ⟨⟨.inr ⟨ids,rfl,rfl⟩,by simp [hS]⟩,o⟩ rfl
 clear h1;refine tt ?_;refine rK (f:=B5) (id:=Bc) (sz:=13) (fr:=0) (cs:=Bi c b X Y Z) 11 hY (l:=r++(q++[(B1,.cells 13 Af 0)])) (o.pm) rfl fun H o=>?_
 replace o : A9 H0 H ((Bc,.cells 13 (Bi c b X (BE LY) Z) 0)::(r++(q++[(B1,.cells 13 Af 0)]))):=o;refine rK (f:=B5) (id:=Bc) (sz:=13) (fr:=0) (cs:=Bi c b X (BE LY) Z) 12 hZ (l:=q++[(B1,.cells 13 Af 0)]) (o.pm) rfl fun H o=>AX ?_
 replace o : A9 H0 H ((Bc,.cells 13 (Bi c b X (BE LY) (BE LZ)) 0)::(q++[(B1,.cells 13 Af 0)])):=o;refine tt ?_;refine AO o (by simp [Bi]) ?_
 have o : A9 H0 H ((B1,.cells 13 Af 0)::(Bc,.cells 13 (Bi c b X (BE LY) (BE LZ)) 0)::q):=o.pm;unfold Bi;refine tt ?_
 have HY:=hX.one;refine AS o (by simp [Af]) (by (try simp only [go_sem]); (try simp)) (by first | (simp only [go_sem,HY]; done) | ((try simp only [go_sem]); simp [HY,Ay])) fun H o=>?_;unfold Af at o;have o:=s2 o;refine tt ?_;rw [o.rc 13 0 (by simp)];refine tt ?_;exact ⟨H,.refl _,q,⟨X,S,LY,LZ,rfl,hX⟩,o.tl.tl⟩
theorem Mw (A : List Int) (i : Nat) : A.set i (A.getD i default)=A:=by
 apply List.ext_getElem?
 intro j
 by_cases e : i=j
 ·subst e
  by_cases h : i<A.length
  ·simp [Go.AW.gE,h]
  ·rw [List.getElem?_eq_none (by simp; omega),List.getElem?_eq_none (by omega)]
 ·rw [List.getElem?_set_ne e]
theorem Ut (B : Nat) (l : List Int) (hl : l.length≤100000) : PB B 265 [iL l] (iL (Dr l)):=by
 refine ⟨fun H0=>fF.go fun _=>?_⟩
 have o : A9 H0 H0 []:=.nil _;refine tt ?_;refine Az iI o fun C9 H o=>tt ?_;refine Az iI o fun B1 H o=>tt ?_
 refine AD [0] (G:=(Nat × List Int) × (Nat × List Int)) (fun k g=>[(3,some (.buf g.1.1 g.1.2.length)),(4,some (.buf g.2.1 g.2.2.length)),(5,some (.int .i64 (k : Int)))])
  (fun k g H=>(g.1.2=Dr (l.take k)∧g.2.2=DO (l.take k))∧A9 H0 H [(g.2.1,.cells 1 (g.2.2.map iI) 0),(g.1.1,.cells 1 (g.1.2.map iI) 0)]) l.length ((C9,[]),(B1,[])) ⟨⟨rfl,rfl⟩,o⟩ rfl ?_
 clear o
 rintro k ⟨⟨C9,out⟩,⟨B1,seen⟩⟩ H hk ⟨⟨B2,aB⟩,o⟩;dsimp only at o B2 aB
 have KU : out.length=k:=by rw [B2,Nc,List.length_take]; omega
 have Im : seen.length≤k:=by rw [aB]; exact Nat.le_trans (Kq _ _ rfl) (by rw [List.length_take]; omega)
 refine tt ?_;apply bk <;> intro h1
 ·refine tt ?_
  have AU:=dd h1
  have w1:=ws k
  have dY:=F7 (l.take k) (l.getD k default)
  have HW:=SV (l.take k) (l.getD k default);rw [← take_one l AU,← aB] at dY;rw [← take_one l AU,← B2] at HW;refine ⟨AU,PA 0 rfl o rfl (.int _ _) (Hf ..).run ?_⟩
  have hb:=FI seen (l.getD k default)
  have hm:=Fu seen (l.getD k default);refine tt ?_;apply bk <;> intro h2
  ·refine tt ?_
   have Aq:=dd h2
   have lY : l.getD k default ∉ seen:=fun h=>by have:=hm.mpr h; omega
   rw [if_neg lY] at dY;rw [dY,Pn lY] at HW;refine ⟨AU, ?_⟩;refine Ae (l.getD k default) o rfl rfl (by simp only [AN]; omega) fun B1 H o=>tt ?_;refine Ae ((seen.length : Nat) : Int) o.swap rfl rfl (by simp only [AN]; omega) fun C9 H o=>?_;refine tw w1 ?_;exact A4 ((_,_),(_,_)) (by omega) ⟨⟨HW.symm,dY.symm⟩,o.swap⟩ rfl
  ·refine tt ?_
   have Aq:=dd h2
   have hi : l.getD k default∈seen:=hm.mp (by omega);rw [if_pos hi] at dY;rw [dY] at HW;refine Ae (indexOf seen (l.getD k default)) o.swap rfl rfl (by simp only [AN]; omega) fun C9 H o=>?_;refine tw w1 ?_;exact A4 ((_,_),(_,_)) (by omega) ⟨⟨HW.symm,dY.symm⟩,o.swap⟩ rfl
 ·refine tt ?_
  have AU:=dd h1
  obtain rfl : k=l.length:=by omega
  refine Am o.swap rfl fun H o=>tt ?_;exact A5 (by rw [B2,List.take_length]) o.sub
theorem Rw (B : Nat) (n : Nat) (hn : n≤100000) (ps : List (List Int)) (hp : ∀ q,q∈ps→2≤q.length∧(0≤q.getD 0 default∧(q.getD 0 default).toNat<n)∧(0≤q.getD 1 default∧(q.getD 1 default).toNat<n)) :
  PB B 203 [iI n,B5 ps] (iL (HI n ps)):=by
 refine ⟨fun H0=>fE.go fun ⟨_,hf,_⟩=>?_⟩
 have hl:=AZ hf;simp only [AN] at hl
 have o : A9 H0 H0 []:=.nil _;refine tt ?_;refine Az iI o fun id H o=>tt ?_;refine AD [0,1] (G:=Nat × List Int) (fun k g=>[(5,some (.buf g.1 g.2.length)),(6,some (.int .i64 (k : Int)))]) (fun k g H=>g.2=(List.range k).map Int.ofNat∧A9 H0 H [(g.1,.cells 1 (g.2.map iI) 0)]) n (id,[]) ⟨rfl,o⟩ rfl ?_;clear o
 rintro k ⟨id,A⟩ H hk ⟨hA,o⟩;dsimp only at hA o
 have L7 : A.length=k:=by rw [hA]; simp
 refine tt ?_;apply bk <;> intro h1
 ·refine tt ?_
  have AU:=dd h1
  have w1:=ws k;refine Ae (k : Int) o rfl rfl (by simp only [AN]; omega) fun id H o=>?_;refine tw w1 ?_;exact A4 (_,_) (by omega) ⟨by rw [hA,List.range_succ]; simp,o⟩ rfl
 ·refine tt ?_
  have AU:=dd h1
  obtain rfl : k=n:=by omega
  refine AD [1,5] (fun q _=>[(7,some (.int .i64 (q : Int)))]) (fun q A H=>A=Jm k (ps.take q)∧A9 H0 H [(id,.cells 1 (A.map iI) 0)]) ps.length A ⟨hA,o⟩ rfl ?_;clear o
  rintro q A2 H hq ⟨Xq,o⟩
  have Ce : A2.length=k:=by rw [Xq,KK]
  refine tt ?_;apply bk <;> intro h2
  ·refine tt ?_
   have Aq:=dd h2
   have w2:=ws q
   have mA:=hp _ (AE.mpr ⟨q,Aq,rfl⟩)
   have e0 : ix (ps.getD q default) 0=(ps.getD q default).getD 0 default:=rfl
   have e1 : ix (ps.getD q default) 1=(ps.getD q default).getD 1 default:=rfl
   have Ed:=WO k ps Aq;rw [← Xq,e0,e1] at Ed;refine ⟨Aq,⟨by omega,Nat.lt_of_lt_of_le (by decide) mA.1⟩,⟨by rw [e0]; omega,by rw [e0]; omega⟩,CI o (by rw [e0]; omega) ?_⟩;refine tt ?_;refine ⟨Aq,⟨by omega,Nat.lt_of_lt_of_le (by decide) mA.1⟩,⟨by rw [e1]; omega,by rw [e1]; omega⟩,CI o (by rw [e1]; omega) ?_⟩;refine tt ?_;rw [e0,e1]
   have ea : A2.getD ((ps.getD q default).getD 0 default).toNat default=ix A2 ((ps.getD q default).getD 0 default):=rfl
   have eb : A2.getD ((ps.getD q default).getD 1 default).toNat default=ix A2 ((ps.getD q default).getD 1 default):=rfl;rw [ea,eb]
   generalize ix A2 ((ps.getD q default).getD 0 default)=va at Ed ⊢
   generalize ix A2 ((ps.getD q default).getD 1 default)=vb at Ed ⊢;refine AD [1,5,7,8,9] (fun i _=>[(10,some (.int .i64 (i : Int)))]) (fun i A H=>A=Ck A2 va vb i∧A9 H0 H [(id,.cells 1 (A.map iI) 0)]) k A2 ⟨(Ql _ _ _).symm,o⟩ rfl ?_;clear o
   rintro i A3 H hi ⟨dN,o⟩
   have jf : A3.length=k:=by rw [dN,Rg _ _ _ (by omega)]; exact Ce
   rw [L7];refine tt ?_;apply bk <;> intro h3
   ·refine tw h3 ?_
    have BH:=dd h3
    have w3:=ws i
    have hg:=TC A2 va vb (i:=i) (by omega)
    have hs:=Qn A2 va vb (i:=i) (by omega);rw [← dN] at hg hs;apply bk <;> intro h4
    ·refine tt ?_
     have D9:=dd h4;refine ⟨BH,CI o (by omega) ?_⟩;refine tt ?_;apply bk <;> intro h5
     ·refine tt ?_
      have JB:=dd h5;refine ⟨BH,BT _ o rfl (by omega) fun H o=>?_⟩;refine tw w3 ?_;exact A4 _ (by omega) ⟨by rw [hs,if_pos (by rw [← hg]; exact JB)],o⟩ rfl
     ·refine tw w3 ?_
      have JB:=dd h5;refine A4 A3 (by omega) ⟨?_,o⟩ rfl;rw [hs,if_neg (by rw [← hg]; exact JB),← hg,Mw]
    ·refine tw w2 ?_
     have D9:=dd h4;refine A4 A3 (by omega) ⟨?_,o⟩ rfl;subst D9
     have : ∀ i,Ck A2 va va i=A2:=fun i=>by rw [Ck,Mi,List.take_append_drop]
     rw [dN,this,Ed,Mi]
   ·refine t2 h3 w2 ?_
    have BH:=dd h3;refine A4 A3 (by omega) ⟨?_,o⟩ rfl
    have iq : i=A2.length:=by omega
    rw [dN,iq,RJ,Ed]
  ·refine tt ?_
   have Aq:=dd h2
   obtain rfl : q=ps.length:=by omega
   rw [List.take_length] at Xq;rw [L7];refine Am o Ce.symm fun H o=>tt ?_;refine (Ut B A2 (by omega)).go fun _=>tt ?_;exact A5 (by rw [HI,Xq]) o.sub
theorem Qc (B : Nat) (p : List Int) (H0 H : AA) (l : List (Nat × AG)) (o : A9 H0 H l) : CB B 283 [iL p] H (O2 iL H0 l (·=El p)):=by
 refine vN.go fun ⟨hf,_⟩=>?_
 have hl:=AZ hf;simp only [AN] at hl;refine tt ?_;refine Az iL o fun id H o=>tt ?_
 refine AD [0] (G:=Nat × List (List Int)) (fun k g=>[(3,some (.buf g.1 g.2.length)),(4,some (.int .i64 (k : Int)))])
  (fun k g H=>g.2=(List.range k).map (fun i : Nat=>[indexOf p (p.getD i default),(i : Int)])∧A9 H0 H ((g.1,.cells 1 (g.2.map iL) 0)::l)) p.length (id,[]) ⟨rfl,o⟩ rfl ?_
 clear o
 rintro k ⟨id,out⟩ H hk ⟨B2,o⟩;dsimp only at B2 o
 have KU : out.length=k:=by rw [B2]; simp
 refine tt ?_;apply bk <;> intro h1
 ·refine tt ?_
  have AU:=dd h1
  have w1:=ws k;refine ⟨AU,(Hf ..).go fun _=>?_⟩;refine tt ?_;refine Ae [indexOf p (p.getD k default),(k : Int)] o rfl rfl (by simp only [AN]; omega) fun id H o=>?_;refine tw w1 ?_;exact A4 (_,_) (by omega) ⟨by rw [B2,List.range_succ]; simp,o⟩ rfl
 ·refine tt ?_
  have AU:=dd h1
  obtain rfl : k=p.length:=by omega
  exact K3 o rfl (by rw [B2]; rfl)
end Go.Proofs.Shf
namespace Go.AW
theorem ZT {F : Env→AA→Prop} {σ : Env} {H0 H : AA} {l : List (Nat × AG)} {id sz : Nat} {cs : List AV} {fr : Nat} {cs0 : List AV} (t k : Nat) (hf : fr≤k) (hk : k≤cs.length) (o : A9 H0 H ((id,.cells sz cs fr)::l)) (ht : σ.get t=some (.FX cs0 id))
  (hF : ∀ H',A9 H0 H' ((id,.cells sz cs k)::l)→EX F ((t,some (.FX (cs.take k) id))::σ) H') : EX F σ H:=by
 have h1:=o.h0;simp only at h1;refine D5 (σ1:=(t,some (.FX (cs.take k) id))::σ) ?_ (hF _ (o.put (.cells sz cs k)))
 intro g B w tm hW hE
 obtain ⟨q1,q2⟩:=hE t _ ht
 generalize hu : tm.getD t undef=u at q2
 cases q2 with
 | FX _ _ b cap _ CA _ _ =>
  have dT:=hW.uJ h1 CA hf hk
  obtain ⟨p,hp,hr⟩:=hW.ob _ _ h1;rw [CA] at hp; cases hp;simp only [Ah] at hr
  obtain ⟨r1,r2,r3,r4,c,el,r5,r6,r7,r8⟩:=hr
  obtain ⟨g1,g2⟩:=dT.Gt b k c el (0,0) r5 fun i p o e hp TK=>by
   by_cases GC : i=id
   ·subst GC;rw [CA] at hp; cases hp
    simp at e;exact ⟨_,_,_,e.symm,Nat.le_refl _⟩
   ·exfalso
    cases p with
    | nil=>cases TK
    | GA b' cap' =>
     cases TK;exact dT.inj i id b cap' cap GC (by simp [e]) (by simp) hp CA
    | mp b' =>
     cases TK
     obtain ⟨q,hq,hr⟩:=dT.ob _ _ e;rw [hp] at hq; cases hq
     cases o with
     | cells sz' cs' f'=>simp [Ah] at hr
     | map ks vs =>
      simp only [Ah] at hr
      obtain ⟨_,_,es,clk,h5,_⟩:=hr;rw [r5] at h5; cases h5
  refine ⟨_,g1,g2,fun s x e=>?_⟩;simp only [Env.get] at e
  split at e
  ·rename_i hs; cases e; subst hs
   refine ⟨q1, ?_⟩;rw [hu]
   have CF : (cs.take k).length=k:=by rw [List.length_take]; omega
   refine .FX _ id b cap (fun i=>c.getD i undef) (g1.io _ _ CA) (fun i hi=>?_) (fun i hi=>?_)
   ·rw [CF] at hi;simp only [Gh.Gt]
    have : i<c.size:=by omega
    simp [hi,Array.getD,this]
   ·rw [CF] at hi
    have e2 : (cs.take k).getD i nv=cs.getD i nv:=by simp [Go.AW.gE,hi]
    rw [e2]; exact (r8 i (by omega)).mono g1
  ·obtain ⟨z1,z2⟩:=hE s x e; exact ⟨z1,z2.mono g1⟩
theorem XA {H0 H : AA} {l : List (Nat × AG)} {K : Ak} {id sz off n fr : Nat} {cs vs : List AV} (o : A9 H0 H ((id,.cells sz cs fr)::l)) (h0 : fr≤off) (h1 : off+n≤cs.length) (h2 : vs.length=n) (h3 : ∀ c,c∈vs→c.one=true)
  (hk : ∀ H',A9 H0 H' ((id,.cells sz (wr cs off vs) fr)::l)→K nv H') : Ka (H.get id) id off n vs K H:=by
 have e:=o.h0;simp only at e;rw [e,VV];exact ⟨⟨h0,h1,h2,h3⟩,hk _ (o.put _)⟩
end Go.AW
namespace Go.Proofs.Shf
open Go.AW Go.Proofs Go.Shf
theorem Jr (B : Nat) (x : Int) (n : Nat) (hn : n≤1048576) (H0 H : AA) (l : List (Nat × AG)) (o : A9 H0 H l) : CB B 110 [.int .i64 x,.int .i64 n] H (O2 iI H0 l (·=List.replicate n x)):=by
 refine rE.go fun _=>?_;refine tt ?_;refine ⟨by simp [AN]; omega,EI iI 0 rfl o fun id H o=>?_⟩;refine tt ?_;refine AD [0,5,10] (G:=Unit) (fun k _=>[(11,some (.int .i64 (k : Int)))]) (fun k _ H=>A9 H0 H ((id,.cells 1 ((List.replicate k x++List.replicate (n - k) 0).map iI) 0)::l)) n () (by simpa using o) rfl ?_;clear o
 rintro k _ H hk o
 replace o : A9 H0 H ((id,.cells 1 ((List.replicate k x++List.replicate (n - k) 0).map iI) 0)::l):=o;refine tt ?_;apply bk <;> intro h1
 ·have AU:=A6 h1
  have w:=ws k;refine tt ?_;refine ⟨by omega,BT x o rfl (by simp; omega) fun H o=>?_⟩
  have e : (List.replicate k x++List.replicate (n - k) 0).set k x=List.replicate (k+1) x++List.replicate (n - (k+1)) 0:=by
   rw [List.set_append_right _ _ (by simp),List.length_replicate,Nat.sub_self,show n - k=(n - (k+1))+1 by omega,List.replicate_succ (n:=n - (k+1)),List.set_cons_zero,List.replicate_succ' (n:=k),List.append_assoc]
   rfl
  rw [e] at o;refine tw w ?_;exact A4 () (by omega) o rfl
 ·have AU:=A7 h1;refine tt ?_
  obtain rfl : k=n:=by omega
  exact K3 o (by simp) (by simp)
theorem C8 {α : Type} [Inhabited α] (l : List α) {k : Nat} (hk : k<l.length) : l.take (k+1)=l.take k++[l.getD k default]:=by
 have hN : l[k]=l.getD k default:=by simp [Go.AW.gE,hk]
 rw [← hN]; exact (List.take_append_getElem hk).symm
def Bq (ls : List Lk) (k : Nat) (ks : List Int) : List (List Lk):=ks.map fun i=>(ls.take k).filter fun l=>decide (l.i=i)
theorem GK (ls : List Lk) {k : Nat} (hk : k<ls.length) (i : Int) : ((ls.take (k+1)).filter fun l=>decide (l.i=i))=((ls.take k).filter fun l=>decide (l.i=i))++if (ls.getD k default).i=i then [ls.getD k default] else []:=by
 have hN : ls[k]=ls.getD k default:=by simp [Go.AW.gE,hk]
 have ht : ls.take (k+1)=ls.take k++[ls.getD k default]:=by rw [← hN]; exact (List.take_append_getElem hk).symm
 rw [ht,List.filter_append]
 congr 1
 simp only [List.filter_cons,List.filter_nil,decide_eq_true_eq]
theorem UA {ls : List Lk} {ks : List Int} {k : Nat} (hk : k<ls.length) (Iy : (ls.getD k default).i∈ks) (OO : ks.Nodup) :
  Bq ls (k+1) ks=(Bq ls k ks).set (ks.idxOf (ls.getD k default).i) ((Bq ls k ks).getD (ks.idxOf (ls.getD k default).i) []++[ls.getD k default]):=by
 generalize hr : ls.getD k default=r at *
 have CF : ks.idxOf r.i<ks.length:=List.idxOf_lt_length_iff.mpr Iy;apply List.ext_getElem (by simp [Bq])
 intro m h1 h2
 have hm : m<ks.length:=by simpa [Bq] using h1
 have RA : ks[ks.idxOf r.i]=r.i:=List.getElem_idxOf CF;simp only [Bq,List.getElem_map,List.getElem_set,GK ls hk,hr]
 by_cases e : ks.idxOf r.i=m
 ·subst e;rw [if_pos rfl,RA,if_pos rfl]
  simp [Go.AW.gE,CF,RA]
 ·rw [if_neg e,if_neg,List.append_nil]
  intro e2;exact e ((List.getElem_inj OO (h₀:=CF) (h₁:=hm)).mp (by rw [RA,e2]))
theorem So {ls : List Lk} {ks : List Int} {k : Nat} (hk : k<ls.length) (Iy : ¬ (ls.getD k default).i∈ks) (Au : ∀ l,l∈ls.take k→l.i∈ks) :
  Bq ls (k+1) (ks++[(ls.getD k default).i])=Bq ls k ks++[[ls.getD k default]]:=by
 generalize hr : ls.getD k default=r at *;simp only [Bq,List.map_append,List.map_cons,List.map_nil,GK ls hk,hr]
 congr 1
 ·apply List.map_congr_left
  intro i hi;rw [if_neg (show ¬ r.i=i from fun e=>Iy (by rw [e]; exact hi)),List.append_nil]
 ·have : ((ls.take k).filter fun l=>decide (l.i=r.i))=[]:=by
   rw [List.filter_eq_nil_iff]
   intro l hl e
   have:=Au l hl; rw [of_decide_eq_true e] at this; exact Iy this
  rw [this]; simp
theorem Ua {ls : List Lk} {ks : List Int} (Au : ∀ l,l∈ls→l.i∈ks) : Q1 ls (ks.map iI) ((Bq ls ls.length ks).map (mL Lh)):=by
 refine ⟨fun i=>Jo i ks,fun i=>?_⟩;rw [Q5 (by simp [Bq])]
 by_cases hi : i∈ks
 ·left
  have CF : ks.idxOf i<ks.length:=List.idxOf_lt_length_iff.mpr hi
  have RA : ks[ks.idxOf i]=i:=List.getElem_idxOf CF
  simp [Bq,CF,RA]
 ·right
  have CF : ks.idxOf i=ks.length:=List.idxOf_eq_length hi;refine ⟨by simp [Bq,CF], ?_⟩;rw [List.filter_eq_nil_iff]
  intro l hl e
  have:=Au l hl; rw [of_decide_eq_true e] at this; exact hi this
theorem ZE (B : Nat) (AK : List Int) (ls : List Lk) (Iz : J2 AK ls) (Im : AK.length≤1000) (Xo : ∀ i,i<AK.length→AK.getD i default≤1000000) (TY : ls.length≤1000000) (most : Nat) (GY : most≤1048576) :
  PB B 128 [iL AK,mL Lh ls,.int .i64 most] (.CQ [B5 ((OB AK ls).take (most+1)),.bool (decide ((OB AK ls).length≤most))]):=by
 refine ⟨fun H0=>rY.go fun _=>tt ?_⟩;refine AP (.nil _) fun TN H o=>tt ?_;refine Ai o fun En H o=>tt ?_;refine sw o fun H o=>tt ?_;refine MM o fun Qx H o=>tt ?_;refine (Jr B (-1) AK.length (by omega) H0 H _ o).own fun E9 A H o hA=>?_;rw [hA] at o
 have L7 : A.length=AK.length:=by rw [hA]; simp
 rw [L7];clear hA L7
 have ij : (AV.Fa Qx).cells=[.Fa Qx]:=rfl;try simp only [go_sem,↓reduceIte,reduceEqDiff,reduceAdd,reduceMul,reduceLeDiff,reduceLT,ij,Ej,Gv,List.set_cons_zero,List.set_cons_succ]
 refine Ai o fun DC H o=>tt ?_;refine cZ 9 3 (by simp) o rfl fun H o=>AX ?_;simp only [List.take_succ_cons,List.take_zero];refine tt ?_
 refine AD [5,8,9,21,22] (G:=List Int × List AV × List (Nat × AG)) (fun k _=>[(23,some (.int .i64 (k : Int)))])
  (fun k g H=>Hy 3 Lh g.2.1 (Bq ls k g.1) g.2.2∧g.1.Nodup∧(∀ l,l∈ls.take k→l.i∈g.1) ∧
   A9 H0 H ((Qx,.map (g.1.map iI) g.2.1)::(g.2.2++[(DC,.cells 4 [iL AK,AV.Fa Qx,AV.buf E9 AK.length,AV.Lz] 3),(E9,.cells 1 ((List.replicate AK.length (-1)).map iI) 0),(En,.cells 1 [AV.buf TN 0] 0),(TN,.cells 1 [] 0)])))
  ls.length ([],[],[]) ⟨.nil,.nil,by simp,o.perm (by
   refine List.Perm.trans ?_ (List.Perm.swap _ _ _);exact .cons _ (.swap _ _ _))⟩ rfl ?_
 clear o
 rintro k ⟨ks,Xs,ob⟩ H hk ⟨hR,OO,Iy,o⟩;dsimp only at hR OO Iy o;refine tt ?_
 have Iw : Xs.length=ks.length:=by have:=hR.len; simpa [Bq] using this
 apply bk <;> intro h1
 ·have AU:=A6 h1
  have w:=ws k;refine tt ?_;refine ⟨AU, ?_⟩;refine Ai o fun IL H o=>?_
  generalize hr : ls.getD k default=r at *;refine tt ?_;refine sw o fun H o=>tt ?_;refine Ca 11 o rfl fun H o=>AX ?_
  have hg : H.get Qx=some (.map (ks.map iI) Xs):=o.h0;refine tt ?_;rw [hg];refine tt ?_;refine ⟨Jo _ _, ?_⟩;rw [Q5 Iw]
  by_cases hi : r.i∈ks
  ·have CF : ks.idxOf r.i<ks.length:=List.idxOf_lt_length_iff.mpr hi
   obtain ⟨p,rest,h2,h3,h4⟩:=hR.split (ks.idxOf r.i) (by omega)
   have e1 : (Xs[ks.idxOf r.i]?).getD .A0=Xs.getD (ks.idxOf r.i) nv:=by simp [Go.AW.gE,Iw,CF]
   rw [e1]
   have o:=o.perm (List.Perm.cons _ (List.Perm.append_right _ h2)) |>.perm (l:=_) (r:=p++((Qx,.map (ks.map iI) Xs)::(rest++_))) (by
    rw [List.append_assoc]; exact List.perm_middle.symm)
   have L7 : ((Bq ls k ks).getD (ks.idxOf r.i) []).length≤ls.length:=by
    simp [Bq,Go.AW.gE,CF];exact Nat.le_trans (List.length_filter_le _ _) (by rw [List.length_take]; omega)
   refine h3.app (f:=Lh) o r rfl (by simp only [AN]; omega) fun Ac H o=>?_
   generalize hA : (Bq ls k ks).getD (ks.idxOf r.i) []=A at *
   have hg : H.get Qx=some (.map (ks.map iI) Xs):=o.tl.h0;refine tt ?_;rw [hg];refine tt ?_;rw [QY _ _ Iw,if_pos hi];refine tw w ?_
   obtain ⟨ob',q1,q2⟩:=h4 (.buf Ac (A++[r]).length) (A++[r]) [(Ac,.cells 3 (flat ((A++[r]).map Lh)) 0)] (.inr ⟨Ac,rfl,rfl⟩);refine ⟨Jo _ _,A4 (ks,Xs.set (ks.idxOf r.i) (.buf Ac (A++[r]).length),ob') AU ⟨?_,OO, ?_, ?_⟩ rfl⟩
   ·have:=UA AU (by rw [hr]; exact hi) OO;rw [hr,hA] at this
    show Hy 3 Lh _ (Bq ls (k+1) ks) ob'
    rw [this]; exact q1
   ·intro l hl;rw [C8 ls AU,List.mem_append,List.mem_singleton,hr] at hl
    rcases hl with hl | rfl
    ·exact Iy l hl
    ·exact hi
   ·exact (o.swap.put _).perm (.cons _ (by
     rw [← List.cons_append];exact List.Perm.append_right _ q2.symm))
  ·have CF : ks.idxOf r.i=ks.length:=List.idxOf_eq_length hi
   have e1 : (Xs[ks.idxOf r.i]?).getD .A0=.A0:=by simp [Iw,CF]
   rw [e1]
   have hN : UT 3 Lh [] .A0 ([] : List Lk):=.inl ⟨rfl,rfl,rfl⟩;refine hN.app (f:=Lh) (by exact o) r rfl (by simp [AN]) fun Ac H o=>?_
   have hg : H.get Qx=some (.map (ks.map iI) Xs):=o.tl.h0;refine tt ?_;rw [hg];refine tt ?_;rw [QY _ _ Iw,if_neg hi];refine tw w ?_;refine ⟨Jo _ _,A4 (ks++[r.i],Xs++[.buf Ac ([]++[r]).length],ob++[(Ac,.cells 3 (flat (([]++[r]).map Lh)) 0)]) AU ⟨?_, ?_, ?_, ?_⟩ rfl⟩
   ·have:=So AU (by rw [hr]; exact hi) Iy;rw [hr] at this
    show Hy 3 Lh _ (Bq ls (k+1) (ks++[r.i])) _
    rw [this]; exact hR.snoc (.inr ⟨Ac,rfl,rfl⟩)
   ·rw [List.nodup_append];refine ⟨OO,by simp,fun a ha b hb=>?_⟩;rw [List.mem_singleton] at hb;subst hb
    rintro rfl;exact hi ha
   ·intro l hl;rw [C8 ls AU,List.mem_append,List.mem_singleton,hr] at hl
    show l.i∈ks++[r.i]
    rw [List.mem_append,List.mem_singleton]
    rcases hl with hl | rfl
    ·exact .inl (Iy l hl)
    ·exact .inr rfl
   ·refine (o.swap.put _).perm (.cons _ ?_);rw [List.append_assoc];exact List.perm_middle.symm
 ·have AU:=A7 h1;refine tt ?_
  obtain rfl : k=ls.length:=by omega
  refine j5 hR [] H (by exact o) fun H o=>AX ?_;clear hR
  have Kf : (AV.fn (.func 223) [.ref En 0,.ptr [.int .i64 most]]).cells=[.fn (.func 223) [.ref En 0,.ptr [.int .i64 most]]]:=rfl
  have o:=A9.pull [_] o;refine tw Kf ?_;refine XA o (by simp) (by simp) rfl (by simp only [Gk,JL]; exact ⟨rfl,trivial⟩) fun H o=>?_;have o:=s2 o;rw [List.nil_append] at o;refine ZT 9 4 (by simp) (by simp) o rfl fun H o=>AX ?_;simp only [List.take_succ_cons,List.take_zero]
  have hM:=Ua (ls:=ls) (ks:=ks) (by simpa using Iy)
  have hX : CP iL H0 H ((En,.cells 1 [.buf TN 0] 0)::(E9,.cells 1 ((List.replicate AK.length (-1)).map iI) 0)::[(Qx,.map (ks.map iI) ((Bq ls ls.length ks).map (mL Lh))),(DC,.cells 4 [iL AK,AV.Fa Qx,AV.buf E9 AK.length,.fn (.func 223) [.ref En 0,.ptr [.int .i64 most]]] 4)]) (.buf TN 0) [] :=
   .inr ⟨TN,rfl,o.perm (List.reverse_perm _).symm⟩
  clear o
  have XQ : ∀ i : Int,0≤i→i.toNat<AK.length→ix (List.replicate AK.length (-1)) i=-1:=fun i h0 h1=>by
   simp [ix,Go.AW.gE,h1]
  refine tt ?_
  refine (Ti B AK ls Iz Im Xo TY _ _ hM most GY E9 Qx DC En _ (List.replicate AK.length (-1)) rfl ⟨by simp,fun q hq=>.inl (by
   rw [List.length_replicate] at hq
   simp [Go.AW.gE,hq])⟩ (fun l hl h0=>by
    have a:=Iz.ok.i l hl;rw [XQ _ a.1 a.2] at h0; omega) H0 H _ (.buf TN 0) [] hX (by simp) (by simp)).mono ?_
  clear hX
  rintro r H ⟨X,rfl,hX⟩;rw [List.nil_append,List.length_nil,Nat.sub_zero] at hX;rw [List.length_nil,Nat.zero_add]
  have hso : Fv AK ls (List.replicate AK.length (-1))=OB AK ls:=rfl;rw [hso] at hX ⊢;refine tt ?_;refine Aj hX.obj (by simp) (tt ?_)
  rcases hX with ⟨rfl,e,o⟩ | ⟨id,rfl,o⟩
  ·refine tt ?_;exact A5 (by rw [e]; rfl) o.sub
  ·refine tt ?_;refine Am o rfl fun H o=>tt ?_;exact A5 rfl o.sub
end Go.Proofs.Shf
namespace Go.Shf
open Go.AW Go.Proofs.Shf
def D0 (L : List (List Int)) : List Int:=L.flatMap fun l=>l.map IntKind.u8.wrap++[255]
def L3 (L : List (List Int)) : List UInt8:=(D0 L).map fun n=>UInt8.ofNat n.toNat
def Lj (L : List (List Int)) : Nat→List AV × List AV
 | 0=>([],[])
 | k+1=>HT (.str (L3 [L.getD k default])) (iI k) (Lj L k).1 (Lj L k).2
end Go.Shf
namespace Go.Shf
open Go.AW
structure zS where
 shape : Ax
 AK : List Int
 xN : List (List Int)
 lP : List (List (List Int))
 marks : List (List Bool)
@[go_sem] def zS.cls (v : zS) : List AV:=[iI v.shape.AF,iL v.shape.AB,iL v.shape.to,iL v.shape.Ac,B5 v.shape.comp,iL v.AK,B5 v.xN,BE v.lP]
@[go_sem] def zS.cells (v : zS) (cnt : AV) : List AV:=[.ptr v.cls,.ptr v.shape.cells,mL (mL AV.bool) v.marks,cnt]
end Go.Shf
namespace Go.Shf
open Go.AW
def IW (L : List (List Int)) : AV:=.CS (Lj L L.length).1 (Lj L L.length).2
instance : One IW:=⟨fun _=>rfl,fun _=>rfl⟩
end Go.Shf
namespace Go.Proofs.Shf
open Go.AW Go.Proofs Go.Shf
@[go_sem] noncomputable def dx (f : SF) (V : List (List Int)) : AV:=.ptr [.ptr f.cells,iI f.shape.AF,iL f.shape.AB,iL f.shape.to,iL f.shape.Ac,B5 f.shape.comp,iL (P4 f V),B5 (Sr f V),B5 V,BE (UK f V),mL IW (UK f V)]
end Go.Proofs.Shf
namespace Go.Shf
open Go.AW
def CH (c : Ax) (n : Int) : SF:=⟨c,List.replicate c.AF.toNat n,List.replicate c.AB.length ((List.range n.toNat).map Int.ofNat)⟩
theorem MK {α : Type} (k : Nat) (a : α) : List.replicate (k+1) a=List.replicate k a++[a]:=List.replicate_succ'
end Go.Shf
namespace Go.Proofs.Shf
open Go.AW Go.Proofs Go.Shf
abbrev z7 : List AV:=[.int .i64 0,.A0,.A0,.A0,.A0,.A0,.A0]
theorem Q0 (B : Nat) (c : Ax) (Ee : 0≤c.AF∧c.AF≤4096) (hm : c.AB.length≤4096) (n : Int) (hn : 0≤n∧n≤100) : PB B 250 [.agg c.cells,iI n] (.agg (CH c n).cells):=by
 refine ⟨fun H0=>sO.go fun Zj=>?_⟩
 have o : A9 H0 H0 []:=.nil _;refine tt ?_;refine nb o fun B1 H o=>tt ?_;refine (DI B c).go fun _=>tt ?_;refine nb o fun Bv H o=>tt ?_;refine sw o fun H o=>?_
 let st : AV→AV→AG:=fun x5 x6=>.cells 7 [iI c.AF,iL c.AB,iL c.to,iL c.Ac,B5 c.comp,x5,x6] 0
 refine tt ?_;refine AD [1,2,4,5] (G:=AV) (fun k X=>[(6,some (.int .i64 (k : Int)))]) (fun k X H=>CP iI H0 H ((Bv,st X .A0)::[(B1,.cells 7 z7 0)]) X (List.replicate k n)) c.AF.toNat .A0 (.inl ⟨rfl,rfl,o⟩) rfl ?_;clear o
 rintro k X H hk hX;refine tt ?_;apply bk <;> intro h1
 ·have AU:=A6 h1
  have w:=ws k;refine tt ?_;refine Aj hX.obj (by simp [st]) (tt ?_);refine hX.app n rfl (by simp only [List.length_replicate,AN]; omega) fun Ac H o=>?_;rw [← MK] at o ⊢;refine tt ?_;refine sw o.swap fun H o=>?_;refine tw w ?_;exact A4 _ (by omega) (.inr ⟨Ac,rfl,o.swap⟩) rfl
 ·have AU:=A7 h1
  obtain rfl : k=c.AF.toNat:=by omega
  obtain ⟨p5,o,h5⟩:=hX.split
  have o : A9 H0 H ((Bv,st X .A0)::(p5++[(B1,.cells 7 z7 0)])):=o.perm List.perm_middle;clear hX;refine tt ?_;refine AD [1,2,4,5] (G:=AV) (fun a Y=>[(7,some (.int .i64 (a : Int)))]) (fun a Y H=>CP iL H0 H ((Bv,st X Y)::(p5++[(B1,.cells 7 z7 0)])) Y (List.replicate a ((List.range n.toNat).map Int.ofNat))) c.AB.length .A0 (.inl ⟨rfl,rfl,o⟩) rfl ?_;clear o
  rintro a Y H ha hY
  replace hY : CP iL H0 H ((Bv,st X Y)::(p5++[(B1,.cells 7 z7 0)])) Y (List.replicate a ((List.range n.toNat).map Int.ofNat)):=hY;refine tt ?_;apply bk <;> intro h2
  ·have Aq:=A6 h2
   have w2:=ws a
   obtain ⟨q,o,hq⟩:=hY.split;clear hY;refine tt ?_;refine Az iI o fun Cm H o=>tt ?_
   refine AD [1,2,4,5,7] (G:=Nat × List Int) (fun e g=>[(8,some (.buf g.1 g.2.length)),(9,some (.int .i64 (e : Int)))])
    (fun e g H=>g.2=(List.range e).map Int.ofNat∧A9 H0 H ((g.1,.cells 1 (g.2.map iI) 0)::(q++((Bv,st X Y)::(p5++[(B1,.cells 7 z7 0)]))))) n.toNat (Cm,[]) ⟨rfl,o⟩ rfl ?_
   clear o
   rintro e ⟨Cm,row⟩ H he ⟨Bf,o⟩;dsimp only at Bf o
   have WA : row.length=e:=by rw [Bf]; simp
   refine tt ?_;apply bk <;> intro h3
   ·have BH:=A6 h3
    have w3:=ws e;refine tt ?_;refine Ae (e : Int) o rfl rfl (by simp only [AN]; omega) fun Cm H o=>?_;refine tw w3 ?_;exact A4 (_,_) (by omega) ⟨by rw [Bf,List.range_succ]; simp,o⟩ rfl
   ·have BH:=A7 h3
    obtain rfl : e=n.toNat:=by omega
    refine tt ?_;refine Am o rfl fun H o=>?_
    have hY:=CP.mk o hq;clear o;refine tt ?_;refine Aj hY.obj (by simp [st]) (tt ?_);refine hY.app row rfl (by simp only [List.length_replicate,AN]; omega) fun Ac H o=>?_;rw [Bf,← MK] at o ⊢;refine tt ?_;refine sw o.swap fun H o=>?_;refine tw w2 ?_;exact A4 _ (by omega) (.inr ⟨Ac,rfl,o.swap⟩) rfl
  ·have Aq:=A7 h2
   obtain rfl : a=c.AB.length:=by omega
   refine tt ?_;refine FK 6 hY rfl fun H o=>?_;have o:=s1 o
   have hX:=CP.mk (o.perm List.perm_middle.symm) h5;clear o;refine FK 5 hX rfl fun H o=>AX ?_;have o:=s1 o;refine tt ?_;refine AO o (by simp) (tt ?_);refine sw o.swap fun H o=>tt ?_
   have hr:=o.rc 7 0 (by simp);simp only [List.drop_zero] at hr;rw [hr];exact A5 rfl o.sub
theorem Mk (B : Nat) (c : Ax) (hc : c.Shape) (n : Int) (hn : 0≤n∧n≤100) : PB B 250 [.agg c.cells,iI n] (.agg (CH c n).cells) :=
 Q0 B c (by have:=hc.o; omega) (by have:=hc.m; omega) n hn
def qL (c : Ax) (os : List Int) (r : AV) : Prop:=r=.agg (Dy c os).cells∧(Dy c os).gi c 120
theorem Y6 {c : Ax} {os : List Int} {LL : List (List (List Int))} (hc : c.Shape) (s : FreeI c os os.length 0 LL) {N : Nat} (hN : os.length*c.AB.length≤N) : (HK c LL).gi c N where
 sh:=rfl
 sl:=by simp only [HK,List.length_map]; exact s.len
 al:=by simp [HK]
 sz y hy:=by
  obtain ⟨l,hl,rfl⟩:=List.mem_map.mp hy
  obtain ⟨i,hi,rfl⟩:=AE.mp hl
  have:=s.bd i; omega
 act a ha:=by
  have hl:=s.len
  have hf:=hc.C3 (f:=(a : Int)) (by simpa using ha)
  have ht:=hc.DJ (f:=(a : Int)) (by simpa using ha);rw [AR] at hf ht
  have e1 : (HK c LL).AJ.getD a default=Ct c LL a:=by rw [HK]; exact Ab _ _ ha
  have e2 : ∀ y : Int,0≤y∧y<c.AF→ix (HK c LL).AK y=((LL.getD y.toNat default).length : Int):=fun y hy=>by
   rw [ix,HK]; exact BC _ (by omega)
  rw [e1,e2 _ hf,e2 _ ht];refine ⟨by simp [Ct],fun y hy=>?_⟩
  obtain ⟨q,hq,rfl⟩:=List.mem_map.mp hy
  obtain ⟨i,j,rfl,hi,hj,e3,e4⟩:=s.of _ (by omega) q hq
  have h1 : (0 : Int)≤(j : Int)∧(j : Int).toNat<c.AB.length:=⟨by omega,by simpa using hj⟩
  have h2 : (0 : Int)≤(a : Int)∧(a : Int).toNat<c.AB.length:=⟨by omega,by simpa using ha⟩
  have Zd:=hc.comp h1 h2 (by rw [AR,AR,e4]; omega)
  obtain ⟨v,hv⟩ : ∃ v : Nat,ix (ix c.comp (j : Int)) (a : Int)=v:=⟨_,(Int.toNat_of_nonneg Zd.1.1).symm⟩;rw [hv] at Zd;simp only [AR] at Zd
  have Au:=s.all i v (.inl hi) hi (by simpa using Zd.1.2) (by rw [Zd.2.1,e3]);rw [Zd.2.2] at Au
  have e5 : ([ix [(i : Int),(j : Int)] 0,(ix c.comp (ix [(i : Int),(j : Int)] 1)).getD a default] : List Int)=[(i : Int),(v : Int)]:=by
   have : (ix c.comp (j : Int)).getD a default=v:=by rw [← hv,AR (ix c.comp (j : Int))]
   show [(i : Int),(ix c.comp (j : Int)).getD a default]=_
   rw [this]
  rw [e5]
  have:=BO Au;omega
theorem QR (B : Nat) (c : Ax) (hc : c.Shape) (os : List Int) (yT : os.length≤3) : Dt B 208 [.agg c.cells,iL os] (qL c os):=by
 intro H0;refine uZ.go fun _=>?_
 have hm:=hc.m
 have Ee:=hc.o
 have Jc:=hc.L5
 have o : A9 H0 H0 []:=.nil _;refine tt ?_;refine nb o fun B1 H o=>tt ?_;refine ⟨⟨by omega,by simp only [AN]; omega⟩, ?_⟩;rw [IX];refine AP o fun E9 H o=>tt ?_
 refine AD [1,2,4,5] (G:=List AV × List (List (List Int)) × List (Nat × AG)) (fun k _=>[(6,some (.int .i64 (k : Int)))])
  (fun k g H=>A9 H0 H ((E9,.cells 1 g.1 0)::(g.2.2++[(B1,.cells 7 z7 0)]))∧ED iL g.1 g.2.1 g.2.2∧F6 c os k 0 g.2.1) os.length (List.replicate c.AF.toNat .A0,List.replicate c.AF.toNat [],[]) ⟨o,ED.rep iL _,.zero Ee.1⟩ rfl ?_
 clear o
 rintro k ⟨Xs,LL,ob⟩ H hk ⟨o,hR,hI⟩;dsimp only at o hR hI;refine tt ?_;apply bk <;> intro h1
 ·have AU:=A6 h1
  have w1:=ws k;refine tt ?_
  refine AD [1,2,4,5,6] (G:=List AV × List (List (List Int)) × List (Nat × AG)) (fun h _=>[(7,some (.int .i64 (h : Int)))])
   (fun h g H=>A9 H0 H ((E9,.cells 1 g.1 0)::(g.2.2++[(B1,.cells 7 z7 0)]))∧ED iL g.1 g.2.1 g.2.2∧F6 c os k h g.2.1) c.AB.length (Xs,LL,ob) ⟨o,hR,hI⟩ rfl ?_
  clear o hR hI Xs LL ob
  rintro h ⟨Xs,LL,ob⟩ H hh ⟨o,hR,hI⟩;dsimp only at o hR hI;refine tt ?_;apply bk <;> intro h2
  ·have Aq:=A6 h2
   have w2:=ws h
   have Nx:=hc.DJ (f:=(h : Int)) (by simpa using Aq);rw [AR] at Nx
   have Iw:=hR.len
   have yn:=hI.len
   have Xo:=hI.bd (c.to.getD h default).toNat
   have aN : k*c.AB.length≤2*40:=Nat.mul_le_mul (by omega) hm;refine tt ?_;refine ⟨Aq,AU, ?_⟩;apply bk <;> intro h3
   ·have BH : c.AB.getD h default=os.getD k default:=A6 h3;refine tt ?_;refine ⟨by omega,by omega,⟨Nx.1,by omega⟩,Aj o.h0 (by omega) ?_⟩;refine tt ?_;refine Hv o hR (by omega) [(k : Int),(h : Int)] rfl (by show (LL.getD _ default).length+1≤AN; simp only [AN]; omega) fun X' o' H V1 hR o=>?_;try simp only [go_sem,↓reduceIte,reduceEqDiff,reduceAdd,reduceMul,reduceLeDiff,reduceLT,AV.DH V1]
    refine ⟨⟨Nx.1,by omega⟩,AS o (by omega) rfl (by simp only [Gk,JL]; exact ⟨V1,trivial⟩) fun H o=>?_⟩;simp only [Ej,Gv] at o;refine tw w2 ?_;exact A4 (_,_,_) (by omega) ⟨o,hR,hI.Sc hc AU Aq BH⟩ rfl
   ·refine tw w2 ?_;exact A4 (_,_,_) (by omega) ⟨o,hR,hI.skip (A7 h3)⟩ rfl
  ·have Aq:=A7 h2
   obtain rfl : h=c.AB.length:=by omega
   refine tw w1 ?_;exact A4 (_,_,_) (by omega) ⟨o,hR,hI.next⟩ rfl
 ·have AU:=A7 h1
  obtain rfl : k=os.length:=by omega
  have yn:=hI.len;refine tt ?_;refine EA hR [] H o fun H o=>AX ?_;rw [List.nil_append] at o;clear hR;refine tt ?_;refine Am (f:=B5) o (by omega) fun H o=>tt ?_;refine (DI B c).go fun _=>tt ?_;refine nb o fun Cm H o=>tt ?_;refine sw o fun H o=>?_
  let st : AV→AV→AG:=fun x5 x6=>.cells 7 [iI c.AF,iL c.AB,iL c.to,iL c.Ac,B5 c.comp,x5,x6] 0
  refine tt ?_
  have IK:=Y6 hc hI.toFreeI (N:=120) (by have:=Nat.mul_le_mul yT hm; omega)
  have Nh:=hI.of
  have HO:=hI.full;clear hI;refine AD [2,4,5,8] (G:=AV) (fun k X=>[(9,some (.int .i64 (k : Int)))]) (fun k X H=>CP iI H0 H ((Cm,st X .A0)::[(B1,.cells 7 z7 0)]) X ((LL.take k).map fun l=>(l.length : Int))) LL.length .A0 (.inl ⟨rfl,rfl,o⟩) rfl ?_;clear o
  rintro k X H hk hX;refine tt ?_;apply bk <;> intro h4
  ·have D9:=A6 h4
   have w:=ws k;refine tt ?_;refine Aj hX.obj (by simp [st]) (tt ?_);refine ⟨D9, ?_⟩;refine hX.app ((LL.getD k default).length : Int) rfl (by simp only [List.length_map,List.length_take,AN]; omega) fun Ac H o=>?_
   have e5 : ((LL.take k).map fun l=>(l.length : Int))++[((LL.getD k default).length : Int)]=(LL.take (k+1)).map fun l=>(l.length : Int):=by rw [take_one LL D9]; simp
   rw [e5] at o ⊢;refine tt ?_;refine sw o.swap fun H o=>?_;refine tw w ?_;exact A4 _ (by omega) (.inr ⟨Ac,rfl,o.swap⟩) rfl
  ·have D9:=A7 h4
   obtain rfl : k=LL.length:=by omega
   rw [List.take_length] at hX
   obtain ⟨p5,o,jd⟩:=hX.split
   have o : A9 H0 H ((Cm,st X .A0)::(p5++[(B1,.cells 7 z7 0)])):=o.perm List.perm_middle;clear hX;refine tt ?_;refine AD [2,4,5,8] (G:=AV) (fun a Y=>[(10,some (.int .i64 (a : Int)))]) (fun a Y H=>CP iL H0 H ((Cm,st X Y)::(p5++[(B1,.cells 7 z7 0)])) Y ((List.range a).map (Ct c LL))) c.AB.length .A0 (.inl ⟨rfl,rfl,o⟩) rfl ?_;clear o
   rintro a Y H ha hY
   replace hY : CP iL H0 H ((Cm,st X Y)::(p5++[(B1,.cells 7 z7 0)])) Y ((List.range a).map (Ct c LL)):=hY;refine tt ?_;apply bk <;> intro h5
   ·have JB:=A6 h5
    have w2:=ws a
    have Qy:=hc.C3 (f:=(a : Int)) (by simpa using JB)
    have Nx:=hc.DJ (f:=(a : Int)) (by simpa using JB);rw [AR] at Qy Nx
    obtain ⟨q,o,hq⟩:=hY.split;clear hY;refine tt ?_;refine Az iI o fun IL H o=>tt ?_;refine ⟨JB,⟨Qy.1,by omega⟩,by omega,⟨Nx.1,by omega⟩, ?_⟩
    have eF : ix LL (c.AB.getD a default)=LL.getD (c.AB.getD a default).toNat default:=rfl
    have eT : ix LL (c.to.getD a default)=LL.getD (c.to.getD a default).toNat default:=rfl
    have OP : Ct c LL a=(LL.getD (c.AB.getD a default).toNat default).map fun q=>indexOf (LL.getD (c.to.getD a default).toNat default) [ix q 0,(ix c.comp (ix q 1)).getD a default]:=rfl
    have yh:=Nh (c.AB.getD a default).toNat (by omega);rw [eF,eT]
    generalize hF : LL.getD (c.AB.getD a default).toNat default=F at *
    generalize hT : LL.getD (c.to.getD a default).toNat default=T at *
    have ya : F.length≤200:=by
     have:=IK.sz (F.length : Int) (List.mem_map.mpr ⟨F,by rw [← hF]; exact AE.mpr ⟨_,by omega,rfl⟩,rfl⟩);omega
    refine AD [2,4,5,8,10,12,13] (G:=Nat × List Int) (fun e g=>[(11,some (.buf g.1 g.2.length)),(14,some (.int .i64 (e : Int)))])
     (fun e g H=>g.2=(F.take e).map (fun q=>indexOf T [ix q 0,(ix c.comp (ix q 1)).getD a default])∧A9 H0 H ((g.1,.cells 1 (g.2.map iI) 0)::(q++((Cm,st X Y)::(p5++[(B1,.cells 7 z7 0)]))))) F.length (IL,[]) ⟨by simp,o⟩ rfl ?_
    clear o
    rintro e ⟨IL,row⟩ H he ⟨Bf,o⟩;dsimp only at Bf o
    have WA : row.length=e:=by rw [Bf,List.length_map,List.length_take]; omega
    refine tt ?_;apply bk <;> intro h6
    ·have Ln:=A6 h6
     have w3:=ws e
     obtain ⟨i,j,eq,hi,hj,_,_⟩:=yh (F.getD e default) (AE.mpr ⟨e,Ln,rfl⟩)
     have e0 : ix (F.getD e default) 0=(i : Int):=by rw [eq]; rfl
     have e1 : ix (F.getD e default) 1=(j : Int):=by rw [eq]; rfl
     have el : (F.getD e default).length=2:=by rw [eq]; rfl
     have RG:=hc.cl
     have gx:=hc.Wr (a:=(j : Int)) (by simpa using hj);refine tt ?_;refine ⟨Ln,⟨by omega,by rw [el]; decide⟩,Ln,⟨by omega,by rw [el]; decide⟩, ?_⟩;rw [e0,e1];refine ⟨_,(U0 B c (j : Int) (a : Int) ⟨by omega,by rw [Int.toNat_natCast,RG]; exact hj⟩ ⟨by omega,by rw [gx]; simpa using JB⟩).run,tt ?_⟩;refine ⟨_,(Sv B T [(i : Int),(ix c.comp (j : Int)).getD a default]).run,tt ?_⟩;refine Ae (indexOf T [(i : Int),(ix c.comp (j : Int)).getD a default]) o rfl rfl (by simp only [AN]; omega) fun IL H o=>?_;refine tw w3 ?_;refine A4 (_,_) (by omega) ⟨?_,o⟩ rfl;rw [take_one F Ln,List.map_append,← Bf,List.map_cons,List.map_nil,e0,e1]
    ·have Ln:=A7 h6
     obtain rfl : e=F.length:=by omega
     rw [List.take_length,← OP] at Bf;refine tt ?_;refine Am o rfl fun H o=>?_
     have hY:=CP.mk o hq;clear o;refine tt ?_;refine Aj hY.obj (by simp [st]) (tt ?_)
     have e7 : (List.range a).map (Ct c LL)++[row]=(List.range (a+1)).map (Ct c LL):=by rw [FT,Bf]
     refine hY.app row rfl (by simp only [List.length_map,List.length_range,AN]; omega) fun Ac H o=>tt ?_;refine sw o.swap fun H o=>?_
     have hY : CP iL H0 H ((Cm,st X (.buf Ac ((List.range a).map (Ct c LL)++[row]).length))::(p5++[(B1,.cells 7 z7 0)])) (.buf Ac ((List.range a).map (Ct c LL)++[row]).length) ((List.range a).map (Ct c LL)++[row]):=.inr ⟨Ac,rfl,o.swap⟩
     generalize (AV.buf Ac ((List.range a).map (Ct c LL)++[row]).length)=Y' at hY;rw [e7] at hY;refine tw w2 ?_;exact A4 Y' (by omega) hY rfl
   ·have JB:=A7 h5
    obtain rfl : a=c.AB.length:=by omega
    refine tt ?_;refine FK 6 hY rfl fun H o=>?_;have o:=s1 o
    have hX:=CP.mk (o.perm List.perm_middle.symm) jd;clear o;refine FK 5 hX rfl fun H o=>AX ?_;have o:=s1 o;refine tt ?_;refine AO o (by simp) (tt ?_);refine sw o.swap fun H o=>tt ?_
    have hr:=o.rc 7 0 (by simp);simp only [List.drop_zero] at hr;rw [hr];exact B0 ⟨by rw [Dy,← HO]; rfl,by rw [Dy,← HO]; exact IK⟩ o.sub
def Jp (sz : List Int) (PP : List (List (List Int))) : Prop:=PP.length=sz.length∧∀ x : Nat,x<sz.length→∀ q,q∈PP.getD x default→2≤q.length∧(0≤q.getD 0 default∧q.getD 0 default<sz.getD x default)∧(0≤q.getD 1 default∧q.getD 1 default<sz.getD x default)
def uH (f : SF) (r : AV) : Prop:=∃ (CC : List (List Int)) (g : SF),r=.agg g.cells∧Jx f.AK CC∧Vp f CC g
theorem S8 (B : Nat) (f : SF) (c : Ax) (hc : c.Shape) (hf : f.gi c 120) (PP : List (List (List Int))) (hP : Jp f.AK PP) : Dt B 249 [.agg f.cells,BE PP] (uH f):=by
 intro H0;refine u7.go fun _=>?_
 obtain ⟨rfl,Im,Tc,CW,OP⟩:=hf
 have hm:=hc.m
 have Ee:=hc.o
 have Jc:=hc.L5
 have o : A9 H0 H0 []:=.nil _
 have Nq : ∀ x,x<f.AK.length→0≤f.AK.getD x default∧f.AK.getD x default≤120:=fun x hx=>CW _ (AE.mpr ⟨x,hx,rfl⟩);refine tt ?_;refine nb o fun B1 H o=>tt ?_;refine Az iL o fun Bv H o=>tt ?_
 refine AD [1,2,4] (G:=Nat × List (List Int)) (fun k g=>[(5,some (.buf g.1 g.2.length)),(6,some (.int .i64 (k : Int)))])
  (fun k g H=>g.2=(List.range k).map (Jj f.AK PP)∧A9 H0 H [(g.1,.cells 1 (g.2.map iL) 0),(B1,.cells 7 z7 0)]) f.AK.length (Bv,[]) ⟨rfl,o⟩ rfl ?_
 clear o
 rintro k ⟨Bv,CC⟩ H hk ⟨oQ,o⟩
 replace oQ : CC=(List.range k).map (Jj f.AK PP):=oQ
 replace o : A9 H0 H [(Bv,.cells 1 (CC.map iL) 0),(B1,.cells 7 z7 0)]:=o
 have Zy : CC.length=k:=by rw [oQ]; simp
 refine tt ?_;apply bk <;> intro h1
 ·have AU:=A6 h1
  have w1:=ws k
  have W6:=Nq k AU
  obtain ⟨n,hn⟩ : ∃ n : Nat,f.AK.getD k default=n:=⟨_,(Int.toNat_of_nonneg W6.1).symm⟩
  have hPk:=hP.2 k AU
  have RG : Jj f.AK PP k=HI n (PP.getD k default):=by rw [Jj,hn,Int.toNat_natCast]
  rw [hn] at hPk W6;refine tt ?_;refine ⟨AU,by rw [hP.1]; exact AU, ?_⟩;rw [hn];refine ⟨_,(Rw B n (by omega) (PP.getD k default) fun q hq=>?_).run, ?_⟩
  ·have:=hPk q hq; omega
  refine tt ?_;refine Ae (HI n (PP.getD k default)) o rfl rfl (by simp only [AN]; omega) fun Bv H o=>?_;refine tw w1 ?_;exact A4 (_,_) (by omega) ⟨by rw [oQ,FT,RG],o⟩ rfl
 ·have AU:=A7 h1
  obtain rfl : k=f.AK.length:=by omega
  have hK : Jx f.AK CC:=by rw [oQ]; exact XL (fun y hy=>(CW y hy).1) PP
  clear oQ;refine tt ?_;rw [Zy];refine tt ?_
  refine E3 [2,4,5] (G:=Bool × List (List Int)) (fun g=>[(7,some (.bool g.1))]) (fun m g H=>(m=Ns g.2+(if g.1=true then 1 else 0)∧Jx f.AK g.2∧(g.1=false→Cg f g.2 f.AJ.length))∧A9 H0 H [(Bv,.cells 1 (g.2.map iL) 0),(B1,.cells 7 z7 0)])
   (Ns CC+1) (true,CC) ⟨⟨by simp,hK,fun h=>absurd h (by simp)⟩,o⟩ rfl ?_
  clear o hK Zy CC
  rintro m ⟨more,CC⟩ H ⟨⟨Zz,hK,hG⟩,o⟩
  replace hG : more=false→Cg f CC f.AJ.length:=hG
  replace Zz : m=Ns CC+(if more=true then 1 else 0):=Zz
  replace hK : Jx f.AK CC:=hK
  replace o : A9 H0 H [(Bv,.cells 1 (CC.map iL) 0),(B1,.cells 7 z7 0)]:=o
  cases more;rotate_left 1
  ·refine tt ?_
   obtain ⟨P0,yk⟩ : ∃ P0,P0=Ns CC:=⟨_,rfl⟩;rw [← yk] at Zz
   refine AD [2,4,5] (G:=Bool × List (List Int)) (fun a g=>[(7,some (.bool g.1)),(8,some (.int .i64 (a : Int)))])
    (fun a g H=>(Ns g.2≤P0∧(g.1=true→Ns g.2<P0)∧Jx f.AK g.2∧(g.1=false→Cg f g.2 a))∧A9 H0 H [(Bv,.cells 1 (g.2.map iL) 0),(B1,.cells 7 z7 0)]) f.AJ.length (false,CC) ⟨⟨by simp [yk],by simp,hK,fun _ a h=>absurd h (Nat.not_lt_zero a)⟩,o⟩ rfl ?_
   clear o hK hG yk CC
   rintro a ⟨more,CC⟩ H ha ⟨⟨II,E8,hK,hG⟩,o⟩
   replace hG : more=false→Cg f CC a:=hG
   replace II : Ns CC≤P0:=II
   replace E8 : more=true→Ns CC<P0:=E8
   replace hK : Jx f.AK CC:=hK
   replace o : A9 H0 H [(Bv,.cells 1 (CC.map iL) 0),(B1,.cells 7 z7 0)]:=o;refine tt ?_;apply bk <;> intro h2
   ·have Aq:=A6 h2
    have w2:=ws a
    have Te : a<f.shape.AB.length:=by omega
    have Qy:=hc.C3 (f:=(a : Int)) (by simpa using Te)
    have Nx:=hc.DJ (f:=(a : Int)) (by simpa using Te)
    have RD:=OP a Te;rw [AR] at Qy Nx
    obtain ⟨x,hx⟩ : ∃ x : Nat,f.shape.AB.getD a default=x:=⟨_,(Int.toNat_of_nonneg Qy.1).symm⟩
    obtain ⟨y,hy⟩ : ∃ y : Nat,f.shape.to.getD a default=y:=⟨_,(Int.toNat_of_nonneg Nx.1).symm⟩;rw [hx,hy,AR,AR] at RD;rw [hx] at Qy;rw [hy] at Nx
    have Pd : x<f.AK.length:=by omega
    have Zi : y<f.AK.length:=by omega
    have jr:=Nq x Pd
    have yu:=Nq y Zi
    obtain ⟨n,hn⟩ : ∃ n : Nat,f.AK.getD x default=n:=⟨_,(Int.toNat_of_nonneg jr.1).symm⟩
    obtain ⟨ny,zB⟩ : ∃ n : Nat,f.AK.getD y default=n:=⟨_,(Int.toNat_of_nonneg yu.1).symm⟩;rw [hn] at RD jr;rw [zB] at RD yu
    have hlen : (f.AJ.getD a default).length=n:=by omega
    refine tt ?_;refine ⟨Te,by omega, ?_⟩;rw [hx,hy];refine tt ?_
    refine AD [2,4,5,8,9,10] (G:=Bool × List (List Int)) (fun d g=>[(7,some (.bool g.1)),(11,some (.int .i64 (d : Int)))])
     (fun d g H=>(Ns g.2≤P0∧(g.1=true→Ns g.2<P0)∧Jx f.AK g.2∧(g.1=false→Cg f g.2 a∧o6 f g.2 a d))∧A9 H0 H [(Bv,.cells 1 (g.2.map iL) 0),(B1,.cells 7 z7 0)]) n (more,CC) ⟨⟨II,E8,hK,fun q=>⟨hG q,fun d h=>absurd h (Nat.not_lt_zero d)⟩⟩,o⟩ rfl ?_
    clear o II E8 hK hG
    rintro d ⟨more,CC⟩ H hd ⟨⟨II,E8,hK,hG⟩,o⟩
    replace hG : more=false→Cg f CC a∧o6 f CC a d:=hG
    replace II : Ns CC≤P0:=II
    replace E8 : more=true→Ns CC<P0:=E8
    replace hK : Jx f.AK CC:=hK
    replace o : A9 H0 H [(Bv,.cells 1 (CC.map iL) 0),(B1,.cells 7 z7 0)]:=o
    have aT:=hK.row x Pd
    have Xr:=hK.len;rw [hn] at aT;refine tt ?_;refine ⟨Pd,CI o (by omega) ?_⟩
    have ecl : (CC.getD x default).length=n:=by omega
    refine tw ecl ?_;apply bk <;> intro h3
    ·have BH:=A6 h3
     have w3:=ws d;refine tt ?_
     refine AD [2,4,5,8,9,10,11] (G:=Bool × List (List Int)) (fun e g=>[(7,some (.bool g.1)),(12,some (.int .i64 (e : Int)))])
      (fun e g H=>(Ns g.2≤P0∧(g.1=true→Ns g.2<P0)∧Jx f.AK g.2∧(g.1=false→Cg f g.2 a∧o6 f g.2 a d∧pg f g.2 a d e))∧A9 H0 H [(Bv,.cells 1 (g.2.map iL) 0),(B1,.cells 7 z7 0)]) d (more,CC) ⟨⟨II,E8,hK,fun q=>⟨(hG q).1,(hG q).2,fun e h=>absurd h (Nat.not_lt_zero e)⟩⟩,o⟩ rfl ?_
     clear o II E8 hK hG aT Xr ecl
     rintro e ⟨more,CC⟩ H he ⟨⟨II,E8,hK,hG⟩,o⟩
     replace hG : more=false→Cg f CC a∧o6 f CC a d∧pg f CC a d e:=hG
     replace II : Ns CC≤P0:=II
     replace E8 : more=true→Ns CC<P0:=E8
     replace hK : Jx f.AK CC:=hK
     replace o : A9 H0 H [(Bv,.cells 1 (CC.map iL) 0),(B1,.cells 7 z7 0)]:=o
     have aT:=hK.row x Pd
     have hky:=hK.row y Zi
     have Xr:=hK.len;rw [hn] at aT;rw [zB] at hky;refine tt ?_;apply bk <;> intro h4
     ·have D9:=A6 h4
      have w4:=ws e
      have hu:=RD.2 _ (AE.mpr ⟨d,by omega,rfl⟩)
      have hv:=RD.2 _ (AE.mpr ⟨e,by omega,rfl⟩);refine tt ?_;refine ⟨Aq,by omega,Aq,by omega, ?_⟩
      generalize OV : (f.AJ.getD a default).getD d default=u at hu ⊢
      generalize RH : (f.AJ.getD a default).getD e default=v at hv ⊢;refine tt ?_;refine ⟨Pd,CI o (by omega) ?_⟩;refine tt ?_;refine ⟨by omega,Pd,CI o (by omega) ?_⟩;refine tt ?_;refine ⟨by omega, ?_⟩;apply bk <;> intro h5
      ·refine tw h5 ?_
       have yw : (CC.getD y default).length=ny:=by omega
       refine ⟨Zi,CI o (by omega) ?_⟩;refine tt ?_;refine ⟨⟨hu.1,by omega⟩,Zi,CI o (by omega) ?_⟩;refine tt ?_;refine ⟨⟨hv.1,by omega⟩, ?_⟩;apply bk <;> intro h6
       ·refine tt ?_
        have Ln:=dd h6
        have Ln : ix (CC.getD y default) u≠ix (CC.getD y default) v:=Ln
        have hul : 0≤u∧u.toNat<(CC.getD y default).length:=⟨hu.1,by omega⟩
        have pI : 0≤v∧v.toNat<(CC.getD y default).length:=⟨hv.1,by omega⟩
        have lC:=UR hul pI;rw [yw] at lC
        have hgl:=SX (n:=ny) (ps:=El (CC.getD y default)++[[u,v]]) fun q hq=>⟨(lC q hq).2.1.2,(lC q hq).2.2.2⟩
        have x8:=Ul (by rw [Kx,yw]) hul pI Ln hgl
        have Iv:=hK.set Zi (m:=HI ny (El (CC.getD y default)++[[u,v]])) (by rw [Kx,zB]) (fun w hw=>by rw [zB]; exact P5 hw) (MY _ _)
        have yY:=VS CC y _ (by omega) x8;refine ⟨Zi,Zi,CI o (by omega) ?_⟩;rw [zB];refine tt ?_;refine (Qc B (CC.getD y default) _ _ _ o).own fun tG A H o hA=>?_;subst hA
        have Nw : (El (CC.getD y default)).length=ny:=by rw [El,List.length_map,List.length_range,yw]
        refine tt ?_;refine Ae [u,v] o rfl rfl (by simp only [AN]; omega) fun tG H o=>tt ?_;refine Pu 1 rfl o rfl fun H o=>?_;refine (Rw B ny (by omega) (El (CC.getD y default)++[[u,v]]) lC).go fun _=>tt ?_;refine ⟨Zi,BT (f:=iL) (HI ny (El (CC.getD y default)++[[u,v]])) o rfl (by omega) fun H o=>?_⟩;refine tw w4 ?_;exact A4 (true,_) (by omega) ⟨⟨Nat.le_trans (Nat.le_of_lt yY) II,fun _=>Nat.lt_of_lt_of_le yY II,Iv,fun h=>absurd h (by simp)⟩,o⟩ rfl
       ·refine tw w4 ?_
        have Ln:=dd h6
        have GX : c8 f CC a d e:=fun _=>by rw [hy,AR,OV,RH]; exact Ln
        exact A4 (more,CC) (by omega) ⟨⟨II,E8,hK,fun q=>⟨(hG q).1,(hG q).2.1,AM (hG q).2.2 GX⟩⟩,o⟩ rfl
      ·refine t2 h5 w4 ?_
       have JB:=dd h5
       have GX : c8 f CC a d e:=fun q=>by rw [hx,AR] at q; exact absurd q JB
       exact A4 (more,CC) (by omega) ⟨⟨II,E8,hK,fun q=>⟨(hG q).1,(hG q).2.1,AM (hG q).2.2 GX⟩⟩,o⟩ rfl
     ·have D9:=A7 h4
      obtain rfl : e=d:=by omega
      refine tw w3 ?_;exact A4 (more,CC) (by omega) ⟨⟨II,E8,hK,fun q=>⟨(hG q).1,AM (hG q).2.1 (hG q).2.2⟩⟩,o⟩ rfl
    ·have BH:=A7 h3
     obtain rfl : d=n:=by omega
     refine tw w2 ?_;exact A4 (more,CC) (by omega) ⟨⟨II,E8,hK,fun q=>AM (hG q).1 (by rw [hlen]; exact (hG q).2)⟩,o⟩ rfl
   ·have Aq:=A7 h2
    obtain rfl : a=f.AJ.length:=by omega
    refine tt ?_
    cases more
    ·exact CJ (Ns CC) (false,CC) (by simp at Zz; omega) ⟨⟨by simp,hK,hG⟩,o⟩ rfl
    ·have:=E8 rfl;exact CJ (Ns CC+1) (true,CC) (by simp at Zz; omega) ⟨⟨by simp,hK,fun h=>absurd h (by simp)⟩,o⟩ rfl
  ·clear Zz
   have hCg:=hG rfl
   have Xr:=hK.len
   have hcx : ∀ x,x<f.AK.length→(CC.getD x default).length≤120:=fun x hx=>by have:=hK.row x hx; have:=Nq x hx; omega
   have iw : ∀ x,x<f.AK.length→(0≤Ib (CC.getD x default)∧Ib (CC.getD x default)≤f.AK.getD x default)∧∀ v,v∈CC.getD x default→v<Ib (CC.getD x default) :=
    fun x hx=>Pm (Nq x hx).1 (hK.Nt x hx)
   refine tt ?_;refine Am o Xr.symm fun H o=>tt ?_;refine (DI B f.shape).go fun _=>tt ?_;refine nb o fun Cm H o=>tt ?_;refine sw o fun H o=>?_
   let st : AV→AV→AG:=fun x5 x6=>.cells 7 [iI f.shape.AF,iL f.shape.AB,iL f.shape.to,iL f.shape.Ac,B5 f.shape.comp,x5,x6] 0
   refine tt ?_;refine AD [2,4,5,15] (G:=AV) (fun k X=>[(16,some (.int .i64 (k : Int)))]) (fun k X H=>CP iI H0 H ((Cm,st X .A0)::[(B1,.cells 7 z7 0)]) X ((CC.take k).map Ib)) CC.length .A0 (.inl ⟨rfl,rfl,o⟩) rfl ?_;clear o
   rintro k X H hk hX;refine tt ?_;apply bk <;> intro h1
   ·have AU:=A6 h1
    have w1:=ws k
    obtain ⟨p,o,hp⟩:=hX.split;clear hX
    have Zq:=hcx k (by omega)
    have kV:=hK.Nt k (by omega)
    have W6:=Nq k (by omega);refine tt ?_;refine AD [2,4,5,15,16] (G:=Unit) (fun e _=>[(17,some (.int .i64 (Ib ((CC.getD k default).take e)))),(18,some (.int .i64 (e : Int)))]) (fun e _ H=>A9 H0 H (p++((Cm,st X .A0)::[(B1,.cells 7 z7 0)]))) (CC.getD k default).length () o rfl ?_;clear o
    rintro e _ H he o;refine tt ?_;refine ⟨AU, ?_⟩;apply bk <;> intro h2
    ·have Aq:=A6 h2
     have w2:=ws e
     have hv:=kV _ (AE.mpr ⟨e,Aq,rfl⟩)
     have w3 : IntKind.i64.wrap ((CC.getD k default).getD e default+1)=(CC.getD k default).getD e default+1:=wrap_i64 (by omega) (by omega)
     have OQ:=Sm (CC.getD k default) Aq;refine tt ?_;refine ⟨AU,Aq, ?_⟩;rw [w3,← OQ];refine tw w2 ?_;exact A4 () (by omega) o rfl
    ·have Aq:=A7 h2
     obtain rfl : e=(CC.getD k default).length:=by omega
     rw [List.take_length]
     have hX:=CP.mk o hp;clear o;refine tt ?_;refine Aj hX.obj (by simp [st]) (tt ?_)
     have e7 : (CC.take k).map Ib++[Ib (CC.getD k default)]=(CC.take (k+1)).map Ib:=by rw [take_one CC AU]; simp
     refine hX.app (Ib (CC.getD k default)) rfl (by simp only [List.length_map,List.length_take,AN]; omega) fun Ac H o=>?_;rw [e7] at o ⊢;refine tt ?_;refine sw o.swap fun H o=>?_;refine tw w1 ?_;exact A4 _ (by omega) (.inr ⟨Ac,rfl,o.swap⟩) rfl
   ·have AU:=A7 h1
    obtain rfl : k=CC.length:=by omega
    rw [List.take_length] at hX
    obtain ⟨p5,o,jd⟩:=hX.split
    have o : A9 H0 H ((Cm,st X .A0)::(p5++[(B1,.cells 7 z7 0)])):=o.perm List.perm_middle;clear hX;refine tt ?_;refine AD [2,4,5,15] (G:=AV × List (List Int)) (fun a Y=>[(19,some (.int .i64 (a : Int)))]) (fun a Y H=>(Y.2.length=a∧∀ i : Nat,i<a→KR f CC i (Y.2.getD i default) (f.AJ.getD i default).length)∧CP iL H0 H ((Cm,st X Y.1)::(p5++[(B1,.cells 7 z7 0)])) Y.1 Y.2) f.AJ.length (.A0,[]) ⟨⟨rfl,fun i h=>absurd h (Nat.not_lt_zero i)⟩,.inl ⟨rfl,rfl,o⟩⟩ rfl ?_;clear o
    rintro a ⟨Y,RR⟩ H ha ⟨⟨w7,dI⟩,hY⟩
    replace dI : ∀ i : Nat,i<a→KR f CC i (RR.getD i default) (f.AJ.getD i default).length:=dI
    replace w7 : RR.length=a:=w7
    replace hY : CP iL H0 H ((Cm,st X Y)::(p5++[(B1,.cells 7 z7 0)])) Y RR:=hY;refine tt ?_;apply bk <;> intro h2
    ·have Aq:=A6 h2
     have w2:=ws a
     have Te : a<f.shape.AB.length:=by omega
     have Qy:=hc.C3 (f:=(a : Int)) (by simpa using Te)
     have Nx:=hc.DJ (f:=(a : Int)) (by simpa using Te)
     have RD:=OP a Te;rw [AR] at Qy Nx
     obtain ⟨x,hx⟩ : ∃ x : Nat,f.shape.AB.getD a default=x:=⟨_,(Int.toNat_of_nonneg Qy.1).symm⟩
     obtain ⟨y,hy⟩ : ∃ y : Nat,f.shape.to.getD a default=y:=⟨_,(Int.toNat_of_nonneg Nx.1).symm⟩;rw [hx,hy,AR,AR] at RD;rw [hx] at Qy;rw [hy] at Nx
     have Pd : x<f.AK.length:=by omega
     have Zi : y<f.AK.length:=by omega
     have jr:=Nq x Pd
     have aT:=hK.row x Pd
     have hky:=hK.row y Zi
     have lW:=iw x Pd;refine tt ?_;refine ⟨Te,by omega, ?_⟩;rw [hx,hy];refine tt ?_
     obtain ⟨HP,rfl,rfl⟩:=jd.sub (i:=x) (by rw [List.length_map]; omega);refine Aj hY.obj (by simp [st]) (tt ?_);refine ⟨by rw [List.length_map]; omega,D1 (f:=iI) (hY.get (x:=(HP,.cells 1 ((CC.map Ib).map iI) 0)) (by simp)) (by rw [List.length_map]; omega) ?_⟩;rw [BC Ib (show x<CC.length by omega)]
     obtain ⟨n,hn⟩ : ∃ n : Nat,Ib (CC.getD x default)=n:=⟨_,(Int.toNat_of_nonneg lW.1.1).symm⟩;rw [hn] at lW ⊢
     obtain ⟨q,o,hq⟩:=hY.split;clear hY;refine tt ?_;refine ⟨⟨by omega,by simp only [AN]; omega⟩,EI iI 0 rfl o fun xq H o=>?_⟩;refine tt ?_
     have Zr : (List.replicate n (0 : Int)).length=n:=List.length_replicate
     refine AD [2,4,5,15,19,20,21,22] (G:=List Int) (fun e _=>[(23,some (.int .i64 (e : Int)))])
      (fun e A H=>(A.length=n∧KR f CC a A e)∧A9 H0 H ((xq,.cells 1 (A.map iI) 0)::(q++((Cm,st (.buf HP (CC.map Ib).length) Y)::([(HP,.cells 1 ((CC.map Ib).map iI) 0)]++[(B1,.cells 7 z7 0)]))))) (CC.getD x default).length (List.replicate n 0) ⟨⟨Zr,by rw [hx,AR,hn,Zr],fun e h=>absurd h (Nat.not_lt_zero e)⟩,o⟩ rfl ?_
     clear o
     rintro e A H he ⟨⟨hA,Nz⟩,o⟩;refine tt ?_;refine ⟨by omega, ?_⟩;apply bk <;> intro h3
     ·have BH:=A6 h3
      have w3:=ws e
      have xY:=lW.2 _ (AE.mpr ⟨e,BH,rfl⟩)
      have Xc:=hK.Nt x Pd _ (AE.mpr ⟨e,BH,rfl⟩)
      have yV:=RD.2 _ (AE.mpr ⟨e,by omega,rfl⟩);refine tt ?_;refine ⟨by omega,BH,by omega,Aq,by omega,⟨yV.1,by omega⟩,⟨Xc.1,by omega⟩, ?_⟩
      have Iv:=Nz.set (hCg a Aq) (by omega) (fun e' oO=>by rw [hx,AR]; exact (hK.Nt x Pd _ (AE.mpr ⟨e',by omega,rfl⟩)).1) (by rw [hx,AR]; omega);rw [hx,hy,AR,AR] at Iv;refine BT (f:=iI) _ o rfl (by omega) fun H o=>?_;refine tw w3 ?_;exact A4 (A.set _ _) (by omega) ⟨⟨by rw [List.length_set]; exact hA,Iv⟩,o⟩ rfl
     ·have BH:=A7 h3
      obtain rfl : e=(CC.getD x default).length:=by omega
      have ER : KR f CC a A (f.AJ.getD a default).length:=by rw [show (f.AJ.getD a default).length=(CC.getD x default).length by omega]; exact Nz
      refine tt ?_;refine Am o hA.symm fun H o=>?_
      have hY:=CP.mk o hq;clear o;refine tt ?_;refine Aj hY.obj (by simp [st]) (tt ?_);refine hY.app A rfl (by simp only [AN]; omega) fun Ac H o=>tt ?_;refine sw o.swap fun H o=>?_;refine tw w2 ?_;exact A4 (.buf Ac (RR++[A]).length,RR++[A]) (by omega) ⟨⟨by show (RR++[A]).length=_; simp [w7],XB (P:=fun i r=>KR f CC i r (f.AJ.getD i default).length) w7 dI ER⟩,.inr ⟨Ac,rfl,o.swap⟩⟩ rfl
    ·have Aq:=A7 h2
     obtain rfl : a=f.AJ.length:=by omega
     refine tt ?_;refine FK 6 hY rfl fun H o=>?_;have o:=s1 o
     have hX:=CP.mk (o.perm List.perm_middle.symm) jd;clear o;refine FK 5 hX rfl fun H o=>AX ?_;have o:=s1 o;refine tt ?_;refine AO o (by simp) (tt ?_);refine sw o.swap fun H o=>tt ?_
     have hr:=o.rc 7 0 (by simp);simp only [List.drop_zero] at hr;rw [hr];exact B0 ⟨CC,⟨f.shape,CC.map Ib,RR⟩,rfl,hK,rfl,rfl,w7,dI⟩ o.sub
end Go.Proofs.Shf
namespace Go.Shf
open Go.AW
theorem P8 {α : Type} [Inhabited α] (n : Nat) (a : α) {i : Nat} (h : i<n) : (List.replicate n a).getD i default=a:=by
 rw [Go.AW.gE,List.getElem?_replicate,if_pos h]; rfl
section
variable {c : Ax} {n : Nat}
theorem LS (hc : c.Shape) {x : Int} (hx : 0≤x∧x<c.AF) : ix (CH c n).AK x=n:=P8 _ _ (by have:=hc.o; omega)
theorem FO {a : Int} (ha : a.toNat<c.AB.length) : ix (CH c n).AJ a=(List.range n).map Int.ofNat:=P8 _ _ ha
end
end Go.Shf
