/- A part of a proof. -/
import Derived.Test.YtphikjciekmijaaGreatT11
import Derived.Deep.Slices
import Derived.SizedLaws
set_option linter.unusedVariables false
set_option linter.unusedSimpArgs false
set_option linter.unusedSectionVars false
set_option maxRecDepth 100000
open Nat (reduceEqDiff reduceAdd reduceMul reduceLeDiff reduceLT)
namespace Go.Proofs.Shf
open Go.AW Go.Proofs Go.Shf
set_option maxHeartbeats 1000000 in
theorem TB (B : Nat) {p : PF} (sh : p.Shape) (hn : Ap p≤40) (most : Nat) (Zx : 0<most) (GY : most≤1048576) : PB B 133 [.agg p.cells,.agg p.cells,iI most] (B5 ((MB p).take most)):=by
 refine ⟨fun H0=>xO.go fun _=>?_⟩
 have so:=sh.sI.1.o
 have to:=sh.tI.1.o
 have sm:=sh.sI.1.m
 have tm:=sh.tI.1.m
 have sl:=sh.sl
 have Ww : Ag p=p.src.AB.length+p.AL.AB.length:=rfl
 have s6 : Ap p=Ag p+(Cs p).length:=rfl
 have o : A9 H0 H0 []:=.nil _;refine tt ?_;refine Qd (fun σ H=>σ=[(2,some (iI most)),(3,some (.ptr p.cells)),(4,some (.ptr p.cells)),(7,some (.ptr p.src.cells)),(8,some (.ptr p.AL.cells))]∧A9 H0 H []) ?_ ?_
 ·refine tt ?_;refine ⟨?_, ?_⟩
  ·refine Ai o fun CT H o=>tt ?_;refine Ai o fun Cm H o=>tt ?_;refine sw o.swap fun H o=>tt ?_;refine sw o.swap fun H o=>tt ?_;refine Ca 8 o rfl fun H o=>?_;refine Ca 7 o rfl fun H o=>?_;exact Vg [2,3,4,7,8] ⟨rfl,o⟩
  ·refine Ai o fun Cm H o=>tt ?_;refine Ai o fun CT H o=>tt ?_;refine sw o fun H o=>tt ?_;refine sw o.swap fun H o=>tt ?_;refine Ca 8 o rfl fun H o=>?_;refine Ca 7 o rfl fun H o=>?_;exact Vg [2,3,4,7,8] ⟨rfl,o⟩
 rintro σ H ⟨rfl,o⟩;refine tt ?_;refine Az iI o fun ON H o=>tt ?_;refine Kt TX o fun HZ H o=>tt ?_;refine AD [2,3,4,7,8,10] (G:=Nat) (fun k g=>[(9,some (.buf g (Ik p k 0).length)),(11,some (.int .i64 (k : Int)))]) (fun k g H=>A9 H0 H [(HZ,.cells 4 (flat (([] : List Lk).map TX)) 0),(g,.cells 1 ((Ik p k 0).map iI) 0)]) p.src.AF.toNat ON o rfl ?_;clear o
 rintro x ON H hx o
 replace o : A9 H0 H [(HZ,.cells 4 (flat (([] : List Lk).map TX)) 0),(ON,.cells 1 ((Ik p x 0).map iI) 0)]:=o;refine tt ?_;apply bk <;> intro h1
 ·have AU:=A6 h1
  have w1:=ws x
  have W8 : p.src.ES x:=⟨by omega,by omega⟩
  have rl:=(sh.rl _ W8).1;rw [AR] at rl;refine tt ?_;refine AD [2,3,4,7,8,10,11] (G:=Nat) (fun k g=>[(9,some (.buf g (Ik p x k).length)),(12,some (.int .i64 (k : Int)))]) (fun k g H=>A9 H0 H [(HZ,.cells 4 (flat (([] : List Lk).map TX)) 0),(g,.cells 1 ((Ik p x k).map iI) 0)]) p.AL.AF.toNat ON o rfl ?_;clear o
  rintro y ON H hy o
  replace o : A9 H0 H [(HZ,.cells 4 (flat (([] : List Lk).map TX)) 0),(ON,.cells 1 ((Ik p x y).map iI) 0)]:=o;refine tt ?_;apply bk <;> intro h2
  ·have Aq:=A6 h2
   have w2:=ws y
   have L9 : p.AL.ES y:=⟨by omega,by omega⟩
   have q:=(sh.rl _ W8).2 _ L9
   have q2 : p.sz x y=(p.AK.getD x default).getD y default:=by rw [PF.sz,AR,AR]
   obtain ⟨z,hz⟩ : ∃ z : Nat,(p.AK.getD x default).getD y default=(z : Int):=⟨_,(Int.toNat_of_nonneg (by rw [← q2]; exact q.1)).symm⟩
   have ez : (p.sz x y).toNat=z:=by rw [q2,hz]; simp
   have le:=N4 p (x:=x) (y:=y) sh (by omega) (by omega)
   have ll : (Ik p x y).length=(M6 p x y).length:=by rw [Ik,List.length_map]
   refine tt ?_;rw [hz];refine ⟨by omega,by omega,by omega,by omega,_,(Q6 B (z : Int) z (by omega)).run,tt ?_⟩;refine Hh (out:=Ik p x y) (r:=List.replicate z (z : Int)) o.swap rfl (by simp only [List.length_replicate,AN]; omega) fun ON H o=>?_;rw [show Ik p x y++List.replicate z (z : Int)=Ik p x (y+1) by rw [QZ,ez,show p.sz x y=(z : Int) by rw [q2,hz]]] at o ⊢;refine tw w2 ?_;exact A4 ON (by omega) o.swap rfl
  ·have xB:=A7 h2
   obtain rfl : y=p.AL.AF.toNat:=by omega
   rw [Wq] at o ⊢;refine tw w1 ?_;exact A4 ON (by omega) o rfl
 ·have Sd:=A7 h1
  obtain rfl : x=p.src.AF.toNat:=by omega
  rw [Ra] at o ⊢
  have e0 : ([] : List Lk)=BP (Dq p) 0++BP (DS p 0) 0:=rfl
  have bl:=sh.bl;rw [e0] at o;refine tt ?_;refine AD [2,3,4,7,8,9] (G:=Nat) (fun k g=>[(10,some (.buf g (BP (Dq p) k++BP (DS p k) 0).length)),(13,some (.int .i64 (k : Int)))]) (fun k g H=>A9 H0 H [(g,.cells 4 (flat ((BP (Dq p) k++BP (DS p k) 0).map TX)) 0),(ON,.cells 1 ((CD p).map iI) 0)]) p.src.AB.length HZ o rfl ?_;clear o
  rintro a HZ H ha o
  replace o : A9 H0 H [(HZ,.cells 4 (flat ((BP (Dq p) a++BP (DS p a) 0).map TX)) 0),(ON,.cells 1 ((CD p).map iI) 0)]:=o;refine tt ?_;apply bk <;> intro h3
  ·have BH:=A6 h3
   have w1:=ws a
   have Ke : p.src.DB a:=⟨by omega,by show (a : Int).toNat<_; omega⟩
   have bm:=(sh.bm _ Ke).1;rw [AR] at bm;refine tt ?_;refine AD [2,3,4,7,8,9,13] (G:=Nat) (fun k g=>[(10,some (.buf g (BP (Dq p) a++BP (DS p a) k).length)),(14,some (.int .i64 (k : Int)))]) (fun k g H=>A9 H0 H [(g,.cells 4 (flat ((BP (Dq p) a++BP (DS p a) k).map TX)) 0),(ON,.cells 1 ((CD p).map iI) 0)]) p.AL.AF.toNat HZ o rfl ?_;clear o
   rintro y HZ H hy o
   replace o : A9 H0 H [(HZ,.cells 4 (flat ((BP (Dq p) a++BP (DS p a) y).map TX)) 0),(ON,.cells 1 ((CD p).map iI) 0)]:=o;refine tt ?_;apply bk <;> intro h4
   ·have D9:=A6 h4
    have w2:=ws y
    have L9 : p.AL.ES y:=⟨by omega,by omega⟩
    have Sb : a<p.src.AB.length:=by omega
    have bfl:=Fw sh Sb (y:=y) (by omega)
    have ebf : p.bf a y=(p.before.getD a default).getD y default:=by rw [PF.bf,AR,AR]
    rw [← V8] at o ⊢;refine tt ?_
    have rr:=GH sh Sb
    have tol0:=sh.sI.1.L5
    obtain ⟨u0,eu0⟩ : ∃ u : Nat,p.src.AB.getD a default=(u : Int):=⟨_,(Int.toNat_of_nonneg rr.1.1).symm⟩
    obtain ⟨v0,ev0⟩ : ∃ v : Nat,p.src.to.getD a default=(v : Int):=⟨_,(Int.toNat_of_nonneg rr.2.1).symm⟩;rw [eu0,ev0];refine ⟨by omega,_,(DL B sh (x:=v0) (y:=y) (.inl (by omega)) (by omega)).run,by omega,_,(DL B sh (x:=u0) (y:=y) (.inl (by omega)) (by omega)).run,tt ?_⟩;refine AD [2,3,4,7,8,9,13,14,15,16] (G:=Nat) (fun k g=>[(10,some (.buf g (bK p a y k).length)),(17,some (.int .i64 (k : Int)))]) (fun k g H=>A9 H0 H [(g,.cells 4 (flat ((bK p a y k).map TX)) 0),(ON,.cells 1 ((CD p).map iI) 0)]) (p.sz (p.src.to.getD a default) y).toNat HZ o rfl ?_;clear o
    rintro e HZ H he o
    replace o : A9 H0 H [(HZ,.cells 4 (flat ((bK p a y e).map TX)) 0),(ON,.cells 1 ((CD p).map iI) 0)]:=o
    have rl0:=(sh.rl (v0 : Int) ⟨by omega,by omega⟩).1;rw [AR] at rl0
    have es0 : p.sz v0 y=(p.AK.getD v0 default).getD y default:=by rw [PF.sz,AR,AR]
    have es1 : p.sz (p.src.to.getD a default) y=p.sz v0 y:=by rw [ev0]
    refine tw ev0 ?_;refine ⟨by omega,by omega,by omega, ?_⟩;rw [← es0];refine tt ?_;apply bk <;> intro h5
    ·have JB : e<(p.sz (p.src.to.getD a default) y).toNat:=by have:=A6 h5; omega
     have eS:=UM p (a:=a) (y:=y) JB
     obtain ⟨u,v,w,eu,ev,hu,hv,Xu,hw,Dp,el⟩:=Ma sh Sb (y:=y) (by omega) JB
     have qv:=(sh.rl (v : Int) ⟨by omega,by omega⟩).2 (y : Int) L9
     have qu:=(sh.rl (u : Int) ⟨by omega,by omega⟩).2 (y : Int) L9
     have w3:=ws e
     have A1:=Dz (p:=p) hu (y:=y) (by omega)
     have A2:=Dz (p:=p) hv (y:=y) (by omega)
     have l1:=HL (p:=p)
     have l2:=Es (p:=p) hu
     have l3:=Es (p:=p) hv
     have at1:=Cb sh hu (y:=y) (by omega)
     have at2:=Cb sh hv (y:=y) (by omega)
     have L5:=sh.sI.1.L5
     have S1 : IntKind.i64.wrap ((BX p v y : Int)+(e : Int))=((BX p v y+e : Nat) : Int):=by rw [wrap_i64 (by omega) (by omega)]; omega
     have S2 : IntKind.i64.wrap ((BX p u y : Int)+(w : Int))=((BX p u y+w : Nat) : Int):=by rw [wrap_i64 (by omega) (by omega)]; omega
     have yf : (p.bf a y).getD e default=(w : Int):=by rw [← hw,AR]
     have lb:=o4 p Sb (y:=y) (e:=e) (by omega)
     have ls:=Eb p sh hn;rw [ev] at bfl;try simp only [go_sem,↓reduceIte,reduceEqDiff,reduceAdd,reduceMul,reduceLeDiff,reduceLT,eu,ev,A1,A2,S1,S2,yf]
     obtain rfl : u=u0:=by omega
     obtain rfl : v=v0:=by omega
     have rlu:=(sh.rl (u : Int) ⟨by omega,by omega⟩).1;rw [AR] at rlu
     obtain ⟨m,hm⟩ : ∃ m : Nat,p.sz u y=(m : Int):=⟨_,(Int.toNat_of_nonneg qu.1).symm⟩
     have yU : (p.AK.getD u default).getD y default=(m : Int):=by rw [← hm,PF.sz,AR,AR]
     rw [yU,← ebf,yf];refine ⟨by omega,by omega,by omega,by omega,by omega,by omega,by omega,by omega,_,(Sp B m (by omega)).run,rfl,⟨rfl,(by intro c hc; change c∈[_,_,_,_] at hc; simp only [List.mem_cons,List.not_mem_nil,or_false] at hc; rcases hc with rfl | rfl | rfl | rfl <;> rfl)⟩, ?_⟩
     refine GS (f:=TX) (rP p a y e) o (by rw [S1,S2,el,hm]; rfl) rfl (by simp only [AN]; omega) fun HZ H o=>?_;rw [← eS] at o ⊢;refine tw w3 ?_;exact A4 HZ (by omega) o rfl
    ·have lq : ¬ e<(p.sz (p.src.to.getD a default) y).toNat:=by have:=A7 h5; omega
     obtain rfl : e=(p.sz (p.src.to.getD a default) y).toNat:=by omega
     rw [Vz] at o ⊢;refine tw w2 ?_;exact A4 HZ (by omega) o rfl
   ·have vD:=A7 h4
    obtain rfl : y=p.AL.AF.toNat:=by omega
    rw [cR] at o ⊢;refine tw w1 ?_;exact A4 HZ (by omega) o rfl
  ·have MP:=A7 h3
   obtain rfl : a=p.src.AB.length:=by omega
   have e1 : BP (Dq p) p.src.AB.length++BP (DS p p.src.AB.length) 0=Md p:=by rw [EW,List.append_nil,Md]
   rw [e1,← VU] at o ⊢;clear e1 e0
   have hl:=sh.hl;refine tt ?_;refine AD [2,3,4,7,8,9] (G:=Nat) (fun k g=>[(10,some (.buf g (hC p k 0).length)),(18,some (.int .i64 (k : Int)))]) (fun k g H=>A9 H0 H [(g,.cells 4 (flat ((hC p k 0).map TX)) 0),(ON,.cells 1 ((CD p).map iI) 0)]) p.AL.AB.length HZ o rfl ?_;clear o
   rintro b HZ H hb o
   replace o : A9 H0 H [(HZ,.cells 4 (flat ((hC p b 0).map TX)) 0),(ON,.cells 1 ((CD p).map iI) 0)]:=o;refine tt ?_;apply bk <;> intro h3
   ·have BH:=A6 h3
    have w1:=ws b
    have OM : p.AL.DB b:=⟨by omega,by show (b : Int).toNat<_; omega⟩
    have hm:=(sh.hm _ OM).1;rw [AR] at hm;refine tt ?_;refine AD [2,3,4,7,8,9,18] (G:=Nat) (fun k g=>[(10,some (.buf g (hC p b k).length)),(19,some (.int .i64 (k : Int)))]) (fun k g H=>A9 H0 H [(g,.cells 4 (flat ((hC p b k).map TX)) 0),(ON,.cells 1 ((CD p).map iI) 0)]) p.src.AF.toNat HZ o rfl ?_;clear o
    rintro x HZ H hx o
    replace o : A9 H0 H [(HZ,.cells 4 (flat ((hC p b x).map TX)) 0),(ON,.cells 1 ((CD p).map iI) 0)]:=o;refine tt ?_;apply bk <;> intro h4
    ·have D9:=A6 h4
     have w2:=ws x
     have W8 : p.src.ES x:=⟨by omega,by omega⟩
     have Sb : b<p.AL.AB.length:=by omega
     have bhl:=Fp sh Sb (x:=x) (by omega)
     have ebh : p.bh b x=(p.behind.getD b default).getD x default:=by rw [PF.bh,AR,AR]
     rw [← UN] at o ⊢;refine tt ?_
     have rr:=Fc sh Sb
     have tol0:=sh.tI.1.L5
     obtain ⟨u0,eu0⟩ : ∃ u : Nat,p.AL.AB.getD b default=(u : Int):=⟨_,(Int.toNat_of_nonneg rr.1.1).symm⟩
     obtain ⟨v0,ev0⟩ : ∃ v : Nat,p.AL.to.getD b default=(v : Int):=⟨_,(Int.toNat_of_nonneg rr.2.1).symm⟩;rw [eu0,ev0];refine ⟨by omega,_,(DL B sh (x:=x) (y:=u0) (.inl (by omega)) (by omega)).run,by omega,_,(DL B sh (x:=x) (y:=v0) (.inl (by omega)) (by omega)).run,tt ?_⟩;refine AD [2,3,4,7,8,9,18,19,20,21] (G:=Nat) (fun k g=>[(10,some (.buf g (hK p b x k).length)),(22,some (.int .i64 (k : Int)))]) (fun k g H=>A9 H0 H [(g,.cells 4 (flat ((hK p b x k).map TX)) 0),(ON,.cells 1 ((CD p).map iI) 0)]) (p.sz x (p.AL.AB.getD b default)).toNat HZ o rfl ?_;clear o
     rintro e HZ H he o
     replace o : A9 H0 H [(HZ,.cells 4 (flat ((hK p b x e).map TX)) 0),(ON,.cells 1 ((CD p).map iI) 0)]:=o
     have rl0:=(sh.rl (x : Int) W8).1;rw [AR] at rl0
     have es0 : p.sz x u0=(p.AK.getD x default).getD u0 default:=by rw [PF.sz,AR,AR]
     have es1 : p.sz x (p.AL.AB.getD b default)=p.sz x u0:=by rw [eu0]
     refine tw eu0 ?_;refine ⟨by omega,by omega,by omega, ?_⟩;rw [← es0];refine tt ?_;apply bk <;> intro h5
     ·have JB : e<(p.sz x (p.AL.AB.getD b default)).toNat:=by have:=A6 h5; omega
      have eS:=Wa p (b:=b) (x:=x) JB
      obtain ⟨u,v,w,eu,ev,hu,hv,Xu,hw,Dp,el⟩:=Mv sh Sb (x:=x) (by omega) JB
      have qv:=(sh.rl (x : Int) W8).2 (v : Int) ⟨by omega,by omega⟩
      have qu:=(sh.rl (x : Int) W8).2 (u : Int) ⟨by omega,by omega⟩
      have w3:=ws e
      have A1:=Dz (p:=p) (x:=x) (by omega) hu
      have A2:=Dz (p:=p) (x:=x) (by omega) hv
      have l1:=HL (p:=p)
      have l2:=Es (p:=p) (x:=x) (by omega)
      have at1:=Cb sh (x:=x) (y:=u) (by omega) (by omega)
      have at2:=Cb sh (x:=x) (y:=v) (by omega) (by omega)
      have L5:=sh.tI.1.L5
      have S1 : IntKind.i64.wrap ((BX p x u : Int)+(e : Int))=((BX p x u+e : Nat) : Int):=by rw [wrap_i64 (by omega) (by omega)]; omega
      have S2 : IntKind.i64.wrap ((BX p x v : Int)+(w : Int))=((BX p x v+w : Nat) : Int):=by rw [wrap_i64 (by omega) (by omega)]; omega
      have yf : (p.bh b x).getD e default=(w : Int):=by rw [← hw,AR]
      have lb:=oU p Sb (x:=x) (e:=e) (by omega)
      have ls:=Eb p sh hn;rw [eu] at bhl;try simp only [go_sem,↓reduceIte,reduceEqDiff,reduceAdd,reduceMul,reduceLeDiff,reduceLT,eu,ev,A1,A2,S1,S2,yf]
      obtain rfl : u=u0:=by omega
      obtain rfl : v=v0:=by omega
      obtain ⟨m,hm⟩ : ∃ m : Nat,p.sz x v=(m : Int):=⟨_,(Int.toNat_of_nonneg qv.1).symm⟩
      have yU : (p.AK.getD x default).getD v default=(m : Int):=by rw [← hm,PF.sz,AR,AR]
      rw [yU,← ebh,yf];refine ⟨by omega,by omega,by omega,by omega,by omega,by omega,by omega,by omega,_,(Sp B m (by omega)).run,rfl,⟨rfl,(by intro c hc; change c∈[_,_,_,_] at hc; simp only [List.mem_cons,List.not_mem_nil,or_false] at hc; rcases hc with rfl | rfl | rfl | rfl <;> rfl)⟩, ?_⟩
      refine GS (f:=TX) (rM p b x e) o (by rw [S1,S2,el,hm]; rfl) rfl (by simp only [AN]; omega) fun HZ H o=>?_;rw [← eS] at o ⊢;refine tw w3 ?_;exact A4 HZ (by omega) o rfl
     ·have lq : ¬ e<(p.sz x (p.AL.AB.getD b default)).toNat:=by have:=A7 h5; omega
      obtain rfl : e=(p.sz x (p.AL.AB.getD b default)).toNat:=by omega
      rw [Vn] at o ⊢;refine tw w2 ?_;exact A4 HZ (by omega) o rfl
    ·have vD:=A7 h4
     obtain rfl : x=p.src.AF.toNat:=by omega
     rw [Zv] at o ⊢;refine tw w1 ?_;exact A4 HZ (by omega) o rfl
   ·have MP:=A7 h3
    obtain rfl : b=p.AL.AB.length:=by omega
    rw [V5] at o ⊢;refine tt ?_;refine Am o.swap rfl fun H o=>tt ?_;refine Qr o rfl fun H o=>tt ?_
    have ls:=Eb p sh hn;refine (S7 B (CD p) (FC p) most Zx GY (Ps sh).ok (by rw [DF]; omega) (by omega)).go fun _=>tt ?_;exact A5 rfl o.sub
end Go.Proofs.Shf
namespace Go.Shf
open Go.AW
def LP (p : PF) (t : List Int) (x : Nat) : List (List Int):=(List.range p.AL.AF.toNat).map fun y=>GN p t x y
theorem IY {p : PF} {t : List Int} {x : Nat} (hx : x<p.src.AF.toNat) : (F3 p t).getD x default=LP p t x:=by rw [F3,Ab _ _ hx,LP]
theorem NN (p : PF) (t : List Int) : (F3 p t).length=p.src.AF.toNat:=by simp [F3]
theorem GV (p : PF) (t : List Int) (x : Nat) : (LP p t x).length=p.AL.AF.toNat:=by simp [LP]
theorem HC {p : PF} {t : List Int} {x y : Nat} (hy : y<p.AL.AF.toNat) : (LP p t x).getD y default=GN p t x y:=by rw [LP,Ab _ _ hy]
end Go.Shf
namespace Go.Proofs.Shf
open Go.AW Go.Proofs Go.Shf
theorem Rl (B : Nat) {p : PF} (sh : p.Shape) {t : List Int} (ht : t.length=(Cs p).length) : PB B 134 [.agg p.cells,iL t] (BE (F3 p t)):=by
 refine ⟨fun H0=>yL.go fun _=>?_⟩
 have so:=sh.sI.1.o
 have to:=sh.tI.1.o
 have sl:=sh.sl
 have cl:=NN p t
 have o : A9 H0 H0 []:=.nil _;refine tt ?_;refine Az B5 o fun Bv H o=>tt ?_;refine AD [1,2] (G:=Nat × List (List (List Int))) (fun k g=>[(5,some (.buf g.1 g.2.length)),(6,some (.int .i64 (k : Int)))]) (fun k g H=>g.2=(F3 p t).take k∧A9 H0 H [(g.1,.cells 1 (g.2.map B5) 0)]) p.src.AF.toNat (Bv,[]) ⟨by simp,o⟩ rfl ?_;clear o
 rintro x ⟨Bv,out⟩ H hx ⟨B2,o⟩;dsimp only at B2 o
 have KU : out.length=x:=by rw [B2,List.length_take]; omega
 refine tt ?_;apply bk <;> intro h1
 ·have AU:=A6 h1
  have w1:=ws x
  have W8 : p.src.ES x:=⟨by omega,by omega⟩
  have rl:=(sh.rl _ W8).1;rw [AR] at rl
  have rc:=GV p t x;refine tt ?_;refine Az iL o fun CT H o=>tt ?_;refine AD [1,2,5,6] (G:=Nat × List (List Int)) (fun k g=>[(7,some (.buf g.1 g.2.length)),(8,some (.int .i64 (k : Int)))]) (fun k g H=>g.2=(LP p t x).take k∧A9 H0 H [(g.1,.cells 1 (g.2.map iL) 0),(Bv,.cells 1 (out.map B5) 0)]) p.AL.AF.toNat (CT,[]) ⟨by simp,o⟩ rfl ?_;clear o
  rintro y ⟨CT,row⟩ H hy ⟨Bf,o⟩;dsimp only at Bf o
  have WA : row.length=y:=by rw [Bf,List.length_take]; omega
  refine tt ?_;apply bk <;> intro h2
  ·have Aq:=A6 h2
   have w2:=ws y
   have L9 : p.AL.ES y:=⟨by omega,by omega⟩
   have q:=(sh.rl _ W8).2 _ L9
   have q2 : p.sz x y=(p.AK.getD x default).getD y default:=by rw [PF.sz,AR,AR]
   have le:=Cb sh (x:=x) (y:=y) (by omega) (by omega)
   have en:=U7 sh (x:=x) (y:=y) (by omega) (by omega)
   have ws : IntKind.i64.wrap ((BX p x y : Int)+(p.AK.getD x default).getD y default)=((BX p x y+(p.sz x y).toNat : Nat) : Int):=by rw [← q2,wrap_i64 (by omega) (by omega)]; omega
   refine tt ?_;refine (DL B sh (x:=x) (y:=y) (.inl (by omega)) (by omega)).go fun _=>?_;refine tw ws ?_;refine ⟨by omega,by omega,⟨by omega,by omega⟩, ?_⟩;refine (CX B _).go fun _=>?_
   have ep : (t.take (BX p x y+(p.sz x y).toNat)).drop (BX p x y)=GN p t x y:=by rw [GN,List.drop_take]; congr 1; omega
   refine tt ?_;refine Ae (f:=iL) (GN p t x y) o (by rw [← ep]) rfl (by rw [WA]; simp only [AN]; omega) fun CT H o=>?_
   have es:=(C8 (LP p t x) (k:=y) (by omega)).symm;rw [HC (by omega)] at es;refine tw w2 ?_;exact A4 (CT,_) (by omega) ⟨by rw [Bf]; exact es,o⟩ rfl
  ·have xB:=A7 h2
   obtain rfl : y=p.AL.AF.toNat:=by omega
   rw [List.take_of_length_le (by omega)] at Bf;refine tt ?_;refine Am o rfl fun H o=>tt ?_;refine Ae (f:=B5) row o rfl rfl (by rw [KU]; simp only [AN]; omega) fun Bv H o=>?_
   have es:=(C8 (F3 p t) (k:=x) (by omega)).symm;rw [IY (by omega),← Bf] at es;refine tw w1 ?_;exact A4 (Bv,_) (by omega) ⟨by rw [B2]; exact es,o⟩ rfl
 ·have Sd:=A7 h1
  obtain rfl : x=p.src.AF.toNat:=by omega
  refine tt ?_;refine Am o rfl fun H o=>tt ?_;exact A5 (by rw [B2,List.take_of_length_le (by omega)]) o.sub
end Go.Proofs.Shf
namespace Go.Proofs.Shf
open Go.AW Go.Proofs Go.Shf
theorem RP (B : Nat) {p : PF} (hI : p.Is) (hn : Ap p≤40) : PB B 38 [.agg p.cells,.agg p.cells] (if (MB p).length≤200 then .CQ [mL BE ((MB p).map (F3 p)),iI 0] else .CQ [mL BE [],iI 3]):=by
 refine ⟨fun H0=>c38.go fun _=>?_⟩
 have sh:=hI.SZ
 have so:=sh.sI.1.o
 have to:=sh.tI.1.o
 have s6 : Ap p=p.src.AB.length+p.AL.AB.length+(Cs p).length:=rfl
 have o : A9 H0 H0 []:=.nil _;refine tt ?_;refine (XK B hI).go fun _=>?_;try simp only [go_sem,↓reduceIte,reduceEqDiff,reduceAdd,reduceMul,reduceLeDiff,reduceLT,decide_true,Bool.not_true]
 have qo : PB B 132 [.agg p.cells,iI p.src.AF,iI 0] (iI (Cs p).length):=by
  have:=DL B sh (x:=p.src.AF.toNat) (y:=0) (.inr ⟨rfl,rfl⟩) (by omega);rw [Qo,Int.toNat_of_nonneg so.1] at this;exact this
 refine (qo).go fun _=>?_
 have d1 : decide (64<(Cs p).length)=false:=decide_eq_false (by omega)
 have d2 : decide (64<((Cs p).length : Int))=false:=decide_eq_false (by omega);refine t2 d1 d2 ?_
 refine (TB B sh hn 201 (by omega) (by omega)).go fun _=>tt ?_
 by_cases hm : (MB p).length≤200
 rotate_left
 ·have d3 : decide (200<((((MB p).take 201).length : Nat) : Int))=true:=decide_eq_true (by rw [List.length_take]; omega);refine tw d3 ?_;exact A5 (by rw [if_neg hm]; rfl) (.refl _)
 have d3 : decide (200<((((MB p).take 201).length : Nat) : Int))=false:=decide_eq_false (by rw [List.length_take]; omega);rw [if_pos hm]
 have et : (MB p).take 201=MB p:=List.take_of_length_le (by omega);refine tw d3 ?_;rw [et]
 obtain ⟨L,hL⟩ : ∃ L,L=MB p:=⟨_,rfl⟩
 have hlen : ∀ t,t∈L→t.length=(Cs p).length:=fun t ht=>by rw [hL] at ht; rw [((ML sh).mp ht).len,DF]
 rw [← hL] at hm ⊢;refine Az BE o fun Cm H o=>tt ?_;refine AD [2,7] (G:=Nat × List (List (List (List Int)))) (fun k g=>[(8,some (.buf g.1 g.2.length)),(9,some (.int .i64 (k : Int)))]) (fun k g H=>g.2=(L.take k).map (F3 p)∧A9 H0 H [(g.1,.cells 1 (g.2.map BE) 0)]) L.length (Cm,[]) ⟨by simp,o⟩ rfl ?_;clear o
 rintro k ⟨Cm,out⟩ H hk ⟨B2,o⟩;dsimp only at B2 o
 have KU : out.length=k:=by rw [B2,List.length_map,List.length_take]; omega
 refine tt ?_;apply bk <;> intro h1
 ·have AU:=A6 h1
  have w1:=ws k;refine tt ?_;refine ⟨AU,_,(Rl B sh (hlen _ (AE.mpr ⟨k,AU,rfl⟩))).run,tt ?_⟩;refine Ae (f:=BE) (F3 p (L.getD k default)) o rfl rfl (by rw [KU]; simp only [AN]; omega) fun Cm H o=>?_;refine tw w1 ?_;exact A4 (Cm,_) (by omega) ⟨by rw [B2,J3 L _ AU],o⟩ rfl
 ·have Sd:=A7 h1
  obtain rfl : k=L.length:=by omega
  refine tt ?_;refine Am o rfl fun H o=>tt ?_;exact A5 (by rw [B2,List.take_length]) o.sub
theorem Y8 (B : Nat) {p : PF} (sh : p.Shape) {t : List Int} (ht : t.length=(Cs p).length) {x y : Nat} (hx : x<p.src.AF.toNat) (hy : y<p.AL.AF.toNat) :
  PB B 130 [iI x,iI y,.ptr [iL t],.ptr [B5 p.RB],.ptr p.cells] (iL (GN p t x y)):=by
 refine ⟨fun H0=>po.go fun _=>?_⟩
 have so:=sh.sI.1.o
 have to:=sh.tI.1.o
 have sl:=sh.sl
 have rl:=(sh.rl (x : Int) ⟨by omega,by omega⟩).1;rw [AR] at rl
 have q:=(sh.rl (x : Int) ⟨by omega,by omega⟩).2 (y : Int) ⟨by omega,by omega⟩
 have q2 : p.sz x y=(p.AK.getD x default).getD y default:=by rw [PF.sz,AR,AR]
 have le:=Cb sh (x:=x) (y:=y) hx (by omega)
 have en:=U7 sh (x:=x) (y:=y) hx hy
 have A1:=Dz (p:=p) hx hy
 have l1:=HL (p:=p)
 have l2:=Es (p:=p) hx
 have ws : IntKind.i64.wrap ((BX p x y : Int)+(p.AK.getD x default).getD y default)=((BX p x y+(p.sz x y).toNat : Nat) : Int):=by rw [← q2,wrap_i64 (by omega) (by omega)]; omega
 have ep : (t.take (BX p x y+(p.sz x y).toNat)).drop (BX p x y)=GN p t x y:=by rw [GN,List.drop_take]; congr 1; omega
 try simp only [go_sem,↓reduceIte,reduceEqDiff,reduceAdd,reduceMul,reduceLeDiff,reduceLT,A1,ws]
 refine ⟨by omega,by omega,by omega,by omega,by omega,by omega,⟨by omega,by omega⟩, ?_⟩;refine ⟨_,(GQ B _).run, ?_⟩;rw [ep];refine tt ?_;exact A5 rfl (.refl _)
theorem UB (B : Nat) {p : PF} (sh : p.Shape) {t : List Int} {n : Nat} {env : List AV} (hc : ∀ x y : Nat,x<p.src.AF.toNat→y<p.AL.AF.toNat→PB B n (iI x::iI y::env) (iL (GN p t x y))) :
  PB B 129 [.ptr p.cells,.fn (.func n) env] (BE (F3 p t)):=by
 refine ⟨fun H0=>yW.go fun _=>?_⟩
 have so:=sh.sI.1.o
 have to:=sh.tI.1.o
 have cl:=NN p t
 have o : A9 H0 H0 []:=.nil _;refine tt ?_;refine Az BE o fun Bv H o=>?_
 replace o : A9 H0 H [(Bv,.cells 1 (([] : List (List (List Int))).map B5) 0)]:=o;refine tt ?_;refine AD [0,1,14] (G:=Nat × List (List (List Int))) (fun k g=>[(5,some (.buf g.1 g.2.length)),(15,some (.int .i64 (k : Int)))]) (fun k g H=>g.2=(F3 p t).take k∧A9 H0 H [(g.1,.cells 1 (g.2.map B5) 0)]) p.src.AF.toNat (Bv,[]) ⟨by simp,o⟩ rfl ?_;clear o
 rintro x ⟨Bv,out⟩ H hx ⟨B2,o⟩;dsimp only at B2 o
 have KU : out.length=x:=by rw [B2,List.length_take]; omega
 refine tt ?_;apply bk <;> intro h1
 ·have AU:=A6 h1
  have w1:=ws x
  have rc:=GV p t x;refine tt ?_;refine Az iL o fun CT H o=>tt ?_;refine AD [0,1,5,6,14,15,23] (G:=Nat × List (List Int)) (fun k g=>[(7,some (.buf g.1 g.2.length)),(24,some (.int .i64 (k : Int)))]) (fun k g H=>g.2=(LP p t x).take k∧A9 H0 H [(g.1,.cells 1 (g.2.map iL) 0),(Bv,.cells 1 (out.map B5) 0)]) p.AL.AF.toNat (CT,[]) ⟨by simp,o⟩ rfl ?_;clear o
  rintro y ⟨CT,row⟩ H hy ⟨Bf,o⟩;dsimp only at Bf o
  have WA : row.length=y:=by rw [Bf,List.length_take]; omega
  refine tt ?_;apply bk <;> intro h2
  ·have Aq:=A6 h2
   have w2:=ws y;refine tt ?_;refine (hc x y (by omega) (by omega)).go fun _=>tt ?_;refine Ae (f:=iL) (GN p t x y) o rfl rfl (by rw [WA]; simp only [AN]; omega) fun CT H o=>?_
   have es:=(C8 (LP p t x) (k:=y) (by omega)).symm;rw [HC (by omega)] at es;refine tw w2 ?_;exact A4 (CT,_) (by omega) ⟨by rw [Bf]; exact es,o⟩ rfl
  ·have xB:=A7 h2
   obtain rfl : y=p.AL.AF.toNat:=by omega
   rw [List.take_of_length_le (by omega)] at Bf;refine tt ?_;refine Am o rfl fun H o=>tt ?_;refine Ae (f:=B5) row o rfl rfl (by rw [KU]; simp only [AN]; omega) fun Bv H o=>?_
   have es:=(C8 (F3 p t) (k:=x) (by omega)).symm;rw [IY (by omega),← Bf] at es;refine tw w1 ?_;exact A4 (Bv,_) (by omega) ⟨by rw [B2]; exact es,o⟩ rfl
 ·have Sd:=A7 h1
  obtain rfl : x=p.src.AF.toNat:=by omega
  refine tt ?_;refine Am o rfl fun H o=>tt ?_;exact A5 (by rw [B2,List.take_of_length_le (by omega)]) o.sub
theorem gW (B : Nat) {p : PF} (hI : p.Is) (hn : Ap p≤40) : PB B 37 [.agg p.cells,.agg p.cells] (if (MB p).length≤200 then .CQ [mL BE ((MB p).map (F3 p)),iI 0] else .CQ [mL BE [],iI 3]):=by
 refine ⟨fun H0=>su.go fun _=>?_⟩
 have sh:=hI.SZ
 have so:=sh.sI.1.o
 have to:=sh.tI.1.o
 have s6 : Ap p=p.src.AB.length+p.AL.AB.length+(Cs p).length:=rfl
 have o : A9 H0 H0 []:=.nil _;refine tt ?_;refine (Vb B hI).go fun _=>?_;try simp only [go_sem,↓reduceIte,reduceEqDiff,reduceAdd,reduceMul,reduceLeDiff,reduceLT,decide_true,Bool.not_true]
 refine (Lb B p sh).go fun _=>tt ?_;refine Ai o fun CT H o=>tt ?_;refine sw o fun H o=>tt ?_;refine Ca 7 o rfl fun H o=>AX ?_
 have d1 : decide (64<(Cs p).length)=false:=decide_eq_false (by omega)
 have d2 : decide (64<((Cs p).length : Int))=false:=decide_eq_false (by omega);refine t2 d1 d2 ?_
 refine (R5 B sh hn).go fun _=>tt ?_
 have ls:=Eb p sh hn
 have lid:=Ps sh;refine (ZE B (CD p) (FC p) lid (by rw [DF]; omega) (fun i hi=>by have:=lid.ok.sz _ (AE.mpr ⟨i,hi,rfl⟩); omega) (by omega) 200 (by omega)).go fun _=>?_;rw [show OB (CD p) (FC p)=MB p from rfl];refine tt ?_
 by_cases hm : (MB p).length≤200
 rotate_left
 ·have d3 : decide ((MB p).length≤200)=false:=decide_eq_false hm;refine tw d3 ?_;exact A5 (by rw [if_neg hm]; rfl) o.sub
 have d3 : decide ((MB p).length≤200)=true:=decide_eq_true hm;rw [if_pos hm]
 have et : (MB p).take (200+1)=MB p:=List.take_of_length_le (by omega);refine tw d3 ?_;rw [et]
 obtain ⟨L,hL⟩ : ∃ L,L=MB p:=⟨_,rfl⟩
 have hlen : ∀ t,t∈L→t.length=(Cs p).length:=fun t ht=>by rw [hL] at ht; rw [((ML sh).mp ht).len,DF]
 rw [← hL] at hm ⊢;refine Az BE o fun UH H o=>tt ?_;refine AD [2,7,39,40] (G:=Nat × List (List (List (List Int)))) (fun k g=>[(13,some (.buf g.1 g.2.length)),(41,some (.int .i64 (k : Int)))]) (fun k g H=>g.2=(L.take k).map (F3 p)∧A9 H0 H [(g.1,.cells 1 (g.2.map BE) 0)]) L.length (UH,[]) ⟨by simp,o⟩ rfl ?_;clear o
 rintro k ⟨UH,out⟩ H hk ⟨B2,o⟩;dsimp only at B2 o
 have KU : out.length=k:=by rw [B2,List.length_map,List.length_take]; omega
 refine tt ?_;apply bk <;> intro h1
 ·have AU:=A6 h1
  have w1:=ws k;refine tt ?_;refine ⟨AU, ?_⟩;refine Ai o fun id15 H o=>tt ?_;refine sw o fun H o=>tt ?_;refine Ca 15 o rfl fun H o=>AX ?_
  have ht:=hlen _ (AE.mpr ⟨k,AU,rfl⟩);refine tt ?_;refine (UB B (t:=L.getD k default) (n:=130) (env:=[.ptr [iL (L.getD k default)],.ptr [B5 p.RB],.ptr p.cells]) sh (fun x y hx hy=>Y8 B sh ht hx hy)).go fun _=>tt ?_;refine Ae (f:=BE) (F3 p (L.getD k default)) o rfl rfl (by rw [KU]; simp only [AN]; omega) fun UH H o=>?_;refine tw w1 ?_;exact A4 (UH,_) (by omega) ⟨by rw [B2,J3 L _ AU],o⟩ rfl
 ·have Sd:=A7 h1
  obtain rfl : k=L.length:=by omega
  refine tt ?_;refine Am o rfl fun H o=>tt ?_;exact A5 (by rw [B2,List.take_length]) o.sub
theorem Hb {p : PF} (sh : p.Shape) {t : List Int} (s : wR (CD p) (FC p) t) {x y : Nat} (hx : x<p.src.AF.toNat) (hy : y<p.AL.AF.toNat) : ((GN p t x y).length : Int)=p.sz x y∧∀ z,z∈GN p t x y→0≤z∧z<p.sz x y:=by
 have ht : t.length=(Cs p).length:=by rw [s.len,DF]
 have so:=sh.sI.1.o
 have to:=sh.tI.1.o
 have q:=(sh.rl (x : Int) ⟨by omega,by omega⟩).2 (y : Int) ⟨by omega,by omega⟩
 have l:=Q2 sh ht hx hy;refine ⟨by omega,fun z hz=>?_⟩
 obtain ⟨e,he,rfl⟩:=AE.mp hz;exact Q4 sh s hx hy (by omega)
theorem X0 (B : Nat) {p : PF} (sh : p.Shape) {t : List Int} (s : wR (CD p) (FC p) t) : PB B 135 [.ptr p.cells,.ptr p.cells,BE (F3 p t)] (.bool true):=by
 refine ⟨fun H0=>oj.go fun _=>?_⟩
 have so:=sh.sI.1.o
 have to:=sh.tI.1.o
 have sl:=sh.sl
 have cl:=NN p t
 have sm:=sh.sI.1.m
 have tm:=sh.tI.1.m
 have d0 : decide (((F3 p t).length : Int)=p.src.AF)=true:=decide_eq_true (by omega);try simp only [go_sem,↓reduceIte,reduceEqDiff,reduceAdd,reduceMul,reduceLeDiff,reduceLT,d0,Bool.not_true]
 refine AD [0,1,2,7,8,30,31] (G:=Unit) (fun k _=>[(32,some (.int .i64 (k : Int)))]) (fun k _ H=>H=H0) (F3 p t).length () rfl rfl ?_
 rintro x _ H hx rfl;refine tt ?_;apply bk <;> intro h1
 ·have AU:=A6 h1
  have w1:=ws x
  have rc:=GV p t x
  have ce:=IY (p:=p) (t:=t) (x:=x) (by omega)
  have W8 : p.src.ES x:=⟨by omega,by omega⟩
  have rl:=(sh.rl _ W8).1;rw [AR] at rl
  have d1 : decide (((LP p t x).length : Int)=p.AL.AF)=true:=decide_eq_true (by omega);refine tt ?_;refine ⟨AU, ?_⟩;rw [ce];try simp only [go_sem,↓reduceIte,reduceEqDiff,reduceAdd,reduceMul,reduceLeDiff,reduceLT,d1,Bool.not_true]
  refine AD [0,1,2,7,8,9,30,31,32,44,45] (G:=Unit) (fun k _=>[(46,some (.int .i64 (k : Int)))]) (fun k _ H'=>H'=H) (LP p t x).length () rfl rfl ?_
  rintro y _ H' hy rfl;refine tt ?_;apply bk <;> intro h2
  ·have Aq:=A6 h2
   have w2:=ws y
   have q2 : p.sz x y=(p.AK.getD x default).getD y default:=by rw [PF.sz,AR,AR]
   have q:=(sh.rl _ W8).2 (y : Int) ⟨by omega,by omega⟩
   have m:=Hb sh s (x:=x) (y:=y) (by omega) (by omega)
   have cr:=HC (p:=p) (t:=t) (x:=x) (y:=y) (by omega);refine tt ?_;refine ⟨Aq,by omega,by omega,by omega,by omega, ?_⟩;rw [cr,← q2];refine ⟨_,(MJ B (GN p t x y) (p.sz x y) (p.sz x y) (by omega)).run, ?_⟩;rw [Av m];refine tw w2 ?_;exact A4 () Aq rfl rfl
  ·have xB:=A7 h2
   obtain rfl : y=(LP p t x).length:=by omega
   refine tw w1 ?_;exact A4 () AU rfl rfl
 ·have Sd:=A7 h1;refine tt ?_
  have bl:=sh.bl
  have hl:=sh.hl;refine AD [0,1,2,7,8,80] (G:=Unit) (fun k _=>[(81,some (.int .i64 (k : Int)))]) (fun k _ H'=>H'=H) p.src.AB.length () rfl rfl ?_
  rintro a _ H' ha rfl;refine tt ?_;apply bk <;> intro h3
  ·have BH:=A6 h3
   have w1:=ws a;refine tt ?_;refine AD [0,1,2,7,8,13,80,81,87] (G:=Unit) (fun k _=>[(88,some (.int .i64 (k : Int)))]) (fun k _ H=>H=H') p.AL.AF.toNat () rfl rfl ?_
   rintro y _ H hy rfl;refine tt ?_;apply bk <;> intro h4
   ·have D9:=A6 h4
    have w2:=ws y
    have r:=GH sh BH
    obtain ⟨u,eu⟩ : ∃ u : Nat,p.src.AB.getD a default=(u : Int):=⟨_,(Int.toNat_of_nonneg r.1.1).symm⟩
    obtain ⟨v,ev⟩ : ∃ v : Nat,p.src.to.getD a default=(v : Int):=⟨_,(Int.toNat_of_nonneg r.2.1).symm⟩
    have bm:=(sh.bm (a : Int) ⟨by omega,by simpa using BH⟩).1;rw [AR] at bm
    have ebf : p.bf a y=(p.before.getD a default).getD y default:=by rw [PF.bf,AR,AR]
    have nat:=fN sh s BH (y:=y) (by omega) eu ev
    have mu:=Hb sh s (x:=u) (y:=y) (by omega) (by omega)
    have mv:=Hb sh s (x:=v) (y:=y) (by omega) (by omega)
    have bfl:=Fw sh BH (y:=y) (by omega);rw [ev] at bfl
    have L5:=sh.sI.1.L5
    have cu:=IY (p:=p) (t:=t) (x:=u) (by omega)
    have cv:=IY (p:=p) (t:=t) (x:=v) (by omega)
    have ru:=GV p t u
    have rv:=GV p t v
    have cru:=HC (p:=p) (t:=t) (x:=u) (y:=y) (by omega)
    have crv:=HC (p:=p) (t:=t) (x:=v) (y:=y) (by omega)
    have je:=(sh.bm (a : Int) ⟨by omega,by simpa using BH⟩).2 (y : Int) ⟨by omega,by omega⟩;rw [AR,AR,eu,ev] at je
    have t1 : HG Tryz.prog B 60 [iL (p.bf a y),iL (GN p t u y)] (iL (iC (p.bf a y) (GN p t u y))):=(then_ok B (p.bf a y) (GN p t u y) (fun z hz=>by
     obtain ⟨i,hi,rfl⟩:=AE.mp hz
     have hi : i<(p.bf a y).length:=hi
     have:=je.at (i:=(i : Int)) ⟨by omega,by omega⟩;rw [AR] at this; omega)).run
    have t2 : HG Tryz.prog B 60 [iL (GN p t v y),iL (p.bf a y)] (iL (iC (GN p t v y) (p.bf a y))):=(then_ok B (GN p t v y) (p.bf a y) (fun z hz=>by have:=mv.2 z hz; omega)).run;try simp only [go_sem,↓reduceIte,reduceEqDiff,reduceAdd,reduceMul,reduceLeDiff,reduceLT,eu,ev,cu,cv,cru,crv]
    rw [← ebf];refine ⟨by omega,by omega,by omega,by omega,by omega,_,t1,by omega,by omega,by omega,by omega,by omega,_,t2,_,(Fi B (iC (p.bf a y) (GN p t u y)) (iC (GN p t v y) (p.bf a y))).run, ?_⟩;rw [Av nat];refine tw w2 ?_;exact A4 () (by omega) rfl rfl
   ·have vD:=A7 h4;refine tw w1 ?_;exact A4 () BH rfl rfl
  ·have MP:=A7 h3;refine tt ?_;refine AD [0,1,2,7,8,147] (G:=Unit) (fun k _=>[(148,some (.int .i64 (k : Int)))]) (fun k _ H=>H=H') p.AL.AB.length () rfl rfl ?_
   rintro b _ H hb rfl;refine tt ?_;apply bk <;> intro h5
   ·have JB:=A6 h5
    have w1:=ws b;refine tt ?_;refine AD [0,1,2,7,8,15,147,148,154] (G:=Unit) (fun k _=>[(155,some (.int .i64 (k : Int)))]) (fun k _ H'=>H'=H) p.src.AF.toNat () rfl rfl ?_
    rintro x _ H' hx rfl;refine tt ?_;apply bk <;> intro h6
    ·have Ln:=A6 h6
     have w2:=ws x
     have r:=Fc sh JB
     obtain ⟨u,eu⟩ : ∃ u : Nat,p.AL.AB.getD b default=(u : Int):=⟨_,(Int.toNat_of_nonneg r.1.1).symm⟩
     obtain ⟨v,ev⟩ : ∃ v : Nat,p.AL.to.getD b default=(v : Int):=⟨_,(Int.toNat_of_nonneg r.2.1).symm⟩
     have hm:=(sh.hm (b : Int) ⟨by omega,by simpa using JB⟩).1;rw [AR] at hm
     have ebh : p.bh b x=(p.behind.getD b default).getD x default:=by rw [PF.bh,AR,AR]
     have nat:=Yz sh s JB (x:=x) (by omega) eu ev
     have mu:=Hb sh s (x:=x) (y:=u) (by omega) (by omega)
     have mv:=Hb sh s (x:=x) (y:=v) (by omega) (by omega)
     have bhl:=Fp sh JB (x:=x) (by omega);rw [eu] at bhl
     have L5:=sh.tI.1.L5
     have cx:=IY (p:=p) (t:=t) (x:=x) (by omega)
     have rx:=GV p t x
     have cru:=HC (p:=p) (t:=t) (x:=x) (y:=u) (by omega)
     have crv:=HC (p:=p) (t:=t) (x:=x) (y:=v) (by omega)
     have je:=(sh.hm (b : Int) ⟨by omega,by simpa using JB⟩).2 (x : Int) ⟨by omega,by omega⟩;rw [AR,AR,eu,ev] at je
     have t1 : HG Tryz.prog B 60 [iL (p.bh b x),iL (GN p t x v)] (iL (iC (p.bh b x) (GN p t x v))):=(then_ok B (p.bh b x) (GN p t x v) (fun z hz=>by
      obtain ⟨i,hi,rfl⟩:=AE.mp hz
      have hi : i<(p.bh b x).length:=hi
      have:=je.at (i:=(i : Int)) ⟨by omega,by omega⟩;rw [AR] at this; omega)).run
     have t2 : HG Tryz.prog B 60 [iL (GN p t x u),iL (p.bh b x)] (iL (iC (GN p t x u) (p.bh b x))):=(then_ok B (GN p t x u) (p.bh b x) (fun z hz=>by have:=mu.2 z hz; omega)).run;try simp only [go_sem,↓reduceIte,reduceEqDiff,reduceAdd,reduceMul,reduceLeDiff,reduceLT,eu,ev,cx,cru,crv]
     rw [← ebh];refine ⟨by omega,by omega,by omega,by omega,by omega,_,t1,by omega,by omega,by omega,by omega,by omega,_,t2,_,(Fi B (iC (p.bh b x) (GN p t x v)) (iC (GN p t x u) (p.bh b x))).run, ?_⟩;rw [Av nat];refine tw w2 ?_;exact A4 () (by omega) rfl rfl
    ·have h6q:=A7 h6;refine tw w1 ?_;exact A4 () JB rfl rfl
   ·have lq:=A7 h5;refine tt ?_;exact A5 rfl (.refl _)
theorem PX (B : Nat) {p : PF} (hI : p.Is) {t : List Int} (ht : t∈MB p) : PB B 39 [.agg p.cells,.agg p.cells,BE (F3 p t)] (.CQ [.bool true,iI 0]):=by
 refine ⟨fun H0=>c39.go fun _=>?_⟩
 have sh:=hI.SZ;refine tt ?_;refine (Vb B hI).go fun _=>?_;try simp only [go_sem,↓reduceIte,reduceEqDiff,reduceAdd,reduceMul,reduceLeDiff,reduceLT,decide_true,Bool.not_true]
 refine (X0 B sh ((ML sh).mp ht)).go fun _=>tt ?_;exact A5 rfl (.refl _)
def qO (r : AV) : Prop:=∃ p : PF,r=.agg p.cells
theorem T6 (B : Nat) (c : Ax) : PB B 36 [.agg c.cells] (.bool (dec c.Is)):=by
 refine ⟨fun H0=>c36.go fun _=>tt ?_⟩;refine (J1 B c).go fun _=>tt ?_;exact A5 rfl (.refl _)
theorem fnCollages_of (B : Nat) (code : List UInt8) (hd : Dt B 32 [mL Go.AW.iB code] qO) : PB B 5 [mL Go.AW.iB code] (.bool true):=by
 refine ⟨fun H0=>c5p.go fun _=>?_⟩
 have o : A9 H0 H0 []:=.nil _;refine tt ?_;refine (kN B code).go fun _=>tt ?_;apply bk <;> intro g0
 ·refine tt ?_;exact A5 rfl (.refl _)
 refine tt ?_;refine (hd).go fun r _ ⟨p,e⟩=>?_;subst e;refine tt ?_;refine nb o fun C9 H o=>tt ?_;refine sw o fun H o=>?_
 have o : A9 H0 H [(C9,.cells 13 p.cells 0)]:=o;refine tt ?_;refine AO o (by simp [PF.cells]) (tt ?_);refine (SG B p).go fun _=>?_
 by_cases hz : J5 p=0
 rotate_left
 ·rw [Ec,if_neg hz];unfold Bl;refine tt ?_;refine Ai o fun B1 H o=>tt ?_;refine sw o fun H o=>tt ?_;refine AO o.tl (by simp [PF.cells]) (tt ?_);refine (Ly B p).go fun _=>?_;rw [Ec,if_neg hz];unfold Bl;refine tt ?_;refine Ai o fun Ba H o=>tt ?_;refine sw o fun H o=>tt ?_;refine UY 1 o rfl fun H o=>?_;refine UY 2 o rfl fun H o=>?_;refine UY 3 o rfl fun H o=>?_;refine UY 4 o rfl fun H o=>?_
  have o:=o.swap;refine UY 1 o rfl fun H o=>?_;refine UY 2 o rfl fun H o=>?_;refine UY 3 o rfl fun H o=>?_;refine UY 4 o rfl fun H o=>AX ?_
  replace o : A9 H0 H [(B1,.cells 5 yM.cells 0),(Ba,.cells 5 yM.cells 0),(C9,.cells 13 p.cells 0)]:=o;try simp only [go_sem,↓reduceIte,reduceEqDiff,reduceAdd,reduceMul,reduceLeDiff,reduceLT,decide_true,Bool.not_true]
  refine AO o (by simp [Ax.cells]) (tt ?_);refine AO o.tl (by simp [Ax.cells]) (tt ?_);refine (Rx B yM).go fun _=>?_
  have dz : decide (J5 p=0)=false:=decide_eq_false hz;try simp only [go_sem,↓reduceIte,reduceEqDiff,reduceAdd,reduceMul,reduceLeDiff,reduceLT,dz,Bool.not_false]
  exact A5 rfl o.sub
 have hI : p.Is:=by
  by_cases h : p.Is
  ·exact h
  ·rw [Mg h] at hz; omega
 have hb : p.src.AF+p.AL.AF≤8∧Ap p≤40:=by
  by_cases h : p.src.AF+p.AL.AF≤8∧Ap p≤40
  ·exact h
  ·rw [I8 hI h] at hz; omega
 have sh:=hI.SZ
 have cI:=VY hI hb.1 hb.2;rw [Ec,if_pos hz,hz];refine tt ?_;refine Ai o fun B1 H o=>tt ?_;refine AS o (by simp [Ax.cells]) (by (try simp only [go_sem]); (try simp)) (by first | (simp only [go_sem]; done) | ((try simp only [go_sem]); simp [AV.one,Ay])) fun H o=>?_;simp only [Gv,Ej,List.set_cons_zero,List.set_cons_succ] at o
 have o : A9 H0 H [(B1,.cells 5 (BA p).cells 0),(C9,.cells 13 p.cells 0)]:=o;refine tt ?_;refine AO o.tl (by simp [PF.cells]) (tt ?_);refine (Ly B p).go fun _=>?_;rw [Ec,if_pos hz,hz];refine tt ?_;refine Ai o fun Ba H o=>tt ?_;refine AS o (by simp [Ax.cells]) (by (try simp only [go_sem]); (try simp)) (by first | (simp only [go_sem]; done) | ((try simp only [go_sem]); simp [AV.one,Ay])) fun H o=>?_;simp only [Gv,Ej,List.set_cons_zero,List.set_cons_succ] at o
 have o : A9 H0 H [(Ba,.cells 5 (BA p).cells 0),(B1,.cells 5 (BA p).cells 0),(C9,.cells 13 p.cells 0)]:=o;refine tt ?_;refine AX ?_;try simp only [go_sem,↓reduceIte,reduceEqDiff,reduceAdd,reduceMul,reduceLeDiff,reduceLT,decide_true,Bool.not_true]
 refine AO o.tl (by simp [Ax.cells]) (tt ?_);refine AO o (by simp [Ax.cells]) (tt ?_);refine (Rx B (BA p)).go fun _=>?_;try simp only [go_sem,↓reduceIte,reduceEqDiff,reduceAdd,reduceMul,reduceLeDiff,reduceLT,decide_true,Bool.not_true]
 refine AO o (by simp [Ax.cells]) (tt ?_);refine AH o.tl.tl (by simp [PF.cells]) (tt ?_);refine (TE B hI hb).go fun _=>tt ?_;refine nb o fun Cm H o=>tt ?_;refine AS o (by simp [PF.cells]) (by (try simp only [go_sem]); (try simp)) (by first | (simp only [go_sem]; done) | ((try simp only [go_sem]); simp [AV.one,Ay])) fun H o=>?_;simp only [Gv,Ej,List.set_cons_zero,List.set_cons_succ] at o
 have o : A9 H0 H [(Cm,.cells 13 p.cells 0),(Ba,.cells 5 (BA p).cells 0),(B1,.cells 5 (BA p).cells 0),(C9,.cells 13 p.cells 0)]:=o;refine tt ?_;refine AO o.tl (by simp [Ax.cells]) (tt ?_);refine (T6 B (BA p)).go fun _=>?_;rw [Av cI];try simp only [go_sem,↓reduceIte,reduceEqDiff,reduceAdd,reduceMul,reduceLeDiff,reduceLT,decide_true,Bool.not_true]
 refine AO o (by simp [PF.cells]) (tt ?_);refine AO o.tl.tl.tl (by simp [PF.cells]) (tt ?_);refine (Tk B p).go fun _=>?_;try simp only [go_sem,↓reduceIte,reduceEqDiff,reduceAdd,reduceMul,reduceLeDiff,reduceLT,decide_true,Bool.not_true]
 refine AO o.tl.tl.tl (by simp [PF.cells]) (tt ?_);refine AO o.tl.tl.tl (by simp [PF.cells]) (tt ?_);refine (gW B hI hb.2).go fun _=>?_
 have pos:=nF sh
 by_cases hm : (MB p).length≤200
 rotate_left
 ·rw [if_neg hm];refine tt ?_;refine AO o.tl.tl.tl (by simp [PF.cells]) (tt ?_);refine AO o.tl.tl.tl (by simp [PF.cells]) (tt ?_);refine (RP B hI hb.2).go fun _=>?_;rw [if_neg hm];try simp only [go_sem,↓reduceIte,reduceEqDiff,reduceAdd,reduceMul,reduceLeDiff,reduceLT,decide_true,Bool.not_true]
  refine AD [3,10,11,12] (G:=Unit) (fun k _=>[(14,some (.int .i64 (k : Int)))]) (fun k _ H'=>H'=H) 0 () rfl rfl ?_
  rintro k _ H' hk rfl
  obtain rfl : k=0:=by omega
  refine tt ?_;apply bk <;> intro h1
  ·exact absurd (A6 h1) (by simp)
  ·have d30 : decide ((3 : Int)=0)=false:=by decide
   try simp only [go_sem,↓reduceIte,reduceEqDiff,reduceAdd,reduceMul,reduceLeDiff,reduceLT,d30,Bool.not_false]
   exact A5 rfl o.sub
 rw [if_pos hm];refine tt ?_;refine AO o.tl.tl.tl (by simp [PF.cells]) (tt ?_);refine AO o.tl.tl.tl (by simp [PF.cells]) (tt ?_);refine (RP B hI hb.2).go fun _=>?_;rw [if_pos hm];try simp only [go_sem,↓reduceIte,reduceEqDiff,reduceAdd,reduceMul,reduceLeDiff,reduceLT,decide_true,Bool.not_true]
 obtain ⟨L,hL⟩ : ∃ L,L=MB p:=⟨_,rfl⟩
 have GZ : ∀ t,t∈L→t∈MB p:=fun t ht=>by rw [hL] at ht; exact ht
 rw [← hL] at hm pos ⊢
 have ET : (L.map (F3 p)).length=L.length:=by simp
 refine AD [3,10,11,12] (G:=Unit) (fun k _=>[(14,some (.int .i64 (k : Int)))]) (fun k _ H'=>H'=H) L.length () rfl rfl ?_
 rintro k _ H' hk rfl;refine tt ?_;apply bk <;> intro h1
 ·have AU : k<L.length:=by have:=A6 h1; omega
  have w1:=ws k
  have ce : (L.map (F3 p)).getD k default=F3 p (L.getD k default):=by simp [Go.AW.gE,List.getElem?_eq_getElem,AU]
  refine tt ?_;refine AO o.tl.tl.tl (by simp [PF.cells]) (tt ?_);refine AO o.tl.tl.tl (by simp [PF.cells]) (tt ?_);refine ⟨by omega, ?_⟩;rw [ce];refine ⟨_,(PX B hI (GZ _ (AE.mpr ⟨k,AU,rfl⟩))).run,tt ?_⟩;refine ⟨by omega,by omega, ?_⟩;rw [ce];refine ⟨_,(Hj B (F3 p (L.getD k default))).run, ?_⟩;try simp only [go_sem,↓reduceIte,reduceEqDiff,reduceAdd,reduceMul,reduceLeDiff,reduceLT,decide_true,Bool.not_true,w1]
  exact A4 () AU rfl rfl
 ·have Sd : ¬ k<L.length:=by have:=A7 h1; omega
  have dl : decide (0<(L.map (F3 p)).length)=true:=decide_eq_true (by omega)
  have dl2 : decide (0<(((L.map (F3 p)).length : Nat) : Int))=true:=decide_eq_true (by omega);try simp only [go_sem,↓reduceIte,reduceEqDiff,reduceAdd,reduceMul,reduceLeDiff,reduceLT,decide_true,Bool.not_true,dl,dl2]
  exact A5 rfl o.sub
theorem U6 (B : Nat) : Rd B 106 [.bool false] qO:=by
 intro id s H0 H hs o;refine w9.go fun _=>?_;refine tt ?_;refine nb o fun B1 H o=>?_
 have o : A9 H0 H [(B1,.cells 13 Af 0),(id,s.obj)]:=o;refine tt ?_;refine (U1 B id s _ H0 H hs o.swap).mono ?_;clear o
 rintro r H ⟨b,c,s,p,hb,hs,⟨XS,S,Y,Z,rfl,hX⟩,o⟩
 have HY:=hX.one;refine tt ?_;refine nb o fun Bv H o=>tt ?_;refine AS o (by simp) (by simp [Bi]) (by first | (simp only [go_sem,Bi,HY]; done) | ((try simp only [go_sem,Bi]); simp [HY,Ay])) fun H o=>?_
 have o : A9 H0 H ((Bv,.cells 13 (Bi b c XS (BE Y) (BE Z)) 0)::(id,s.obj)::(p++[(B1,.cells 13 Af 0)])):=o
 have o : A9 H0 H ((id,s.obj)::(Bv,.cells 13 (Bi b c XS (BE Y) (BE Z)) 0)::(B1,.cells 13 Af 0)::p):=o.pm;refine tt ?_
 refine Qd (fun σ H=>∃ (s : Src) (b c : Ax) (p : Ob) (XS : AV) (S : List (List Int)) (Y Z : List (List (List Int))),σ=[(4,some (.ref B1 0)),(5,some (.ref Bv 0))]∧s.Ok∧TH p XS S ∧
  A9 H0 H ((id,s.obj)::(Bv,.cells 13 (Bi b c XS (BE Y) (BE Z)) 0)::(B1,.cells 13 Af 0)::p)) ?_ ?_
 ·refine tt ?_;refine (AY B 30).go hs o fun r s H _ ⟨v,e,_⟩ hs o=>?_;subst e;refine tt ?_;apply bk <;> intro h0
  ·rcases hX with ⟨rfl,rfl,rfl⟩ | ⟨DC,Xs,ob,rfl,rfl,hR⟩
   ·refine tt ?_;refine AH o.tl (by simp [Bi]) ?_
    have e10 : (Bi b c .Dg (BE Y) (BE Z)).getD 10 nv=.Dg:=rfl
    have d0 : decide ((0 : Int)<0)=false:=by decide
    refine t2 e10 d0 ?_
    exact AX ⟨s,b,c,[],.Dg,[],Y,Z,rfl,hs,.inl ⟨rfl,rfl,rfl⟩,o⟩
   ·refine tt ?_;refine AH o.tl (by simp [Bi]) ?_
    have e10 : (Bi b c (.buf DC Xs.length) (BE Y) (BE Z)).getD 10 nv=.buf DC Xs.length:=rfl
    have Iw:=hR.len
    have fin : ∀ (s : Src) (H : AA),s.Ok→A9 H0 H ((id,s.obj)::(Bv,.cells 13 (Bi b c (.buf DC Xs.length) (BE Y) (BE Z)) 0)::(B1,.cells 13 Af 0)::(DC,.cells 1 Xs 0)::ob)→TH ((DC,.cells 1 Xs 0)::ob) (.buf DC Xs.length) S:=fun _ _ _ _=>.inr ⟨DC,Xs,ob,rfl,rfl,hR⟩
    have ai:=fin s H hs o;refine tw e10 ?_
    by_cases hl : 0<Xs.length
    rotate_left
    ·rw [decide_eq_false (show ¬ (0 : Int)<(Xs.length : Int) by omega)];refine tt ?_;exact AX ⟨s,b,c,_,_,S,Y,Z,rfl,hs,ai,o⟩
    rw [decide_eq_true (show (0 : Int)<(Xs.length : Int) by omega)];refine tt ?_;refine AH o.tl (by simp [Bi]) ?_;refine tw e10 ?_
    have gS : ∀ {s : Src} {H : AA},A9 H0 H ((id,s.obj)::(Bv,.cells 13 (Bi b c (.buf DC Xs.length) (BE Y) (BE Z)) 0)::(B1,.cells 13 Af 0)::(DC,.cells 1 Xs 0)::ob)→H.get DC=some (.cells 1 Xs 0):=fun o=>o.get (DC,_) (.tail _ (.tail _ (.tail _ (.head _))));refine ⟨⟨by omega,hl⟩,Aj (gS o) hl ?_⟩
    obtain ⟨p1,r1,q1,q2,q3⟩:=hR.split 0 hl
    have hlen:=q2.Ds
    obtain ⟨R0,lp⟩ : ∃ R0,S.getD 0 []=R0:=⟨_,rfl⟩;rw [lp] at hlen
    have hlen : Ds (some (Xs.getD (Int.toNat 0) nv))=some (True,.int .i64 R0.length):=hlen;refine tw hlen ?_
    by_cases hp : 0<R0.length
    rotate_left
    ·rw [decide_eq_false (show ¬ (0 : Int)<(R0.length : Int) by omega)];refine tt ?_;exact AX ⟨s,b,c,_,_,S,Y,Z,rfl,hs,ai,o⟩
    rw [decide_eq_true (show (0 : Int)<(R0.length : Int) by omega)];refine tt ?_
    obtain ⟨Bt,er,QM⟩:=hR.eG (i:=0) hl (by rw [lp]; exact hp)
    obtain ⟨ym,er2,Td⟩:=hR.row (i:=0) hl (by rw [lp]; exact hp);rw [lp] at er QM er2 Td
    obtain rfl : Bt=ym:=by rw [er] at er2; injection er2
    have g5 : H.get Bv=some (.cells 13 (Bi b c (.buf DC Xs.length) (BE Y) (BE Z)) 0):=o.tl.h0
    have gR:=QM o (fun x hx=>by simp [hx])
    have er0 : Xs.getD (Int.toNat 0) nv=.buf Bt R0.length:=er;refine ⟨⟨_,_,g5⟩,Aj g5 (by simp [Bi]) ?_⟩;refine tw e10 ?_;refine ⟨⟨by omega,hl⟩,⟨_,_,gS o⟩,Aj (gS o) hl ?_⟩;rw [er0];refine tt ?_;refine ⟨⟨_,_,g5⟩,Aj g5 (by simp [Bi]) ?_⟩;refine tw e10 ?_;refine ⟨⟨by omega,hl⟩,⟨_,_,gS o⟩,Aj (gS o) hl ?_⟩;rw [er0];refine tt ?_;refine ⟨⟨by omega,hp⟩,⟨_,_,gR⟩,Aj gR (by simpa using hp) ?_⟩
    have ev : (R0.map iI).getD (Int.toNat 0) nv=iI (R0.getD 0 default):=BC _ hp;rw [ev];refine tt ?_;refine (N0 B [-1,IntKind.i64.wrap (R0.getD 0 default+1),65] (by simp)).IE hs o fun r s H _ ⟨v,e,_⟩ hs o hz=>⟨hz, ?_⟩;subst e;refine tt ?_
    have o : A9 H0 H ((DC,.cells 1 Xs 0)::(ob++[(id,s.obj),(Bv,.cells 13 (Bi b c (.buf DC Xs.length) (BE Y) (BE Z)) 0),(B1,.cells 13 Af 0)])):=o.pm;refine ⟨⟨by omega,hp⟩,Td o 0 hp v rfl fun H ob2 fy o=>?_⟩
    have o : A9 H0 H ((id,s.obj)::(Bv,.cells 13 (Bi b c (.buf DC Xs.length) (BE Y) (BE Z)) 0)::(B1,.cells 13 Af 0)::((DC,.cells 1 Xs 0)::ob2)):=o.pm;refine tt ?_;exact AX ⟨s,b,c,_,_,_,Y,Z,rfl,hs,.inr ⟨DC,Xs,ob2,rfl,rfl,fy⟩,o⟩
  ·refine tt ?_;apply bk <;> intro h1
   ·refine tt ?_;refine AO o.tl (by simp [Bi]) ?_
    have e5 : ((Bi b c XS (BE Y) (BE Z)).drop 0).take 5=b.cells:=rfl;refine tw e5 ?_;refine (JP B 20000 (by omega) b hb).go hs o fun r s H _ ⟨c2,e⟩ hs o=>?_;subst e;refine tt ?_;refine AS o.swap (by simp [Bi]) (by (try simp only [go_sem]); (try simp)) (by first | (simp only [go_sem]; done) | ((try simp only [go_sem]); simp [AV.one,Ay])) fun H o=>?_
    have o : A9 H0 H ((Bv,.cells 13 (Bi c2 c XS (BE Y) (BE Z)) 0)::(id,s.obj)::(B1,.cells 13 Af 0)::p):=o;refine tt ?_;exact AX ⟨s,c2,c,p,XS,S,Y,Z,rfl,hs,hX,o.swap⟩
   ·refine tt ?_;apply bk <;> intro h2
    ·refine tt ?_;refine AH o.tl (by simp [Bi]) ?_
     have e11 : (Bi b c XS (BE Y) (BE Z)).getD 11 nv=BE Y:=rfl;refine tw e11 ?_;apply bk <;> intro h3
     ·refine tt ?_;refine AH o.tl (by simp [Bi]) ?_
      have BH:=A6 h3;refine tw e11 ?_;refine ⟨⟨by omega,by omega⟩, ?_⟩;refine AS o.swap (by simp [Bi]) (by (try simp only [go_sem]); (try simp)) (by first | (simp only [go_sem]; done) | ((try simp only [go_sem]); simp [AV.one,Ay])) fun H o=>?_
      have o : A9 H0 H ((Bv,.cells 13 (Bi b c XS (BE (Y.drop 1)) (BE Z)) 0)::(id,s.obj)::(B1,.cells 13 Af 0)::p):=o;refine tt ?_;exact AX ⟨s,b,c,p,XS,S,Y.drop 1,Z,rfl,hs,hX,o.swap⟩
     ·refine tt ?_;exact AX ⟨s,b,c,p,XS,S,Y,Z,rfl,hs,hX,o⟩
    ·refine tt ?_;exact AX ⟨s,b,c,p,XS,S,Y,Z,rfl,hs,hX,o⟩
 clear o hs hX HY
 rintro σ H ⟨s,b,c,p,XS,S,Y,Z,rfl,hs,hX,o⟩;refine tt ?_
 have o : A9 H0 H ((Bv,.cells 13 (Bi b c XS (BE Y) (BE Z)) 0)::(p++[(B1,.cells 13 Af 0),(id,s.obj)])):=o.pm
 have hf : ∀ {F : Env→AA→Prop} {σ : Env},(∀ H',A9 H0 H' ((Bv,.cells 13 (PF.cells ⟨b,c,S,Y,Z⟩) 0)::[(B1,.cells 13 Af 0),(id,s.obj)])→EX F σ H')→EX F σ H:=by
  intro F σ hk
  rcases hX with ⟨rfl,rfl,rfl⟩ | ⟨DC,Xs,ob,rfl,rfl,hR⟩
  ·exact rK (f:=iL) (id:=Bv) (sz:=13) (fr:=0) (cs:=Bi b c .Dg (BE Y) (BE Z)) (p:=[]) (X:=.Dg) (A:=[]) 10 (.inl ⟨rfl,rfl,rfl⟩) (l:=[(B1,.cells 13 Af 0),(id,s.obj)]) o rfl hk
  ·have hl:=hR.len
   have od : A9 H0 H ((DC,.cells 1 Xs 0)::(ob++[(Bv,.cells 13 (Bi b c (.buf DC Xs.length) (BE Y) (BE Z)) 0),(B1,.cells 13 Af 0),(id,s.obj)])):=o.pm;refine EA hR [] H od fun H o=>?_;simp only [List.nil_append] at o;rw [hl] at o
   have o : A9 H0 H ((Bv,.cells 13 (Bi b c (.buf DC S.length) (BE Y) (BE Z)) 0)::(DC,.cells 1 (S.map iL) 0)::[(B1,.cells 13 Af 0),(id,s.obj)]):=o.swap;exact B6 (f:=iL) 10 o rfl rfl fun H o=>hk H o
 refine hf fun H o=>AX ?_;refine tt ?_;refine AO o (by simp [PF.cells]) (tt ?_);refine AS o.swap (by simp [Af]) (by (try simp only [go_sem]); (try simp)) (by first | (simp only [go_sem]; done) | ((try simp only [go_sem]); simp [AV.one,Ay])) fun H o=>?_
 have o : A9 H0 H ((B1,.cells 13 (PF.cells ⟨b,c,S,Y,Z⟩) 0)::[(Bv,.cells 13 (PF.cells ⟨b,c,S,Y,Z⟩) 0),(id,s.obj)]):=o;refine tt ?_;rw [o.rc 13 0 (by simp [PF.cells])];refine tt ?_;exact B4 ⟨⟨b,c,S,Y,Z⟩,rfl⟩ hs (o.pull [_,_])
theorem My (B : Nat) (code : List UInt8) : Dt B 32 [mL Go.AW.iB code] qO:=by
 intro H0;refine c32.go fun _=>?_
 have o : A9 H0 H0 []:=.nil _;refine tt ?_;refine nb o fun B1 H o=>tt ?_;refine (U5 B code _).IG fun r H1 _ ⟨id,s,e,hs,o2⟩=>?_;subst e
 have o:=o.trans o2;clear o2;refine tt ?_;refine (U6 B).go hs o fun r s H _ ⟨p,e⟩ hs o=>?_;subst e;refine tt ?_;refine sw o.swap fun H o=>tt ?_;rw [o.rc 13 0 (by simp)];refine tt ?_;exact B0 ⟨p,rfl⟩ o.sub
theorem fnCollages_ok (B : Nat) (code : List UInt8) : PB B 5 [mL Go.AW.iB code] (.bool true):=fnCollages_of B code (My B code)
end Go.Proofs.Shf
namespace Go.AW
def WN (P : AV→Prop) (a : AV) : Prop:=(∃ al : List AV,a=.sl al∧∀ x,x∈al→P x)∨∃ n,1048576<n∧n≤140737488355328∧a=.TU n
def WB (a : AV) : Prop:=(∃ l : List UInt8,a=mL iB l)∨∃ n,1048576<n∧n≤140737488355328∧a=.TU n
end Go.AW
namespace Go.Proofs.Shf
open Go.AW Go.Proofs Go.Shf
open Go.Deep
def jE (W : World) : Gh:=⟨fun b o=>W.cell? ⟨b,o,none⟩,fun _=>none,fun _=>none⟩
theorem qU (W : World) : Ao (jE W) W.heap.size [] W where
 fz b o v h:=h
 fm b es h:=by cases h
 ob i o h:=by simp [AA.get] at h
 inj i j b c c' n h:=by simp [AA.get] at h
 G9 i j b n h:=by simp [AA.get] at h
 base:=Nat.le_refl _
 fin:=⟨0,fun i _=>rfl⟩
section
variable {H : Type} {enc : TypeId × Value→H} {W : World}
def ue (enc : TypeId × Value→H) (W : World) (t : TypeId) (Q : AV→Prop) : Prop :=
 ∀ fuel v d ps,DataW.trod enc Tryz.prog W 0 (fun _=>true) true fuel t [v]=some (d,ps)→(∀ n,n∈d.weights Tryz.prog t→n≤reachBytes)→∃ a,Q a∧Aa (jE W) a v
theorem a6 : ue enc W 5 fun a=>∃ b : UInt8,a=Go.AW.iB b:=by
 intro fuel v d ps h _
 cases fuel with
 | zero=>simp [DataW.trod] at h
 | succ fuel =>
  cases v <;> simp only [DataW.trod,Tryz.underlying5] at h <;> try (cases h; done)
  rename_i k n
  split at h
  ·rename_i hk
   obtain ⟨rfl,hf⟩:=hk
   have hr : 0≤n∧n≤255:=by
    simp only [Lit.wf,Bool.and_eq_true,decide_eq_true_eq] at hf;exact ⟨hf.1,hf.2⟩
   refine ⟨_,⟨UInt8.ofNat n.toNat,rfl⟩, ?_⟩
   have e : Go.AW.iB (UInt8.ofNat n.toNat)=.int .u8 n:=by
    have h1 : (UInt8.ofNat n.toNat).toNat=n.toNat:=by rw [UInt8.toNat_ofNat']; omega
    rw [Go.AW.iB,h1,Int.toNat_of_nonneg hr.1]
   rw [e];exact .int _ n
  ·cases h
theorem N7 {P : Program} {e : TypeId} {l : List (DataW H)} {x : DataW H} (hx : x∈l) {n : Nat} (hn : n∈x.weights P e) : n∈DataW.weightsAll P e l:=by
 induction l with
 | nil=>simp at hx
 | cons y r ih =>
  simp only [DataW.weightsAll,List.mem_append]
  rcases List.mem_cons.mp hx with rfl | hx
  ·exact .inl hn
  ·exact .inr (ih hx)
theorem Z9 {t e : TypeId} {Q : AV→Prop} (ht : Tryz.prog.underlying t=some (.slice e)) (hc : Tryz.prog.cellsOf e=1) (hb : 1≤Tryz.prog.bytesOf e) (hQ : ∀ a,Q a→a.cells=[a]) (h : ue enc W e Q) : ue enc W t (WN Q):=by
 intro fuel v d ps y5 hw
 rcases open_slice1 ht hc y5 with ⟨hv,hx⟩ | ⟨a,len,cap,m,n,V,D,Pl,hv,_,hl,hm,Zz,hx,Nu⟩
 ·injection hv with hv
  subst hv;exact ⟨.sl [],.inl ⟨[],rfl,by simp⟩,.slnil none 0⟩
 ·injection hv with hv
  subst hv;simp only [if_true] at Zz;subst Zz;simp only [Prod.mk.injEq] at hx
  obtain ⟨rfl,rfl⟩:=hx
  have yl : (((List.range len).map D).length+((List.range (m - len)).map fun j=>D (len+j)).length)*Tryz.prog.bytesOf e≤reachBytes:=hw _ (by simp [DataW.weights,ht])
  have hlen : len≤140737488355328:=by
   simp only [List.length_map,List.length_range] at yl
   have h1 : len*1≤(len+(m - len))*Tryz.prog.bytesOf e:=Nat.mul_le_mul (by omega) hb
   have h2 : reachBytes≤140737488355328:=by decide
   omega
  by_cases hbig : 1099511627776<len
  ·exact ⟨.TU len,.inr ⟨len,by omega,hlen,rfl⟩,.TU _ _ _ hlen⟩
  ·have Au : ∀ i,∃ x,i<len→Q x∧Aa (jE W) x (V i):=by
    intro i
    by_cases hi : i<len
    ·obtain ⟨x,q1,q2⟩:=h n (V i) (D i) (Pl i) (Nu i (by omega)).2 fun k hk=>hw k (by
      simp only [DataW.weights,ht,List.mem_cons,List.mem_append];exact .inr (.inl (N7 (List.mem_map.mpr ⟨i,List.mem_range.mpr hi,rfl⟩) hk)))
     exact ⟨x,fun _=>⟨q1,q2⟩⟩
    ·exact ⟨.Ix,fun h=>absurd h hi⟩
   obtain ⟨A,hA⟩:=Classical.axiomOfChoice Au
   have CU : ∀ i,i<len→((List.range len).map A).getD i nv=A i:=fun i hi=>Ab A nv hi;refine ⟨.sl ((List.range len).map A),.inl ⟨_,rfl,fun x hx=>?_⟩, ?_⟩
   ·obtain ⟨i,hi,rfl⟩:=List.mem_map.mp hx;exact (hA i (List.mem_range.mp hi)).1
   ·by_cases h0 : len=0
    ·subst h0; exact .slnil _ _
    ·have hsp : a=⟨a.block,a.off,none⟩:=by
      have:=(Nu 0 (by omega)).1
      obtain ⟨b,o,s⟩:=a
      cases s with
      | none=>rfl
      | some s=>exfalso; simp [Addr.add,World.cell?] at this; split at this <;> simp at this
     have xx : ∀ i,a.add i=⟨a.block,a.off+i,none⟩:=by
      intro i;rw [hsp];unfold Addr.add
      split
      ·rename_i e; simp [e]
      ·rfl
     have key : Aa (jE W) (.sl ((List.range len).map A)) (.slice (some ⟨a.block,a.off,none⟩) ((List.range len).map A).length m):=by
      refine .sl _ a.block a.off 1 m V (by simp [AN]; omega) (by simp; omega) (fun i hi=>?_) (fun i j hi hj=>?_) (fun i j hi hj=>?_)
      ·rw [CU i (by simpa using hi),hQ _ (hA i (by simpa using hi)).1]; rfl
      ·have EP : i<len:=by simpa using hi
       have:=(Nu i (by omega)).1;rw [xx] at this
       have e : i*1+j=i:=by omega
       rw [e]; exact this
      ·have EP : i<len:=by simpa using hi
       have e : i*1+j=i:=by omega
       obtain rfl : j=0:=by omega
       rw [e,CU i EP,hQ _ (hA i EP).1];exact (hA i EP).2
     rw [List.length_map,List.length_range,← hsp] at key;exact key
theorem WB.of {a : AV} (h : WN (fun a=>∃ b : UInt8,a=Go.AW.iB b) a) : WB a:=by
 rcases h with ⟨l,rfl,hl⟩ | h
 ·refine .inl ⟨l.map fun x=>match x with | .int _ n=>UInt8.ofNat n.toNat | _=>0, ?_⟩
  rw [mL,List.map_map]
  congr 1
  have : ∀ x,x∈l→(Go.AW.iB ∘ fun x : AV=>match x with | .int _ n=>UInt8.ofNat n.toNat | _=>0) x=x:=fun x hx=>by
   obtain ⟨n,rfl⟩:=hl x hx
   simp [Go.AW.iB]
  exact ((List.map_congr_left this).trans (by simp)).symm
 ·exact .inr h
theorem ZR : ∀ fuel v d ps,DataW.trod enc Tryz.prog W 0 (fun _=>true) true fuel 22 [v]=some (d,ps)→(∀ n,n∈d.weights Tryz.prog 22→n≤reachBytes)→∃ a,WB a∧Aa (jE W) a v:=fun fuel v d ps k w=>by
 obtain ⟨a,q1,q2⟩:=Z9 Tryz.underlying22 (by kernel_rfl) (of_decide_eq_true (by kernel_rfl)) (fun a ⟨n,e⟩=>by rw [e]; rfl) a6 fuel v d ps k w;exact ⟨a,WB.of q1,q2⟩
end
theorem kC (B n : Nat) (hn : 1048576<n) : PB B 7 [.TU n] (.bool true):=by
 refine ⟨fun H0=>c7.go fun hf=>tt ?_⟩;exact A5 (by congr 1; simp; omega) (.refl _)
end Go.Proofs.Shf
namespace Go.Proofs.Shf
open Go.AW Go.Proofs Go.Shf
theorem fnCollages_all (B : Nat) (a : AV) (h : WB a) : PB B 5 [a] (.bool true):=by
 rcases h with ⟨l,rfl⟩ | ⟨n,hn,_,rfl⟩
 ·exact fnCollages_ok B l
 ·refine ⟨fun H0=>c5p.go fun _=>tt ?_⟩;refine (kC B n hn).go fun _=>tt ?_;exact A5 rfl (.refl _)
end Go.Proofs.Shf
