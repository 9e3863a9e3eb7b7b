/- A part of a proof. -/
import Derived.Test.YtphikjciekmijaaGreatT10
set_option linter.unusedVariables false
set_option linter.unusedSimpArgs false
set_option linter.unusedSectionVars false
set_option maxRecDepth 100000
open Nat (reduceEqDiff reduceAdd reduceMul reduceLeDiff reduceLT)
namespace Go.Shf
open Go.AW
open Classical in
noncomputable def J5 (p : PF) : Int:=if p.Is then (if p.src.AF+p.AL.AF≤8∧Ap p≤40 then 0 else 3) else 1
def Bl : List AV:=[.int .i64 0,.A0,.A0,.A0,.A0]
noncomputable def Ec (p : PF) : AV:=.CQ [.agg (if J5 p=0 then (BA p).cells else Bl),iI (J5 p)]
section
variable (p : PF)
def M6 (x y : Nat) : List (Nat × Nat × Nat):=BP (FZ p) x++BP (CK p x) y
def PJ (x y : Nat) : List Int:=(BR p).AB++(M6 p x y).map fun t=>(t.1 : Int)
def Q3 (x y : Nat) : List Int:=(BR p).to++(M6 p x y).map fun t=>p.src.AF+(t.2.1 : Int)
def Xe (IL GD Eo TQ mZ x y : Nat) : Ob:=[(IL,.cells 5 [iI (p.src.AF+p.AL.AF),.buf Eo (PJ p x y).length,.buf TQ (Q3 p x y).length,.buf mZ (BR p).Ac.length,.A0] 0),(Eo,.cells 1 ((PJ p x y).map iI) 0),(TQ,.cells 1 ((Q3 p x y).map iI) 0),(mZ,.cells 1 ((BR p).Ac.map iI) 0),(GD,.cells 5 Bl 0)]
theorem Mo : M6 p 0 0=[]:=rfl
theorem PL (x : Nat) : M6 p x p.AL.AF.toNat=M6 p (x+1) 0:=by rw [M6,M6,BV]; simp [BP,FZ]
theorem Jg (x y : Nat) : M6 p x (y+1)=M6 p x y++CK p x y:=by rw [M6,M6,BV,List.append_assoc]
theorem Jv : M6 p p.src.AF.toNat 0=Cs p:=by rw [M6,Cs]; simp [BP]
theorem ZM : PJ p 0 0=(BR p).AB:=by rw [PJ,Mo]; simp
theorem eN : Q3 p 0 0=(BR p).to:=by rw [Q3,Mo]; simp
theorem aK (x y : Nat) : PJ p x (y+1)=PJ p x y++List.replicate (p.sz x y).toNat (x : Int):=by
 rw [PJ,PJ,Jg,List.map_append,List.append_assoc]
 congr 2
 refine List.ext_getElem (by simp [CK]) fun i h1 h2=>?_
 simp [CK]
theorem fQ (x y : Nat) : Q3 p x (y+1)=Q3 p x y++List.replicate (p.sz x y).toNat (p.src.AF+(y : Int)):=by
 rw [Q3,Q3,Jg,List.map_append,List.append_assoc]
 congr 2
 refine List.ext_getElem (by simp [CK]) fun i h1 h2=>?_
 simp [CK]
theorem N4 {x y : Nat} (h : p.Shape) (hx : x<p.src.AF.toNat) (hy : y≤p.AL.AF.toNat) : (M6 p x y).length≤4096:=by
 have:=Cb h hx hy;rw [M6,List.length_append]; exact this
theorem sS {x y : Nat} (h : p.Shape) (hx : x<p.src.AF.toNat) (hy : y≤p.AL.AF.toNat) : (PJ p x y).length≤4200:=by
 have:=N4 p h hx hy
 have h1:=H6 (p:=p)
 have h2:=h.sI.1.m
 have h3:=h.tI.1.m;rw [PJ,List.length_append,List.length_map,h1,Ag]; omega
theorem rG {x y : Nat} (h : p.Shape) (hx : x<p.src.AF.toNat) (hy : y≤p.AL.AF.toNat) : (Q3 p x y).length≤4200:=by
 have:=N4 p h hx hy
 have h1:=H4 h
 have h2:=h.sI.1.m
 have h3:=h.tI.1.m;rw [Q3,List.length_append,List.length_map,h1,Ag]; omega
theorem jW (IL GD Eo TQ mZ x : Nat) : Xe p IL GD Eo TQ mZ x p.AL.AF.toNat=Xe p IL GD Eo TQ mZ (x+1) 0:=by rw [Xe,Xe,PJ,PJ,Q3,Q3,PL]
theorem bY : PJ p p.src.AF.toNat 0=Bj p:=by rw [PJ,Jv,Bj]
theorem c6 : Q3 p p.src.AF.toNat 0=Bp p:=by rw [Q3,Jv,Bp]
end
theorem Mg {p : PF} (h : ¬ p.Is) : J5 p=1:=by rw [J5,if_neg h]
theorem I8 {p : PF} (h : p.Is) (hb : ¬ (p.src.AF+p.AL.AF≤8∧Ap p≤40)) : J5 p=3:=by rw [J5,if_pos h,if_neg hb]
theorem OI {p : PF} (h : p.Is) (hb : p.src.AF+p.AL.AF≤8∧Ap p≤40) : J5 p=0:=by rw [J5,if_pos h,if_pos hb]
end Go.Shf
namespace Go.Proofs.Shf
open Go.AW Go.Proofs Go.Shf
theorem qS (B : Nat) (l : List Int) : ID Tryz.prog B 73 [iL l] fun p X=>∃ id,X=.buf id l.length∧p=[(id,.cells 1 (l.map iI) 0)] :=
 ⟨fun H=>(P6 B l H H [] (.nil H)).mono fun r H' ⟨id,A,e,o,q⟩=>by subst e q; exact ⟨_,⟨id,rfl,rfl⟩,o⟩⟩
theorem EE (B : Nat) (l : List Int) {H0 H : AA} {r : Ob} {K : Ak} (o : A9 H0 H r) (hk : ∀ id H',H.sub H'→A9 H0 H' ((id,.cells 1 (l.map iI) 0)::r)→K (.buf id l.length) H') : CB B 73 [iL l] H K :=
 ID.go' (qS B l) o fun X p H' ⟨id,e1,e2⟩ o hs=>by subst e1 e2; exact hk id H' hs o
theorem SG (B : Nat) (p : PF) : PB B 33 [.agg p.cells] (Ec p):=by
 refine ⟨fun H0=>mi.go fun _=>?_⟩
 have o : A9 H0 H0 []:=.nil _;refine tt ?_;refine Ai o fun GD H o=>tt ?_;refine (JJ B p).go fun _=>?_
 by_cases hI : p.Is
 rotate_left
 ·rw [Ad hI];refine tt ?_;refine sw o fun H o=>tt ?_;rw [o.rc 5 0 (by simp)];refine tt ?_;exact A5 (by rw [Ec,Mg hI]; rfl) o.sub
 rw [Av hI]
 have sh:=hI.SZ
 have so:=sh.sI.1.o
 have to:=sh.tI.1.o
 have sm:=sh.sI.1.m
 have tm:=sh.tI.1.m
 have Ww : Ag p=p.src.AB.length+p.AL.AB.length:=rfl
 have s6 : Ap p=Ag p+(Cs p).length:=rfl
 have Nu:=TW sh;refine tt ?_;refine Ai o fun B1 H o=>tt ?_;refine Ai o fun Bv H o=>tt ?_;refine sw o.swap fun H o=>tt ?_;refine sw o.swap fun H o=>tt ?_;refine Ca 5 o rfl fun H o=>?_;refine Ca 4 o rfl fun H o=>AX ?_;refine Qd (fun σ H=>σ=[(1,some (.ptr p.cells)),(2,some (.ref GD 0)),(4,some (.ptr [.ptr p.src.cells])),(5,some (.ptr [.ptr p.AL.cells])),(6,some (.ptr [iI p.src.AF])),(7,some (.ptr [iI p.src.AB.length]))]∧A9 H0 H [(GD,.cells 5 Bl 0)]) ?_ ?_
 ·refine tt ?_;refine ⟨_,(GO B p.src).run, ?_, ?_⟩
  ·refine Ai o fun Ba H o=>tt ?_;refine Ai o fun CT H o=>tt ?_;refine sw o.swap fun H o=>tt ?_;refine sw o.swap fun H o=>tt ?_;refine Ca 7 o rfl fun H o=>?_;refine Ca 6 o rfl fun H o=>?_;exact Vg [1,2,4,5,6,7] ⟨rfl,o⟩
  ·refine Ai o fun CT H o=>tt ?_;refine Ai o fun Ba H o=>tt ?_;refine sw o fun H o=>tt ?_;refine sw o.swap fun H o=>tt ?_;refine Ca 7 o rfl fun H o=>?_;refine Ca 6 o rfl fun H o=>?_;exact Vg [1,2,4,5,6,7] ⟨rfl,o⟩
 rintro σ H ⟨rfl,o⟩;refine tt ?_;refine (Lb B p sh).go fun _=>tt ?_;refine Ai o fun Cm H o=>tt ?_;refine sw o fun H o=>tt ?_;refine Ca 8 o rfl fun H o=>AX ?_
 have w10 : IntKind.i64.wrap ((p.src.AB.length : Int)+(p.AL.AB.length : Int))=(Ag p : Int):=by rw [wrap_i64 (by omega) (by omega)]; omega
 refine tt ?_;refine ⟨_,(GO B p.AL).run, ?_⟩;refine tw w10 ?_;refine Ai o fun HZ H o=>tt ?_;refine sw o fun H o=>tt ?_;refine Ca 10 o rfl fun H o=>AX ?_
 have vI : IntKind.i64.wrap (p.src.AF+p.AL.AF)=p.src.AF+p.AL.AF:=wrap_i64 (by omega) (by omega)
 have zk : IntKind.i64.wrap ((Ag p : Int)+((Cs p).length : Int))=(Ap p : Int):=by rw [wrap_i64 (by omega) (by omega)]; omega
 refine t2 vI zk ?_
 by_cases hb : p.src.AF+p.AL.AF≤8∧Ap p≤40
 rotate_left
 ·have d3 : decide (8<p.src.AF+p.AL.AF)=true∨decide (8<p.src.AF+p.AL.AF)=false∧decide (40<(Ap p : Int))=true:=by
   by_cases h8 : 8<p.src.AF+p.AL.AF
   ·exact .inl (decide_eq_true h8)
   ·exact .inr ⟨decide_eq_false h8,decide_eq_true (by omega)⟩
  rcases d3 with d | ⟨d,d'⟩
  ·refine tw d ?_;refine AS o (by simp [Bl]) (by (try simp only [go_sem]); (try simp)) (by first | (simp only [go_sem]; done) | ((try simp only [go_sem]); simp [AV.one,Ay])) fun H o=>?_;simp only [Bl] at o;simp only [Gv,Ej,List.set_cons_zero,List.set_cons_succ] at o;refine tt ?_;rw [o.rc 5 0 (by simp)];refine tt ?_;exact A5 (by rw [Ec,I8 hI hb]; rfl) o.sub
  ·try simp only [go_sem,↓reduceIte,reduceEqDiff,reduceAdd,reduceMul,reduceLeDiff,reduceLT,d,zk,d']
   refine AS o (by simp [Bl]) (by (try simp only [go_sem]); (try simp)) (by first | (simp only [go_sem]; done) | ((try simp only [go_sem]); simp [AV.one,Ay])) fun H o=>?_;simp only [Bl] at o;simp only [Gv,Ej,List.set_cons_zero,List.set_cons_succ] at o;refine tt ?_;rw [o.rc 5 0 (by simp)];refine tt ?_;exact A5 (by rw [Ec,I8 hI hb]; rfl) o.sub
 have d1 : decide (8<p.src.AF+p.AL.AF)=false:=decide_eq_false (by omega)
 have d2 : decide (40<(Ap p : Int))=false:=decide_eq_false (by omega);try simp only [go_sem,↓reduceIte,reduceEqDiff,reduceAdd,reduceMul,reduceLeDiff,reduceLT,d1,zk,d2]
 refine Qd (fun σ H=>∃ IL Eo TQ,σ=[(1,some (.ptr p.cells)),(2,some (.ref GD 0)),(4,some (.ptr [.ptr p.src.cells])),(5,some (.ptr [.ptr p.AL.cells])),(6,some (.ptr [iI p.src.AF])),(7,some (.ptr [iI p.src.AB.length])),(8,some (.ptr [B5 p.RB])),(10,some (.ptr [iI (Ag p)])),(11,some (.ref IL 0))] ∧
  A9 H0 H [(IL,.cells 5 [iI (p.src.AF+p.AL.AF),.buf Eo (BR p).AB.length,.buf TQ (BR p).to.length,.A0,.A0] 0),(Eo,.cells 1 ((BR p).AB.map iI) 0),(TQ,.cells 1 ((BR p).to.map iI) 0),(GD,.cells 5 Bl 0)]) ?_ ?_
 ·have sF:=(HN B p.AL.AB p.src.AF (fun k hk=>by have:=Fc sh hk; omega) (by omega)).run
  have sT:=(HN B p.AL.to p.src.AF (fun k hk=>by have:=Fc sh (f:=k) (by rw [← sh.tI.1.L5]; exact hk); omega) (by omega)).run
  have tlS:=sh.sI.1.L5
  have tlT:=sh.tI.1.L5;refine tt ?_;refine ⟨?_, ?_⟩
  ·refine EE B _ o fun Eo H hs o=>⟨hs,_,sF, ?_⟩;refine tt ?_;refine ⟨?_, ?_⟩
   ·refine Hh (out:=p.src.AB) (r:=Oh p.src.AF p.AL.AB) o rfl (by simp only [Oh,List.length_map,AN] <;> omega) fun Eo H o=>tt ?_
    refine ⟨?_, ?_⟩
    ·refine EE B _ o fun TQ H hs o=>⟨hs,_,sT, ?_⟩;refine tt ?_;refine ⟨?_, ?_⟩
     ·refine Hh (out:=p.src.to) (r:=Oh p.src.AF p.AL.to) o rfl (by simp only [Oh,List.length_map,AN] <;> omega) fun TQ H o=>tt ?_
      refine Ai o fun IL H o=>?_
      replace o : A9 H0 H ((IL,.cells 5 Bl 0)::_):=o;refine tt ?_
      have o : A9 H0 H [(IL,.cells 5 Bl 0),(Eo,.cells 1 ((p.src.AB++Oh p.src.AF p.AL.AB).map iI) 0),(TQ,.cells 1 ((p.src.to++Oh p.src.AF p.AL.to).map iI) 0),(GD,.cells 5 Bl 0)]:=o.pm;refine AS o (by simp [Bl]) (by (try simp only [go_sem]); (try simp)) (by first | (simp only [go_sem]; done) | ((try simp only [go_sem]); simp [AV.one,Ay])) fun H o=>?_;simp only [Bl] at o;simp only [Gv,Ej,List.set_cons_zero,List.set_cons_succ] at o;rw [vI] at o;exact Vg [1,2,4,5,6,7,8,10,11] ⟨IL,Eo,TQ,rfl,o⟩
     ·refine Ai o fun IL H o=>?_
      replace o : A9 H0 H ((IL,.cells 5 Bl 0)::_):=o;refine tt ?_;refine Hh (out:=p.src.to) (r:=Oh p.src.AF p.AL.to) o.swap rfl (by simp only [Oh,List.length_map,AN] <;> omega) fun TQ H o=>tt ?_
      have o : A9 H0 H [(IL,.cells 5 Bl 0),(Eo,.cells 1 ((p.src.AB++Oh p.src.AF p.AL.AB).map iI) 0),(TQ,.cells 1 ((p.src.to++Oh p.src.AF p.AL.to).map iI) 0),(GD,.cells 5 Bl 0)]:=o.pm;refine AS o (by simp [Bl]) (by (try simp only [go_sem]); (try simp)) (by first | (simp only [go_sem]; done) | ((try simp only [go_sem]); simp [AV.one,Ay])) fun H o=>?_;simp only [Bl] at o;simp only [Gv,Ej,List.set_cons_zero,List.set_cons_succ] at o;rw [vI] at o;exact Vg [1,2,4,5,6,7,8,10,11] ⟨IL,Eo,TQ,rfl,o⟩
    ·refine Ai o fun IL H o=>?_
     replace o : A9 H0 H ((IL,.cells 5 Bl 0)::_):=o;refine tt ?_;refine EE B _ o fun TQ H hs o=>⟨hs,_,sT, ?_⟩;refine tt ?_;refine Hh (out:=p.src.to) (r:=Oh p.src.AF p.AL.to) o rfl (by simp only [Oh,List.length_map,AN] <;> omega) fun TQ H o=>tt ?_
     have o : A9 H0 H [(IL,.cells 5 Bl 0),(Eo,.cells 1 ((p.src.AB++Oh p.src.AF p.AL.AB).map iI) 0),(TQ,.cells 1 ((p.src.to++Oh p.src.AF p.AL.to).map iI) 0),(GD,.cells 5 Bl 0)]:=o.pm;refine AS o (by simp [Bl]) (by (try simp only [go_sem]); (try simp)) (by first | (simp only [go_sem]; done) | ((try simp only [go_sem]); simp [AV.one,Ay])) fun H o=>?_;simp only [Bl] at o;simp only [Gv,Ej,List.set_cons_zero,List.set_cons_succ] at o;rw [vI] at o;exact Vg [1,2,4,5,6,7,8,10,11] ⟨IL,Eo,TQ,rfl,o⟩
   ·refine Ai o fun IL H o=>?_
    replace o : A9 H0 H ((IL,.cells 5 Bl 0)::_):=o;refine tt ?_;refine Hh (out:=p.src.AB) (r:=Oh p.src.AF p.AL.AB) o.swap rfl (by simp only [Oh,List.length_map,AN] <;> omega) fun Eo H o=>tt ?_
    refine EE B _ o fun TQ H hs o=>⟨hs,_,sT, ?_⟩;refine tt ?_;refine Hh (out:=p.src.to) (r:=Oh p.src.AF p.AL.to) o rfl (by simp only [Oh,List.length_map,AN] <;> omega) fun TQ H o=>tt ?_
    have o : A9 H0 H [(IL,.cells 5 Bl 0),(Eo,.cells 1 ((p.src.AB++Oh p.src.AF p.AL.AB).map iI) 0),(TQ,.cells 1 ((p.src.to++Oh p.src.AF p.AL.to).map iI) 0),(GD,.cells 5 Bl 0)]:=o.pm;refine AS o (by simp [Bl]) (by (try simp only [go_sem]); (try simp)) (by first | (simp only [go_sem]; done) | ((try simp only [go_sem]); simp [AV.one,Ay])) fun H o=>?_;simp only [Bl] at o;simp only [Gv,Ej,List.set_cons_zero,List.set_cons_succ] at o;rw [vI] at o;exact Vg [1,2,4,5,6,7,8,10,11] ⟨IL,Eo,TQ,rfl,o⟩
  ·refine Ai o fun IL H o=>?_
   replace o : A9 H0 H ((IL,.cells 5 Bl 0)::_):=o;refine tt ?_;refine EE B _ o fun Eo H hs o=>⟨hs,_,sF, ?_⟩;refine tt ?_;refine Hh (out:=p.src.AB) (r:=Oh p.src.AF p.AL.AB) o rfl (by simp only [Oh,List.length_map,AN] <;> omega) fun Eo H o=>tt ?_
   refine EE B _ o fun TQ H hs o=>⟨hs,_,sT, ?_⟩;refine tt ?_;refine Hh (out:=p.src.to) (r:=Oh p.src.AF p.AL.to) o rfl (by simp only [Oh,List.length_map,AN] <;> omega) fun TQ H o=>tt ?_
   have o : A9 H0 H [(IL,.cells 5 Bl 0),(Eo,.cells 1 ((p.src.AB++Oh p.src.AF p.AL.AB).map iI) 0),(TQ,.cells 1 ((p.src.to++Oh p.src.AF p.AL.to).map iI) 0),(GD,.cells 5 Bl 0)]:=o.pm;refine AS o (by simp [Bl]) (by (try simp only [go_sem]); (try simp)) (by first | (simp only [go_sem]; done) | ((try simp only [go_sem]); simp [AV.one,Ay])) fun H o=>?_;simp only [Bl] at o;simp only [Gv,Ej,List.set_cons_zero,List.set_cons_succ] at o;rw [vI] at o;exact Vg [1,2,4,5,6,7,8,10,11] ⟨IL,Eo,TQ,rfl,o⟩
 rintro σ H ⟨IL,Eo,TQ,rfl,o⟩
 have sI:=(HN B p.AL.Ac p.src.AB.length (fun k hk=>by
  have:=sh.tI.1.uT (x:=(k : Int)) ⟨by omega,by have:=sh.tI.1.il; omega⟩;rw [AR] at this
  have h1:=this.1.1
  have h2:=this.1.2;omega) (by omega)).run
 have sil:=sh.sI.1.il
 have til:=sh.tI.1.il
 have ssl:=sh.sl;refine tt ?_;refine EE B _ o fun mZ H hs o=>⟨hs,_,sI, ?_⟩;refine tt ?_;refine Hh (out:=p.src.Ac) (r:=Oh p.src.AB.length p.AL.Ac) o rfl (by simp only [Oh,List.length_map,AN] <;> omega) fun mZ H o=>tt ?_
 refine sw o.swap fun H o=>?_
 replace o : A9 H0 H [(IL,.cells 5 [iI (p.src.AF+p.AL.AF),.buf Eo (BR p).AB.length,.buf TQ (BR p).to.length,.buf mZ (BR p).Ac.length,.A0] 0),(mZ,.cells 1 ((BR p).Ac.map iI) 0),(Eo,.cells 1 ((BR p).AB.map iI) 0),(TQ,.cells 1 ((BR p).to.map iI) 0),(GD,.cells 5 Bl 0)]:=o
 replace o : A9 H0 H (Xe p IL GD Eo TQ mZ 0 0):=o.perm (by rw [Xe,ZM,eN]; exact (NU fun x=>by (try dsimp only); simp only [List.append_eq,List.count_append,List.count_cons,List.count_nil,List.map_nil,List.length_nil,List.length_append,List.length_cons,List.length_set,Nat.zero_add,List.nil_append,iI,iL]; omega));refine tt ?_;refine AD [1,2,4,5,6,7,8,10,11,94,95] (G:=Nat × Nat) (fun k _=>[(96,some (.int .i64 (k : Int)))]) (fun k g H=>A9 H0 H (Xe p IL GD g.1 g.2 mZ k 0)) p.AK.length (Eo,TQ) o rfl ?_;clear o
 rintro x ⟨Eo,TQ⟩ H hx o
 replace o : A9 H0 H (Xe p IL GD Eo TQ mZ x 0):=o;refine tt ?_;apply bk <;> intro h1
 ·have AU:=A6 h1
  have w1:=ws x
  have W8 : p.src.ES x:=⟨by omega,by omega⟩
  have rl:=(sh.rl _ W8).1;rw [AR] at rl;refine tt ?_;refine ⟨AU, ?_⟩;refine AD [1,2,4,5,6,7,8,10,11,12,94,95,96,101,102] (G:=Nat × Nat) (fun k _=>[(103,some (.int .i64 (k : Int)))]) (fun k g H=>A9 H0 H (Xe p IL GD g.1 g.2 mZ x k)) p.AL.AF.toNat (Eo,TQ) o rfl ?_;clear o
  rintro y ⟨Eo,TQ⟩ H hy o
  replace o : A9 H0 H (Xe p IL GD Eo TQ mZ x y):=o;refine tt ?_;apply bk <;> intro h2
  ·have Aq:=A6 h2
   have w2:=ws y
   have L9 : p.AL.ES y:=⟨by omega,by omega⟩
   have q:=(sh.rl _ W8).2 _ L9
   obtain ⟨z,hz⟩ : ∃ z : Nat,(p.AK.getD x default).getD y default=(z : Int):=⟨_,(Int.toNat_of_nonneg (by rw [PF.sz,AR,AR] at q; exact q.1)).symm⟩;refine tt ?_;refine ⟨Aq, ?_⟩;rw [hz]
   have ez : (p.sz x y).toNat=z:=by rw [PF.sz,AR,AR,hz]; simp
   have wy : IntKind.i64.wrap (p.src.AF+(y : Int))=p.src.AF+(y : Int):=wrap_i64 (by omega) (by omega)
   have lF:=sS p (x:=x) (y:=y) sh (by omega) (by omega)
   have lT:=rG p (x:=x) (y:=y) sh (by omega) (by omega);rw [Xe] at o;refine AH o (by simp) (tt ?_);refine ⟨_,(Hs B (x : Int) z (by omega)).run,tt ?_⟩;refine Hh (out:=PJ p x y) (r:=List.replicate z (x : Int)) o.swap rfl (by simp only [List.length_replicate,AN]; omega) fun Eo H o=>?_;rw [show PJ p x y++List.replicate z (x : Int)=PJ p x (y+1) by rw [aK,ez]] at o ⊢;refine tt ?_;refine sw o.swap fun H o=>tt ?_;refine AH o (by simp) ?_;refine tw wy ?_;refine ⟨_,(Hs B (p.src.AF+(y : Int)) z (by omega)).run,tt ?_⟩
   have o : A9 H0 H ((TQ,.cells 1 ((Q3 p x y).map iI) 0)::(IL,.cells 5 [iI (p.src.AF+p.AL.AF),.buf Eo (PJ p x (y+1)).length,.buf TQ (Q3 p x y).length,.buf mZ (BR p).Ac.length,.A0] 0)::(Eo,.cells 1 ((PJ p x (y+1)).map iI) 0)::[(mZ,.cells 1 ((BR p).Ac.map iI) 0),(GD,.cells 5 Bl 0)]):=o.pm;refine Hh (out:=Q3 p x y) (r:=List.replicate z (p.src.AF+(y : Int))) o rfl (by simp only [List.length_replicate,AN]; omega) fun TQ H o=>?_;rw [show Q3 p x y++List.replicate z (p.src.AF+(y : Int))=Q3 p x (y+1) by rw [fQ,ez]] at o ⊢;refine tt ?_;refine sw o.swap fun H o=>?_;refine tw w2 ?_;refine A4 (Eo,TQ) (by omega) ?_ rfl;exact o.perm (by rw [Xe]; exact (NU fun x=>by (try dsimp only); simp only [List.append_eq,List.count_append,List.count_cons,List.count_nil,List.map_nil,List.length_nil,List.length_append,List.length_cons,List.length_set,Nat.zero_add,List.nil_append,iI,iL]; omega))
  ·have xB:=A7 h2
   obtain rfl : y=p.AL.AF.toNat:=by omega
   rw [jW] at o;refine tw w1 ?_;exact A4 (Eo,TQ) AU o rfl
 ·have Sd:=A7 h1
  obtain rfl : x=p.AK.length:=by omega
  rw [show p.AK.length=p.src.AF.toNat by omega,Xe,bY,c6] at o;refine tt ?_;refine B6 1 o rfl rfl fun H o=>?_;have o:=s1 o;refine B6 2 o rfl rfl fun H o=>?_;have o:=s1 o;refine B6 3 o rfl rfl fun H o=>AX ?_;have o:=s1 o
  replace o : A9 H0 H ((IL,NW (p.src.AF+p.AL.AF) (Bj p) (Bp p) (BR p).Ac .A0)::[(GD,.cells 5 Bl 0)]):=o
  have cS:=Mn sh hb.1 hb.2;refine tt ?_;refine (X5 B (n:=112) (env:=iY p IL) (φ:=Cv p) (m:=Ap p) Ci (Ew sh) (by omega) (fun a b ha hb e=>KF sh e) (fun a b ha hb e H X hg=>YH B sh ha hb e hg) o).mono ?_
  rintro r H' ⟨lu,Xs,ob,hR,Iw,o⟩;refine tt ?_
  have oC : A9 H0 H' ((lu,.cells 1 Xs 0)::(ob++((IL,NW (p.src.AF+p.AL.AF) (Bj p) (Bp p) (BR p).Ac (.buf lu Xs.length))::[(GD,.cells 5 Bl 0)]))):=by
   simp only [NW] at o ⊢;exact o.pm
  have hl:=hR.len;refine EA hR [] H' oC fun H o=>?_;simp only [List.nil_append] at o;rw [hl] at o
  have o : A9 H0 H ((IL,.cells 5 [iI (p.src.AF+p.AL.AF),iL (Bj p),iL (Bp p),iL (BR p).Ac,.buf lu (HX (Ap p) (Cv p)).length] 0)::(lu,.cells 1 ((HX (Ap p) (Cv p)).map iL) 0)::[(GD,.cells 5 Bl 0)]):=o.swap;refine B6 4 o rfl rfl fun H o=>AX ?_;have o:=s1 o
  replace o : A9 H0 H ((IL,.cells 5 (BA p).cells 0)::[(GD,.cells 5 Bl 0)]):=o;refine tt ?_;refine AO o (by simp [Ax.cells]) (tt ?_);refine AS o.swap (by simp [Bl,Ax.cells]) (by (try simp only [go_sem]); (try simp)) (by first | (simp only [go_sem]; done) | ((try simp only [go_sem]); simp [AV.one,Ay])) fun H o=>?_;simp only [Bl] at o;simp only [Gv,Ej,List.set_cons_zero,List.set_cons_succ] at o;refine tt ?_;rw [o.rc 5 0 (by simp [Ax.cells])];refine tt ?_;exact A5 (by rw [Ec,OI hI hb]; rfl) o.sub
end Go.Proofs.Shf
namespace Go.Shf
open Go.AW
theorem Qb {c : Ax} (h : c.Shape) : c.Good 40 :=
 ⟨⟨⟨h.o.1,by have:=h.o.2; omega⟩,h.il,h.m,h.L5,h.cl,h.row⟩,⟨fun f hf=>h.AB _ (AE.mpr ⟨f,hf,rfl⟩),fun f hf=>h.to _ (AE.mpr ⟨f,by rw [h.L5]; exact hf,rfl⟩),fun x hx=>⟨h.Ac _ (AE.mpr ⟨x,hx,rfl⟩),h.O0 x hx⟩,h.R6,h.yes⟩⟩
section
variable (p : PF)
def JG (x y e : Nat) : List (Nat × Nat × Nat):=M6 p x y++(CK p x y).take e
theorem aI (x y : Nat) : JG p x y 0=M6 p x y:=by simp [JG]
theorem bF (x y : Nat) : JG p x y (p.sz x y).toNat=M6 p x (y+1):=by rw [JG,Jg,List.take_of_length_le (by simp [CK])]
theorem eL {x y e : Nat} (he : e<(p.sz x y).toNat) : JG p x y (e+1)=JG p x y e++[(x,y,e)]:=by
 rw [JG,JG,Go.Proofs.Shf.C8 (CK p x y) (by simpa [CK] using he),List.append_assoc]
 congr 2
 rw [CK,Ab _ _ he]
def M9 (L : List (Nat × Nat × Nat)) : List (List Int):=L.map fun t=>[(t.1 : Int),(t.2.1 : Int),(t.2.2 : Int)]
def Xi (L : List (Nat × Nat × Nat)) : List Int:=(BR p).AB++L.map fun t=>(t.1 : Int)
def YO (L : List (Nat × Nat × Nat)) : List Int:=(BR p).to++L.map fun t=>p.src.AF+(t.2.1 : Int)
def oX (Bv GD Je a b i d : Nat) (Xs : List AV) (ob : Ob) (L : List (Nat × Nat × Nat)) : Ob :=
 (Bv,.cells 5 [iI (p.src.AF+p.AL.AF),.buf a (Xi p L).length,.buf b (YO p L).length,.buf i (BR p).Ac.length,.buf d Xs.length] 0)::(a,.cells 1 ((Xi p L).map iI) 0)::(b,.cells 1 ((YO p L).map iI) 0)::(Je,.cells 1 ((M9 L).map iL) 0)::(i,.cells 1 ((BR p).Ac.map iI) 0)::(d,.cells 1 Xs 0)::(ob++[(GD,.cells 5 Bl 0)])
theorem QA {x y z : Nat} (hx : x<p.src.AF.toNat) (hy : y<p.AL.AF.toNat) (hz : z<(p.sz x y).toNat) : (M9 (Cs p)).getD (BX p x y+z) default=[(x : Int),(y : Int),(z : Int)]:=by
 have:=KE hx hy hz;rw [Go.AW.gE,M9,List.getElem?_map,this]; rfl
theorem RT {x y z : Nat} (hx : x<p.src.AF.toNat) (hy : y<p.AL.AF.toNat) (hz : z<(p.sz x y).toNat) : indexOf (M9 (Cs p)) [(x : Int),(y : Int),(z : Int)]=((BX p x y+z : Nat) : Int):=by
 have hl : (M9 (Cs p)).length=(Cs p).length:=by rw [M9,List.length_map]
 refine Db (by rw [hl]; exact HR hx hy hz) (fun i hi e=>?_) (QA p hx hy hz)
 have CF:=HR (p:=p) hx hy hz
 obtain ⟨x',y',z',TM,yH,SW,rfl⟩:=OE (p:=p) (i:=i) (by omega);rw [QA p TM yH SW] at e;simp only [List.cons.injEq,Int.natCast_inj,and_true] at e
 obtain ⟨rfl,rfl,rfl⟩:=e;omega
def DN : Ax:=⟨p.src.AF+p.AL.AF,Bj p,Bp p,(BR p).Ac,if p.src.AF+p.AL.AF≤8∧Ap p≤40 then HX (Ap p) (Cv p) else (BR p).comp⟩
end
end Go.Shf
namespace Go.Proofs.Shf
open Go.AW Go.Proofs Go.Shf
set_option maxHeartbeats 1000000 in
theorem Nb (B : Nat) (p : PF) (hI : p.Is) : PB B 116 [.agg p.cells] (.agg (DN p).cells):=by
 refine ⟨fun H0=>xW.go fun _=>?_⟩
 have sh:=hI.SZ
 have so:=sh.sI.1.o
 have to:=sh.tI.1.o
 have sm:=sh.sI.1.m
 have tm:=sh.tI.1.m
 have Ww : Ag p=p.src.AB.length+p.AL.AB.length:=rfl
 have s6 : Ap p=Ag p+(Cs p).length:=rfl
 have Nu:=TW sh
 have o : A9 H0 H0 []:=.nil _;refine tt ?_;refine Ai o fun GD H o=>tt ?_;refine Qd (fun σ H=>σ=[(1,some (.ptr p.cells)),(2,some (.ref GD 0)),(3,some (.ptr p.src.cells)),(4,some (.ptr p.AL.cells))]∧A9 H0 H [(GD,.cells 5 Bl 0)]) ?_ ?_
 ·refine tt ?_;refine ⟨?_, ?_⟩
  ·refine Ai o fun C9 H o=>tt ?_;refine Ai o fun B1 H o=>tt ?_;refine sw o.swap fun H o=>tt ?_;refine sw o.swap fun H o=>tt ?_;refine Ca 4 o rfl fun H o=>?_;refine Ca 3 o rfl fun H o=>?_;exact Vg [1,2,3,4] ⟨rfl,o⟩
  ·refine Ai o fun B1 H o=>tt ?_;refine Ai o fun C9 H o=>tt ?_;refine sw o fun H o=>tt ?_;refine sw o.swap fun H o=>tt ?_;refine Ca 4 o rfl fun H o=>?_;refine Ca 3 o rfl fun H o=>?_;exact Vg [1,2,3,4] ⟨rfl,o⟩
 rintro σ H ⟨rfl,o⟩;refine tt ?_;refine ID.go' (MO B 40 40 (by omega) p.src p.AL (Qb sh.sI.1) (Qb sh.tI.1)) o fun X1 p1 H ⟨a,b,i,d,Xs,ob,e1,hX,e2⟩ o _=>?_;subst e1 e2;refine tt ?_;refine Ai o fun Bv H o=>?_
 have Iw:=hX.len
 generalize Ee : (ob : Ob)=obb at *;refine tt ?_;refine sw o fun H o=>?_
 have bfl : (BW p.src p.AL).AB.length=Ag p:=H6 (p:=p);refine tt ?_;refine AH o (by simp) (tt ?_);refine Az iL o fun Je H o=>?_;rw [show (BW p.src p.AL).AF=p.src.AF+p.AL.AF from rfl] at o
 replace o : A9 H0 H (oX p Bv GD Je a b i d Xs obb (M6 p 0 0)):=o.perm (by rw [oX,Mo,M9,Xi,YO]; simp only [List.map_nil,List.append_nil,BR]; exact (NU fun x=>by (try dsimp only); simp only [List.append_eq,List.count_append,List.count_cons,List.count_nil,List.map_nil,List.length_nil,List.length_append,List.length_cons,List.length_set,Nat.zero_add,List.nil_append,iI,iL]; omega));refine tt ?_;refine AD [1,2,3,4,5,6,7] (G:=Nat × Nat × Nat) (fun k g=>[(8,some (.buf g.1 (M6 p k 0).length)),(9,some (.int .i64 (k : Int)))]) (fun k g H=>A9 H0 H (oX p Bv GD g.1 g.2.1 g.2.2 i d Xs obb (M6 p k 0))) p.src.AF.toNat (Je,a,b) o rfl ?_;clear o
 rintro x ⟨Je,a,b⟩ H hx o;dsimp only at o;refine tt ?_;apply bk <;> intro h1
 ·have AU:=A6 h1
  have w1:=ws x;refine tt ?_;refine AD [1,2,3,4,5,6,7,9] (G:=Nat × Nat × Nat) (fun k g=>[(8,some (.buf g.1 (M6 p x k).length)),(10,some (.int .i64 (k : Int)))]) (fun k g H=>A9 H0 H (oX p Bv GD g.1 g.2.1 g.2.2 i d Xs obb (M6 p x k))) p.AL.AF.toNat (Je,a,b) o rfl ?_;clear o
  rintro y ⟨Je,a,b⟩ H hy o;dsimp only at o;refine tt ?_;apply bk <;> intro h2
  ·have Aq:=A6 h2
   have w2:=ws y
   have W8 : p.src.ES x:=⟨by omega,by omega⟩
   have L9 : p.AL.ES y:=⟨by omega,by omega⟩
   have zi:=sh.WK W8
   have zj:=sh.Ws W8 L9;rw [AR] at zj
   have q:=(sh.rl _ W8).2 _ L9
   have q2 : p.sz x y=(p.AK.getD x default).getD y default:=by rw [PF.sz,AR,AR]
   rw [← aI p x y] at o ⊢;refine tt ?_;refine AD [1,2,3,4,5,6,7,9,10] (G:=Nat × Nat × Nat) (fun k g=>[(8,some (.buf g.1 (JG p x y k).length)),(11,some (.int .i64 (k : Int)))]) (fun k g H=>A9 H0 H (oX p Bv GD g.1 g.2.1 g.2.2 i d Xs obb (JG p x y k))) (p.sz x y).toNat (Je,a,b) o rfl ?_;clear o
   rintro z ⟨Je,a,b⟩ H hz o;dsimp only at o;refine tt ?_;refine ⟨by simpa using zi.2,by simpa using zj.2, ?_⟩;rw [← q2];refine tt ?_;apply bk <;> intro h3
   ·have BH:=A6 h3
    have w3:=ws z
    have wy : IntKind.i64.wrap (p.src.AF+(y : Int))=p.src.AF+(y : Int):=wrap_i64 (by omega) (by omega)
    have lE : (JG p x y z).length≤4200:=by
     have:=N4 p (x:=x) (y:=y) sh (by omega) (by omega);rw [JG,List.length_append,List.length_take,DT]; omega
    have eS:=eL p (x:=x) (y:=y) (e:=z) (by omega)
    have lF : (Xi p (JG p x y z)).length≤4300:=by have:=H6 (p:=p); rw [Xi,List.length_append,List.length_map]; omega
    have lT : (YO p (JG p x y z)).length≤4300:=by have:=H4 sh; rw [YO,List.length_append,List.length_map]; omega
    have eR : M9 (JG p x y z)++[[(x : Int),(y : Int),(z : Int)]]=M9 (JG p x y (z+1)):=by rw [eS,M9,M9,List.map_append]; rfl
    have eF : Xi p (JG p x y z)++[(x : Int)]=Xi p (JG p x y (z+1)):=by rw [eS,Xi,Xi,List.map_append,List.append_assoc]; rfl
    have eT : YO p (JG p x y z)++[p.src.AF+(y : Int)]=YO p (JG p x y (z+1)):=by rw [eS,YO,YO,List.map_append,List.append_assoc]; rfl
    have lR : (M9 (JG p x y z)).length=(JG p x y z).length:=by rw [M9,List.length_map]
    have lR2 : (M9 (JG p x y (z+1))).length=(JG p x y (z+1)).length:=by rw [M9,List.length_map]
    rw [oX] at o;refine tt ?_
    have oR : A9 H0 H ((Je,.cells 1 ((M9 (JG p x y z)).map iL) 0)::((Bv,.cells 5 [iI (p.src.AF+p.AL.AF),.buf a (Xi p (JG p x y z)).length,.buf b (YO p (JG p x y z)).length,.buf i (BR p).Ac.length,.buf d Xs.length] 0)::(a,.cells 1 ((Xi p (JG p x y z)).map iI) 0)::(b,.cells 1 ((YO p (JG p x y z)).map iI) 0)::(i,.cells 1 ((BR p).Ac.map iI) 0)::(d,.cells 1 Xs 0)::(obb++[(GD,.cells 5 Bl 0)]))):=o.pm;clear o;refine Ae (f:=iL) [(x : Int),(y : Int),(z : Int)] oR rfl lR.symm (by rw [lR]; simp only [AN]; omega) fun Je H o=>?_;rw [eR] at o ⊢;rw [lR2];refine tt ?_;refine AH o.tl (by simp) (tt ?_);refine Ae (f:=iI) (out:=Xi p (JG p x y z)) (x : Int) (o.pull [_,_]) rfl rfl (by simp only [AN]; omega) fun a H o=>?_;rw [eF] at o ⊢;simp only [List.cons_append,List.nil_append] at o;refine tt ?_;refine sw (o.pull [_,_]) fun H o=>?_;simp only [List.cons_append,List.nil_append] at o;refine tt ?_;refine AH o (by simp) ?_;refine tw wy ?_;refine Ae (f:=iI) (out:=YO p (JG p x y z)) (p.src.AF+(y : Int)) (o.pull [_,_,_]) rfl rfl (by simp only [AN]; omega) fun b H o=>?_;rw [eT] at o ⊢;simp only [List.cons_append,List.nil_append] at o;refine tt ?_;refine sw (o.pull [_]) fun H o=>?_;simp only [List.cons_append,List.nil_append] at o;refine tw w3 ?_;refine A4 (Je,a,b) (by omega) ?_ rfl;exact o.perm (by rw [oX]; exact (NU fun x=>by (try dsimp only); simp only [List.append_eq,List.count_append,List.count_cons,List.count_nil,List.map_nil,List.length_nil,List.length_append,List.length_cons,List.length_set,Nat.zero_add,List.nil_append,iI,iL]; omega))
   ·have MP:=A7 h3
    obtain rfl : z=(p.sz x y).toNat:=by omega
    rw [bF] at o ⊢;refine tw w2 ?_;exact A4 (Je,a,b) (by omega) o rfl
  ·have xB:=A7 h2
   obtain rfl : y=p.AL.AF.toNat:=by omega
   rw [PL] at o ⊢;refine tw w1 ?_;exact A4 (Je,a,b) (by omega) o rfl
 ·have Sd:=A7 h1
  obtain rfl : x=p.src.AF.toNat:=by omega
  rw [Jv] at o ⊢
  have eF : Xi p (Cs p)=Bj p:=rfl
  have eT : YO p (Cs p)=Bp p:=rfl;rw [oX,eF,eT] at o
  have lR : (M9 (Cs p)).length=(Cs p).length:=by rw [M9,List.length_map]
  have cF:=Ci (p:=p)
  have cT:=Ew sh
  replace o : A9 H0 H ((Bv,.cells 5 [iI (p.src.AF+p.AL.AF),.buf a (Bj p).length,.buf b (Bp p).length,.buf i (BR p).Ac.length,.buf d Xs.length] 0)::(a,.cells 1 ((Bj p).map iI) 0)::(b,.cells 1 ((Bp p).map iI) 0)::(i,.cells 1 ((BR p).Ac.map iI) 0)::(d,.cells 1 Xs 0)::(obb++[(Je,.cells 1 ((M9 (Cs p)).map iL) 0),(GD,.cells 5 Bl 0)])):=o.pm;refine EY hX o fun H o=>?_
  have hS : oI iL H0 H [(Bv,.cells 5 (Ax.cells ⟨p.src.AF+p.AL.AF,Bj p,Bp p,(BR p).Ac,(BR p).comp⟩) 0),(GD,.cells 5 Bl 0)] (.buf Je (Cs p).length) (M9 (Cs p)):=.inr ⟨Je,by rw [lR],o.swap⟩;refine cJ 8 hS rfl fun H o=>AX ?_;clear hS hX Ee;refine tt ?_;refine AO o (by simp [Ax.cells]) (tt ?_);refine (N8 B ⟨p.src.AF+p.AL.AF,Bj p,Bp p,(BR p).Ac,(BR p).comp⟩).go fun _=>?_
  by_cases hb : p.src.AF+p.AL.AF≤8∧Ap p≤40
  rotate_left
  ·rw [Ad (show ¬ (_∧(Bj p).length≤40) by rw [cF]; exact hb)];refine tt ?_;refine AO o (by simp [Ax.cells]) (tt ?_);refine AS o.swap (by simp [Bl,Ax.cells]) (by (try simp only [go_sem]); (try simp)) (by first | (simp only [go_sem]; done) | ((try simp only [go_sem]); simp [AV.one,Ay])) fun H o=>?_;simp only [Bl] at o;simp only [Gv,Ej,List.set_cons_zero,List.set_cons_succ] at o;refine tt ?_;rw [o.rc 5 0 (by simp)];refine tt ?_;exact A5 (by rw [DN,if_neg hb]) o.sub
  rw [Av (show (_∧(Bj p).length≤40) by rw [cF]; exact hb)]
  obtain ⟨q0,pD⟩ : ∃ q0 : Ax,q0=⟨p.src.AF+p.AL.AF,Bj p,Bp p,(BR p).Ac,(BR p).comp⟩:=⟨_,rfl⟩;rw [← pD] at o;rw [bfl]
  have hT8 : mL iL (M9 (Cs p))=B5 (M9 (Cs p)):=rfl
  have Jc : (HX (Ap p) (Cv p)).length=Ap p:=GL _ _;refine tt ?_;refine Az iL o fun TQ H o=>tt ?_;refine AD [1,2,3,5,6,7,8] (G:=Nat × List (List Int)) (fun k g=>[(12,some (.buf g.1 g.2.length)),(13,some (.int .i64 (k : Int)))]) (fun k g H=>g.2=(HX (Ap p) (Cv p)).take k∧A9 H0 H [(g.1,.cells 1 (g.2.map iL) 0),(Bv,.cells 5 q0.cells 0),(GD,.cells 5 Bl 0)]) (Ap p) (TQ,[]) ⟨by simp,o⟩ rfl ?_;clear o
  rintro f ⟨TQ,out⟩ H hf ⟨B2,o⟩;dsimp only at B2 o
  have KU : out.length=f:=by rw [B2,List.length_take]; omega
  have qF : q0.cells.getD 1 nv=iL (Bj p):=by rw [pD]; rfl
  have qT : q0.cells.getD 2 nv=iL (Bp p):=by rw [pD]; rfl
  have qC : q0.cells.getD 4 nv=B5 (BR p).comp:=by rw [pD]; rfl
  have ql : q0.cells.length=5:=rfl;refine tt ?_;refine AH o.tl (by rw [ql]; omega) ?_;rw [qF];refine tt ?_;apply bk <;> intro h2
  ·have Aq : f<Ap p:=by have:=A6 h2; omega
   have w2:=ws f;refine tt ?_;refine Az iI o fun Bt H o=>tt ?_;refine AD [1,2,3,5,6,7,8,12,13] (G:=Nat × List Int) (fun k g=>[(14,some (.buf g.1 g.2.length)),(15,some (.int .i64 (k : Int)))]) (fun k g H=>g.2=(List.range k).map (Cv p f)∧A9 H0 H [(g.1,.cells 1 (g.2.map iI) 0),(TQ,.cells 1 (out.map iL) 0),(Bv,.cells 5 q0.cells 0),(GD,.cells 5 Bl 0)]) (Ap p) (Bt,[]) ⟨by simp,o⟩ rfl ?_;clear o
   rintro g ⟨Bt,row⟩ H hg ⟨Bf,o⟩;dsimp only at Bf o
   have WA : row.length=g:=by rw [Bf]; simp
   refine tt ?_;refine AH o.tl.tl (by rw [ql]; omega) ?_;rw [qF];refine tt ?_;apply bk <;> intro h3
   ·have BH : g<Ap p:=by have:=A6 h3; omega
    have w3:=ws g;refine tt ?_;refine Qd (fun σ H'=>H'=H∧σ=[(1,some (.ptr p.cells)),(2,some (.ref GD 0)),(3,some (.ptr p.src.cells)),(5,some (.ref Bv 0)),(6,some (iI p.src.AB.length)),(7,some (iI (Ag p))),(8,some (B5 (M9 (Cs p)))),(12,some (.buf TQ out.length)),(13,some (iI f)),(14,some (.buf Bt row.length)),(15,some (iI g)),(16,some (iI (Cv p f g)))]) ?_ ?_
    ·refine tt ?_;refine AH o.tl.tl (by rw [ql]; omega) ?_;rw [qT];refine tt ?_;refine ⟨by omega,AH o.tl.tl (by rw [ql]; omega) ?_⟩;rw [qF];refine tt ?_;refine ⟨by omega, ?_⟩
     by_cases e : (Bp p).getD f default=(Bj p).getD g default
     rotate_left
     ·have dn : (decide ((Bp p).getD f default=(Bj p).getD g default))=false:=decide_eq_false e
      have en:=KF sh e;refine tw dn ?_;exact Vg [1,2,3,5,6,7,8,12,13,14,15,16] ⟨rfl,by rw [en]; rfl⟩
     have dy : (decide ((Bp p).getD f default=(Bj p).getD g default))=true:=decide_eq_true e
     have en : ¬ (Bp p).getD f default≠(Bj p).getD g default:=fun h=>h e
     have bcl : (BR p).comp.length=Ag p:=by rw [BR,BW,GL]; rfl
     by_cases Qy : f<Ag p
     ·have d1 : decide (f<Ag p)=true:=decide_eq_true Qy
      by_cases QM : g<Ag p
      ·have d2 : decide (g<Ag p)=true:=decide_eq_true QM
       have brl : ((BR p).comp.getD f default).length=Ag p:=by rw [BR,BW]; exact Hq Qy
       have ev : Cv p f g=((BR p).comp.getD f default).getD g default:=by rw [Cv,if_neg en,if_pos Qy,if_pos QM,B7]
       try simp only [go_sem,↓reduceIte,reduceEqDiff,reduceAdd,reduceMul,reduceLeDiff,reduceLT,dy,d1,d2]
       refine AH o.tl.tl (by rw [ql]; omega) ?_;rw [qC];refine tt ?_;refine ⟨by omega,by omega, ?_⟩;exact Vg [1,2,3,5,6,7,8,12,13,14,15,16] ⟨rfl,by rw [ev]; rfl⟩
      ·have d2 : decide (g<Ag p)=false:=decide_eq_false QM
       rcases meet sh Aq BH e with ⟨k1,k2,e'⟩ | ⟨a',b',ha,LX,rfl,rfl,e'⟩ | ⟨x',y,z,k1,TM,hy,hz,rfl,e'⟩ | ⟨x',y,z,b',LX,TM,hy,hz,rfl,rfl,e'⟩
       ·omega
       ·omega
       ·have rf:=GH sh k1
        obtain ⟨u,eu⟩ : ∃ u : Nat,p.src.AB.getD f default=(u : Int):=⟨_,(Int.toNat_of_nonneg rf.1.1).symm⟩
        have hu : u<p.src.AF.toNat:=by omega
        obtain ⟨w,hw,Dp,ew⟩:=Eg sh k1 TM hy hz e';rw [eu,Int.toNat_natCast] at Dp ew
        have F1 : (Bj p).getD f default=(u : Int):=by rw [DQ sh k1,eu]
        have S2 : IntKind.i64.wrap (((Ag p+(BX p x' y+z) : Nat) : Int) - (Ag p : Int))=((BX p x' y+z : Nat) : Int):=by rw [wrap_i64 (by omega) (by omega)]; omega
        have S4 : IntKind.i64.wrap ((Ag p : Int)+((BX p u y+w : Nat) : Int))=((Ag p+(BX p u y+w) : Nat) : Int):=by
         have:=HR hu hy Dp;rw [wrap_i64 (by omega) (by omega)]; omega
        have R1:=QA p TM hy hz
        have fi:=RT p hu hy Dp
        have lt:=HR TM hy hz
        have b1:=sh.e9 (a:=(f : Int)) ⟨by omega,by simpa using k1⟩
        have b2:=sh.Uv (a:=(f : Int)) (y:=(y : Int)) ⟨by omega,by simpa using k1⟩ ⟨by omega,by omega⟩
        have b3:=Fw sh k1 hy
        have W1 : ((p.before.getD f default).getD y default).getD z default=(w : Int):=by rw [← hw,PF.bf,AR,AR,AR]
        rw [AR] at b2;rw [PF.bf,AR,AR,e'] at b3;try simp only [go_sem,↓reduceIte,reduceEqDiff,reduceAdd,reduceMul,reduceLeDiff,reduceLT,dy,d1,d2,S2]
        refine ⟨by omega, ?_⟩;rw [R1];try simp only [go_sem,↓reduceIte,reduceEqDiff,reduceAdd,reduceMul,reduceLeDiff,reduceLT,dy,d1,d2,S2]
        refine AH o.tl.tl (by rw [ql]; omega) ?_;rw [qF]
        have I1 : ix [(x' : Int),(y : Int),(z : Int)] 1=(y : Int):=rfl
        have I2 : ix [(x' : Int),(y : Int),(z : Int)] 2=(z : Int):=rfl;try simp only [go_sem,↓reduceIte,reduceEqDiff,reduceAdd,reduceMul,reduceLeDiff,reduceLT,F1,I1,I2,W1]
        refine ⟨by omega,by decide,by omega,by decide,by simpa using b2.2,by decide,by rw [b3]; exact hz,_,(F8 B (M9 (Cs p)) [(u : Int),(y : Int),(w : Int)]).run, ?_⟩;rw [fi];try simp only [go_sem,↓reduceIte,reduceEqDiff,reduceAdd,reduceMul,reduceLeDiff,reduceLT,S4]
        exact Vg [1,2,3,5,6,7,8,12,13,14,15,16] ⟨rfl,by rw [ew]; rfl⟩
       ·omega
     ·have d1 : decide (f<Ag p)=false:=decide_eq_false Qy
      rcases meet sh Aq BH e with ⟨k1,k2,e'⟩ | ⟨a',b',ha,LX,rfl,rfl,e'⟩ | ⟨x',y,z,k1,TM,hy,hz,rfl,e'⟩ | ⟨x',y,z,b',LX,TM,hy,hz,rfl,rfl,e'⟩
      ·omega
      ·omega
      ·omega
      ·have rb:=Fc sh LX
       obtain ⟨v,ev⟩ : ∃ v : Nat,p.AL.to.getD b' default=(v : Int):=⟨_,(Int.toNat_of_nonneg rb.2.1).symm⟩
       have hv : v<p.AL.AF.toNat:=by omega
       obtain ⟨w,hw,Dp,ew⟩:=Er sh TM hy hz LX e';rw [ev,Int.toNat_natCast] at Dp ew
       have T1 : IntKind.i64.wrap ((Bp p).getD (p.src.AB.length+b') default - p.src.AF)=(v : Int):=by rw [Dd sh LX,ev,wrap_i64 (by omega) (by omega)]; omega
       have S2 : IntKind.i64.wrap (((Ag p+(BX p x' y+z) : Nat) : Int) - (Ag p : Int))=((BX p x' y+z : Nat) : Int):=by rw [wrap_i64 (by omega) (by omega)]; omega
       have S4 : IntKind.i64.wrap ((Ag p : Int)+((BX p x' v+w : Nat) : Int))=((Ag p+(BX p x' v+w) : Nat) : Int):=by
        have:=HR TM hv Dp;rw [wrap_i64 (by omega) (by omega)]; omega
       have S5 : IntKind.i64.wrap (((p.src.AB.length+b' : Nat) : Int) - (p.src.AB.length : Int))=(b' : Int):=by rw [wrap_i64 (by omega) (by omega)]; omega
       have R1:=QA p TM hy hz
       have fi:=RT p TM hv Dp
       have lt:=HR TM hy hz
       have b1:=sh.cK (b:=(b' : Int)) ⟨by omega,by simpa using LX⟩
       have b2:=sh.Uj (b:=(b' : Int)) (x:=(x' : Int)) ⟨by omega,by simpa using LX⟩ ⟨by omega,by omega⟩
       have b3:=Fp sh LX TM
       have W1 : ((p.behind.getD b' default).getD x' default).getD z default=(w : Int):=by rw [← hw,PF.bh,AR,AR,AR]
       rw [AR] at b2;rw [PF.bh,AR,AR,e'] at b3;try simp only [go_sem,↓reduceIte,reduceEqDiff,reduceAdd,reduceMul,reduceLeDiff,reduceLT,dy,d1,S2]
       rw [R1];refine ⟨by omega,⟨by decide,by show Int.toNat 0<3; decide⟩, ?_⟩;refine AH o.tl.tl (by rw [ql]; omega) ?_;rw [qT]
       have I0 : ix [(x' : Int),(y : Int),(z : Int)] 0=(x' : Int):=rfl
       have I2 : ix [(x' : Int),(y : Int),(z : Int)] 2=(z : Int):=rfl;try simp only [go_sem,↓reduceIte,reduceEqDiff,reduceAdd,reduceMul,reduceLeDiff,reduceLT,T1,S5,I0,I2,W1]
       refine ⟨by omega,by omega,by decide,by simpa using b2.2,by decide,by rw [b3]; exact hz,_,(F8 B (M9 (Cs p)) [(x' : Int),(v : Int),(w : Int)]).run, ?_⟩;rw [fi];try simp only [go_sem,↓reduceIte,reduceEqDiff,reduceAdd,reduceMul,reduceLeDiff,reduceLT,S4]
       exact Vg [1,2,3,5,6,7,8,12,13,14,15,16] ⟨rfl,by rw [ew]; rfl⟩
    ·rintro σ H ⟨rfl,rfl⟩;refine tt ?_;refine Ae (f:=iI) (Cv p f g) o rfl rfl (by rw [WA]; simp only [AN]; omega) fun Bt H o=>?_;refine tw w3 ?_;exact A4 (Bt,_) (by omega) ⟨by rw [Bf,List.range_succ]; simp,o⟩ rfl
   ·have MP : ¬ g<Ap p:=by have:=A7 h3; omega
    obtain rfl : g=Ap p:=by omega
    refine tt ?_;refine Am o rfl fun H o=>tt ?_;refine Ae (f:=iL) row o rfl rfl (by rw [KU]; simp only [AN]; omega) fun TQ H o=>?_
    have er : (HX (Ap p) (Cv p)).getD f default=row:=by rw [Bf,HX,Ab _ _ Aq]
    refine tw w2 ?_;exact A4 (TQ,_) (by omega) ⟨by rw [B2,← er]; exact (C8 _ (by omega)).symm,o⟩ rfl
  ·have xB : ¬ f<Ap p:=by have:=A7 h2; omega
   obtain rfl : f=Ap p:=by omega
   refine tt ?_;refine Am o rfl fun H o=>?_;rw [B2,List.take_of_length_le (by omega)];refine tt ?_;refine AS o (by rw [ql]; simp) (by (try simp only [go_sem]); (try simp)) (by first | (simp only [go_sem]; done) | ((try simp only [go_sem]); simp [AV.one,Ay])) fun H o=>?_;subst pD;simp only [Ax.cells] at o;simp only [Gv,Ej,List.set_cons_zero,List.set_cons_succ] at o
   have o : A9 H0 H ((Bv,.cells 5 (DN p).cells 0)::[(GD,.cells 5 Bl 0)]):=by
    rw [DN,if_pos hb]; exact o
   refine tt ?_;refine AO o (by simp [Ax.cells]) (tt ?_);refine AS o.swap (by simp [Bl,Ax.cells]) (by (try simp only [go_sem]); (try simp)) (by first | (simp only [go_sem]; done) | ((try simp only [go_sem]); simp [AV.one,Ay])) fun H o=>?_;simp only [Bl] at o;simp only [Gv,Ej,List.set_cons_zero,List.set_cons_succ] at o;refine tt ?_;rw [o.rc 5 0 (by simp [Ax.cells])];refine tt ?_;exact A5 rfl o.sub
end Go.Proofs.Shf
namespace Go.Shf
open Go.AW
open Classical in
noncomputable def RK (c : Ax) : AV:=.CQ [.agg (if c.AF≤8∧c.AB.length≤40 then c.cells else Bl),iI (if c.AF≤8∧c.AB.length≤40 then 0 else 3)]
end Go.Shf
namespace Go.Proofs.Shf
open Go.AW Go.Proofs Go.Shf
theorem Sy (B : Nat) (c : Ax) : PB B 115 [.agg c.cells] (RK c):=by
 refine ⟨fun H0=>nj.go fun _=>?_⟩
 have o : A9 H0 H0 []:=.nil _;refine tt ?_;refine Ai o fun GD H o=>tt ?_;refine (N8 B c).go fun _=>?_
 by_cases hb : c.AF≤8∧c.AB.length≤40
 ·rw [Av hb];refine tt ?_;refine AS o (by simp [Ax.cells]) (by (try simp only [go_sem]); (try simp)) (by first | (simp only [go_sem]; done) | ((try simp only [go_sem]); simp [AV.one,Ay])) fun H o=>?_;simp only [Gv,Ej,List.set_cons_zero,List.set_cons_succ] at o;refine tt ?_;rw [o.rc 5 0 (by simp)];refine tt ?_;exact A5 (by rw [RK,if_pos hb,if_pos hb]; rfl) o.sub
 ·rw [Ad hb];refine tt ?_;refine sw o fun H o=>tt ?_;rw [o.rc 5 0 (by simp)];refine tt ?_;exact A5 (by rw [RK,if_neg hb,if_neg hb]; rfl) o.sub
theorem Ly (B : Nat) (p : PF) : PB B 34 [.agg p.cells] (Ec p):=by
 refine ⟨fun H0=>c34.go fun _=>?_⟩
 have o : A9 H0 H0 []:=.nil _;refine tt ?_;refine Ai o fun GD H o=>tt ?_;refine (Lm B p).go fun _=>?_
 by_cases hI : p.Is
 rotate_left
 ·rw [Ad hI];refine tt ?_;refine sw o fun H o=>tt ?_;rw [o.rc 5 0 (by simp)];refine tt ?_;exact A5 (by rw [Ec,Mg hI]; rfl) o.sub
 rw [Av hI];refine tt ?_;refine (Nb B p hI).go fun _=>tt ?_;refine (Sy B (DN p)).go fun _=>?_
 have cF:=Ci (p:=p)
 by_cases hb : p.src.AF+p.AL.AF≤8∧Ap p≤40
 ·have LX : (DN p).AF≤8∧(DN p).AB.length≤40:=by rw [show (DN p).AB.length=Ap p from cF]; exact hb
  have e : DN p=BA p:=by rw [DN,if_pos hb,BA]
  rw [RK,if_pos LX,if_pos LX,e];refine tt ?_;refine AS o (by simp [Ax.cells]) (by (try simp only [go_sem]); (try simp)) (by first | (simp only [go_sem]; done) | ((try simp only [go_sem]); simp [AV.one,Ay])) fun H o=>?_;simp only [Gv,Ej,List.set_cons_zero,List.set_cons_succ] at o;refine tt ?_;rw [o.rc 5 0 (by simp)];refine tt ?_;exact A5 (by rw [Ec,OI hI hb]; rfl) o.sub
 ·have LX : ¬ ((DN p).AF≤8∧(DN p).AB.length≤40):=by rw [show (DN p).AB.length=Ap p from cF]; exact hb
  rw [RK,if_neg LX,if_neg LX];unfold Bl;refine tt ?_;refine sw o fun H o=>tt ?_;rw [o.rc 5 0 (by simp)];refine tt ?_;exact A5 (by rw [Ec,I8 hI hb]; rfl) o.sub
def OC (c : Ax) (L : List Int) (k : Nat) : List Int:=GI (fun f=>decide (c.AB.getD f default∈L) && decide (c.to.getD f default∈L)) k
theorem X6 (c : Ax) (L : List Int) (k : Nat) : (OC c L k).length≤k:=IA _ _
theorem iN {c : Ax} {L : List Int} {k : Nat} (h1 : c.AB.getD k default∈L) (h2 : c.to.getD k default∈L) : OC c L (k+1)=OC c L k++[(k : Int)]:=YP (by rw [decide_eq_true h1,decide_eq_true h2]; rfl)
theorem WV {c : Ax} {L : List Int} {k : Nat} (h : ¬ (c.AB.getD k default∈L∧c.to.getD k default∈L)) : OC c L (k+1)=OC c L k:=UI (by
 rw [Bool.and_eq_false_iff]
 by_cases h1 : c.AB.getD k default∈L
 ·exact .inr (decide_eq_false fun h2=>h ⟨h1,h2⟩)
 ·exact .inl (decide_eq_false h1))
theorem Sn (B : Nat) (c : Ax) (hc : c.Shape) (L : List Int) : PB B 118 [.ptr c.cells,iL L] (iL (Bs c L)):=by
 refine ⟨fun H0=>wY.go fun _=>?_⟩
 have o : A9 H0 H0 []:=.nil _
 have hm:=hc.m
 have Jc:=hc.L5;refine tt ?_;refine Az iI o fun id H o=>tt ?_
 refine AD [0,1,12] (G:=Nat × List Int) (fun k g=>[(5,some (.buf g.1 g.2.length)),(13,some (.int .i64 (k : Int)))])
  (fun k g H=>g.2=OC c L k∧A9 H0 H [(g.1,.cells 1 (g.2.map iI) 0)]) c.AB.length (id,[]) ⟨rfl,o⟩ rfl ?_
 clear o
 rintro k ⟨id,out⟩ H hk ⟨B2,o⟩;dsimp only at B2 o
 have s9 : out.length≤k:=by rw [B2]; exact X6 _ _ _
 refine tt ?_;apply bk <;> intro h1
 ·have AU : k<c.AB.length:=A6 h1
  have w1:=ws k;refine tt ?_;refine ⟨AU,(Ys B L _).go fun _=>?_⟩
  by_cases e1 : c.AB.getD k default∈L
  ·rw [Av e1];refine tt ?_;refine ⟨by omega,(Ys B L _).go fun _=>?_⟩
   by_cases e2 : c.to.getD k default∈L
   ·rw [Av e2];refine tt ?_;refine Ae (k : Int) o rfl rfl (by simp only [AN]; omega) fun z H o=>?_;refine tw w1 ?_;exact A4 (z,out++[(k : Int)]) AU ⟨by rw [B2,iN e1 e2],o⟩ rfl
   ·rw [Ad e2];refine tw w1 ?_;exact A4 (id,out) AU ⟨by rw [B2,WV fun h=>e2 h.2],o⟩ rfl
  ·rw [Ad e1];refine tw w1 ?_;exact A4 (id,out) AU ⟨by rw [B2,WV fun h=>e1 h.1],o⟩ rfl
 ·have AU:=A7 h1;refine tt ?_;refine Am o rfl fun H o=>?_;exact A5 (by rw [B2,show k=c.AB.length by omega]; rfl) o.sub
noncomputable def LQ (n : Nat) (L : List Int) : List Bool:=(List.range n).map fun f : Nat=>dec ((f : Int)∈L)
theorem j2 {n : Nat} {L : List Int} {f : Nat} (hf : f<n) : (LQ n L).getD f default=dec ((f : Int)∈L):=Ab _ _ hf
theorem RS (n : Nat) (L : List Int) : (LQ n L).length=n:=by simp [LQ]
theorem eV {n : Nat} {L : List Int} {k : Nat} (hk : k<L.length) (h : 0≤L.getD k default) : (LQ n (L.take k)).set (L.getD k default).toNat true=LQ n (L.take (k+1)):=by
 refine List.ext_getElem (by simp [LQ]) fun i h1 h2=>?_
 have hi : i<n:=by simpa [LQ] using h2
 simp only [LQ,take_one _ hk,List.getElem_set,List.getElem_map,List.getElem_range,List.mem_append,List.mem_singleton]
 by_cases e : (L.getD k default).toNat=i
 ·rw [if_pos e,Av (.inr (by omega))]
 ·rw [if_neg e];exact BJ ⟨.inl,fun h=>h.elim (fun h=>h) fun h=>absurd (by omega) e⟩
theorem ZU (B : Nat) (c : Ax) (hm : c.AB.length≤40) (L : List Int) (hL : ∀ f,f∈L→0≤f∧f.toNat<c.AB.length) : PB B 221 [.ptr c.cells,iL L] (bL (LQ c.AB.length L)):=by
 refine ⟨fun H0=>wW.go fun ⟨_,HB,_⟩=>?_⟩
 have TY:=AZ HB;simp only [AN] at TY
 have o : A9 H0 H0 []:=.nil _;refine tt ?_;refine (GO B c).go fun _=>tt ?_;refine ⟨⟨by omega,by simp only [AN]; omega⟩,EI AV.bool false rfl o fun id H o=>?_⟩;refine tt ?_
 refine AD [5,11,12] (G:=List Bool) (fun k _=>[(13,some (.int .i64 (k : Int)))])
  (fun k A H=>A=LQ c.AB.length (L.take k)∧A9 H0 H [(id,.cells 1 (A.map AV.bool) 0)]) L.length (List.replicate c.AB.length false) ⟨?_,o⟩ rfl ?_
 ·refine List.ext_getElem (by simp [LQ]) fun i h1 h2=>?_
  simp [LQ,Ad]
 clear o
 rintro k A H hk ⟨hA,o⟩
 have L7 : A.length=c.AB.length:=by rw [hA,RS]
 refine tt ?_;apply bk <;> intro h1
 ·have AU : k<L.length:=A6 h1
  have w1:=ws k
  have hv:=hL _ (AE.mpr ⟨k,AU,rfl⟩);refine tt ?_;refine ⟨AU,hv, ?_⟩;refine BT (f:=AV.bool) true o rfl (by omega) fun H o=>?_;refine tw w1 ?_;exact A4 (A.set (L.getD k default).toNat true) AU ⟨by rw [hA,eV AU hv.1],o⟩ rfl
 ·have AU : k=L.length:=by have:=A7 h1; omega
  refine tt ?_;refine Am o (by rw [L7]) fun H o=>?_;exact A5 (by rw [hA,AU,List.take_of_length_le (Nat.le_refl _)]) o.sub
noncomputable def Jz (n : Nat) (T : List Int) : List Int:=open Classical in (List.range n).map fun f : Nat=>if (f : Int)∈T then indexOf T f else 0
theorem Rk (n : Nat) (T : List Int) : (Jz n T).length=n:=by simp [Jz]
theorem Qv (n : Nat) : Jz n []=List.replicate n 0:=by
 refine List.ext_getElem (by simp [Jz]) fun i h1 h2=>?_
 simp [Jz]
theorem ME {n : Nat} {T : List Int} {f : Int} (hf : 0≤f∧f.toNat<n) (h : f∈T) : (Jz n T).getD f.toNat default=indexOf T f:=by
 have e : ((f.toNat : Nat) : Int)=f:=Int.toNat_of_nonneg hf.1;rw [Jz,Ab _ _ hf.2,e,if_pos h]
theorem Qm {n : Nat} {T : List Int} {v : Int} (hv : 0≤v∧v.toNat<n) (h : v ∉ T) : (Jz n T).set v.toNat T.length=Jz n (T++[v]):=by
 have e : ((v.toNat : Nat) : Int)=v:=Int.toNat_of_nonneg hv.1;refine List.ext_getElem (by simp [Jz]) fun i h1 h2=>?_;simp only [Jz,List.getElem_set,List.getElem_map,List.getElem_range]
 by_cases q : v.toNat=i
 ·subst q;rw [if_pos rfl,e,if_pos (by simp),Pn h]
 ·rw [if_neg q]
  have q2 : (i : Int)≠v:=by omega
  by_cases hi : (i : Int)∈T
  ·rw [if_pos hi,if_pos (List.mem_append_left _ hi),Qu hi]
  ·rw [if_neg hi,if_neg]
   intro hh
   rcases List.mem_append.mp hh with hh | hh
   ·exact hi hh
   ·exact q2 (List.mem_singleton.mp hh)
theorem bB {l : List Int} (nd : l.Nodup) {k : Nat} (hk : k<l.length) : l.getD k default ∉ l.take k:=by
 intro h
 have h1:=nd.sublist (List.take_sublist (k+1) l);rw [take_one _ hk,List.nodup_append] at h1;exact h1.2.2 _ h _ (List.mem_singleton.mpr rfl) rfl
def Gy (L : List Int) (k : Nat) : List Int:=GI (fun x=>decide ((x : Int)∈L)) k
theorem Tw {L : List Int} {k : Nat} (h : (k : Int)∈L) : Gy L (k+1)=Gy L k++[(k : Int)]:=YP (decide_eq_true h)
theorem Su {L : List Int} {k : Nat} (h : (k : Int) ∉ L) : Gy L (k+1)=Gy L k:=UI (decide_eq_false h)
theorem Ru (L : List Int) (k : Nat) : (Gy L k).length≤k:=IA _ _
theorem bH {L : List Int} {k : Nat} : (k : Int) ∉ Gy L k:=by
 intro h;simp only [Gy,GI,List.mem_map,List.mem_filter,List.mem_range] at h
 obtain ⟨a,⟨h1,_⟩,h2⟩:=h
 have : (a : Int)=k:=h2;omega
theorem aL (B : Nat) (c : Ax) (hc : c.Is) (L : List Int) (s : pr c L) (hL : Gy L c.AF.toNat=L) : PB B 120 [.ptr c.cells,iL (Bs c L)] (.CQ [.agg (Go.Shf.part c L).cells,iL L]):=by
 refine ⟨fun H0=>wJ.go fun _=>?_⟩
 have hs:=hc.1
 have hm:=hs.m
 have Jc:=hs.L5
 have TJ:=hs.il
 have Ee:=hs.o
 have L7:=YW (c:=c) (L:=L)
 have pL : ∀ f,f∈Bs c L→0≤f∧f.toNat<c.AB.length:=fun f hf=>(EJ.mp hf).1
 have ln:=Lt (c:=c) (L:=L)
 have hpf : (Go.Shf.part c L).AB=(Bs c L).map fun a=>indexOf L (ix c.AB a):=rfl
 have Lx : (Go.Shf.part c L).to=(Bs c L).map fun a=>indexOf L (ix c.to a):=rfl
 have hpi : (Go.Shf.part c L).Ac=L.map fun x=>indexOf (Bs c L) (ix c.Ac x):=rfl
 have hpc : (Go.Shf.part c L).comp=(Bs c L).map fun a=>(Bs c L).map fun b=>indexOf (Bs c L) (c.th a b):=rfl
 have yi : ∀ x : Nat,x<c.AF.toNat→((c.Ac.getD x default)∈Bs c L↔(x : Int)∈L):=fun x hx=>by
  have h:=hs.HJ (x:=(x : Int)) ⟨by omega,by omega⟩;rw [AR] at h;rw [EJ,h.2.1,h.2.2];exact ⟨fun q=>q.2.1,fun q=>⟨h.1,q,q⟩⟩
 have Qy : ∀ f,f∈Bs c L→ix c.AB f∈L∧ix c.to f∈L:=fun f hf=>(EJ.mp hf).2
 have hth : ∀ f g,f∈Bs c L→g∈Bs c L→(0≤c.th f g∧(c.th f g).toNat<c.AB.length∧c.th f g∈Bs c L)∨(c.th f g=-1∧c.th f g ∉ Bs c L):=fun f g hf hg=>by
  have af:=EJ.mp hf
  have ag:=EJ.mp hg
  by_cases q : ix c.to f=ix c.AB g
  ·have h:=hs.comp af.1 ag.1 q;refine .inl ⟨h.1.1,h.1.2,EJ.mpr ⟨⟨h.1.1,h.1.2⟩, ?_, ?_⟩⟩
   ·rw [show ix c.AB (c.th f g)=ix c.AB f from h.2.1]; exact af.2.1
   ·rw [show ix c.to (c.th f g)=ix c.to g from h.2.2]; exact ag.2.2
  ·have h : c.th f g=-1:=hs.R6 f.toNat g.toNat af.1.2 ag.1.2 q;exact .inr ⟨h,fun hh=>by have:=(pL _ hh).1; omega⟩
 generalize hA : Bs c L=A at *
 have o : A9 H0 H0 []:=.nil _;refine tt ?_;refine Ai o fun B1 H o=>tt ?_;refine (GO B c).go fun _=>tt ?_;refine ⟨⟨by omega,by simp only [AN]; omega⟩,EI iI 0 rfl o fun Ba H o=>?_⟩;refine tt ?_
 refine AD [0,1,4,6,24,25] (G:=List Int) (fun k _=>[(26,some (.int .i64 (k : Int)))])
  (fun k N H=>N=Jz c.AB.length (A.take k)∧A9 H0 H ((Ba,.cells 1 (N.map iI) 0)::(B1,AG.cells 5 [.int .i64 0,.A0,.A0,.A0,.A0] 0)::[])) A.length (List.replicate c.AB.length 0) ⟨?_,o⟩ rfl ?_
 ·rw [List.take_zero,Qv]
 clear o
 rintro k N H hk ⟨hN,o⟩
 have vo : N.length=c.AB.length:=by rw [hN,Rk]
 refine tt ?_;apply bk <;> intro h1
 ·have AU : k<A.length:=A6 h1
  have w1:=ws k
  have hv:=pL _ (AE.mpr ⟨k,AU,rfl⟩);refine tt ?_;refine ⟨AU,hv, ?_⟩;refine BT (f:=iI) (k : Int) o rfl (by omega) fun H o=>?_;refine tw w1 ?_;refine A4 (N.set (A.getD k default).toNat k) AU ⟨?_,o⟩ rfl
  have:=Qm hv (bB ln AU);rw [List.length_take,Nat.min_eq_left hk] at this;rw [hN,take_one _ AU,this]
 have AU : k=A.length:=by have:=A7 h1; omega
 clear h1;rw [AU,List.take_of_length_le (Nat.le_refl _)] at hN;clear AU hk;refine tt ?_;refine Am o (by rw [vo]) fun H o=>tt ?_;refine (ZU B c hm A pL).go fun _=>tt ?_;refine Az iI o fun HZ H o=>tt ?_;refine ⟨⟨by omega,by simp only [AN]; omega⟩,EI iI 0 rfl o fun IL H o=>?_⟩;refine tt ?_;refine Ai o fun Np H o=>tt ?_;refine sw o fun H o=>tt ?_
 refine AD [0,1,4,6,9,11,12,49,50] (G:=(Nat × List Int) × List Int × AV) (fun k g=>[(10,some (.buf g.1.1 g.1.2.length)),(51,some (.int .i64 (k : Int)))])
  (fun k g H=>g.1.2=Gy L k∧g.2.1=Jz c.AF.toNat (Gy L k)∧CP iI H0 H ((Np,.cells 5 [.int .i64 0,.A0,.A0,g.2.2,.A0] 0)::[(g.1.1,.cells 1 (g.1.2.map iI) 0),(IL,.cells 1 (g.2.1.map iI) 0),
   (B1,AG.cells 5 [.int .i64 0,.A0,.A0,.A0,.A0] 0)]) g.2.2 ((Gy L k).map fun x=>indexOf A (ix c.Ac x))) c.Ac.length ((HZ,[]),List.replicate c.AF.toNat 0,.A0)
  ⟨rfl,(Qv _).symm,.inl ⟨rfl,rfl,o.pm⟩⟩ rfl ?_
 clear o
 rintro k ⟨⟨HZ,out⟩,P,X⟩ H hk ⟨B2,hP,hX⟩
 replace B2 : out=Gy L k:=B2
 replace hP : P=Jz c.AF.toNat (Gy L k):=hP
 replace hX : CP iI H0 H ((Np,.cells 5 [.int .i64 0,.A0,.A0,X,.A0] 0)::[(HZ,.cells 1 (out.map iI) 0),(IL,.cells 1 (P.map iI) 0),(B1,AG.cells 5 [.int .i64 0,.A0,.A0,.A0,.A0] 0)]) X
  ((Gy L k).map fun x=>indexOf A (ix c.Ac x)):=hX
 have s9 : out.length≤k:=by rw [B2]; exact Ru _ _
 have pA : P.length=c.AF.toNat:=by rw [hP,Rk]
 refine tt ?_;apply bk <;> intro h1
 ·have AU : k<c.Ac.length:=A6 h1
  have w1:=ws k
  have hv:=hs.HJ (x:=(k : Int)) ⟨by omega,by omega⟩;rw [AR] at hv
  have hN2:=vo
  have hM : ix (LQ c.AB.length A) (c.Ac.getD k default)=dec (c.Ac.getD k default∈A):=by
   rw [ix,j2 hv.1.2,Int.toNat_of_nonneg hv.1.1]
  refine tt ?_;refine ⟨AU,⟨hv.1.1,by rw [RS]; exact hv.1.2⟩, ?_⟩;rw [hM]
  by_cases e1 : (k : Int)∈L
  ·rw [Av ((yi k (by omega)).mpr e1)];refine tt ?_;refine ⟨by omega, ?_⟩
   obtain ⟨p,o,hp⟩:=hX.split;clear hX
   replace o : A9 H0 H ((IL,.cells 1 (P.map iI) 0)::(HZ,.cells 1 (out.map iI) 0)::(Np,.cells 5 [.int .i64 0,.A0,.A0,X,.A0] 0)::(B1,AG.cells 5 [.int .i64 0,.A0,.A0,.A0,.A0] 0)::p):=o.pm;refine BT (f:=iI) (out.length : Int) o rfl (by omega) fun H o=>tt ?_;refine Ae (k : Int) o.swap rfl rfl (by simp only [AN]; omega) fun z H o=>?_
   have hX:=CP.mk (l:=(Np,.cells 5 [.int .i64 0,.A0,.A0,X,.A0] 0)::[(z,.cells 1 ((out++[(k : Int)]).map iI) 0),(IL,.cells 1 ((P.set k (out.length : Int)).map iI) 0),(B1,AG.cells 5 [.int .i64 0,.A0,.A0,.A0,.A0] 0)]) (o.pm) hp;clear o
   have hmA:=(yi k (by omega)).mpr e1
   have hNv : ix N (c.Ac.getD k default)=indexOf A (c.Ac.getD k default):=by rw [hN,ix,ME hv.1 hmA]
   refine tt ?_;refine Aj hX.obj (by simp) (tt ?_);refine ⟨⟨hv.1.1,by omega⟩, ?_⟩;rw [hNv];refine hX.app (indexOf A (c.Ac.getD k default)) rfl (by have:=Ru L k; simp only [List.length_map,AN]; omega) fun Ac H o=>?_
   have eS : ((Gy L k).map fun x=>indexOf A (ix c.Ac x))++[indexOf A (c.Ac.getD k default)]=(Gy L (k+1)).map fun x=>indexOf A (ix c.Ac x):=by
    rw [Tw e1,List.map_append,List.map_singleton,AR]
   rw [eS] at o ⊢;refine tt ?_;refine sw o.swap fun H o=>?_;refine tw w1 ?_
   exact A4 ((z,out++[(k : Int)]),P.set k (out.length : Int),_) AU ⟨by rw [B2,Tw e1],by
    have:=Qm (n:=c.AF.toNat) (T:=Gy L k) (v:=(k : Int)) ⟨by omega,by omega⟩ bH;rw [Tw e1,← this,hP,B2]; rfl,.inr ⟨Ac,rfl,o.swap⟩⟩ rfl
  ·rw [Ad fun h=>e1 ((yi k (by omega)).mp h)];refine tw w1 ?_;exact A4 ((HZ,out),P,X) AU ⟨by rw [B2,Su e1],by rw [hP,Su e1],by rw [Su e1]; exact hX⟩ rfl
 have AU : k=c.AF.toNat:=by have:=A7 h1; omega
 clear h1;rw [AU,hL] at B2 hP hX;refine tt ?_;refine FK 3 hX rfl fun H o=>AX ?_;clear hX;have o:=s1 o;refine tt ?_;refine sw o fun H o=>tt ?_;refine Am (o.pull [_,_]) (by rw [pA]) fun H o=>?_;clear AU s9 hk;subst B2
 let st : AV→AV→AV→AG:=fun x1 x2 x4=>.cells 5 [iI (out.length : Int),x1,x2,iL (out.map fun x=>indexOf A (ix c.Ac x)),x4] 0
 let r : Ob:=[(HZ,.cells 1 (out.map iI) 0),(B1,AG.cells 5 [.int .i64 0,.A0,.A0,.A0,.A0] 0)]
 replace o : A9 H0 H ((Np,st .A0 .A0 .A0)::([]++([]++r))):=o
 generalize hr : r=r at o;refine tt ?_
 refine AD [0,1,4,6,10,11,12,82,83] (G:=(AV × AV × AV) × Ob × Ob) (fun k _=>[(84,some (.int .i64 (k : Int)))])
  (fun a g H=>CP iI H0 H ((Np,st g.1.1 g.1.2.1 g.1.2.2)::(g.2.1++(g.2.2++r))) g.1.1 ((A.take a).map fun f=>indexOf out (ix c.AB f))∧Lp iI g.2.1 g.1.2.1 ((A.take a).map fun f=>indexOf out (ix c.to f)) ∧
   Lp iL g.2.2 g.1.2.2 ((A.take a).map fun f=>A.map fun g=>indexOf A (c.th f g))) A.length ((.A0,.A0,.A0),[],[]) ⟨.inl ⟨rfl,rfl,o⟩,.inl ⟨rfl,rfl,rfl⟩,.inl ⟨rfl,rfl,rfl⟩⟩ rfl ?_
 clear o
 rintro a ⟨⟨X1,X2,X4⟩,p2,p4⟩ H ha ⟨hX,h2,h4⟩
 replace hX : CP iI H0 H ((Np,st X1 X2 X4)::(p2++(p4++r))) X1 ((A.take a).map fun f=>indexOf out (ix c.AB f)):=hX
 replace h2 : Lp iI p2 X2 ((A.take a).map fun f=>indexOf out (ix c.to f)):=h2
 replace h4 : Lp iL p4 X4 ((A.take a).map fun f=>A.map fun g=>indexOf A (c.th f g)):=h4;refine tt ?_;apply bk <;> intro h1
 ·have AU : a<A.length:=A6 h1
  have w1:=ws a
  have vy : A.getD a default∈A:=AE.mpr ⟨a,AU,rfl⟩
  have hf:=pL _ vy
  obtain ⟨R2,OU⟩:=Qy _ vy
  have r1:=s.Nt _ R2
  have r2:=s.Nt _ OU
  have hP1 : ix P (ix c.AB (A.getD a default))=indexOf out (ix c.AB (A.getD a default)):=by rw [hP,ix,ME ⟨r1.1,by omega⟩ R2]
  have Yc : ix P (ix c.to (A.getD a default))=indexOf out (ix c.to (A.getD a default)):=by rw [hP,ix,ME ⟨r2.1,by omega⟩ OU]
  have eA : A.take (a+1)=A.take a++[A.getD a default]:=take_one _ AU;refine tt ?_;refine ⟨AU,tt ?_⟩;refine Aj hX.obj (by simp [st]) (tt ?_);refine ⟨hf,⟨r1.1,by omega⟩, ?_⟩;rw [hP1];refine hX.app (indexOf out (ix c.AB (A.getD a default))) rfl (by simp only [List.length_map,List.length_take,AN]; omega) fun Ac H o=>?_
  have e1 : ((A.take a).map fun f=>indexOf out (ix c.AB f))++[indexOf out (ix c.AB (A.getD a default))]=(A.take (a+1)).map fun f=>indexOf out (ix c.AB f):=by rw [eA,List.map_append]; rfl
  rw [e1] at o ⊢;clear hX;refine tt ?_;refine sw o.swap fun H o=>?_
  have hX : CP iI H0 H ((Np,st (.buf Ac ((A.take (a+1)).map fun f=>indexOf out (ix c.AB f)).length) X2 X4)::(p2++(p4++r))) (.buf Ac ((A.take (a+1)).map fun f=>indexOf out (ix c.AB f)).length) ((A.take (a+1)).map fun f=>indexOf out (ix c.AB f)):=.inr ⟨Ac,rfl,o.swap⟩;clear o
  generalize (AV.buf Ac ((A.take (a+1)).map fun f=>indexOf out (ix c.AB f)).length)=X1 at hX
  obtain ⟨q1,o,k1⟩:=hX.split;clear hX
  have hX : CP iI H0 H ((Np,st X1 X2 X4)::(q1++(p4++r))) X2 ((A.take a).map fun f=>indexOf out (ix c.to f)):=CP.mk (p:=p2) (o.pm) h2;clear o;refine tt ?_;refine Aj hX.obj (by simp [st]) (tt ?_);refine ⟨⟨hf.1,by omega⟩,⟨r2.1,by omega⟩, ?_⟩;rw [Yc];refine hX.app (indexOf out (ix c.to (A.getD a default))) rfl (by simp only [List.length_map,List.length_take,AN]; omega) fun Ac H o=>?_
  have e2 : ((A.take a).map fun f=>indexOf out (ix c.to f))++[indexOf out (ix c.to (A.getD a default))]=(A.take (a+1)).map fun f=>indexOf out (ix c.to f):=by rw [eA,List.map_append]; rfl
  rw [e2] at o ⊢;clear hX;refine tt ?_;refine sw o.swap fun H o=>?_
  have hX : CP iI H0 H ((Np,st X1 (.buf Ac ((A.take (a+1)).map fun f=>indexOf out (ix c.to f)).length) X4)::(q1++(p4++r))) (.buf Ac ((A.take (a+1)).map fun f=>indexOf out (ix c.to f)).length) ((A.take (a+1)).map fun f=>indexOf out (ix c.to f)):=.inr ⟨Ac,rfl,o.swap⟩;clear o
  generalize (AV.buf Ac ((A.take (a+1)).map fun f=>indexOf out (ix c.to f)).length)=X2 at hX
  obtain ⟨q2,o,k2⟩:=hX.split;clear hX
  replace o : A9 H0 H (p4++(Np,st X1 X2 X4)::(q1++(q2++r))):=o.pm;refine tt ?_;refine Az iI o fun Bt H o=>tt ?_
  refine AD [0,1,4,6,10,11,12,16,82,83,84,119,120] (G:=Nat × List Int) (fun b g=>[(17,some (.buf g.1 g.2.length)),(121,some (.int .i64 (b : Int)))])
   (fun b g H=>g.2=(A.take b).map (fun g=>indexOf A (c.th (A.getD a default) g))∧A9 H0 H ((g.1,.cells 1 (g.2.map iI) 0)::(p4++(Np,st X1 X2 X4)::(q1++(q2++r))))) A.length (Bt,[]) ⟨rfl,o⟩ rfl ?_
  clear o
  rintro b ⟨Bt,row⟩ H hb ⟨Bf,o⟩;dsimp only at Bf o
  have WA : row.length=b:=by rw [Bf,List.length_map,List.length_take]; omega
  refine tt ?_;apply bk <;> intro h2
  ·have Aq : b<A.length:=A6 h2
   have w2:=ws b
   have hgA : A.getD b default∈A:=AE.mpr ⟨b,Aq,rfl⟩
   have hg:=pL _ hgA
   have rf:=hs.Wr hf.2
   have RG:=hs.cl
   have eB : (A.take (b+1)).map (fun g=>indexOf A (c.th (A.getD a default) g))=row++[indexOf A (c.th (A.getD a default) (A.getD b default))]:=by rw [take_one _ Aq,List.map_append,Bf]; rfl
   refine tt ?_;refine ⟨Aq,(Cf B c (A.getD a default) (A.getD b default) ⟨hf.1,by omega⟩ ⟨hg.1,by omega⟩).go fun _=>?_⟩;rw [show ix (ix c.comp (A.getD a default)) (A.getD b default)=c.th (A.getD a default) (A.getD b default) from rfl]
   rcases hth _ _ vy hgA with ⟨t1,t2,t3⟩ | ⟨t1,t2⟩
   ·have t1':=decide_eq_true t1
    have hNv : ix N (c.th (A.getD a default) (A.getD b default))=indexOf A (c.th (A.getD a default) (A.getD b default)):=by rw [hN,ix,ME ⟨t1,t2⟩ t3]
    try simp only [go_sem,↓reduceIte,reduceEqDiff,reduceAdd,reduceMul,reduceLeDiff,reduceLT,t1']
    refine ⟨⟨t1,by omega⟩, ?_⟩;rw [hNv];refine tt ?_;refine Ae (indexOf A (c.th (A.getD a default) (A.getD b default))) o rfl rfl (by simp only [AN]; omega) fun z H o=>?_;refine tw w2 ?_;exact A4 (z,row++[indexOf A (c.th (A.getD a default) (A.getD b default))]) Aq ⟨eB.symm,o⟩ rfl
   ·rw [M5 t2] at eB;rw [t1]
    have t1' : decide ((0 : Int)≤-1)=false:=by decide
    try simp only [go_sem,↓reduceIte,reduceEqDiff,reduceAdd,reduceMul,reduceLeDiff,reduceLT,t1']
    refine Ae (-1 : Int) o rfl rfl (by simp only [AN]; omega) fun z H o=>?_;refine tw w2 ?_;exact A4 (z,row++[(-1 : Int)]) Aq ⟨eB.symm,o⟩ rfl
  have Aq : b=A.length:=by have:=A7 h2; omega
  rw [Aq,List.take_of_length_le (Nat.le_refl _)] at Bf;clear h2 Aq WA hb;refine tt ?_;refine Am o rfl fun H o=>tt ?_
  have hX : CP iL H0 H ((Np,st X1 X2 X4)::(q1++(q2++r))) X4 ((A.take a).map fun f=>A.map fun g=>indexOf A (c.th f g)):=CP.mk o h4;clear o;refine tt ?_;refine Aj hX.obj (by simp [st]) (tt ?_);refine hX.app row rfl (by simp only [List.length_map,List.length_take,AN]; omega) fun Ac H o=>?_
  have e4 : ((A.take a).map fun f=>A.map fun g=>indexOf A (c.th f g))++[row]=(A.take (a+1)).map fun f=>A.map fun g=>indexOf A (c.th f g):=by rw [eA,List.map_append,Bf]; rfl
  rw [e4] at o ⊢;clear hX;refine tt ?_;refine sw o.swap fun H o=>?_
  have hX : CP iL H0 H ((Np,st X1 X2 (.buf Ac ((A.take (a+1)).map fun f=>A.map fun g=>indexOf A (c.th f g)).length))::(q1++(q2++r))) (.buf Ac ((A.take (a+1)).map fun f=>A.map fun g=>indexOf A (c.th f g)).length) ((A.take (a+1)).map fun f=>A.map fun g=>indexOf A (c.th f g)):=.inr ⟨Ac,rfl,o.swap⟩;clear o
  generalize (AV.buf Ac ((A.take (a+1)).map fun f=>A.map fun g=>indexOf A (c.th f g)).length)=X4 at hX
  obtain ⟨q4,o,k4⟩:=hX.split;clear hX
  have hX : CP iI H0 H ((Np,st X1 X2 X4)::(q2++(q4++r))) X1 ((A.take (a+1)).map fun f=>indexOf out (ix c.AB f)):=CP.mk (p:=q1) (o.pm) k1;refine tw w1 ?_;exact A4 ((X1,X2,X4),q2,q4) AU ⟨hX,k2,k4⟩ rfl
 ·have AU : a=A.length:=by have:=A7 h1; omega
  rw [AU,List.take_of_length_le (Nat.le_refl _)] at hX h2 h4;refine tt ?_;refine FK 1 hX rfl fun H o=>?_;clear hX;have o:=s1 o
  have hX:=CP.mk (p:=p2) (o.perm List.perm_middle.symm) h2;clear o;refine FK 2 hX rfl fun H o=>?_;clear hX;have o:=s1 o
  have hX:=CP.mk (p:=p4) (o.perm List.perm_middle.symm) h4;clear o;refine FK 4 hX rfl fun H o=>AX ?_;clear hX;have o:=s1 o;subst hr;refine tt ?_;refine AO o (by simp) (tt ?_);refine sw (o.pull [_,_]) fun H o=>tt ?_;refine Am (o.pull [_,_]) rfl fun H o=>tt ?_
  have hr4:=o.rc 5 0 (by simp);simp only [List.drop_zero] at hr4;rw [hr4];exact A5 (by rw [hpf,Lx,hpi,hpc]; rfl) o.sub
end Go.Proofs.Shf
namespace Go.Shf
open Go.AW
def iv (a k : Nat) : List Int:=(List.range k).map fun i=>((a+i : Nat) : Int)
theorem F4 (a k : Nat) : (iv a k).length=k:=by simp [iv]
theorem Wv {a k i : Nat} (h : i<k) : (iv a k).getD i default=((a+i : Nat) : Int):=Ab _ _ h
theorem iU (a k : Nat) : iv a (k+1)=iv a k++[((a+k : Nat) : Int)]:=by simp [iv,List.range_succ]
theorem EG {a k : Nat} {x : Int} : x∈iv a k↔(a : Int)≤x∧x<(a : Int)+k:=by
 rw [iv,List.mem_map]
 constructor
 ·rintro ⟨i,hi,rfl⟩
  have:=List.mem_range.mp hi; omega
 ·intro h;exact ⟨(x - a).toNat,List.mem_range.mpr (by omega),by omega⟩
theorem G3 {a k : Nat} {v : Int} (h : 0≤v∧v<k) : indexOf (iv a k) (v+a)=v:=by
 obtain ⟨i,rfl⟩ : ∃ i : Nat,v=i:=⟨_,(Int.toNat_of_nonneg h.1).symm⟩;exact Db (by rw [F4]; omega) (fun j hj e=>by rw [Wv (by omega)] at e; omega) (by rw [Wv (by omega)]; omega)
theorem c5 {a k : Nat} {v : Int} (h : v<a) : indexOf (iv a k) v=-1:=M5 (fun hm=>by have:=EG.mp hm; omega)
theorem Kr {P : Nat→Bool} {a k : Nat} : ∀ n : Nat,(∀ f,f<n→P f=(decide (a≤f) && decide (f<a+k)))→GI P n=iv a (min k (n - a))
 | 0,_=>by simp [iv]
 | n+1,h=>by
  have ih:=Kr n (fun f hf=>h f (by omega))
  have hn:=h n (by omega);rw [Oq,ih,hn]
  by_cases h1 : a≤n
  ·by_cases h2 : n<a+k
   ·rw [decide_eq_true h1,decide_eq_true h2,if_pos (by rfl),show min k (n+1 - a)=min k (n - a)+1 by omega,iU,show a+min k (n - a)=n by omega]
   ·rw [decide_eq_true h1,decide_eq_false h2,if_neg (by simp),List.append_nil,show min k (n+1 - a)=min k (n - a) by omega]
  ·rw [decide_eq_false h1,if_neg (by simp),List.append_nil,show min k (n+1 - a)=min k (n - a) by omega]
theorem Ho (n : Int) : BG n=iv 0 n.toNat:=by
 rw [BG,iv]; exact List.map_congr_left fun i _=>by simp
theorem PR {n k : Int} (hn : 0≤n) : Oh n (BG k)=iv n.toNat k.toNat:=by
 rw [BG,Oh,List.map_map,iv]; exact List.map_congr_left fun i _=>by simp only [Function.comp_apply,Int.ofNat_eq_natCast]; omega
theorem Cp {a k : Nat} {g : Int→Int} {l : List Int} (hl : l.length=k) (h : ∀ i,i<k→g ((a+i : Nat) : Int)=l.getD i default) : (iv a k).map g=l:=by
 refine List.ext_getElem (by rw [List.length_map,F4,hl]) fun i h1 h2=>?_
 have hi : i<k:=by rw [List.length_map,F4] at h1; exact h1
 rw [List.getElem_map]
 have e : (iv a k)[i]'(by rw [F4]; exact hi)=((a+i : Nat) : Int):=by simp [iv]
 rw [e,h i hi,Go.AW.gE,List.getElem?_eq_getElem h2]; rfl
theorem ND {a k : Nat} {g : Int→List Int} {l : List (List Int)} (hl : l.length=k) (h : ∀ i,i<k→g ((a+i : Nat) : Int)=l.getD i default) : (iv a k).map g=l:=by
 refine List.ext_getElem (by rw [List.length_map,F4,hl]) fun i h1 h2=>?_
 have hi : i<k:=by rw [List.length_map,F4] at h1; exact h1
 rw [List.getElem_map]
 have e : (iv a k)[i]'(by rw [F4]; exact hi)=((a+i : Nat) : Int):=by simp [iv]
 rw [e,h i hi,Go.AW.gE,List.getElem?_eq_getElem h2]; rfl
section
variable {p : PF}
theorem Kc (h : p.Shape) {f : Nat} (hf : f<Ap p) :
  (f<p.src.AB.length∧(0≤(Bj p).getD f default∧(Bj p).getD f default<p.src.AF)∧0≤(Bp p).getD f default∧(Bp p).getD f default<p.src.AF) ∨
  (p.src.AB.length≤f∧f<Ag p∧(p.src.AF≤(Bj p).getD f default∧(Bj p).getD f default<p.src.AF+p.AL.AF)∧p.src.AF≤(Bp p).getD f default∧(Bp p).getD f default<p.src.AF+p.AL.AF) ∨
  (Ag p≤f∧(0≤(Bj p).getD f default∧(Bj p).getD f default<p.src.AF)∧p.src.AF≤(Bp p).getD f default∧(Bp p).getD f default<p.src.AF+p.AL.AF):=by
 by_cases h1 : f<p.src.AB.length
 ·left
  have:=GH h h1;rw [DQ h h1,FF h h1];exact ⟨h1,this⟩
 ·by_cases h2 : f<Ag p
  ·right; left
   have Ww : Ag p=p.src.AB.length+p.AL.AB.length:=rfl
   obtain ⟨k,rfl⟩ : ∃ k,f=p.src.AB.length+k:=⟨f - p.src.AB.length,by omega⟩
   have hk : k<p.AL.AB.length:=by omega
   have:=Fc h hk;rw [DZ h hk,Dd h hk];omega
  ·right; right
   obtain ⟨x,y,z,hx,hy,hz,e⟩:=OE (p:=p) (i:=f - Ag p) (by rw [Ap] at hf; omega)
   obtain rfl : f=Ag p+(BX p x y+z):=by omega
   rw [F5 h hx hy hz,Fx h hx hy hz];omega
theorem O7 (h : p.Shape) : Bs (BA p) (BG p.src.AF)=iv 0 p.src.AB.length:=by
 have so:=h.sI.1.o
 have Ww : Ag p=p.src.AB.length+p.AL.AB.length:=rfl
 have hN : Ag p≤Ap p:=by rw [Ap]; omega
 rw [Ho,Bs,show (BA p).AB.length=Ap p from Ci,Kr (a:=0) (k:=p.src.AB.length) (Ap p) (fun f hf=>?_)]
 ·rw [show min p.src.AB.length (Ap p - 0)=p.src.AB.length by omega]
 ·rw [show (BA p).AB=Bj p from rfl,show (BA p).to=Bp p from rfl]
  rcases Kc h hf with ⟨h1,h2⟩ | ⟨h1,h2,h3⟩ | ⟨h1,h2⟩
  ·rw [decide_eq_true (EG.mpr (by omega)),decide_eq_true (EG.mpr (by omega)),decide_eq_true (by omega),decide_eq_true (by omega)]
  ·rw [decide_eq_false (fun hm=>by have:=EG.mp hm; omega),decide_eq_true (show 0≤f by omega),decide_eq_false (show ¬ f<0+p.src.AB.length by omega)]; rfl
  ·rw [decide_eq_false (p:=(Bp p).getD f default∈_) (fun hm=>by have:=EG.mp hm; omega),decide_eq_false (show ¬ f<0+p.src.AB.length by omega),Bool.and_false,Bool.and_false]
theorem Oa (h : p.Shape) : Bs (BA p) (Oh p.src.AF (BG p.AL.AF))=iv p.src.AB.length p.AL.AB.length:=by
 have so:=h.sI.1.o
 have Ww : Ag p=p.src.AB.length+p.AL.AB.length:=rfl
 have hN : Ag p≤Ap p:=by rw [Ap]; omega
 rw [PR so.1,Bs,show (BA p).AB.length=Ap p from Ci,Kr (a:=p.src.AB.length) (k:=p.AL.AB.length) (Ap p) (fun f hf=>?_)]
 ·rw [show min p.AL.AB.length (Ap p - p.src.AB.length)=p.AL.AB.length by omega]
 ·rw [show (BA p).AB=Bj p from rfl,show (BA p).to=Bp p from rfl]
  rcases Kc h hf with ⟨h1,h2⟩ | ⟨h1,h2,h3⟩ | ⟨h1,h2⟩
  ·rw [decide_eq_false (p:=(Bj p).getD f default∈_) (fun hm=>by have:=EG.mp hm; omega),decide_eq_false (show ¬ p.src.AB.length≤f by omega)]; rfl
  ·rw [decide_eq_true (EG.mpr (by omega)),decide_eq_true (EG.mpr (by omega)),decide_eq_true (show p.src.AB.length≤f by omega),decide_eq_true (show f<p.src.AB.length+p.AL.AB.length by omega)]
  ·rw [decide_eq_false (p:=(Bj p).getD f default∈_) (fun hm=>by have:=EG.mp hm; omega),decide_eq_false (show ¬ f<p.src.AB.length+p.AL.AB.length by omega),Bool.false_and,Bool.and_false]
end
end Go.Shf
namespace Go.Shf
open Go.AW
theorem UJ {c e : Ax} (h1 : c.AF=e.AF) (h2 : c.AB=e.AB) (h3 : c.to=e.to) (h4 : c.Ac=e.Ac) (h5 : c.comp=e.comp) : c=e:=by
 cases c; cases e; simp only at h1 h2 h3 h4 h5; subst h1 h2 h3 h4 h5; rfl
section
variable {p : PF}
theorem wT (h : p.Shape) : part (BA p) (BG p.src.AF)=p.src:=by
 have so:=h.sI.1.o
 have sil:=h.sI.1.il
 have Ww : Ag p=p.src.AB.length+p.AL.AB.length:=rfl
 have hN : Ag p≤Ap p:=by rw [Ap]; omega
 have hL:=Ho p.src.AF;refine UJ ?_ ?_ ?_ ?_ ?_
 ·show ((BG p.src.AF).length : Int)=_
  rw [Et]; omega
 ·show (Bs _ _).map _=_
  rw [O7 h,hL];refine Cp rfl fun i hi=>?_
  have:=GH h hi;rw [AR,Nat.zero_add,show (BA p).AB.getD i default=p.src.AB.getD i default from DQ h hi]
  have e:=G3 (a:=0) (k:=p.src.AF.toNat) (v:=p.src.AB.getD i default) ⟨this.1.1,by omega⟩
  simpa using e
 ·show (Bs _ _).map _=_
  rw [O7 h,hL];refine Cp h.sI.1.L5 fun i hi=>?_
  have:=GH h hi;rw [AR,Nat.zero_add,show (BA p).to.getD i default=p.src.to.getD i default from FF h hi]
  have e:=G3 (a:=0) (k:=p.src.AF.toNat) (v:=p.src.to.getD i default) ⟨this.2.1,by omega⟩
  simpa using e
 ·show (BG _).map _=_
  rw [O7 h,hL];refine Cp (by omega) fun i hi=>?_
  obtain ⟨j,e1,e2,hj,-,-⟩:=Vl h hi;rw [Nat.zero_add,e1];rw [AR] at e2
  have e:=G3 (a:=0) (k:=p.src.AB.length) (v:=(j : Int)) ⟨by omega,by omega⟩;rw [e2]; simpa using e
 ·show (Bs _ _).map _=_
  rw [O7 h];refine ND h.sI.1.cl fun i hi=>?_;refine Cp (h.sI.1.row i hi) fun j hj=>?_
  have ec : (BA p).th ((0+i : Nat) : Int) ((0+j : Nat) : Int)=Cv p i j:=by
   rw [Ax.th,Nat.zero_add,Nat.zero_add]; exact Hp (by omega) (by omega)
  rw [ec]
  by_cases e : p.src.to.getD i default=p.src.AB.getD j default
  ·have q : 0≤B7 p.src i j∧B7 p.src i j<p.src.AB.length:=(h.sI.1.yes i j hi hj e).1;rw [FH h hi hj e]
   have e:=G3 (a:=0) (k:=p.src.AB.length) (v:=B7 p.src i j) q;rw [B7] at e ⊢
   simpa using e
  ·rw [KF h (by rw [FF h hi,DQ h hj]; exact e),c5 (by omega)];exact (h.sI.1.R6 i j hi hj e).symm
theorem v5 (h : p.Shape) : part (BA p) (Oh p.src.AF (BG p.AL.AF))=p.AL:=by
 have so:=h.sI.1.o
 have to:=h.tI.1.o
 have til:=h.tI.1.il
 have Ww : Ag p=p.src.AB.length+p.AL.AB.length:=rfl
 have hN : Ag p≤Ap p:=by rw [Ap]; omega
 have hL:=PR (k:=p.AL.AF) so.1;refine UJ ?_ ?_ ?_ ?_ ?_
 ·show ((Oh _ (BG p.AL.AF)).length : Int)=_
  rw [hL,F4]; omega
 ·show (Bs _ _).map _=_
  rw [Oa h,hL];refine Cp rfl fun i hi=>?_
  have:=Fc h hi;rw [AR,show (BA p).AB.getD (p.src.AB.length+i) default=p.AL.AB.getD i default+p.src.AF from DZ h hi]
  have e:=G3 (a:=p.src.AF.toNat) (k:=p.AL.AF.toNat) (v:=p.AL.AB.getD i default) ⟨this.1.1,by omega⟩
  rwa [Int.toNat_of_nonneg so.1] at e
 ·show (Bs _ _).map _=_
  rw [Oa h,hL];refine Cp h.tI.1.L5 fun i hi=>?_
  have:=Fc h hi;rw [AR,show (BA p).to.getD (p.src.AB.length+i) default=p.AL.to.getD i default+p.src.AF from Dd h hi]
  have e:=G3 (a:=p.src.AF.toNat) (k:=p.AL.AF.toNat) (v:=p.AL.to.getD i default) ⟨this.2.1,by omega⟩
  rwa [Int.toNat_of_nonneg so.1] at e
 ·show (Oh _ (BG _)).map _=_
  rw [Oa h,hL];refine Cp (by omega) fun i hi=>?_
  obtain ⟨j,e1,e2,hj,-,-⟩:=Ug h hi;rw [show ((p.src.AF.toNat+i : Nat) : Int)=p.src.AF+(i : Int) by omega,e1];rw [AR] at e2
  have e:=G3 (a:=p.src.AB.length) (k:=p.AL.AB.length) (v:=(j : Int)) ⟨by omega,by omega⟩;rw [e2,show ((p.src.AB.length+j : Nat) : Int)=(j : Int)+(p.src.AB.length : Int) by omega,e]
 ·show (Bs _ _).map _=_
  rw [Oa h];refine ND h.tI.1.cl fun i hi=>?_;refine Cp (h.tI.1.row i hi) fun j hj=>?_
  have ec : (BA p).th ((p.src.AB.length+i : Nat) : Int) ((p.src.AB.length+j : Nat) : Int)=Cv p (p.src.AB.length+i) (p.src.AB.length+j):=by
   rw [Ax.th]; exact Hp (by omega) (by omega)
  rw [ec]
  by_cases e : p.AL.to.getD i default=p.AL.AB.getD j default
  ·have q : 0≤B7 p.AL i j∧B7 p.AL i j<p.AL.AB.length:=(h.tI.1.yes i j hi hj e).1;rw [Ek h hi hj e,G3 q]; rfl
  ·rw [KF h (by rw [Dd h hi,DZ h hj]; intro q; exact e (by omega)),c5 (by omega)];exact (h.tI.1.R6 i j hi hj e).symm
theorem oi (h : p.Shape) : pr (BA p) (BG p.src.AF):=by
 have to:=h.tI.1.o;refine ⟨?_,fun x hx=>?_⟩
 ·rw [Ho,iv]; exact List.pairwise_map.mpr (List.nodup_range.imp (fun ne e=>ne (by omega)))
 ·rw [Ho] at hx
  have:=EG.mp hx
  have e : (BA p).AF=p.src.AF+p.AL.AF:=rfl;omega
theorem oh (h : p.Shape) : pr (BA p) (Oh p.src.AF (BG p.AL.AF)):=by
 have so:=h.sI.1.o
 have to:=h.tI.1.o;rw [PR so.1];refine ⟨?_,fun x hx=>?_⟩
 ·rw [iv]; exact List.pairwise_map.mpr (List.nodup_range.imp (fun ne e=>ne (by omega)))
 ·have:=EG.mp hx
  have e : (BA p).AF=p.src.AF+p.AL.AF:=rfl;omega
end
end Go.Shf
namespace Go.Shf
open Go.AW
section
variable {p : PF}
theorem JX (h : p.Shape) {x y : Nat} (hx : x<p.src.AF.toNat) (hy : y<p.AL.AF.toNat) : sC (BA p) (x : Int) (p.src.AF+(y : Int))=iv (Ag p+BX p x y) (p.sz x y).toNat:=by
 have so:=h.sI.1.o
 have hN : Ap p=Ag p+(Cs p).length:=rfl
 have hle : BX p x y+(p.sz x y).toNat≤(Cs p).length:=by
  by_cases h0 : (p.sz x y).toNat=0
  ·rw [h0,Nat.add_zero,BX]
   obtain ⟨r,e1⟩:=Dj (FZ p) (show x+1≤p.src.AF.toNat by omega)
   obtain ⟨r2,e2⟩:=Dj (CK p x) (show y≤p.AL.AF.toNat by omega)
   have e3 : (Cs p).length=(BP (FZ p) (x+1)).length+r.length:=by rw [Cs,e1,List.length_append]
   rw [BV,List.length_append] at e3
   have e4 : (FZ p x).length=(BP (CK p x) y).length+r2.length:=by rw [FZ,e2,List.length_append]
   omega
  ·have:=HR hx hy (e:=(p.sz x y).toNat - 1) (by omega);omega
 rw [sC,show (BA p).AB.length=Ap p from Ci,Kr (a:=Ag p+BX p x y) (k:=(p.sz x y).toNat) (Ap p) (fun f hf=>?_)]
 ·rw [show min (p.sz x y).toNat (Ap p - (Ag p+BX p x y))=(p.sz x y).toNat by omega]
 ·rw [NY,show (BA p).AB=Bj p from rfl,show (BA p).to=Bp p from rfl]
  have Ww : Ag p=p.src.AB.length+p.AL.AB.length:=rfl
  rcases Kc h hf with ⟨h1,h2⟩ | ⟨h1,h2,h3⟩ | ⟨h1,h2⟩
  ·rw [decide_eq_false (p:=(Bp p).getD f default=_) (by omega),decide_eq_false (show ¬ Ag p+BX p x y≤f by omega),Bool.and_false,Bool.false_and]
  ·rw [decide_eq_false (p:=(Bj p).getD f default=_) (by omega),decide_eq_false (show ¬ Ag p+BX p x y≤f by omega),Bool.false_and,Bool.false_and]
  ·obtain ⟨x',y',z,TM,yH,hz,e⟩:=OE (p:=p) (i:=f - Ag p) (by omega)
   obtain rfl : f=Ag p+(BX p x' y'+z):=by omega
   rw [F5 h TM yH hz,Fx h TM yH hz]
   by_cases e1 : x'=x∧y'=y
   ·obtain ⟨rfl,rfl⟩:=e1;rw [decide_eq_true rfl,decide_eq_true rfl,decide_eq_true (by omega),decide_eq_true (by omega)]
   ·have Ea : ¬ (Ag p+BX p x y≤Ag p+(BX p x' y'+z)∧Ag p+(BX p x' y'+z)<Ag p+BX p x y+(p.sz x y).toNat):=fun hb=>by
     have:=gY TM yH hz hx hy (e':=BX p x' y'+z - BX p x y) (by omega) (by omega);exact e1 ⟨this.1,this.2.1⟩
    have hl : (decide ((x' : Int)=(x : Int)) && decide (p.src.AF+(y' : Int)=p.src.AF+(y : Int)))=false:=by
     rw [Bool.and_eq_false_iff,decide_eq_false_iff_not,decide_eq_false_iff_not]; omega
    have hr : (decide (Ag p+BX p x y≤Ag p+(BX p x' y'+z)) && decide (Ag p+(BX p x' y'+z)<Ag p+BX p x y+(p.sz x y).toNat))=false:=by
     rw [Bool.and_eq_false_iff,decide_eq_false_iff_not,decide_eq_false_iff_not]; omega
    rw [hl,hr]
theorem ud (h : p.Shape) {a y : Nat} (ha : a<p.src.AB.length) (hy : y<p.AL.AF.toNat) :
  (sC (BA p) (ix (BA p).to (a : Int)) (p.src.AF+(y : Int))).map (fun g=>indexOf (sC (BA p) (ix (BA p).AB (a : Int)) (p.src.AF+(y : Int))) (ix (ix (BA p).comp (a : Int)) g))=p.bf a y:=by
 have r:=GH h ha
 obtain ⟨u,eu⟩ : ∃ u : Nat,p.src.AB.getD a default=(u : Int):=⟨_,(Int.toNat_of_nonneg r.1.1).symm⟩
 obtain ⟨v,ev⟩ : ∃ v : Nat,p.src.to.getD a default=(v : Int):=⟨_,(Int.toNat_of_nonneg r.2.1).symm⟩
 have hu : u<p.src.AF.toNat:=by omega
 have hv : v<p.src.AF.toNat:=by omega
 have Ww : Ag p=p.src.AB.length+p.AL.AB.length:=rfl
 have hN : Ap p=Ag p+(Cs p).length:=rfl
 have t1 : ix (BA p).to (a : Int)=(v : Int):=by rw [AR]; exact (FF h ha).trans ev
 have t2 : ix (BA p).AB (a : Int)=(u : Int):=by rw [AR]; exact (DQ h ha).trans eu
 rw [t1,t2,JX h hv hy,JX h hu hy];refine Cp (by rw [Fw h ha hy,ev]) fun z hz=>?_
 obtain ⟨w,hw,Dp,ew⟩:=Eg h ha hv hy hz ev;rw [eu,Int.toNat_natCast] at Dp ew
 have lt:=QO hv hy hz;rw [Nat.add_assoc,Hp (by omega) lt,ew,show ((Ag p+(BX p u y+w) : Nat) : Int)=(w : Int)+((Ag p+BX p u y : Nat) : Int) by omega,G3 (by omega),← hw,AR]
theorem ui (h : p.Shape) {b x : Nat} (hb : b<p.AL.AB.length) (hx : x<p.src.AF.toNat) :
  (sC (BA p) (x : Int) (ix (BA p).AB ((p.src.AB.length+b : Nat) : Int))).map (fun g=>indexOf (sC (BA p) (x : Int) (ix (BA p).to ((p.src.AB.length+b : Nat) : Int))) (ix (ix (BA p).comp g) ((p.src.AB.length+b : Nat) : Int)))=p.bh b x:=by
 have r:=Fc h hb
 obtain ⟨u,eu⟩ : ∃ u : Nat,p.AL.AB.getD b default=(u : Int):=⟨_,(Int.toNat_of_nonneg r.1.1).symm⟩
 obtain ⟨v,ev⟩ : ∃ v : Nat,p.AL.to.getD b default=(v : Int):=⟨_,(Int.toNat_of_nonneg r.2.1).symm⟩
 have hu : u<p.AL.AF.toNat:=by omega
 have hv : v<p.AL.AF.toNat:=by omega
 have Ww : Ag p=p.src.AB.length+p.AL.AB.length:=rfl
 have hN : Ap p=Ag p+(Cs p).length:=rfl
 have t1 : ix (BA p).to ((p.src.AB.length+b : Nat) : Int)=p.src.AF+(v : Int):=by rw [AR]; exact (Dd h hb).trans (by omega)
 have t2 : ix (BA p).AB ((p.src.AB.length+b : Nat) : Int)=p.src.AF+(u : Int):=by rw [AR]; exact (DZ h hb).trans (by omega)
 rw [t1,t2,JX h hx hv,JX h hx hu];refine Cp (by rw [Fp h hb hx,eu]) fun z hz=>?_
 obtain ⟨w,hw,Dp,ew⟩:=Er h hx hu hz hb eu;rw [ev,Int.toNat_natCast] at Dp ew
 have lt:=QO hx hu hz;rw [Nat.add_assoc,Hp lt (by omega),ew,show ((Ag p+(BX p x v+w) : Nat) : Int)=(w : Int)+((Ag p+BX p x v : Nat) : Int) by omega,G3 (by omega),← hw,AR]
end
end Go.Shf
namespace Go.Proofs.Shf
open Go.AW Go.Proofs Go.Shf
theorem TA (B : Nat) {p : PF} (sh : p.Shape) (cS : (BA p).Shape) {x y : Int} (hx : p.src.ES x) (hy : p.AL.ES y) :
  PB B 121 [iI x,iI y,.ptr (BA p).cells,.ptr [iI p.src.AF]] (iI (p.sz x y)):=by
 refine ⟨fun H0=>ph.go fun _=>?_⟩
 have so:=sh.sI.1.o
 have to:=sh.tI.1.o
 obtain ⟨x',rfl⟩ : ∃ x' : Nat,x=x':=⟨_,(Int.toNat_of_nonneg hx.1).symm⟩
 obtain ⟨y',rfl⟩ : ∃ y' : Nat,y=y':=⟨_,(Int.toNat_of_nonneg hy.1).symm⟩
 have h1:=hx.2
 have h2:=hy.2
 have wy : IntKind.i64.wrap (p.src.AF+(y' : Int))=p.src.AF+(y' : Int):=wrap_i64 (by omega) (by omega)
 have hb:=(sh.rl _ hx).2 _ hy;refine tw wy ?_;refine (N3 B (BA p) cS _ _).go fun _=>?_;rw [JX sh (by omega) (by omega)];refine tt ?_;refine A5 ?_ (.refl _);rw [F4]
 show iI _=iI _
 rw [Int.toNat_of_nonneg hb.1]
theorem YM (B : Nat) {p : PF} (sh : p.Shape) (cS : (BA p).Shape) {a y : Int} (ha : p.src.DB a) (hy : p.AL.ES y) :
  PB B 123 [iI a,iI y,.ptr [iL (iv 0 p.src.AB.length)],.ptr (BA p).cells,.ptr [iI p.src.AF]] (iL (p.bf a y)):=by
 refine ⟨fun H0=>np.go fun _=>?_⟩
 have so:=sh.sI.1.o
 have to:=sh.tI.1.o
 obtain ⟨a',rfl⟩ : ∃ a' : Nat,a=a':=⟨_,(Int.toNat_of_nonneg ha.1).symm⟩
 obtain ⟨y',rfl⟩ : ∃ y' : Nat,y=y':=⟨_,(Int.toNat_of_nonneg hy.1).symm⟩
 have h1 : a'<p.src.AB.length:=by simpa using ha.2
 have h2:=hy.2
 have Ww : Ag p=p.src.AB.length+p.AL.AB.length:=rfl
 have hN : Ap p=Ag p+(Cs p).length:=rfl
 have fl : (BA p).AB.length=Ap p:=Ci
 have tl : (BA p).to.length=Ap p:=Ew sh
 have wy : IntKind.i64.wrap (p.src.AF+(y' : Int))=p.src.AF+(y' : Int):=wrap_i64 (by omega) (by omega)
 have il:=F4 0 p.src.AB.length
 have ia : (iv 0 p.src.AB.length).getD a' default=(a' : Int):=by rw [Wv h1,Nat.zero_add]
 have key:=ud sh h1 (y:=y') (by omega)
 obtain ⟨c,hc⟩ : ∃ c,c=BA p:=⟨_,rfl⟩;rw [← hc] at cS key fl tl ⊢
 have cm:=cS.m
 obtain ⟨L,hL⟩ : ∃ L,L=sC c (ix c.to (a' : Int)) (p.src.AF+(y' : Int)):=⟨_,rfl⟩
 have ll : L.length≤40:=by rw [hL,sC]; have:=IA (NY c (ix c.to (a' : Int)) (p.src.AF+(y' : Int))) c.AB.length; omega
 rw [← hL] at key
 obtain ⟨φ,hφ⟩ : ∃ φ : Int→Int,φ=(fun g=>indexOf (sC c (ix c.AB (a' : Int)) (p.src.AF+(y' : Int))) (ix (ix c.comp (a' : Int)) g)):=⟨_,rfl⟩;rw [← hφ] at key;rw [← key];refine tt ?_;refine Az iI (.nil _) fun id H o=>?_;refine tw ia ?_;refine ⟨by omega,by omega, ?_⟩;rw [wy];refine ⟨_,(N3 B c cS _ _).run, ?_⟩;rw [show sC c (c.to.getD a' default) (p.src.AF+(y' : Int))=L by rw [hL,AR]];refine tt ?_;refine AD [1,3,4,9,25,26] (G:=Nat × List Int) (fun k g=>[(8,some (.buf g.1 g.2.length)),(27,some (.int .i64 (k : Int)))]) (fun k g H=>g.2=(L.take k).map φ∧A9 H0 H [(g.1,.cells 1 (g.2.map iI) 0)]) L.length (id,[]) ⟨by simp,o⟩ rfl ?_;clear o
 rintro k ⟨id,out⟩ H hk ⟨B2,o⟩;dsimp only at B2
 have KU : out.length=k:=by rw [B2,List.length_map,List.length_take]; omega
 dsimp only at o;refine tt ?_;apply bk <;> intro h3
 ·have BH:=A6 h3
  have w3:=ws k
  have hm:=Vy.mp (show L.getD k default∈sC c (ix c.to (a' : Int)) (p.src.AF+(y' : Int)) from by rw [← hL]; exact AE.mpr ⟨k,BH,rfl⟩);refine tt ?_;refine ⟨BH, ?_⟩;refine tw wy ?_;refine ⟨by omega,_,(N3 B c cS _ _).run,_,(Vs B cS (a:=(a' : Int)) (b:=L.getD k default) ⟨by omega,by simp; omega⟩ hm.1).run,_,(RY B _ _).run,tt ?_⟩;refine Ae (φ (L.getD k default)) o (by rw [hφ]; rfl) rfl (by rw [KU]; simp only [AN]; omega) fun id H o=>?_;refine tw w3 ?_;exact A4 (id,_) (by omega) ⟨by rw [B2,J3 L _ BH],o⟩ rfl
 ·have MP:=A7 h3
  obtain rfl : k=L.length:=by omega
  refine tt ?_;refine Am o rfl fun H o=>tt ?_;exact A5 (by rw [B2,List.take_length]) o.sub
theorem YX (B : Nat) {p : PF} (sh : p.Shape) (cS : (BA p).Shape) {b x : Int} (hb : p.AL.DB b) (hx : p.src.ES x) :
  PB B 125 [iI b,iI x,.ptr [iL (iv p.src.AB.length p.AL.AB.length)],.ptr (BA p).cells] (iL (p.bh b x)):=by
 refine ⟨fun H0=>pe.go fun _=>?_⟩
 have so:=sh.sI.1.o
 have to:=sh.tI.1.o
 obtain ⟨b',rfl⟩ : ∃ b' : Nat,b=b':=⟨_,(Int.toNat_of_nonneg hb.1).symm⟩
 obtain ⟨x',rfl⟩ : ∃ x' : Nat,x=x':=⟨_,(Int.toNat_of_nonneg hx.1).symm⟩
 have h1 : b'<p.AL.AB.length:=by simpa using hb.2
 have h2:=hx.2
 have Ww : Ag p=p.src.AB.length+p.AL.AB.length:=rfl
 have hN : Ap p=Ag p+(Cs p).length:=rfl
 have fl : (BA p).AB.length=Ap p:=Ci
 have tl : (BA p).to.length=Ap p:=Ew sh
 have il:=F4 p.src.AB.length p.AL.AB.length
 have ia : (iv p.src.AB.length p.AL.AB.length).getD b' default=((p.src.AB.length+b' : Nat) : Int):=Wv h1
 have key:=ui sh h1 (x:=x') (by omega)
 obtain ⟨c,hc⟩ : ∃ c,c=BA p:=⟨_,rfl⟩;rw [← hc] at cS key fl tl ⊢
 have cm:=cS.m
 obtain ⟨g,hg⟩ : ∃ g,g=p.src.AB.length+b':=⟨_,rfl⟩;rw [← hg] at key ia
 obtain ⟨L,hL⟩ : ∃ L,L=sC c (x' : Int) (ix c.AB (g : Int)):=⟨_,rfl⟩
 have ll : L.length≤40:=by rw [hL,sC]; have:=IA (NY c (x' : Int) (ix c.AB (g : Int))) c.AB.length; omega
 rw [← hL] at key
 obtain ⟨φ,hφ⟩ : ∃ φ : Int→Int,φ=(fun h=>indexOf (sC c (x' : Int) (ix c.to (g : Int))) (ix (ix c.comp h) (g : Int))):=⟨_,rfl⟩;rw [← hφ] at key;rw [← key];refine tt ?_;refine Az iI (.nil _) fun id H o=>?_;refine tw ia ?_;refine ⟨by omega,by omega, ?_⟩;refine (N3 B c cS _ _).go fun _=>?_;rw [show sC c (x' : Int) (c.AB.getD g default)=L by rw [hL,AR]];refine tt ?_;refine AD [1,3,8,22,23] (G:=Nat × List Int) (fun k g=>[(7,some (.buf g.1 g.2.length)),(24,some (.int .i64 (k : Int)))]) (fun k q H=>q.2=(L.take k).map φ∧A9 H0 H [(q.1,.cells 1 (q.2.map iI) 0)]) L.length (id,[]) ⟨by simp,o⟩ rfl ?_;clear o
 rintro k ⟨id,out⟩ H hk ⟨B2,o⟩;dsimp only at B2
 have KU : out.length=k:=by rw [B2,List.length_map,List.length_take]; omega
 dsimp only at o;refine tt ?_;apply bk <;> intro h3
 ·have BH:=A6 h3
  have w3:=ws k
  have hm:=Vy.mp (show L.getD k default∈sC c (x' : Int) (ix c.AB (g : Int)) from by rw [← hL]; exact AE.mpr ⟨k,BH,rfl⟩);refine tt ?_;refine ⟨BH,tt ?_⟩;refine ⟨by omega,(N3 B c cS _ _).go fun _=>?_⟩;refine tt ?_;refine (Vs B cS (a:=L.getD k default) (b:=(g : Int)) hm.1 ⟨by omega,by simp; omega⟩).go fun _=>tt ?_;refine (RY B _ _).go fun _=>tt ?_;refine Ae (φ (L.getD k default)) o (by rw [hφ]; rfl) rfl (by rw [KU]; simp only [AN]; omega) fun id H o=>?_;refine tw w3 ?_;exact A4 (id,_) (by omega) ⟨by rw [B2,J3 L _ BH],o⟩ rfl
 ·have MP:=A7 h3
  obtain rfl : k=L.length:=by omega
  refine tt ?_;refine Am o rfl fun H o=>tt ?_;exact A5 (by rw [B2,List.take_length]) o.sub
theorem Vv (a k N : Nat) (h : a+k≤N) : Gy (iv a k) N=iv a k:=by
 rw [Gy,Kr (a:=a) (k:=k) N (fun f hf=>?_)]
 ·rw [show min k (N - a)=k by omega]
 ·by_cases e : a≤f∧f<a+k
  ·rw [decide_eq_true (EG.mpr (by omega)),decide_eq_true e.1,decide_eq_true e.2]; rfl
  ·rw [decide_eq_false (fun hm=>by have:=EG.mp hm; omega)]
   by_cases e1 : a≤f
   ·rw [decide_eq_false (show ¬ f<a+k by omega),Bool.and_false]
   ·rw [decide_eq_false e1,Bool.false_and]
theorem TE (B : Nat) {p : PF} (hI : p.Is) (hb : p.src.AF+p.AL.AF≤8∧Ap p≤40) : PB B 35 [.agg (BA p).cells,iI p.src.AF] (.CQ [.agg p.cells,iI 0]):=by
 refine ⟨fun H0=>sj.go fun _=>?_⟩
 have sh:=hI.SZ
 have so:=sh.sI.1.o
 have to:=sh.tI.1.o
 have cI:=VY hI hb.1 hb.2
 have cS:=cI.1
 have fl : (BA p).AB.length=Ap p:=Ci
 have tl : (BA p).to.length=Ap p:=Ew sh
 have co : (BA p).AF=p.src.AF+p.AL.AF:=rfl
 have bet:=Sn B (BA p) cS
 have sL:=aL B (BA p) cI (BG p.src.AF) (oi sh) (by rw [Ho,Vv]; omega)
 have sR:=aL B (BA p) cI (Oh p.src.AF (BG p.AL.AF)) (oh sh) (by rw [PR so.1,Vv]; omega)
 have bL:=bet (BG p.src.AF)
 have bR:=bet (Oh p.src.AF (BG p.AL.AF));rw [wT sh,O7 sh] at sL;rw [v5 sh,Oa sh] at sR;rw [O7 sh] at bL;rw [Oa sh] at bR
 have q1:=fun x y hx hy=>(TA B sh cS (x:=x) (y:=y) hx hy).run
 have q2:=fun a y ha hy=>(YM B sh cS (a:=a) (y:=y) ha hy).run
 have q3:=fun b x hb hx=>(YX B sh cS (b:=b) (x:=x) hb hx).run
 have ends:=fun f (hf : f<Ap p)=>Kc sh hf;rw [show Bj p=(BA p).AB from rfl,show Bp p=(BA p).to from rfl] at ends
 obtain ⟨c,hc⟩ : ∃ c,c=BA p:=⟨_,rfl⟩;rw [← hc] at cI cS fl tl co sL sR bL bR q1 q2 q3 ends ⊢
 have o : A9 H0 H0 []:=.nil _;refine tt ?_;refine nb o fun B1 H o=>?_
 have o : A9 H0 H [(B1,.cells 13 Af 0)]:=o;refine tt ?_;refine (J1 B c).go fun _=>?_;rw [Av cI];refine tt ?_;refine (Jb B _ _ _).go fun _=>?_;rw [Av (show (0 : Int)≤p.src.AF∧p.src.AF≤c.AF by omega)];refine tt ?_;refine AD [2,3,4,26] (G:=Unit) (fun k _=>[(27,some (.int .i64 (k : Int)))]) (fun k _ H'=>H'=H) c.AB.length () rfl rfl ?_
 rintro k _ H' hk rfl;refine tt ?_;apply bk <;> intro h1
 ·have AU:=A6 h1
  have w1:=Oi (k:=k) (by have:=cS.m; omega);refine tt ?_;refine ⟨AU, ?_⟩
  by_cases hA : p.src.AF≤c.AB.getD k default
  ·have dA : decide (p.src.AF≤c.AB.getD k default)=true:=decide_eq_true hA
   have dB : decide (c.to.getD k default<p.src.AF)=false:=decide_eq_false (by have:=ends k (by omega); omega);refine t2 dA dB ?_
   refine ⟨by omega, ?_⟩;try simp only [go_sem,↓reduceIte,reduceEqDiff,reduceAdd,reduceMul,reduceLeDiff,reduceLT,dA,dB,w1]
   exact A4 () AU rfl rfl
  ·have dA : decide (p.src.AF≤c.AB.getD k default)=false:=decide_eq_false hA;refine t2 dA w1 ?_
   exact A4 () AU rfl rfl
 ·have Sd:=A7 h1
  have wo : IntKind.i64.wrap (c.AF - p.src.AF)=p.AL.AF:=by rw [co,wrap_i64 (by omega) (by omega)]; omega
  have n1:=(Ff B p.src.AF (by omega)).run
  have n2:=(Ff B p.AL.AF (by omega)).run
  have s2:=(HN B (BG p.AL.AF) p.src.AF (fun k hk=>by
   rw [Et] at hk
   have:=EN (n:=p.AL.AF) (y:=(k : Int)) ⟨by omega,by omega⟩;rw [AR] at this; omega) (by omega)).run
  refine tt ?_;refine Qd (fun σ H=>σ=[(2,some (.ptr c.cells)),(3,some (.ptr [iI p.src.AF])),(4,some (.ref B1 0)),(7,some (.ptr [iL (iv 0 p.src.AB.length)])),(8,some (.ptr [iL (iv p.src.AB.length p.AL.AB.length)]))]∧A9 H0 H [(B1,.cells 13 Af 0)]) ?_ ?_
  ·refine tw wo ?_;refine ⟨_,n1,_,bL.run,_,n2,_,s2,_,bR.run, ?_⟩;refine ⟨?_, ?_⟩
   ·refine Ai o fun CT H o=>tt ?_;refine Ai o fun Cm H o=>tt ?_;refine sw o.swap fun H o=>tt ?_;refine sw o.swap fun H o=>tt ?_;refine Ca 8 o rfl fun H o=>?_;refine Ca 7 o rfl fun H o=>?_;exact Vg [2,3,4,7,8] ⟨rfl,o⟩
   ·refine Ai o fun Cm H o=>tt ?_;refine Ai o fun CT H o=>tt ?_;refine sw o fun H o=>tt ?_;refine sw o.swap fun H o=>tt ?_;refine Ca 8 o rfl fun H o=>?_;refine Ca 7 o rfl fun H o=>?_;exact Vg [2,3,4,7,8] ⟨rfl,o⟩
  rintro σ H ⟨rfl,o⟩;refine tt ?_;refine (sL).go fun _=>tt ?_;refine Ai o fun ON H o=>tt ?_;refine AS o (by simp [Ax.cells]) (by (try simp only [go_sem]); (try simp)) (by first | (simp only [go_sem]; done) | ((try simp only [go_sem]); simp [AV.one,Ay])) fun H o=>?_;simp only [Gv,Ej,List.set_cons_zero,List.set_cons_succ] at o;refine tt ?_;refine Ca 9 o rfl fun H o=>AX ?_;refine tt ?_;refine (sR).go fun _=>tt ?_;refine Ai o fun IL H o=>tt ?_;refine AS o (by simp [Ax.cells]) (by (try simp only [go_sem]); (try simp)) (by first | (simp only [go_sem]; done) | ((try simp only [go_sem]); simp [AV.one,Ay])) fun H o=>?_;simp only [Gv,Ej,List.set_cons_zero,List.set_cons_succ] at o;refine tt ?_;refine Ca 11 o rfl fun H o=>AX ?_;refine tt ?_;refine (fH B p sh q1 q2 q3 _).mono ?_
  rintro r H2 ⟨rfl,rfl⟩;refine tt ?_;refine nb o fun UH H o=>tt ?_;refine sw o fun H o=>?_
  have o : A9 H0 H ((UH,.cells 13 p.cells 0)::[(B1,.cells 13 Af 0)]):=o;refine tt ?_;refine AO o (by simp [PF.cells]) (tt ?_);refine AS o.swap (by simp [Af,PF.cells]) (by (try simp only [go_sem]); (try simp)) (by first | (simp only [go_sem]; done) | ((try simp only [go_sem]); simp [AV.one,Ay])) fun H o=>?_;unfold Af at o;simp only [Gv,Ej,List.set_cons_zero,List.set_cons_succ] at o;refine tt ?_;rw [o.rc 13 0 (by simp)];refine tt ?_;exact A5 rfl o.sub
end Go.Proofs.Shf
namespace Go.Shf
open Go.AW
section
variable (p : PF)
def H5 (x y i j : Nat) : Nat:=if i<x then BX p i j else if i=x then BX p x (min j y) else BX p x y
theorem ZK {x y i : Nat} (hy : y≤p.AL.AF.toNat) : H5 p x y i p.AL.AF.toNat=H5 p x y (i+1) 0:=by
 unfold H5
 by_cases h1 : i<x
 ·rw [if_pos h1,Uo]
  by_cases h2 : i+1<x
  ·rw [if_pos h2]
  ·rw [if_neg h2,if_pos (by omega),Nat.zero_min,show i+1=x by omega]
 ·rw [if_neg h1,if_neg (show ¬ i+1<x by omega),if_neg (show ¬ i+1=x by omega)]
  by_cases h2 : i=x
  ·rw [if_pos h2,show min p.AL.AF.toNat y=y by omega]
  ·rw [if_neg h2]
theorem rS {x y i j : Nat} (h : i<x∨i=x∧j<y) : H5 p x y i (j+1)=H5 p x y i j+(p.sz i j).toNat:=by
 unfold H5
 rcases h with h | ⟨rfl,h⟩
 ·rw [if_pos h,if_pos h,NK]
 ·rw [if_neg (by omega),if_pos rfl,if_neg (by omega),if_pos rfl,show min (j+1) y=min j y+1 by omega,NK,show min j y=j by omega]
theorem sG {x y i j : Nat} (h : ¬ (i<x∨i=x∧j<y)) : H5 p x y i (j+1)=H5 p x y i j:=by
 unfold H5
 have hn : ¬ i<x:=by omega
 rw [if_neg hn,if_neg hn]
 by_cases e : i=x
 ·rw [if_pos e,if_pos e,show min (j+1) y=min j y by omega]
 ·rw [if_neg e,if_neg e]
theorem YN {x y : Nat} : H5 p x y 0 0=0:=by
 unfold H5
 by_cases h1 : 0<x
 ·rw [if_pos h1,RX]
 ·rw [if_neg h1,if_pos (by omega),Nat.zero_min,show x=0 by omega,RX]
theorem Y3 {x y : Nat} (h : x<p.src.AF.toNat∨x=p.src.AF.toNat∧y=0) : H5 p x y p.src.AF.toNat 0=BX p x y:=by
 unfold H5;rw [if_neg (by omega)]
 rcases h with h | ⟨h,rfl⟩
 ·rw [if_neg (by omega)]
 ·rw [if_pos h.symm,Nat.zero_min]
theorem l6 {x y i j : Nat} (sh : p.Shape) (hi : i<p.src.AF.toNat) (hj : j≤p.AL.AF.toNat) (hx : x≤p.src.AF.toNat) (hy : y≤p.AL.AF.toNat) : H5 p x y i j≤4096:=by
 unfold H5
 by_cases h1 : i<x
 ·rw [if_pos h1]; exact Cb sh hi hj
 ·rw [if_neg h1]
  by_cases e : i=x
  ·rw [if_pos e]; exact Cb sh (by omega) (by omega)
  ·rw [if_neg e]; exact Cb sh (by omega) hy
end
end Go.Shf
namespace Go.Proofs.Shf
open Go.AW Go.Proofs Go.Shf
theorem Vb (B : Nat) {p : PF} (h : p.Is) : PB B 126 [.ptr p.cells,.ptr p.cells] (iI 0):=by
 refine ⟨fun H0=>rh.go fun _=>tt ?_⟩;refine (JJ B p).go fun _=>?_;rw [Av h];refine tt ?_;refine (JJ B p).go fun _=>?_;rw [Av h];refine tt ?_;refine ⟨_,(BM B p.src p.src).run, ?_⟩;rw [Av rfl];refine tt ?_;refine ⟨_,(BM B p.AL p.AL).run, ?_⟩;rw [Av rfl];refine tt ?_;exact A5 rfl (.refl _)
theorem XK (B : Nat) {p : PF} (h : p.Is) : PB B 131 [.agg p.cells,.agg p.cells] (iI 0):=by
 refine ⟨fun H0=>ub.go fun _=>tt ?_⟩;refine (Lm B p).go fun _=>?_;rw [Av h];refine tt ?_;refine (Lm B p).go fun _=>?_;rw [Av h];refine tt ?_;refine (Da B p.src p.src).go fun _=>?_;rw [Av rfl];refine tt ?_;refine (Da B p.AL p.AL).go fun _=>?_;rw [Av rfl];refine tt ?_;exact A5 rfl (.refl _)
theorem DL (B : Nat) {p : PF} (sh : p.Shape) {x y : Nat} (hx : x<p.src.AF.toNat∨x=p.src.AF.toNat∧y=0) (hy : y≤p.AL.AF.toNat) : PB B 132 [.agg p.cells,iI x,iI y] (iI (BX p x y)):=by
 refine ⟨fun H0=>qm.go fun _=>?_⟩
 have so:=sh.sI.1.o
 have to:=sh.tI.1.o;refine tt ?_;refine AD [1,2,3] (G:=Unit) (fun k _=>[(7,some (iI (H5 p x y k 0))),(8,some (.int .i64 (k : Int)))]) (fun k _ H=>H=H0) p.src.AF.toNat () rfl (by rw [YN]; rfl) ?_
 rintro i _ H hi rfl;refine tt ?_;apply bk <;> intro h1
 ·have AU:=A6 h1
  have w1:=ws i;refine tt ?_;refine AD [1,2,3,8] (G:=Unit) (fun k _=>[(7,some (iI (H5 p x y i k))),(9,some (.int .i64 (k : Int)))]) (fun k _ H'=>H'=H) p.AL.AF.toNat () rfl rfl ?_
  rintro j _ H' hj rfl;refine tt ?_;apply bk <;> intro h2
  ·have Aq:=A6 h2
   have w2:=ws j
   have W8 : p.src.ES i:=⟨by omega,by omega⟩
   have L9 : p.AL.ES j:=⟨by omega,by omega⟩
   have zi:=sh.WK W8
   have zj:=sh.Ws W8 L9;rw [AR] at zj
   have q:=(sh.rl _ W8).2 _ L9
   have q2 : p.sz i j=(p.AK.getD i default).getD j default:=by rw [PF.sz,AR,AR]
   have le:=l6 p (x:=x) (y:=y) (i:=i) (j:=j) sh (by omega) (by omega) (by omega) hy
   by_cases hc : i<x∨i=x∧j<y
   ·have e:=rS p hc
    have ws : IntKind.i64.wrap ((H5 p x y i j : Int)+(p.AK.getD i default).getD j default)=((H5 p x y i (j+1) : Nat) : Int):=by
     rw [← q2,e,wrap_i64 (by omega) (by omega)]; omega
    by_cases h3 : i<x
    ·have d3 : decide (i<x)=true:=decide_eq_true h3;refine tw d3 ?_;refine ⟨by simpa using zi.2,by simpa using zj.2, ?_⟩;refine t2 ws w2 ?_
     exact A4 () (by omega) rfl rfl
    ·have d3 : decide (i<x)=false:=decide_eq_false h3
     have d4 : decide (i=x)=true:=decide_eq_true (by omega)
     have d5 : decide (j<y)=true:=decide_eq_true (by omega);try simp only [go_sem,↓reduceIte,reduceEqDiff,reduceAdd,reduceMul,reduceLeDiff,reduceLT,d3,d4,d5]
     refine ⟨by simpa using zi.2,by simpa using zj.2, ?_⟩;refine t2 ws w2 ?_
     exact A4 () (by omega) rfl rfl
   ·have e:=sG p hc
    have d3 : decide (i<x)=false:=decide_eq_false (by omega)
    by_cases h4 : i=x
    ·have d4 : decide (i=x)=true:=decide_eq_true h4
     have d5 : decide (j<y)=false:=decide_eq_false (by omega);try simp only [go_sem,↓reduceIte,reduceEqDiff,reduceAdd,reduceMul,reduceLeDiff,reduceLT,d3,d4,d5,w2]
     exact A4 () (by omega) rfl (by rw [e])
    ·have d4 : decide (i=x)=false:=decide_eq_false h4;try simp only [go_sem,↓reduceIte,reduceEqDiff,reduceAdd,reduceMul,reduceLeDiff,reduceLT,d3,d4,w2]
     exact A4 () (by omega) rfl (by rw [e])
  ·have xB:=A7 h2
   obtain rfl : j=p.AL.AF.toNat:=by omega
   refine tw w1 ?_;exact A4 () (by omega) rfl (by rw [ZK p hy])
 ·have Sd:=A7 h1
  obtain rfl : i=p.src.AF.toNat:=by omega
  refine tt ?_;exact A5 (by rw [Y3 p hx]) (.refl _)
end Go.Proofs.Shf
namespace Go.Shf
open Go.AW
theorem GU {α : Type} {g : Nat→List α} {n : Nat} {x : α} : x∈BP g n↔∃ i,i<n∧x∈g i:=by
 rw [BP,List.mem_flatMap];exact ⟨fun ⟨i,h,hx⟩=>⟨i,List.mem_range.mp h,hx⟩,fun ⟨i,h,hx⟩=>⟨i,List.mem_range.mpr h,hx⟩⟩
theorem Po {α : Type} {g : Nat→List α} {k : Nat} : ∀ n,(∀ i,i<n→(g i).length≤k)→(BP g n).length≤n*k
 | 0,_=>by simp [BP]
 | n+1,h=>by
  have ih:=Po n (fun i hi=>h i (by omega))
  have:=h n (by omega);rw [BV,List.length_append,Nat.succ_mul]; omega
theorem Lf {α β : Type} {g : Nat→List α} {f : Nat→List β} : ∀ n,(∀ i,i<n→(g i).length≤(f i).length)→(BP g n).length≤(BP f n).length
 | 0,_=>by simp [BP]
 | n+1,h=>by
  have ih:=Lf n (fun i hi=>h i (by omega))
  have:=h n (by omega);rw [BV,BV,List.length_append,List.length_append]; omega
section
variable (p : PF)
def CD : List Int:=(Cs p).map fun t=>p.sz t.1 t.2.1
def rP (a y e : Nat) : Lk:=⟨((BX p (p.src.to.getD a default).toNat y+e : Nat) : Int),(BX p (p.src.AB.getD a default).toNat y : Int)+ix (p.bf a y) e,p.bf a y,BG (p.sz (p.src.AB.getD a default) y)⟩
def DS (a y : Nat) : List Lk:=(List.range (p.sz (p.src.to.getD a default) y).toNat).map (rP p a y)
def Dq (a : Nat) : List Lk:=BP (DS p a) p.AL.AF.toNat
def Md : List Lk:=BP (Dq p) p.src.AB.length
def rM (b x e : Nat) : Lk:=⟨((BX p x (p.AL.AB.getD b default).toNat+e : Nat) : Int),(BX p x (p.AL.to.getD b default).toNat : Int)+ix (p.bh b x) e,p.bh b x,BG (p.sz x (p.AL.to.getD b default))⟩
def M8 (b x : Nat) : List Lk:=(List.range (p.sz x (p.AL.AB.getD b default)).toNat).map (rM p b x)
def Rb (b : Nat) : List Lk:=BP (M8 p b) p.src.AF.toNat
def Z8 : List Lk:=BP (Rb p) p.AL.AB.length
def FC : List Lk:=Md p++Z8 p
end
section
variable {p : PF}
theorem DF : (CD p).length=(Cs p).length:=by simp [CD]
theorem I6 {x y e : Nat} (hx : x<p.src.AF.toNat) (hy : y<p.AL.AF.toNat) (he : e<(p.sz x y).toNat) : ix (CD p) ((BX p x y+e : Nat) : Int)=p.sz x y:=by
 rw [AR,Go.AW.gE,CD,List.getElem?_map,KE hx hy he]; rfl
theorem K6 {l : Lk} : l∈FC p↔(∃ a y e,a<p.src.AB.length∧y<p.AL.AF.toNat∧e<(p.sz (p.src.to.getD a default) y).toNat∧l=rP p a y e)∨(∃ b x e,b<p.AL.AB.length∧x<p.src.AF.toNat∧e<(p.sz x (p.AL.AB.getD b default)).toNat∧l=rM p b x e):=by
 rw [FC,List.mem_append,Md,Z8,GU,GU]
 constructor
 ·rintro (⟨a,ha,hm⟩ | ⟨b,hb,hm⟩)
  ·rw [Dq,GU] at hm
   obtain ⟨y,hy,hm⟩:=hm;rw [DS,List.mem_map] at hm
   obtain ⟨e,he,rfl⟩:=hm;exact .inl ⟨a,y,e,ha,hy,List.mem_range.mp he,rfl⟩
  ·rw [Rb,GU] at hm
   obtain ⟨x,hx,hm⟩:=hm;rw [M8,List.mem_map] at hm
   obtain ⟨e,he,rfl⟩:=hm;exact .inr ⟨b,x,e,hb,hx,List.mem_range.mp he,rfl⟩
 ·rintro (⟨a,y,e,ha,hy,he,rfl⟩ | ⟨b,x,e,hb,hx,he,rfl⟩)
  ·exact .inl ⟨a,ha,by rw [Dq,GU]; exact ⟨y,hy,List.mem_map.mpr ⟨e,List.mem_range.mpr he,rfl⟩⟩⟩
  ·exact .inr ⟨b,hb,by rw [Rb,GU]; exact ⟨x,hx,List.mem_map.mpr ⟨e,List.mem_range.mpr he,rfl⟩⟩⟩
theorem Ma (h : p.Shape) {a y e : Nat} (ha : a<p.src.AB.length) (hy : y<p.AL.AF.toNat) (he : e<(p.sz (p.src.to.getD a default) y).toNat) :
  ∃ u v w : Nat,p.src.AB.getD a default=(u : Int)∧p.src.to.getD a default=(v : Int)∧u<p.src.AF.toNat∧v<p.src.AF.toNat∧e<(p.sz v y).toNat∧ix (p.bf a y) e=(w : Int)∧w<(p.sz u y).toNat ∧
   rP p a y e=⟨((BX p v y+e : Nat) : Int),((BX p u y+w : Nat) : Int),p.bf a y,BG (p.sz u y)⟩:=by
 have r:=GH h ha
 obtain ⟨u,eu⟩ : ∃ u : Nat,p.src.AB.getD a default=(u : Int):=⟨_,(Int.toNat_of_nonneg r.1.1).symm⟩
 obtain ⟨v,ev⟩ : ∃ v : Nat,p.src.to.getD a default=(v : Int):=⟨_,(Int.toNat_of_nonneg r.2.1).symm⟩;rw [ev] at he
 obtain ⟨w,hw,Dp⟩:=bfN h ha hy (z:=e) (by rw [ev]; simpa using he);rw [eu,Int.toNat_natCast] at Dp;refine ⟨u,v,w,eu,ev,by omega,by omega,he,hw,Dp, ?_⟩;rw [rP,eu,ev,hw,Int.toNat_natCast,Int.toNat_natCast]
 congr 1
theorem Mv (h : p.Shape) {b x e : Nat} (hb : b<p.AL.AB.length) (hx : x<p.src.AF.toNat) (he : e<(p.sz x (p.AL.AB.getD b default)).toNat) :
  ∃ u v w : Nat,p.AL.AB.getD b default=(u : Int)∧p.AL.to.getD b default=(v : Int)∧u<p.AL.AF.toNat∧v<p.AL.AF.toNat∧e<(p.sz x u).toNat∧ix (p.bh b x) e=(w : Int)∧w<(p.sz x v).toNat ∧
   rM p b x e=⟨((BX p x u+e : Nat) : Int),((BX p x v+w : Nat) : Int),p.bh b x,BG (p.sz x v)⟩:=by
 have r:=Fc h hb
 obtain ⟨u,eu⟩ : ∃ u : Nat,p.AL.AB.getD b default=(u : Int):=⟨_,(Int.toNat_of_nonneg r.1.1).symm⟩
 obtain ⟨v,ev⟩ : ∃ v : Nat,p.AL.to.getD b default=(v : Int):=⟨_,(Int.toNat_of_nonneg r.2.1).symm⟩;rw [eu] at he
 obtain ⟨w,hw,Dp⟩:=bhN h hb hx (z:=e) (by rw [eu]; simpa using he);rw [ev,Int.toNat_natCast] at Dp;refine ⟨u,v,w,eu,ev,by omega,by omega,he,hw,Dp, ?_⟩;rw [rM,eu,ev,hw,Int.toNat_natCast,Int.toNat_natCast]
 congr 1
theorem Ps (h : p.Shape) : J2 (CD p) (FC p):=by
 have so:=h.sI.1.o
 have to:=h.tI.1.o
 have key : ∀ l,l∈FC p→∃ x y e x' y' w : Nat,x<p.src.AF.toNat∧y<p.AL.AF.toNat∧e<(p.sz x y).toNat∧x'<p.src.AF.toNat∧y'<p.AL.AF.toNat∧w<(p.sz x' y').toNat ∧
   l.i=((BX p x y+e : Nat) : Int)∧l.j=((BX p x' y'+w : Nat) : Int)∧(l.left.length : Int)=p.sz x y∧l.right=BG (p.sz x' y')∧∀ z,z∈l.left→0≤z∧z<p.sz x' y':=by
  intro l hl
  rcases K6.mp hl with ⟨a,y,e,ha,hy,he,rfl⟩ | ⟨b,x,e,hb,hx,he,rfl⟩
  ·obtain ⟨u,v,w,eu,ev,hu,hv,he,hw,Dp,el⟩:=Ma h ha hy he
   have m:=(h.bm (a : Int) ⟨by omega,by simpa using ha⟩).2 (y : Int) ⟨by omega,by omega⟩;rw [AR,AR,eu,ev] at m
   have bl:=Fw h ha hy;rw [ev] at bl;rw [el]
   exact ⟨v,y,e,u,y,w,hv,hy,he,hu,hy,Dp,rfl,rfl,by show ((p.bf a y).length : Int)=_; omega,rfl,fun z hz=>by
    obtain ⟨i,hi,rfl⟩:=AE.mp hz
    have hi : i<(p.bf a y).length:=hi
    have:=m.at (i:=(i : Int)) ⟨by omega,by omega⟩;rw [AR] at this; exact this⟩
  ·obtain ⟨u,v,w,eu,ev,hu,hv,he,hw,Dp,el⟩:=Mv h hb hx he
   have m:=(h.hm (b : Int) ⟨by omega,by simpa using hb⟩).2 (x : Int) ⟨by omega,by omega⟩;rw [AR,AR,eu,ev] at m
   have bl:=Fp h hb hx;rw [eu] at bl;rw [el]
   exact ⟨x,u,e,x,v,w,hx,hu,he,hx,hv,Dp,rfl,rfl,by show ((p.bh b x).length : Int)=_; omega,rfl,fun z hz=>by
    obtain ⟨i,hi,rfl⟩:=AE.mp hz
    have hi : i<(p.bh b x).length:=hi
    have:=m.at (i:=(i : Int)) ⟨by omega,by omega⟩;rw [AR] at this; exact this⟩
 refine ⟨⟨fun l hl=>?_,fun l hl=>?_,fun l hl=>?_,fun l hl=>?_,fun y hy=>?_⟩,fun l hl=>?_,fun l hl=>?_⟩
 ·obtain ⟨x,y,e,x',y',w,hx,hy,he,TM,yH,hw,ei,ej,e1,e2,e3⟩:=key l hl
  have:=HR hx hy he;rw [ei,DF]; omega
 ·obtain ⟨x,y,e,x',y',w,hx,hy,he,TM,yH,hw,ei,ej,e1,e2,e3⟩:=key l hl
  have:=HR TM yH hw;rw [ej,DF]; omega
 ·obtain ⟨x,y,e,x',y',w,hx,hy,he,TM,yH,hw,ei,ej,e1,e2,e3⟩:=key l hl;rw [ei,I6 hx hy he,e1]
 ·obtain ⟨x,y,e,x',y',w,hx,hy,he,TM,yH,hw,ei,ej,e1,e2,e3⟩:=key l hl;rw [ej,I6 TM yH hw,e2,Et]; omega
 ·rw [CD,List.mem_map] at hy
  obtain ⟨t,ht,rfl⟩:=hy
  obtain ⟨i,hi,et⟩:=AE.mp ht
  obtain ⟨x,z,e,hx,hz,he,rfl⟩:=OE hi;rw [Se hx hz he] at et;subst et
  have:=(h.rl (x : Int) ⟨by omega,by omega⟩).2 (z : Int) ⟨by omega,by omega⟩
  show 0≤p.sz x z∧p.sz x z≤4096
  omega
 ·obtain ⟨x,y,e,x',y',w,hx,hy,he,TM,yH,hw,ei,ej,e1,e2,e3⟩:=key l hl;rw [e2,ej,I6 TM yH hw]
 ·obtain ⟨x,y,e,x',y',w,hx,hy,he,TM,yH,hw,ei,ej,e1,e2,e3⟩:=key l hl;rw [ej,I6 TM yH hw]; exact e3
end
end Go.Shf
namespace Go.Shf
open Go.AW
section
variable (p : PF)
def GN (t : List Int) (x y : Nat) : List Int:=(t.drop (BX p x y)).take (p.sz x y).toNat
def F3 (t : List Int) : List (List (List Int)):=(List.range p.src.AF.toNat).map fun x=>(List.range p.AL.AF.toNat).map fun y=>GN p t x y
def Bc : List Int:=(Cs p).map fun t=>(t.2.2 : Int)
end
section
variable {p : PF}
theorem U7 (h : p.Shape) {x y : Nat} (hx : x<p.src.AF.toNat) (hy : y<p.AL.AF.toNat) : BX p x y+(p.sz x y).toNat≤(Cs p).length:=by
 have:=F4 (Ag p+BX p x y) (p.sz x y).toNat
 by_cases h0 : (p.sz x y).toNat=0
 ·rw [h0,Nat.add_zero,BX]
  obtain ⟨r,e1⟩:=Dj (FZ p) (show x+1≤p.src.AF.toNat by omega)
  obtain ⟨r2,e2⟩:=Dj (CK p x) (show y≤p.AL.AF.toNat by omega)
  have e3 : (Cs p).length=(BP (FZ p) (x+1)).length+r.length:=by rw [Cs,e1,List.length_append]
  rw [BV,List.length_append] at e3
  have e4 : (FZ p x).length=(BP (CK p x) y).length+r2.length:=by rw [FZ,e2,List.length_append]
  omega
 ·have:=HR hx hy (e:=(p.sz x y).toNat - 1) (by omega);omega
theorem Q2 (h : p.Shape) {t : List Int} (ht : t.length=(Cs p).length) {x y : Nat} (hx : x<p.src.AF.toNat) (hy : y<p.AL.AF.toNat) : (GN p t x y).length=(p.sz x y).toNat:=by
 have:=U7 h hx hy;rw [GN,List.length_take,List.length_drop]; omega
theorem JD {t : List Int} {x y e : Nat} (he : e<(p.sz x y).toNat) : (GN p t x y).getD e default=t.getD (BX p x y+e) default:=by
 rw [GN,Go.AW.gE,List.getElem?_take,if_pos he,List.getElem?_drop,Go.AW.gE]
theorem Q4 (h : p.Shape) {t : List Int} (s : wR (CD p) (FC p) t) {x y e : Nat} (hx : x<p.src.AF.toNat) (hy : y<p.AL.AF.toNat) (he : e<(p.sz x y).toNat) : 0≤(GN p t x y).getD e default∧(GN p t x y).getD e default<p.sz x y:=by
 have:=s.Nt (BX p x y+e) (by rw [DF]; exact HR hx hy he)
 have e2:=I6 hx hy he;rw [AR] at e2;rw [JD he]; rw [e2] at this; exact this
theorem fN (h : p.Shape) {t : List Int} (s : wR (CD p) (FC p) t) {a y u v : Nat} (ha : a<p.src.AB.length) (hy : y<p.AL.AF.toNat) (eu : p.src.AB.getD a default=(u : Int)) (ev : p.src.to.getD a default=(v : Int)) :
  iC (p.bf a y) (GN p t u y)=iC (GN p t v y) (p.bf a y):=by
 have r:=GH h ha
 have hu : u<p.src.AF.toNat:=by omega
 have hv : v<p.src.AF.toNat:=by omega
 have ht : t.length=(Cs p).length:=by rw [s.len,DF]
 have l1:=Fw h ha hy;rw [ev] at l1
 have l2:=Q2 h ht hv hy;refine List.ext_getElem (by rw [iC,iC,List.length_map,List.length_map,l1,l2]) fun e h1 h2=>?_
 have he : e<(p.sz v y).toNat:=by rw [iC,List.length_map,l1] at h1; exact h1
 obtain ⟨u',v',w,eu',ev',-,-,-,hw,Dp,el⟩:=Ma h ha hy (e:=e) (by rw [ev]; exact he)
 obtain rfl : u'=u:=by omega
 obtain rfl : v'=v:=by omega
 have lk:=s.link _ (K6.mpr (.inl ⟨a,y,e,ha,hy,by rw [ev]; exact he,rfl⟩));rw [el] at lk
 have lk : ix (p.bf a y) (ix t ((BX p v' y+e : Nat) : Int))=ix (BG (p.sz u' y)) (ix t ((BX p u' y+w : Nat) : Int)):=lk
 have rn:=Q4 h s hu hy Dp;rw [JD Dp] at rn;rw [AR (k:=BX p v' y+e),AR (k:=BX p u' y+w),EN rn] at lk
 have g1 : (p.bf a y)[e]'(by rw [l1]; exact he)=(w : Int):=by
  rw [AR,Go.AW.gE,List.getElem?_eq_getElem (by rw [l1]; exact he)] at hw; exact hw
 have g2 : (GN p t v' y)[e]'(by rw [l2]; exact he)=t.getD (BX p v' y+e) default:=by
  have:=JD (p:=p) (t:=t) he;rw [Go.AW.gE,List.getElem?_eq_getElem (by rw [l2]; exact he)] at this; exact this
 simp only [iC,List.getElem_map];rw [g1,g2,lk,AR,JD Dp]
theorem Yz (h : p.Shape) {t : List Int} (s : wR (CD p) (FC p) t) {b x u v : Nat} (hb : b<p.AL.AB.length) (hx : x<p.src.AF.toNat) (eu : p.AL.AB.getD b default=(u : Int)) (ev : p.AL.to.getD b default=(v : Int)) :
  iC (p.bh b x) (GN p t x v)=iC (GN p t x u) (p.bh b x):=by
 have r:=Fc h hb
 have hu : u<p.AL.AF.toNat:=by omega
 have hv : v<p.AL.AF.toNat:=by omega
 have ht : t.length=(Cs p).length:=by rw [s.len,DF]
 have l1:=Fp h hb hx;rw [eu] at l1
 have l2:=Q2 h ht hx hu;refine List.ext_getElem (by rw [iC,iC,List.length_map,List.length_map,l1,l2]) fun e h1 h2=>?_
 have he : e<(p.sz x u).toNat:=by rw [iC,List.length_map,l1] at h1; exact h1
 obtain ⟨u',v',w,eu',ev',-,-,-,hw,Dp,el⟩:=Mv h hb hx (e:=e) (by rw [eu]; exact he)
 obtain rfl : u'=u:=by omega
 obtain rfl : v'=v:=by omega
 have lk:=s.link _ (K6.mpr (.inr ⟨b,x,e,hb,hx,by rw [eu]; exact he,rfl⟩));rw [el] at lk
 have lk : ix (p.bh b x) (ix t ((BX p x u'+e : Nat) : Int))=ix (BG (p.sz x v')) (ix t ((BX p x v'+w : Nat) : Int)):=lk
 have rn:=Q4 h s hx hv Dp;rw [JD Dp] at rn;rw [AR (k:=BX p x u'+e),AR (k:=BX p x v'+w),EN rn] at lk
 have g1 : (p.bh b x)[e]'(by rw [l1]; exact he)=(w : Int):=by
  rw [AR,Go.AW.gE,List.getElem?_eq_getElem (by rw [l1]; exact he)] at hw; exact hw
 have g2 : (GN p t x u')[e]'(by rw [l2]; exact he)=t.getD (BX p x u'+e) default:=by
  have:=JD (p:=p) (t:=t) he;rw [Go.AW.gE,List.getElem?_eq_getElem (by rw [l2]; exact he)] at this; exact this
 simp only [iC,List.getElem_map];rw [g1,g2,lk,AR,JD Dp]
theorem MW {x y e : Nat} (hx : x<p.src.AF.toNat) (hy : y<p.AL.AF.toNat) (he : e<(p.sz x y).toNat) : ix (Bc p) ((BX p x y+e : Nat) : Int)=(e : Int):=by
 rw [AR,Go.AW.gE,Bc,List.getElem?_map,KE hx hy he]; rfl
theorem nN (h : p.Shape) : wR (CD p) (FC p) (Bc p):=by
 refine ⟨by simp [Bc,CD],fun n hn=>?_,fun l hl=>?_⟩
 ·rw [DF] at hn
  obtain ⟨x,y,e,hx,hy,he,rfl⟩:=OE hn
  have e1:=MW hx hy he
  have e2:=I6 hx hy he;rw [AR] at e1 e2;rw [e1,e2]; omega
 ·rcases K6.mp hl with ⟨a,y,e,ha,hy,he,rfl⟩ | ⟨b,x,e,hb,hx,he,rfl⟩
  ·obtain ⟨u,v,w,eu,ev,hu,hv,he,hw,Dp,el⟩:=Ma h ha hy he;rw [el]
   show ix (p.bf a y) (ix (Bc p) ((BX p v y+e : Nat) : Int))=ix (BG (p.sz u y)) (ix (Bc p) ((BX p u y+w : Nat) : Int))
   rw [MW hv hy he,MW hu hy Dp,hw,EN (by omega)]
  ·obtain ⟨u,v,w,eu,ev,hu,hv,he,hw,Dp,el⟩:=Mv h hb hx he;rw [el]
   show ix (p.bh b x) (ix (Bc p) ((BX p x u+e : Nat) : Int))=ix (BG (p.sz x v)) (ix (Bc p) ((BX p x v+w : Nat) : Int))
   rw [MW hx hu he,MW hx hv Dp,hw,EN (by omega)]
noncomputable def MB (p : PF) : List (List Int):=OB (CD p) (FC p)
theorem ML (h : p.Shape) {t : List Int} : t∈MB p↔wR (CD p) (FC p) t:=(cG (Ps h).ok).mem t
theorem nF (h : p.Shape) : 0<(MB p).length:=List.length_pos_of_mem ((ML h).mpr (nN h))
theorem eU (h : p.Shape) : (FC p).length≤(p.src.AB.length+p.AL.AB.length)*(Cs p).length:=by
 have h1 : (Md p).length≤p.src.AB.length*(Cs p).length:=Po _ fun a ha=>by
  have r:=GH h ha
  obtain ⟨v,ev⟩ : ∃ v : Nat,p.src.to.getD a default=(v : Int):=⟨_,(Int.toNat_of_nonneg r.2.1).symm⟩
  have q : (Dq p a).length≤(FZ p v).length:=Lf _ fun y hy=>by rw [DS,List.length_map,List.length_range,DT,ev]; omega
  obtain ⟨r,e1⟩:=Dj (FZ p) (show v+1≤p.src.AF.toNat by omega)
  have e3 : (Cs p).length=(BP (FZ p) (v+1)).length+r.length:=by rw [Cs,e1,List.length_append]
  rw [BV,List.length_append] at e3;omega
 have h2 : (Z8 p).length≤p.AL.AB.length*(Cs p).length:=Po _ fun b hb=>by
  have r:=Fc h hb
  obtain ⟨u,eu⟩ : ∃ u : Nat,p.AL.AB.getD b default=(u : Int):=⟨_,(Int.toNat_of_nonneg r.1.1).symm⟩;refine Lf _ fun x hx=>?_
  obtain ⟨r2,e2⟩:=Dj (CK p x) (show u+1≤p.AL.AF.toNat by omega)
  have e4 : (FZ p x).length=(BP (CK p x) (u+1)).length+r2.length:=by rw [FZ,e2,List.length_append]
  rw [BV,List.length_append,DT] at e4;rw [M8,List.length_map,List.length_range,eu];omega
 rw [FC,List.length_append,Nat.add_mul]; omega
end
end Go.Shf
namespace Go.Shf
open Go.AW
section
variable (p : PF)
def Ik (x y : Nat) : List Int:=(M6 p x y).map fun t=>p.sz t.1 t.2.1
theorem Wq (x : Nat) : Ik p x p.AL.AF.toNat=Ik p (x+1) 0:=by rw [Ik,Ik,PL]
theorem Ra : Ik p p.src.AF.toNat 0=CD p:=by rw [Ik,Jv,CD]
theorem QZ (x y : Nat) : Ik p x (y+1)=Ik p x y++List.replicate (p.sz x y).toNat (p.sz x y):=by
 rw [Ik,Ik,Jg,List.map_append]
 congr 1
 refine List.ext_getElem (by simp [CK]) fun i h1 h2=>?_
 simp [CK]
def bK (a y e : Nat) : List Lk:=BP (Dq p) a++(BP (DS p a) y++(DS p a y).take e)
theorem cR (a : Nat) : BP (Dq p) a++BP (DS p a) p.AL.AF.toNat=BP (Dq p) (a+1)++BP (DS p (a+1)) 0:=by rw [BV,Dq,EW,List.append_nil]
theorem V8 (a y : Nat) : bK p a y 0=BP (Dq p) a++BP (DS p a) y:=by rw [bK,List.take_zero,List.append_nil]
theorem Vz (a y : Nat) : bK p a y (p.sz (p.src.to.getD a default) y).toNat=BP (Dq p) a++BP (DS p a) (y+1):=by rw [bK,BV,List.take_of_length_le (by rw [DS,List.length_map,List.length_range]; exact Nat.le_refl _)]
theorem UM {a y e : Nat} (he : e<(p.sz (p.src.to.getD a default) y).toNat) : bK p a y (e+1)=bK p a y e++[rP p a y e]:=by
 rw [bK,bK,Go.Proofs.Shf.C8 (DS p a y) (by rw [DS,List.length_map,List.length_range]; exact he),DS,Ab _ _ he];simp only [List.append_assoc]
theorem IV {α : Type} (g : Nat→List α) {x n : Nat} (h : x≤n) : (BP g x).length≤(BP g n).length:=by
 obtain ⟨r,e⟩:=Dj g h;rw [e,List.length_append]; omega
theorem o4 {a y e : Nat} (ha : a<p.src.AB.length) (hy : y<p.AL.AF.toNat) : (bK p a y e).length≤(FC p).length:=by
 have h1:=IV (DS p a) (show y+1≤p.AL.AF.toNat by omega)
 have h2:=IV (Dq p) (show a+1≤p.src.AB.length by omega);rw [BV,List.length_append] at h1 h2;rw [bK,List.length_append,List.length_append,List.length_take,FC,List.length_append,Md]
 have : (Dq p a).length=(BP (DS p a) p.AL.AF.toNat).length:=rfl;omega
theorem Eb (h : p.Shape) (hn : Ap p≤40) : (FC p).length≤1600:=by
 have h1:=eU h
 have s6 : Ap p=p.src.AB.length+p.AL.AB.length+(Cs p).length:=rfl
 have : (p.src.AB.length+p.AL.AB.length)*(Cs p).length≤40*40:=Nat.mul_le_mul (by omega) (by omega);omega
def hC (b x : Nat) : List Lk:=Md p++(BP (Rb p) b++BP (M8 p b) x)
def hK (b x e : Nat) : List Lk:=Md p++(BP (Rb p) b++(BP (M8 p b) x++(M8 p b x).take e))
theorem VU : hC p 0 0=Md p:=by rw [hC,EW,EW,List.append_nil,List.append_nil]
theorem Zv (b : Nat) : hC p b p.src.AF.toNat=hC p (b+1) 0:=by rw [hC,hC,BV,Rb,EW,List.append_nil]
theorem V5 : hC p p.AL.AB.length 0=FC p:=by rw [hC,EW,List.append_nil,FC,Z8]
theorem UN (b x : Nat) : hK p b x 0=hC p b x:=by rw [hK,List.take_zero,List.append_nil,hC]
theorem Vn (b x : Nat) : hK p b x (p.sz x (p.AL.AB.getD b default)).toNat=hC p b (x+1):=by rw [hK,hC,BV,List.take_of_length_le (by rw [M8,List.length_map,List.length_range]; exact Nat.le_refl _)]
theorem Wa {b x e : Nat} (he : e<(p.sz x (p.AL.AB.getD b default)).toNat) : hK p b x (e+1)=hK p b x e++[rM p b x e]:=by
 rw [hK,hK,Go.Proofs.Shf.C8 (M8 p b x) (by rw [M8,List.length_map,List.length_range]; exact he),M8,Ab _ _ he];simp only [List.append_assoc]
theorem oU {b x e : Nat} (hb : b<p.AL.AB.length) (hx : x<p.src.AF.toNat) : (hK p b x e).length≤(FC p).length:=by
 have h1:=IV (M8 p b) (show x+1≤p.src.AF.toNat by omega)
 have h2:=IV (Rb p) (show b+1≤p.AL.AB.length by omega);rw [BV,List.length_append] at h1 h2;rw [hK,List.length_append,List.length_append,List.length_append,List.length_take,FC,List.length_append,Z8]
 have : (Rb p b).length=(BP (M8 p b) p.src.AF.toNat).length:=rfl;omega
end
end Go.Shf
namespace Go.Proofs.Shf
open Go.AW Go.Proofs Go.Shf
theorem R5 (B : Nat) {p : PF} (sh : p.Shape) (hn : Ap p≤40) : PB B 127 [.ptr p.cells,.ptr p.cells] (.CQ [iL (CD p),mL Lh (FC p)]):=by
 refine ⟨fun H0=>mh.go fun _=>?_⟩
 have so:=sh.sI.1.o
 have to:=sh.tI.1.o
 have sm:=sh.sI.1.m
 have tm:=sh.tI.1.m
 have sl:=sh.sl
 have Ww : Ag p=p.src.AB.length+p.AL.AB.length:=rfl
 have s6 : Ap p=Ag p+(Cs p).length:=rfl
 have o : A9 H0 H0 []:=.nil _;refine tt ?_;refine (Lb B p sh).go fun _=>tt ?_;refine Az iI o fun Cm H o=>tt ?_;refine Kt Lh o fun ON H o=>tt ?_;refine AD [0,1,6,9,36,37] (G:=Nat) (fun k g=>[(8,some (.buf g (Ik p k 0).length)),(38,some (.int .i64 (k : Int)))]) (fun k g H=>A9 H0 H [(ON,.cells 3 (flat (([] : List Lk).map Lh)) 0),(g,.cells 1 ((Ik p k 0).map iI) 0)]) p.AK.length Cm o rfl ?_;clear o
 rintro x Cm H hx o
 replace o : A9 H0 H [(ON,.cells 3 (flat (([] : List Lk).map Lh)) 0),(Cm,.cells 1 ((Ik p x 0).map iI) 0)]:=o;refine tt ?_;apply bk <;> intro h1
 ·have AU:=A6 h1
  have w1:=ws x
  have W8 : p.src.ES x:=⟨by omega,by omega⟩
  have rl:=(sh.rl _ W8).1;rw [AR] at rl;refine tt ?_;refine ⟨AU, ?_⟩;refine AD [0,1,6,9,10,36,37,38,43,44] (G:=Nat) (fun k g=>[(8,some (.buf g (Ik p x k).length)),(45,some (.int .i64 (k : Int)))]) (fun k g H=>A9 H0 H [(ON,.cells 3 (flat (([] : List Lk).map Lh)) 0),(g,.cells 1 ((Ik p x k).map iI) 0)]) p.AL.AF.toNat Cm o rfl ?_;clear o
  rintro y Cm H hy o
  replace o : A9 H0 H [(ON,.cells 3 (flat (([] : List Lk).map Lh)) 0),(Cm,.cells 1 ((Ik p x y).map iI) 0)]:=o;refine tt ?_;apply bk <;> intro h2
  ·have Aq:=A6 h2
   have w2:=ws y
   have L9 : p.AL.ES y:=⟨by omega,by omega⟩
   have q:=(sh.rl _ W8).2 _ L9
   have q2 : p.sz x y=(p.AK.getD x default).getD y default:=by rw [PF.sz,AR,AR]
   obtain ⟨z,hz⟩ : ∃ z : Nat,(p.AK.getD x default).getD y default=(z : Int):=⟨_,(Int.toNat_of_nonneg (by rw [← q2]; exact q.1)).symm⟩
   have ez : (p.sz x y).toNat=z:=by rw [q2,hz]; simp
   have le:=N4 p (x:=x) (y:=y) sh (by omega) (by omega)
   have ll : (Ik p x y).length=(M6 p x y).length:=by rw [Ik,List.length_map]
   refine tt ?_;refine ⟨Aq,by omega,Aq, ?_⟩;rw [hz];refine (Hs B (z : Int) z (by omega)).go fun _=>tt ?_;refine Hh (out:=Ik p x y) (r:=List.replicate z (z : Int)) o.swap rfl (by simp only [List.length_replicate,AN]; omega) fun Cm H o=>?_;rw [show Ik p x y++List.replicate z (z : Int)=Ik p x (y+1) by rw [QZ,ez,show p.sz x y=(z : Int) by rw [q2,hz]]] at o ⊢;refine tw w2 ?_;exact A4 Cm (by omega) o.swap rfl
  ·have xB:=A7 h2
   obtain rfl : y=p.AL.AF.toNat:=by omega
   rw [Wq] at o ⊢;refine tw w1 ?_;exact A4 Cm (by omega) o rfl
 ·have Sd:=A7 h1
  obtain rfl : x=p.AK.length:=by omega
  rw [show p.AK.length=p.src.AF.toNat by omega,Ra] at o ⊢
  have e0 : ([] : List Lk)=BP (Dq p) 0++BP (DS p 0) 0:=rfl
  have bl:=sh.bl;rw [e0] at o;refine tt ?_;refine AD [0,1,6,8,69,70] (G:=Nat) (fun k g=>[(9,some (.buf g (BP (Dq p) k++BP (DS p k) 0).length)),(71,some (.int .i64 (k : Int)))]) (fun k g H=>A9 H0 H [(g,.cells 3 (flat ((BP (Dq p) k++BP (DS p k) 0).map Lh)) 0),(Cm,.cells 1 ((CD p).map iI) 0)]) p.before.length ON o rfl ?_;clear o
  rintro a ON H ha o
  replace o : A9 H0 H [(ON,.cells 3 (flat ((BP (Dq p) a++BP (DS p a) 0).map Lh)) 0),(Cm,.cells 1 ((CD p).map iI) 0)]:=o;refine tt ?_;apply bk <;> intro h3
  ·have BH:=A6 h3
   have w1:=ws a
   have Ke : p.src.DB a:=⟨by omega,by show (a : Int).toNat<_; omega⟩
   have bm:=(sh.bm _ Ke).1;rw [AR] at bm;refine tt ?_;refine ⟨BH, ?_⟩;refine AD [0,1,6,8,14,69,70,71,76,77] (G:=Nat) (fun k g=>[(9,some (.buf g (BP (Dq p) a++BP (DS p a) k).length)),(78,some (.int .i64 (k : Int)))]) (fun k g H=>A9 H0 H [(g,.cells 3 (flat ((BP (Dq p) a++BP (DS p a) k).map Lh)) 0),(Cm,.cells 1 ((CD p).map iI) 0)]) p.AL.AF.toNat ON o rfl ?_;clear o
   rintro y ON H hy o
   replace o : A9 H0 H [(ON,.cells 3 (flat ((BP (Dq p) a++BP (DS p a) y).map Lh)) 0),(Cm,.cells 1 ((CD p).map iI) 0)]:=o;refine tt ?_;apply bk <;> intro h4
   ·have D9:=A6 h4
    have w2:=ws y
    have L9 : p.AL.ES y:=⟨by omega,by omega⟩
    have Sb : a<p.src.AB.length:=by omega
    have bfl:=Fw sh Sb (y:=y) (by omega)
    have ebf : p.bf a y=(p.before.getD a default).getD y default:=by rw [PF.bf,AR,AR]
    rw [← V8] at o ⊢;refine tt ?_;refine ⟨D9, ?_⟩;rw [← ebf];refine AD [0,1,6,8,14,16,69,70,71,76,77,78,83,84] (G:=Nat) (fun k g=>[(9,some (.buf g (bK p a y k).length)),(85,some (.int .i64 (k : Int)))]) (fun k g H=>A9 H0 H [(g,.cells 3 (flat ((bK p a y k).map Lh)) 0),(Cm,.cells 1 ((CD p).map iI) 0)]) (p.sz (p.src.to.getD a default) y).toNat ON o rfl ?_;clear o
    rintro e ON H he o
    replace o : A9 H0 H [(ON,.cells 3 (flat ((bK p a y e).map Lh)) 0),(Cm,.cells 1 ((CD p).map iI) 0)]:=o;refine tt ?_;apply bk <;> intro h5
    ·have JB : e<(p.sz (p.src.to.getD a default) y).toNat:=by have:=A6 h5; omega
     have eS:=UM p (a:=a) (y:=y) JB
     obtain ⟨u,v,w,eu,ev,hu,hv,Xu,hw,Dp,el⟩:=Ma sh Sb (y:=y) (by omega) JB
     have qv:=(sh.rl (v : Int) ⟨by omega,by omega⟩).2 (y : Int) L9
     have qu:=(sh.rl (u : Int) ⟨by omega,by omega⟩).2 (y : Int) L9
     have w3:=ws e
     have A1:=Dz (p:=p) hu (y:=y) (by omega)
     have A2:=Dz (p:=p) hv (y:=y) (by omega)
     have l1:=HL (p:=p)
     have l2:=Es (p:=p) hu
     have l3:=Es (p:=p) hv
     have at1:=Cb sh hu (y:=y) (by omega)
     have at2:=Cb sh hv (y:=y) (by omega)
     have L5:=sh.sI.1.L5
     have S1 : IntKind.i64.wrap ((BX p v y : Int)+(e : Int))=((BX p v y+e : Nat) : Int):=by rw [wrap_i64 (by omega) (by omega)]; omega
     have S2 : IntKind.i64.wrap ((BX p u y : Int)+(w : Int))=((BX p u y+w : Nat) : Int):=by rw [wrap_i64 (by omega) (by omega)]; omega
     have yf : (p.bf a y).getD e default=(w : Int):=by rw [← hw,AR]
     have lb:=o4 p Sb (y:=y) (e:=e) (by omega)
     have ls:=Eb p sh hn;rw [ev] at bfl;try simp only [go_sem,↓reduceIte,reduceEqDiff,reduceAdd,reduceMul,reduceLeDiff,reduceLT,eu,ev,A1,A2,S1,S2,yf]
     refine ⟨by omega,by omega,by omega,by omega,by omega,by omega,by omega,by omega,by omega, ?_⟩;rw [← ebf];refine GS (f:=Lh) (rP p a y e) o (by rw [el]; rfl) rfl (by simp only [AN]; omega) fun ON H o=>?_;rw [← eS] at o ⊢;refine tw w3 ?_;exact A4 ON (by omega) o rfl
    ·have lq : ¬ e<(p.sz (p.src.to.getD a default) y).toNat:=by have:=A7 h5; omega
     obtain rfl : e=(p.sz (p.src.to.getD a default) y).toNat:=by omega
     rw [Vz] at o ⊢;refine tw w2 ?_;exact A4 ON (by omega) o rfl
   ·have vD:=A7 h4
    obtain rfl : y=p.AL.AF.toNat:=by omega
    rw [cR] at o ⊢;refine tw w1 ?_;exact A4 ON (by omega) o rfl
  ·have MP:=A7 h3
   obtain rfl : a=p.before.length:=by omega
   have e1 : BP (Dq p) p.before.length++BP (DS p p.before.length) 0=Md p:=by rw [bl,EW,List.append_nil,Md]
   rw [e1,← VU] at o ⊢;clear e1 e0
   have hl:=sh.hl;refine tt ?_;refine AD [0,1,6,8,142,143] (G:=Nat) (fun k g=>[(9,some (.buf g (hC p k 0).length)),(144,some (.int .i64 (k : Int)))]) (fun k g H=>A9 H0 H [(g,.cells 3 (flat ((hC p k 0).map Lh)) 0),(Cm,.cells 1 ((CD p).map iI) 0)]) p.behind.length ON o rfl ?_;clear o
   rintro b ON H hb o
   replace o : A9 H0 H [(ON,.cells 3 (flat ((hC p b 0).map Lh)) 0),(Cm,.cells 1 ((CD p).map iI) 0)]:=o;refine tt ?_;apply bk <;> intro h3
   ·have BH:=A6 h3
    have w1:=ws b
    have OM : p.AL.DB b:=⟨by omega,by show (b : Int).toNat<_; omega⟩
    have hm:=(sh.hm _ OM).1;rw [AR] at hm;refine tt ?_;refine ⟨BH, ?_⟩;refine AD [0,1,6,8,20,142,143,144,149,150] (G:=Nat) (fun k g=>[(9,some (.buf g (hC p b k).length)),(151,some (.int .i64 (k : Int)))]) (fun k g H=>A9 H0 H [(g,.cells 3 (flat ((hC p b k).map Lh)) 0),(Cm,.cells 1 ((CD p).map iI) 0)]) p.src.AF.toNat ON o rfl ?_;clear o
    rintro x ON H hx o
    replace o : A9 H0 H [(ON,.cells 3 (flat ((hC p b x).map Lh)) 0),(Cm,.cells 1 ((CD p).map iI) 0)]:=o;refine tt ?_;apply bk <;> intro h4
    ·have D9:=A6 h4
     have w2:=ws x
     have W8 : p.src.ES x:=⟨by omega,by omega⟩
     have Sb : b<p.AL.AB.length:=by omega
     have bhl:=Fp sh Sb (x:=x) (by omega)
     have ebh : p.bh b x=(p.behind.getD b default).getD x default:=by rw [PF.bh,AR,AR]
     rw [← UN] at o ⊢;refine tt ?_;refine ⟨D9, ?_⟩;rw [← ebh];refine AD [0,1,6,8,20,22,142,143,144,149,150,151,156,157] (G:=Nat) (fun k g=>[(9,some (.buf g (hK p b x k).length)),(158,some (.int .i64 (k : Int)))]) (fun k g H=>A9 H0 H [(g,.cells 3 (flat ((hK p b x k).map Lh)) 0),(Cm,.cells 1 ((CD p).map iI) 0)]) (p.sz x (p.AL.AB.getD b default)).toNat ON o rfl ?_;clear o
     rintro e ON H he o
     replace o : A9 H0 H [(ON,.cells 3 (flat ((hK p b x e).map Lh)) 0),(Cm,.cells 1 ((CD p).map iI) 0)]:=o;refine tt ?_;apply bk <;> intro h5
     ·have JB : e<(p.sz x (p.AL.AB.getD b default)).toNat:=by have:=A6 h5; omega
      have eS:=Wa p (b:=b) (x:=x) JB
      obtain ⟨u,v,w,eu,ev,hu,hv,Xu,hw,Dp,el⟩:=Mv sh Sb (x:=x) (by omega) JB
      have qv:=(sh.rl (x : Int) W8).2 (v : Int) ⟨by omega,by omega⟩
      have qu:=(sh.rl (x : Int) W8).2 (u : Int) ⟨by omega,by omega⟩
      have w3:=ws e
      have A1:=Dz (p:=p) (x:=x) (by omega) hu
      have A2:=Dz (p:=p) (x:=x) (by omega) hv
      have l1:=HL (p:=p)
      have l2:=Es (p:=p) (x:=x) (by omega)
      have at1:=Cb sh (x:=x) (y:=u) (by omega) (by omega)
      have at2:=Cb sh (x:=x) (y:=v) (by omega) (by omega)
      have L5:=sh.tI.1.L5
      have S1 : IntKind.i64.wrap ((BX p x u : Int)+(e : Int))=((BX p x u+e : Nat) : Int):=by rw [wrap_i64 (by omega) (by omega)]; omega
      have S2 : IntKind.i64.wrap ((BX p x v : Int)+(w : Int))=((BX p x v+w : Nat) : Int):=by rw [wrap_i64 (by omega) (by omega)]; omega
      have yf : (p.bh b x).getD e default=(w : Int):=by rw [← hw,AR]
      have lb:=oU p Sb (x:=x) (e:=e) (by omega)
      have ls:=Eb p sh hn;rw [eu] at bhl;try simp only [go_sem,↓reduceIte,reduceEqDiff,reduceAdd,reduceMul,reduceLeDiff,reduceLT,eu,ev,A1,A2,S1,S2,yf]
      refine ⟨by omega,by omega,by omega,by omega,by omega,by omega,by omega,by omega,by omega, ?_⟩;rw [← ebh];refine GS (f:=Lh) (rM p b x e) o (by rw [el]; rfl) rfl (by simp only [AN]; omega) fun ON H o=>?_;rw [← eS] at o ⊢;refine tw w3 ?_;exact A4 ON (by omega) o rfl
     ·have lq : ¬ e<(p.sz x (p.AL.AB.getD b default)).toNat:=by have:=A7 h5; omega
      obtain rfl : e=(p.sz x (p.AL.AB.getD b default)).toNat:=by omega
      rw [Vn] at o ⊢;refine tw w2 ?_;exact A4 ON (by omega) o rfl
    ·have vD:=A7 h4
     obtain rfl : x=p.src.AF.toNat:=by omega
     rw [Zv] at o ⊢;refine tw w1 ?_;exact A4 ON (by omega) o rfl
   ·have MP:=A7 h3
    obtain rfl : b=p.behind.length:=by omega
    rw [hl,V5] at o ⊢;refine tt ?_;refine Am o.swap rfl fun H o=>tt ?_;refine Qr o rfl fun H o=>tt ?_;exact A5 rfl o.sub
end Go.Proofs.Shf
