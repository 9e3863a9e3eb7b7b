/- Contracts, part 6. -/
import Derived.Test.YtnpimpkmgmnhhaaGreatF5
set_option linter.unusedVariables false
set_option linter.unusedSimpArgs false
set_option linter.unusedSectionVars false
set_option maxRecDepth 100000
open Nat (reduceEqDiff reduceAdd reduceMul reduceLeDiff reduceLT)
namespace Go.Shf
open Go.AW
section
variable {c : Cat} {f g x y z : Int}
theorem ar_self {f : Int} (hf : 0≤f∧f.toNat<c.frm.length) : c.Ar f (ix c.frm f) (ix c.to f):=⟨hf,rfl,rfl⟩
theorem fu_mk {k : FU} (h1 : k.src.Is) (h2 : k.tgt.Is) (ol : (k.ob.length : Int)=k.src.objs) (al : k.ar.length=k.src.frm.length) (ho : ∀ x,0≤x∧x<k.src.objs→0≤ix k.ob x∧ix k.ob x<k.tgt.objs)
  (ha : ∀ f x y,k.src.Ar f x y→k.tgt.Ar (ix k.ar f) (ix k.ob x) (ix k.ob y)) (hi : ∀ x,0≤x∧x<k.src.objs→ix k.ar (ix k.src.idn x)=ix k.tgt.idn (ix k.ob x))
  (hc : ∀ f g x y z,k.src.Ar f x y→k.src.Ar g y z→ix k.ar (k.src.th f g)=k.tgt.th (ix k.ar f) (ix k.ar g)) : k.Is:=by
 have hil:=h1.1.il;refine ⟨h1,h2,⟨ol,al,fun y hy=>?_,fun y hy=>?_⟩,⟨fun a haa=>?_,fun x hx=>?_,fun a b haa hb e=>?_⟩⟩
 ·obtain ⟨i,hi',rfl⟩:=mem_getD.mp hy
  have:=ho i (by omega);rw [ix_nat] at this; exact this
 ·obtain ⟨i,hi',rfl⟩:=mem_getD.mp hy
  have:=(ha i _ _ (ar_self (by omega))).r;rw [ix_nat] at this; omega
 ·have:=ha a _ _ (ar_self (by omega));rw [ix_nat,ix_nat,ix_nat] at this;exact ⟨this.s,this.t⟩
 ·have:=hi x (by omega);rw [ix_nat,ix_nat] at this;exact this
 ·have h3:=ar_self (c:=k.src) (f:=(a : Int)) (by omega)
  have h4:=ar_self (c:=k.src) (f:=(b : Int)) (by omega);rw [show ix k.src.frm (b : Int)=ix k.src.to (a : Int) from by rw [ix_nat,ix_nat]; exact e.symm] at h4
  have:=hc a b _ _ _ h3 h4;rw [Cat.th,Cat.th,ix_nat,ix_nat,ix_nat,ix_nat] at this;exact this
def thenL (l m : List Int) : List Int:=l.map fun i=>ix m i
end
end Go.Shf
namespace Go.Shf
open Go.AW
theorem getD_setI {A : List Int} {i j : Nat} {v : Int} (h : i<A.length) : (A.set i v).getD j default=if i=j then v else A.getD j default:=by
 rw [List.getD_eq_getElem?_getD,List.getElem?_set]
 by_cases e : i=j
 ·rw [if_pos e,if_pos e,if_pos (e ▸ h)]; rfl
 ·rw [if_neg e,if_neg e,List.getD_eq_getElem?_getD]
def negs (A : List Int) : Nat:=A.countP fun x=>decide (x<0)
theorem negs_set : ∀ {A : List Int} {i : Nat} {v : Int},i<A.length→A.getD i default<0→0≤v→negs (A.set i v)+1=negs A
 | [],i,v,h,_,_=>by simp at h
 | x::r,0,v,_,hx,hv=>by
  have hx' : decide (x<0)=true:=decide_eq_true hx
  have hv' : decide (v<0)=false:=decide_eq_false (by omega)
  simp [negs,List.countP_cons,hx',hv']
 | x::r,i+1,v,h,hx,hv=>by
  have ih:=negs_set (A:=r) (i:=i) (v:=v) (by simpa using h) (by simpa using hx) hv;simp only [negs,List.set_cons_succ,List.countP_cons] at ih ⊢;omega
structure ExtA (A B : List Int) : Prop where
 len : B.length=A.length
 keep : ∀ i : Nat,i<A.length→0≤A.getD i default→B.getD i default=A.getD i default
theorem ExtA.refl (A : List Int) : ExtA A A:=⟨rfl,fun _ _ _=>rfl⟩
theorem ExtA.trans {A B C : List Int} (h : ExtA A B) (k : ExtA B C) : ExtA A C :=
 ⟨k.len.trans h.len,fun i hi h0=>(k.keep i (by rw [h.len]; exact hi) (by rw [h.keep i hi h0]; exact h0)).trans (h.keep i hi h0)⟩
theorem ExtA.set {A : List Int} {i : Nat} {v : Int} (h : i<A.length) (hn : A.getD i default<0) : ExtA A (A.set i v):=by
 refine ⟨by simp,fun j hj h0=>?_⟩;rw [getD_setI h,if_neg]
 rintro rfl; omega
def DistA (A : List Int) : Prop:=∀ i j : Nat,i<A.length→j<A.length→0≤A.getD i default→A.getD i default=A.getD j default→i=j
section
variable {c : Cat} {A : List Int}
theorem ar_nat {i : Nat} (h : i<c.frm.length) : c.Ar (i : Int) (c.frm.getD i default) (c.to.getD i default):=⟨by omega,ix_nat _ _,ix_nat _ _⟩
theorem th_meets (h : c.Is) {a b : Nat} (ha : a<c.frm.length) (hb : b<c.frm.length) (hh : 0≤(c.comp.getD a default).getD b default) :
  c.to.getD a default=c.frm.getD b default:=by
 refine Classical.byContradiction fun e=>?_
 have:=h.1.non a b ha hb e;omega
theorem th_ran (h : c.Is) {a b : Nat} (ha : a<c.frm.length) (hb : b<c.frm.length) : (c.comp.getD a default).getD b default<c.frm.length:=by
 by_cases e : c.to.getD a default=c.frm.getD b default
 ·exact (h.1.yes a b ha hb e).1.2
 ·have:=h.1.non a b ha hb e; omega
end
noncomputable def markK (A : List Int) (n k : Nat) : List Bool:=(List.range n).map fun v : Nat=>dec (∃ i,i<k∧A.getD i default=(v : Int))
theorem markK_len (A : List Int) (n k : Nat) : (markK A n k).length=n:=by simp [markK]
theorem markK_at {A : List Int} {n k v : Nat} (h : v<n) : (markK A n k).getD v default=dec (∃ i,i<k∧A.getD i default=(v : Int)):=by rw [markK,getD_map_range _ _ h]
theorem markK_zero (A : List Int) (n : Nat) : markK A n 0=List.replicate n false:=by
 refine List.ext_getElem (by simp [markK]) fun i h1 h2=>?_;simp only [markK,List.getElem_map,List.getElem_range,List.getElem_replicate];exact dec_f fun ⟨j,hj,_⟩=>by omega
theorem markK_neg {A : List Int} {n k : Nat} (h : A.getD k default<0) : markK A n (k+1)=markK A n k:=by
 refine List.map_congr_left fun v _=>?_;refine dec_congr ⟨fun ⟨i,hi,e⟩=>?_,fun ⟨i,hi,e⟩=>⟨i,by omega,e⟩⟩
 by_cases q : i=k
 ·subst q; omega
 ·exact ⟨i,by omega,e⟩
theorem markK_pos {A : List Int} {n k v : Nat} (hv : v<n) (h : A.getD k default=(v : Int)) : markK A n (k+1)=(markK A n k).set v true:=by
 refine List.ext_getElem (by simp [markK]) fun u h1 h2=>?_
 have hu : u<n:=by simpa [markK] using h1
 rw [List.getElem_set];simp only [markK,List.getElem_map,List.getElem_range]
 by_cases e : v=u
 ·subst e; rw [if_pos rfl]; exact dec_t ⟨k,by omega,h⟩
 ·rw [if_neg e];refine dec_congr ⟨fun ⟨i,hi,e2⟩=>?_,fun ⟨i,hi,e2⟩=>⟨i,by omega,e2⟩⟩
  by_cases q : i=k
  ·subst q; omega
  ·exact ⟨i,by omega,e2⟩
def DistK (A : List Int) (k : Nat) : Prop:=∀ i j : Nat,i<k→j<k→0≤A.getD i default→A.getD i default=A.getD j default→i=j
theorem DistK.neg {A : List Int} {k : Nat} (h : DistK A k) (hn : A.getD k default<0) : DistK A (k+1):=fun i j hi hj h0 e=>by
 by_cases q1 : i=k
 ·subst q1; omega
 ·by_cases q2 : j=k
  ·subst q2; omega
  ·exact h i j (by omega) (by omega) h0 e
theorem DistK.pos {A : List Int} {k : Nat} (h : DistK A k) (hn : ¬ ∃ i,i<k∧A.getD i default=A.getD k default) : DistK A (k+1):=fun i j hi hj h0 e=>by
 by_cases q1 : i=k
 ·by_cases q2 : j=k
  ·omega
  ·subst q1; exact (hn ⟨j,by omega,e.symm⟩).elim
 ·by_cases q2 : j=k
  ·subst q2; exact (hn ⟨i,by omega,e⟩).elim
  ·exact h i j (by omega) (by omega) h0 e
theorem not_dist {A : List Int} {k i : Nat} (hk : k<A.length) (hi : i<k) (h0 : 0≤A.getD k default) (e : A.getD i default=A.getD k default) : ¬ DistA A:=fun h=>by
 have:=h k i hk (by omega) h0 e.symm; omega
theorem dist_full {A : List Int} (h : DistK A A.length) : DistA A:=h
end Go.Shf
namespace Go.Shf
open Go.AW
def allL (m : Nat) : Nat→List (List Int)
 | 0=>[[]]
 | n+1=>(List.range m).flatMap fun b=>(allL m n).map fun l=>Int.ofNat b::l
theorem mem_allL {m : Nat} : ∀ {n : Nat} {l : List Int},l∈allL m n↔l.length=n∧∀ x,x∈l→0≤x∧x<m
 | 0,l=>by
  rw [allL,List.mem_singleton]
  constructor
  ·rintro rfl; exact ⟨rfl,fun x h=>by cases h⟩
  ·rintro ⟨h,_⟩; exact List.eq_nil_of_length_eq_zero h
 | n+1,l=>by
  rw [allL,List.mem_flatMap]
  constructor
  ·rintro ⟨b,hb,h⟩
   obtain ⟨r,hr,rfl⟩:=List.mem_map.mp h
   have ih:=mem_allL.mp hr
   have hb:=List.mem_range.mp hb;refine ⟨by simp [ih.1],fun x hx=>?_⟩
   rcases List.mem_cons.mp hx with rfl | hx
   ·show (0 : Int)≤(b : Int)∧(b : Int)<(m : Int)
    omega
   ·exact ih.2 x hx
  ·rintro ⟨h,k⟩
   cases l with
   | nil=>simp at h
   | cons x r =>
    have hx:=k x (.head _);refine ⟨x.toNat,List.mem_range.mpr (by omega),List.mem_map.mpr ⟨r,mem_allL.mpr ⟨by simpa using h,fun y hy=>k y (.tail _ hy)⟩, ?_⟩⟩;rw [show Int.ofNat x.toNat=x from Int.toNat_of_nonneg hx.1]
def LexI (P Q : List Int) : Prop:=∃ a : Nat,(∀ i,i<a→P.getD i default=Q.getD i default)∧P.getD a default<Q.getD a default
theorem LexI.cons {b : Int} {P Q : List Int} (h : LexI P Q) : LexI (b::P) (b::Q):=by
 obtain ⟨a,h1,h2⟩:=h;refine ⟨a+1,fun i hi=>?_,by simpa using h2⟩
 cases i with
 | zero=>rfl
 | succ i=>simpa using h1 i (by omega)
theorem allL_lex (m : Nat) : ∀ n,(allL m n).Pairwise LexI
 | 0=>List.pairwise_singleton _ _
 | n+1=>by
  rw [allL,List.pairwise_flatMap];refine ⟨fun b _=>?_,List.pairwise_lt_range.imp fun {a b} h x hx y hy=>?_⟩
  ·rw [List.pairwise_map]; exact (allL_lex m n).imp fun h=>h.cons
  ·obtain ⟨p,_,rfl⟩:=List.mem_map.mp hx
   obtain ⟨q,_,rfl⟩:=List.mem_map.mp hy;exact ⟨0,fun i hi=>by omega,by simpa using h⟩
theorem LexI.ne {P Q : List Int} (h : LexI P Q) : P≠Q:=by
 rintro rfl
 obtain ⟨a,_,h⟩:=h;omega
theorem flat_congr {α β : Type} {f g : α→List β} : ∀ {L : List α},(∀ b,b∈L→f b=g b)→L.flatMap f=L.flatMap g
 | [],_=>rfl
 | b::L,h=>by rw [List.flatMap_cons,List.flatMap_cons,h b (.head _),flat_congr fun x hx=>h x (.tail _ hx)]
theorem flat_at {β : Type} {f : Int→List β} {W : List Int} {j : Nat} (h : j<W.length) : W.flatMap f=(W.take j).flatMap f++(f (W.getD j default)++(W.drop (j+1)).flatMap f):=by
 have e : W.getD j default=W[j]:=by rw [List.getD_eq_getElem?_getD,List.getElem?_eq_getElem h]; rfl
 have:=List.take_append_drop j W;rw [List.drop_eq_getElem_cons h] at this;rw [e,← List.flatMap_cons,← List.flatMap_append,this]
theorem flat_take {β : Type} {f : Int→List β} {W : List Int} {j : Nat} (h : j<W.length) : (W.take (j+1)).flatMap f=(W.take j).flatMap f++f (W.getD j default):=by
 have e : W.getD j default=W[j]:=by rw [List.getD_eq_getElem?_getD,List.getElem?_eq_getElem h]; rfl
 rw [List.take_succ_eq_append_getElem h,List.flatMap_append,e]; simp
theorem split_min {α : Type} (κ : α→Int) (b : Int) : ∀ (l : List α),l.Pairwise (fun x y=>κ x≤κ y)→(∀ x,x∈l→b≤κ x) →
  l=l.filter (fun x=>decide (κ x=b))++l.filter (fun x=>decide (κ x≠b))
 | [],_,_=>rfl
 | x::r,hl,h=>by
  obtain ⟨h1,h2⟩:=List.pairwise_cons.mp hl
  have hx:=h x (.head _)
  by_cases e : κ x=b
  ·rw [List.filter_cons_of_pos (by simpa using e),List.filter_cons_of_neg (by simpa using e),List.cons_append,← split_min κ b r h2 fun y hy=>h y (.tail _ hy)]
  ·rw [List.filter_cons_of_neg (by simpa using e),List.filter_cons_of_pos (by simpa using e),List.filter_eq_nil_iff.mpr,List.nil_append,List.filter_eq_self.mpr]
   ·intro y hy; have:=h1 y hy; simp; omega
   ·intro y hy; have:=h1 y hy; simp; omega
theorem flat_key {α : Type} (κ : α→Int) : ∀ (L : List Int) (l : List α),L.Pairwise (·<·)→l.Pairwise (fun x y=>κ x≤κ y)→(∀ x,x∈l→κ x∈L) →
  l=L.flatMap fun b=>l.filter fun x=>decide (κ x=b)
 | [],l,_,_,h=>by
  cases l with
  | nil=>rfl
  | cons x r=>exact absurd (h x (.head _)) (by simp)
 | b::L,l,hL,hl,h=>by
  obtain ⟨h1,h2⟩:=List.pairwise_cons.mp hL
  have hm:=split_min κ b l hl fun x hx=>by
   rcases List.mem_cons.mp (h x hx) with e | e
   ·omega
   ·have:=h1 _ e; omega
  have ih:=flat_key κ L (l.filter fun x=>decide (κ x≠b)) h2 (hl.filter _) fun x hx=>by
   have:=List.mem_filter.mp hx
   rcases List.mem_cons.mp (h x this.1) with e | e
   ·exact absurd e (by simpa using this.2)
   ·exact e
  rw [List.flatMap_cons];rw [flat_congr (g:=fun b'=>l.filter fun x=>decide (κ x=b'))] at ih
  ·rw [← ih]; exact hm
  ·intro b' hb'
   have:=h1 b' hb';rw [List.filter_filter];refine List.filter_congr fun x _=>?_
   by_cases e : κ x=b'
   ·have : κ x≠b:=by omega
    simp [e,this]; omega
   ·simp [e]
theorem nodup_one {α : Type} {C : α} : ∀ {l : List α},l.Pairwise (·≠·)→(∀ x,x∈l→x=C)→C∈l→l=[C]
 | [],_,_,h=>by cases h
 | [x],_,h,_=>by rw [h x (.head _)]
 | x::y::r,hl,h,_=>by
  have:=(List.pairwise_cons.mp hl).1 y (.head _);rw [h x (.head _),h y (.tail _ (.head _))] at this;exact absurd rfl this
theorem hom_lt (c : Cat) (x y : Int) : (hom c x y).Pairwise (·<·):=by
 unfold hom nats;rw [List.pairwise_map];exact (List.pairwise_lt_range.filter _).imp fun h=>by simpa using h
structure FunL (c d : Cat) (O P : List Int) : Prop where
 len : P.length=c.frm.length
 par : ∀ i : Nat,i<c.frm.length→d.Ar (P.getD i default) (ix O (c.frm.getD i default)) (ix O (c.to.getD i default))
 idn : ∀ x : Nat,x<c.idn.length→ix P (c.idn.getD x default)=ix d.idn (O.getD x default)
 comp : ∀ a b h : Nat,a<c.frm.length→b<c.frm.length→(c.comp.getD a default).getD b default=h→P.getD h default=d.th (P.getD a default) (P.getD b default)
def ExtP (A P : List Int) : Prop:=∀ i : Nat,i<A.length→A.getD i default=-1∨P.getD i default=A.getD i default
structure OkP (c d : Cat) (once : Bool) (O A P : List Int) : Prop where
 fn : FunL c d O P
 inj : once=true→DistA P
 ext : ExtP A P
noncomputable def extP (c d : Cat) (once : Bool) (O A : List Int) : List (List Int):=(allL d.frm.length c.frm.length).filter fun P=>dec (OkP c d once O A P)
section
variable {c d : Cat} {once : Bool} {O A C P : List Int}
theorem mem_extP : P∈extP c d once O A↔OkP c d once O A P:=by
 rw [extP,List.mem_filter,dec_iff,mem_allL];refine ⟨fun h=>h.2,fun h=>⟨⟨h.fn.len,fun x hx=>?_⟩,h⟩⟩
 obtain ⟨i,hi,rfl⟩:=mem_getD.mp hx
 have:=(h.fn.par i (by rw [← h.fn.len]; exact hi)).r;omega
theorem extP_congr {A' : List Int} (h : ∀ P,FunL c d O P→(once=true→DistA P)→(ExtP A P↔ExtP A' P)) : extP c d once O A=extP c d once O A':=by
 refine List.filter_congr fun P _=>?_
 by_cases e : OkP c d once O A P
 ·rw [dec_t e,dec_t ⟨e.fn,e.inj,(h P e.fn e.inj).mp e.ext⟩]
 ·rw [dec_f e,dec_f fun q=>e ⟨q.fn,q.inj,(h P q.fn q.inj).mpr q.ext⟩]
theorem extP_nil (h : ∀ P,¬ OkP c d once O A P) : extP c d once O A=[]:=List.filter_eq_nil_iff.mpr fun P _=>by rw [dec_f (h P)]; simp
theorem extP_one (h : FunL c d O C) (hd : once=true→DistA C) (hk : ∀ i,i<C.length→C.getD i default≠-1) : extP c d once O C=[C]:=by
 refine nodup_one (((allL_lex _ _).filter _).imp fun h=>h.ne) (fun P hP=>?_) (mem_extP.mpr ⟨h,hd,fun i _=>.inr rfl⟩)
 have q:=mem_extP.mp hP
 have hl:=q.fn.len
 have hl2:=h.len;refine List.ext_getElem (by omega) fun i h1 h2=>?_
 have:=(q.ext i h2).resolve_left (hk i h2)
 rwa [List.getD_eq_getElem?_getD,List.getD_eq_getElem?_getD,List.getElem?_eq_getElem h1,List.getElem?_eq_getElem h2] at this
theorem extP_split {a : Nat} (ha : a<A.length) (hl : A.length=c.frm.length) (hn : A.getD a default=-1) (hf : ∀ i,i<a→A.getD i default≠-1) :
  extP c d once O A=(hom d (ix O (c.frm.getD a default)) (ix O (c.to.getD a default))).flatMap fun b=>extP c d once O (A.set a b):=by
 have e:=flat_key (fun P : List Int=>P.getD a default) (hom d (ix O (c.frm.getD a default)) (ix O (c.to.getD a default))) (extP c d once O A) (hom_lt _ _ _) ?_ ?_
 ·refine e.trans (flat_congr fun b hb=>?_)
  have hb0:=(ar_hom.mp hb).r.1;rw [extP,extP,List.filter_filter];refine List.filter_congr fun P _=>?_
  by_cases q : OkP c d once O (A.set a b) P
  ·have q1:=q.ext a (by simpa using ha);rw [getD_setI ha,if_pos rfl] at q1
   have q2 : P.getD a default=b:=q1.resolve_left (by omega)
   have q3 : OkP c d once O A P:=⟨q.fn,q.inj,fun i hi=>by
    by_cases e : a=i
    ·left; rw [← e]; exact hn
    ·have:=q.ext i (by simpa using hi)
     rwa [getD_setI ha,if_neg e] at this⟩
   rw [dec_t q,dec_t q3]; simp only [Bool.and_true,decide_eq_true_eq]; exact q2
  ·rw [dec_f q]
   by_cases q2 : P.getD a default=b
   ·rw [dec_f]
    ·rw [Bool.and_false]
    ·intro q3;refine q ⟨q3.fn,q3.inj,fun i hi=>?_⟩;rw [getD_setI ha]
     by_cases e : a=i
     ·rw [if_pos e]; right; rw [← e]; exact q2
     ·rw [if_neg e]; exact q3.ext i (by simpa using hi)
   ·rw [decide_eq_false q2,Bool.false_and]
 ·refine List.Pairwise.imp_of_mem (fun {x y} hx hy h=>?_) ((allL_lex _ _).filter _)
  have hx:=(mem_extP.mp hx).ext
  have hy:=(mem_extP.mp hy).ext
  obtain ⟨k,h1,h2⟩:=h
  show x.getD a default≤y.getD a default
  by_cases e1 : a<k
  ·rw [h1 a e1]; exact Int.le_refl _
  ·by_cases e2 : k=a
   ·rw [← e2]; omega
   ·have a1:=(hx k (by omega)).resolve_left (hf k (by omega))
    have a2:=(hy k (by omega)).resolve_left (hf k (by omega));omega
 ·intro P hP;exact ar_hom.mpr ((mem_extP.mp hP).fn.par a (by omega))
structure ParD (c d : Cat) (O A : List Int) : Prop where
 len : A.length=c.frm.length
 par : ∀ i : Nat,i<A.length→A.getD i default=-1∨d.Ar (A.getD i default) (ix O (c.frm.getD i default)) (ix O (c.to.getD i default))
theorem ParD.set (h : ParD c d O A) {i : Nat} {v : Int} (hi : i<A.length) (a : d.Ar v (ix O (c.frm.getD i default)) (ix O (c.to.getD i default))) : ParD c d O (A.set i v):=by
 refine ⟨by rw [List.length_set,h.len],fun j hj=>?_⟩;rw [List.length_set] at hj;rw [getD_setI hi]
 by_cases e : i=j
 ·rw [if_pos e]; exact .inr (e ▸ a)
 ·rw [if_neg e]; exact h.par j hj
theorem ParD.known (h : ParD c d O A) {i : Nat} (hi : i<A.length) (h0 : 0≤A.getD i default) : d.Ar (A.getD i default) (ix O (c.frm.getD i default)) (ix O (c.to.getD i default)):=by
 rcases h.par i hi with a | a
 ·omega
 ·exact a
theorem ParD.neg (h : ParD c d O A) {i : Nat} (hi : i<A.length) : A.getD i default=-1∨0≤A.getD i default:=(h.par i hi).imp id fun a=>a.r.1
theorem ParD.th (hc : c.Is) (hd : d.Is) (p : ParD c d O A) {a b : Nat} (ha : a<A.length) (hb : b<A.length) (hA : 0≤A.getD a default) (hB : 0≤A.getD b default)
  {t : Nat} (hh : (c.comp.getD a default).getD b default=(t : Int)) : t<A.length∧d.Ar (d.th (A.getD a default) (A.getD b default)) (ix O (c.frm.getD t default)) (ix O (c.to.getD t default)):=by
 have pl:=p.len
 have e:=th_meets hc (a:=a) (b:=b) (by omega) (by omega) (by omega)
 have k1:=p.known ha hA
 have k2:=p.known hb hB;rw [← e] at k2
 have ab:=(ar_nat (c:=c) (i:=a) (by omega)).comp hc (e ▸ ar_nat (c:=c) (i:=b) (by omega))
 have et : c.th (a : Int) (b : Int)=t:=by rw [Cat.th,ix_nat,ix_nat,hh]
 rw [et] at ab
 have hr:=ab.r
 have hs:=ab.s
 have ht:=ab.t;rw [ix_nat] at hs ht;refine ⟨by omega, ?_⟩;rw [hs,ht];exact k1.comp hd k2
structure SprD (c d : Cat) (O A C : List Int) : Prop where
 ext : ExtA A C
 par : ParD c d O C
 keep : ∀ P,FunL c d O P→ExtP A P→ExtP C P
theorem SprD.refl (h : ParD c d O A) : SprD c d O A A:=⟨.refl A,h,fun _ _ q=>q⟩
theorem SprD.at (h : SprD c d O A C) (hP : FunL c d O P) (hE : ExtP A P) {i : Nat} (hi : i<C.length) (h0 : 0≤C.getD i default) : P.getD i default=C.getD i default :=
 (h.keep P hP hE i hi).resolve_left (by omega)
theorem SprD.th (h : SprD c d O A C) (hP : FunL c d O P) (hE : ExtP A P) {a b t : Nat} (ha : a<C.length) (hb : b<C.length) (hA : 0≤C.getD a default) (hB : 0≤C.getD b default)
  (hh : (c.comp.getD a default).getD b default=(t : Int)) : P.getD t default=d.th (C.getD a default) (C.getD b default):=by
 have hl:=h.par.len;rw [hP.comp a b t (by omega) (by omega) hh,h.at hP hE ha hA,h.at hP hE hb hB]
theorem SprD.set (h : SprD c d O A C) (hc : c.Is) (hd : d.Is) {a b t : Nat} (ha : a<C.length) (hb : b<C.length) (hA : 0≤C.getD a default) (hB : 0≤C.getD b default)
  (hh : (c.comp.getD a default).getD b default=(t : Int)) (hn : C.getD t default<0) : SprD c d O A (C.set t (d.th (C.getD a default) (C.getD b default))):=by
 obtain ⟨ht,har⟩:=h.par.th hc hd ha hb hA hB hh;refine ⟨h.ext.trans (.set ht hn),h.par.set ht har,fun P hP hE i hi=>?_⟩;rw [List.length_set] at hi;rw [getD_setI ht]
 by_cases e : t=i
 ·rw [if_pos e]; right; rw [← e]; exact h.th hP hE ha hb hA hB hh
 ·rw [if_neg e]; exact h.keep P hP hE i hi
theorem SprD.clash (h : SprD c d O A C) {a b t : Nat} (ha : a<C.length) (hb : b<C.length) (hA : 0≤C.getD a default) (hB : 0≤C.getD b default)
  (hh : (c.comp.getD a default).getD b default=(t : Int)) (ht : t<C.length) (h0 : 0≤C.getD t default) (hne : C.getD t default≠d.th (C.getD a default) (C.getD b default)) : extP c d once O A=[] :=
 extP_nil fun P q=>hne (by rw [← h.at q.fn q.ext ht h0,h.th q.fn q.ext ha hb hA hB hh])
theorem ExtA.extP (h : ExtA A C) (hE : ExtP C P) (hn : ∀ i,i<A.length→A.getD i default=-1∨0≤A.getD i default) : ExtP A P:=fun i hi=>by
 rcases hn i hi with e | e
 ·exact .inl e
 ·rw [← h.keep i hi e]
  rcases hE i (by rw [h.len]; exact hi) with q | q
  ·rw [h.keep i hi e] at q; omega
  ·exact .inr q
theorem SprD.same (h : SprD c d O A C) (pa : ParD c d O A) : extP c d once O A=extP c d once O C :=
 extP_congr fun P hP _=>⟨h.keep P hP,fun q=>h.ext.extP q fun i hi=>pa.neg hi⟩
def ClosD (c d : Cat) (C : List Int) : Prop:=∀ a b t : Nat,a<C.length→b<C.length→(c.comp.getD a default).getD b default=(t : Int)→0≤C.getD a default→0≤C.getD b default →
 C.getD t default=d.th (C.getD a default) (C.getD b default)
def IdsD (c d : Cat) (O A : List Int) : Prop:=∀ x : Nat,x<c.idn.length→ix A (c.idn.getD x default)=ix d.idn (O.getD x default)
theorem full_fun (p : ParD c d O C) (hcl : ClosD c d C) (hi : IdsD c d O C) (hk : ∀ i,i<C.length→C.getD i default≠-1) : FunL c d O C:=by
 have hl:=p.len;refine ⟨hl,fun i h=>(p.par i (by omega)).resolve_left (hk i (by omega)),hi,fun a b t ha hb hh=>hcl a b t (by omega) (by omega) hh ?_ ?_⟩
 ·rcases p.neg (i:=a) (by omega) with q | q
  ·exact (hk a (by omega) q).elim
  ·exact q
 ·rcases p.neg (i:=b) (by omega) with q | q
  ·exact (hk b (by omega) q).elim
  ·exact q
theorem IdsD.ext (h : IdsD c d O A) (hc : c.Is) (hd : d.Is) (hO : ∀ x : Nat,x<c.idn.length→0≤O.getD x default∧O.getD x default<d.objs) (hl : A.length=c.frm.length) (e : ExtA A C) : IdsD c d O C:=fun x hx=>by
 have hi:=hc.1.idn _ (mem_getD.mpr ⟨x,hx,rfl⟩)
 have:=h x hx
 have h0:=(hd.idA (hO x hx)).r.1;rw [← this];exact e.keep _ (by omega) (by show 0≤ix A _; omega)
end
noncomputable def fnsP (c d : Cat) (once : Bool) : Nat→List Int→List FU
 | 0,O=>(extP c d once O (List.replicate c.frm.length (-1))).map fun P=>⟨c,d,O,P⟩
 | k+1,O=>(natsL d.objs).flatMap fun y=>fnsP c d once k (O++[y])
noncomputable def allF (c d : Cat) (once : Bool) : List FU:=fnsP c d once c.objs.toNat []
section
variable {c d : Cat} {once : Bool}
theorem extP_free {P : List Int} (n : Nat) : ExtP (List.replicate n (-1)) P:=fun i hi=>by
 left
 rw [List.length_replicate] at hi;rw [List.getD_eq_getElem?_getD,List.getElem?_replicate,if_pos hi]; rfl
theorem mem_natsL {n y : Int} : y∈natsL n↔0≤y∧y<n:=by
 rw [natsL,List.mem_map]
 constructor
 ·rintro ⟨i,hi,rfl⟩
  have:=List.mem_range.mp hi;exact ⟨by simp,by simp; omega⟩
 ·intro h;exact ⟨y.toNat,List.mem_range.mpr (by omega),Int.toNat_of_nonneg h.1⟩
theorem mem_fnsP {k : FU} : ∀ {n : Nat} {O : List Int},k∈fnsP c d once n O↔∃ O' P,O'.length=n∧(∀ y,y∈O'→0≤y∧y<d.objs)∧FunL c d (O++O') P∧(once=true→DistA P)∧k=⟨c,d,O++O',P⟩
 | 0,O=>by
  rw [fnsP,List.mem_map]
  constructor
  ·rintro ⟨P,hP,rfl⟩
   have q:=mem_extP.mp hP;exact ⟨[],P,rfl,(fun y h=>by cases h),by rw [List.append_nil]; exact q.fn,q.inj,by rw [List.append_nil]⟩
  ·rintro ⟨O',P,h0,_,h1,h2,rfl⟩
   have : O'=[]:=List.eq_nil_of_length_eq_zero h0;subst this;rw [List.append_nil] at h1 ⊢;exact ⟨P,mem_extP.mpr ⟨h1,h2,extP_free _⟩,rfl⟩
 | n+1,O=>by
  rw [fnsP,List.mem_flatMap]
  constructor
  ·rintro ⟨y,hy,h⟩
   obtain ⟨O',P,h0,h1,h2,h3,rfl⟩:=mem_fnsP.mp h;rw [List.append_assoc] at h2 ⊢;refine ⟨y::O',P,by simp [h0],fun z hz=>?_,h2,h3,rfl⟩
   rcases List.mem_cons.mp hz with rfl | hz
   ·exact mem_natsL.mp hy
   ·exact h1 z hz
  ·rintro ⟨O',P,h0,h1,h2,h3,rfl⟩
   cases O' with
   | nil=>simp at h0
   | cons y O' =>
    refine ⟨y,mem_natsL.mpr (h1 y (.head _)),mem_fnsP.mpr ⟨O',P,by simpa using h0,fun z hz=>h1 z (.tail _ hz),by rw [List.append_assoc]; exact h2,h3,by rw [List.append_assoc]; rfl⟩⟩
theorem fnsP_nil {n : Nat} {O : List Int} (h : ∀ O' P,O'.length=n→FunL c d (O++O') P→(once=true→DistA P)→False) : fnsP c d once n O=[]:=by
 refine List.eq_nil_iff_forall_not_mem.mpr fun k hk=>?_
 obtain ⟨O',P,h0,_,h1,h2,_⟩:=mem_fnsP.mp hk;exact h O' P h0 h1 h2
theorem ix_app {O O' : List Int} {x : Int} (h : 0≤x∧x.toNat<O.length) : ix (O++O') x=ix O x:=by
 rw [ix,ix,List.getD_eq_getElem?_getD,List.getElem?_append_left h.2,← List.getD_eq_getElem?_getD]
theorem fnsP_rooms {n : Nat} {O : List Int} {f : Nat} (hf : f<c.frm.length) (h1 : 0≤c.frm.getD f default∧(c.frm.getD f default).toNat<O.length) (h2 : 0≤c.to.getD f default∧(c.to.getD f default).toNat<O.length)
  (hno : hom d (ix O (c.frm.getD f default)) (ix O (c.to.getD f default))=[]) : fnsP c d once n O=[] :=
 fnsP_nil fun O' P _ hP _=>by
  have:=ar_hom.mpr (hP.par f hf);rw [ix_app h1,ix_app h2,hno] at this
  cases this
theorem fnsP_few {n : Nat} {O : List Int} {s u : Int} (h1 : 0≤s∧s.toNat<O.length) (h2 : 0≤u∧u.toNat<O.length)
  (hf : ∃ f,c.Ar f s u) (hno : (hom d (ix O s) (ix O u)).length<if once=true then (hom c s u).length else 1) : fnsP c d once n O=[] :=
 fnsP_nil fun O' P _ hP hd=>by
  have hin : ∀ g,c.Ar g s u→ix P g∈hom d (ix O s) (ix O u):=fun g a=>by
   have:=hP.par g.toNat a.r.2;rw [show c.frm.getD g.toNat default=s from a.s,show c.to.getD g.toNat default=u from a.t,ix_app h1,ix_app h2] at this;exact ar_hom.mpr this
  cases once with
  | false =>
   obtain ⟨f,a⟩:=hf
   have:=List.length_pos_of_mem (hin f a)
   simp at hno;rw [hno] at this
   simp at this
  | true =>
   have hl:=hP.len
   have nd : ((hom c s u).map (ix P)).Nodup:=by
    refine List.pairwise_map.mpr (List.Pairwise.imp_of_mem (fun {a b} ha hb h e=>?_) (hom_lt c s u))
    have u1:=ar_hom.mp ha
    have u2:=ar_hom.mp hb
    have k0 : 0≤ix P a:=(ar_hom.mp (hin a u1)).r.1
    have:=hd rfl a.toNat b.toNat (by have:=u1.r; omega) (by have:=u2.r; omega) k0 e
    have:=u1.r
    have:=u2.r;omega
   have:=List.Nodup.length_le_of_subset nd fun x hx=>by
    obtain ⟨g,hg,rfl⟩:=List.mem_map.mp hx;exact hin g (ar_hom.mp hg)
   simp at this hno;omega
theorem fnsP_twice (hc : c.Is) {n : Nat} {O : List Int} {i j : Nat} (hij : i<j) (hj : j<O.length) (hl : O.length≤c.idn.length) (e : O.getD i default=O.getD j default) : fnsP c d true n O=[] :=
 fnsP_nil fun O' P _ hP hd=>by
  have h1:=hP.idn i (by omega)
  have h2:=hP.idn j (by omega);rw [show (O++O').getD i default=O.getD i default by rw [List.getD_eq_getElem?_getD,List.getElem?_append_left (by omega),← List.getD_eq_getElem?_getD],e] at h1;rw [show (O++O').getD j default=O.getD j default by rw [List.getD_eq_getElem?_getD,List.getElem?_append_left (by omega),← List.getD_eq_getElem?_getD]] at h2
  have hil:=hc.1.il
  have a1:=hc.idA (x:=(i : Int)) (by omega)
  have a2:=hc.idA (x:=(j : Int)) (by omega);rw [ix_nat] at a1 a2
  have r1:=a1.r
  have r2:=a2.r
  have hl:=hP.len
  have k0 : 0≤P.getD (c.idn.getD i default).toNat default:=(hP.par _ (by omega)).r.1
  have:=hd rfl (c.idn.getD i default).toNat (c.idn.getD j default).toNat (by omega) (by omega) k0 (show ix P _=ix P _ by rw [h1,h2])
  have e3 : c.idn.getD i default=c.idn.getD j default:=by omega
  have s1:=a1.s
  have s2:=a2.s;rw [e3] at s1;omega
theorem extP_ids {O A : List Int} (hA : A.length=c.frm.length) (h : ∀ i : Nat,i<A.length→A.getD i default=-1∨∃ x : Nat,x<c.idn.length∧c.idn.getD x default=i∧A.getD i default=ix d.idn (O.getD x default)) :
  extP c d once O (List.replicate c.frm.length (-1))=extP c d once O A :=
 extP_congr fun P hP _=>⟨fun _ i hi=>(h i hi).imp id fun ⟨x,hx,e1,e2⟩=>by
  have:=hP.idn x hx;rw [e1,ix_nat] at this;rw [this,e2],fun _=>extP_free _⟩
theorem FU.Is.funL {k : FU} (h : k.Is) : FunL k.src k.tgt k.ob k.ar:=by
 have hal:=h.fit.al;refine ⟨hal,fun i hi=>?_,h.laws.idn,fun a b t ha hb e=>?_⟩
 ·have:=h.laws.ends i hi
  have hr:=h.fit.arr _ (mem_getD.mpr ⟨i,(by omega : i<k.ar.length),rfl⟩);exact ⟨⟨hr.1,by omega⟩,this.1,this.2⟩
 ·have:=h.laws.comp a b ha hb (th_meets h.sI ha hb (by omega));rw [e,ix_nat] at this;exact this
theorem funL_is (hc : c.Is) (hd : d.Is) {O P : List Int} (hO : (O.length : Int)=c.objs) (hr : ∀ y,y∈O→0≤y∧y<d.objs) (h : FunL c d O P) : FU.Is ⟨c,d,O,P⟩:=by
 refine ⟨hc,hd,⟨hO,h.len,hr,fun y hy=>?_⟩,⟨fun a ha=>?_,h.idn,fun a b ha hb e=>?_⟩⟩
 ·obtain ⟨i,hi,rfl⟩:=mem_getD.mp hy
  have:=(h.par i (by rw [← h.len]; exact hi)).r;exact ⟨this.1,by show P.getD i default<((d.frm.length : Nat) : Int); omega⟩
 ·have:=h.par a ha;exact ⟨this.s,this.t⟩
 ·have:=hc.1.yes a b ha hb e
  obtain ⟨t,ht⟩ : ∃ t : Nat,(c.comp.getD a default).getD b default=t:=⟨_,(Int.toNat_of_nonneg this.1.1).symm⟩
  show ix P ((c.comp.getD a default).getD b default)=_
  rw [ht,ix_nat,h.comp a b t ha hb ht]; rfl
theorem mem_allF (hc : c.Is) (hd : d.Is) {k : FU} : k∈allF c d once↔k.src=c∧k.tgt=d∧k.Is∧(once=true→DistA k.ar):=by
 have ho:=hc.1.o;rw [allF,mem_fnsP]
 constructor
 ·rintro ⟨O',P,h0,h1,h2,h3,rfl⟩;rw [List.nil_append] at h2 ⊢;exact ⟨rfl,rfl,funL_is hc hd (by omega) h1 h2,h3⟩
 ·obtain ⟨c',d',O,P⟩:=k
  rintro ⟨rfl,rfl,h1,h2⟩
  have hl:=h1.fit.ol;exact ⟨O,P,by simp only at hl ⊢; omega,h1.fit.obr,h1.funL,h2,rfl⟩
end
def colF {α : Type} (most : Nat) (L l : List α) : List α:=(L++l).take (most+1)
theorem colF_nil {most : Nat} {α : Type} {L : List α} (h : L.length≤most+1) : colF most L []=L:=by rw [colF,List.append_nil,List.take_of_length_le h]
theorem colF_app {most : Nat} {α : Type} {L l l' : List α} (h : (L++l).length≤most) : colF most L (l++l')=colF most (L++l) l':=by rw [colF,colF,List.append_assoc]
theorem colF_stop {most : Nat} {α : Type} {L l l' : List α} (h : most<(L++l).length) : colF most L (l++l')=colF most L l:=by
 rw [colF,colF,← List.append_assoc,List.take_append_of_le_length (by omega)]
theorem colF_all {most : Nat} {α : Type} {L l : List α} (h : (L++l).length≤most) : colF most L l=L++l:=by rw [colF,List.take_of_length_le (by omega)]
end Go.Shf
namespace Go.Shf
open Go.AW
def FU.thn (f g : FU) : FU:=⟨f.src,g.tgt,thenL f.ob g.ob,thenL f.ar g.ar⟩
section
variable {f g : FU} {x y a b : Int}
theorem FU.Is.arA (h : f.Is) (u : f.src.Ar a x y) : f.tgt.Ar (ix f.ar a) (ix f.ob x) (ix f.ob y):=by
 have h1:=h.arAt u.r
 have h2:=h.endsAt u.r;rw [u.s,u.t] at h2;exact ⟨h1.2,h2.1,h2.2⟩
theorem FU.Is.obA (h : f.Is) (hx : 0≤x∧x<f.src.objs) : 0≤ix f.ob x∧ix f.ob x<f.tgt.objs:=(h.obAt hx).2
theorem FU.Is.thA {z : Int} (h : f.Is) (u : f.src.Ar a x y) (v : f.src.Ar b y z) : ix f.ar (f.src.th a b)=f.tgt.th (ix f.ar a) (ix f.ar b):=h.compAt u.r v.r (u.t.trans v.s.symm)
theorem thn_ob (hf : f.Is) (hx : 0≤x∧x<f.src.objs) : ix (f.thn g).ob x=ix g.ob (ix f.ob x):=ix_map _ (hf.obAt hx).1
theorem thn_ar (hf : f.Is) (ha : 0≤a∧a.toNat<f.src.frm.length) : ix (f.thn g).ar a=ix g.ar (ix f.ar a):=ix_map _ (hf.arAt ha).1
theorem thn_is (hf : f.Is) (hg : g.Is) (e : f.tgt=g.src) : (f.thn g).Is:=by
 refine fu_mk hf.sI hg.tI (by simp [FU.thn,thenL]; exact hf.fit.ol) (by simp [FU.thn,thenL]; exact hf.fit.al) (fun x hx=>?_) (fun a x y u=>?_) (fun x hx=>?_) fun a b x y z u v=>?_
 ·rw [thn_ob hf hx]; exact hg.obA (by rw [← e]; exact hf.obA hx)
 ·rw [thn_ar hf u.r,thn_ob hf (u.src hf.sI),thn_ob hf (u.tgt hf.sI)];exact hg.arA (by rw [← e]; exact hf.arA u)
 ·have hx' : 0≤x∧x<f.src.objs:=hx
  show ix (f.thn g).ar (ix f.src.idn x)=ix g.tgt.idn _
  rw [thn_ar hf (hf.sI.idA hx').r,thn_ob hf hx',hf.idAt hx',e,hg.idAt (by rw [← e]; exact hf.obA hx')]
 ·have u : f.src.Ar a x y:=u
  have v : f.src.Ar b y z:=v
  show ix (f.thn g).ar (f.src.th a b)=g.tgt.th _ _
  rw [thn_ar hf (u.comp hf.sI v).r,thn_ar hf u.r,thn_ar hf v.r,hf.thA u v,e,hg.thA (by rw [← e]; exact hf.arA u) (by rw [← e]; exact hf.arA v)]
end
end Go.Shf
namespace Go.Shf
open Go.AW
structure NatF (f g : FU) (t : List Int) : Prop where
 len : (t.length : Int)=f.src.objs
 ar : ∀ x,0≤x∧x<f.src.objs→f.tgt.Ar (ix t x) (ix f.ob x) (ix g.ob x)
 nat : ∀ a x y,f.src.Ar a x y→f.tgt.th (ix f.ar a) (ix t y)=f.tgt.th (ix t x) (ix g.ar a)
structure AJ where
 l : FU
 r : FU
 u : List Int
 v : List Int
 deriving Inhabited
@[go_sem] def AJ.cells (a : AJ) : List AV:=a.l.cells++(a.r.cells++[iL a.u,iL a.v])
end Go.Shf
namespace Go.Shf
open Go.AW
def SqA (f g : FU) (t : List Int) (a : Nat) : Prop:=f.tgt.th (f.ar.getD a default) (ix t (f.src.to.getD a default))=f.tgt.th (ix t (f.src.frm.getD a default)) (g.ar.getD a default)
end Go.Shf
namespace Go.Shf
open Go.AW
theorem Cat.Ar.srcS {c : Cat} {f x y : Int} (h : c.Shape) (a : c.Ar f x y) : 0≤x∧x<c.objs:=a.s ▸ h.frmObj a.r.2
theorem Cat.Ar.tgtS {c : Cat} {f x y : Int} (h : c.Shape) (a : c.Ar f x y) : 0≤y∧y<c.objs:=a.t ▸ h.toObj a.r.2
noncomputable def extG (U : List (List Int)) (Q : List Int→Prop) (A : List Int) : List (List Int):=U.filter fun P=>dec (Q P∧ExtP A P)
section
variable {U : List (List Int)} {Q : List Int→Prop} {A : List Int}
theorem mem_extG (hU : ∀ P,Q P→P∈U) {P : List Int} : P∈extG U Q A↔Q P∧ExtP A P:=by
 rw [extG,List.mem_filter,dec_iff];exact ⟨fun h=>h.2,fun h=>⟨hU P h.1,h⟩⟩
theorem extG_nil (h : ∀ P,Q P→¬ ExtP A P) : extG U Q A=[]:=List.filter_eq_nil_iff.mpr fun P _=>by rw [dec_f fun q=>h P q.1 q.2]; simp
theorem extG_one (hL : U.Pairwise LexI) (hU : ∀ P,Q P→P∈U) (h : Q A) (hl : ∀ P,Q P→P.length=A.length) (hk : ∀ i,i<A.length→A.getD i default≠-1) : extG U Q A=[A]:=by
 refine nodup_one ((hL.filter _).imp fun h=>h.ne) (fun P hP=>?_) ((mem_extG hU).mpr ⟨h,fun i _=>.inr rfl⟩)
 have q:=(mem_extG hU).mp hP
 have hl:=hl P q.1;refine List.ext_getElem hl fun i h1 h2=>?_
 have:=(q.2 i h2).resolve_left (hk i h2)
 rwa [List.getD_eq_getElem?_getD,List.getD_eq_getElem?_getD,List.getElem?_eq_getElem h1,List.getElem?_eq_getElem h2] at this
theorem extG_split (hL : U.Pairwise LexI) (hU : ∀ P,Q P→P∈U) {a : Nat} (ha : a<A.length) (hn : A.getD a default=-1) (hf : ∀ i,i<a→A.getD i default≠-1)
  {W : List Int} (hW : W.Pairwise (·<·)) (h0 : ∀ b,b∈W→0≤b) (hin : ∀ P,Q P→ExtP A P→P.getD a default∈W) : extG U Q A=W.flatMap fun b=>extG U Q (A.set a b):=by
 have e:=flat_key (fun P : List Int=>P.getD a default) W (extG U Q A) hW ?_ ?_
 ·refine e.trans (flat_congr fun b hb=>?_)
  have hb0:=h0 b hb;rw [extG,extG,List.filter_filter];refine List.filter_congr fun P _=>?_
  by_cases q : Q P∧ExtP (A.set a b) P
  ·have q1:=q.2 a (by simpa using ha);rw [getD_setI ha,if_pos rfl] at q1
   have q2 : P.getD a default=b:=q1.resolve_left (by omega)
   have q3 : Q P∧ExtP A P:=⟨q.1,fun i hi=>by
    by_cases e : a=i
    ·left; rw [← e]; exact hn
    ·have:=q.2 i (by simpa using hi)
     rwa [getD_setI ha,if_neg e] at this⟩
   rw [dec_t q,dec_t q3]; simp only [Bool.and_true,decide_eq_true_eq]; exact q2
  ·rw [dec_f q]
   by_cases q2 : P.getD a default=b
   ·rw [dec_f]
    ·rw [Bool.and_false]
    ·intro q3;refine q ⟨q3.1,fun i hi=>?_⟩;rw [getD_setI ha]
     by_cases e : a=i
     ·rw [if_pos e]; right; rw [← e]; exact q2
     ·rw [if_neg e]; exact q3.2 i (by simpa using hi)
   ·rw [decide_eq_false q2,Bool.false_and]
 ·refine List.Pairwise.imp_of_mem (fun {x y} hx hy h=>?_) (hL.filter _)
  have hx:=((mem_extG hU).mp hx).2
  have hy:=((mem_extG hU).mp hy).2
  obtain ⟨k,h1,h2⟩:=h
  show x.getD a default≤y.getD a default
  by_cases e1 : a<k
  ·rw [h1 a e1]; exact Int.le_refl _
  ·by_cases e2 : k=a
   ·rw [← e2]; omega
   ·have a1:=(hx k (by omega)).resolve_left (hf k (by omega))
    have a2:=(hy k (by omega)).resolve_left (hf k (by omega));omega
 ·intro P hP
  have q:=(mem_extG hU).mp hP;exact hin P q.1 q.2
end
def allZ (m n : Nat) : List (List Int):=(allL (m+2) n).map fun l=>l.map fun x=>x - 2
theorem mem_allZ {m n : Nat} {l : List Int} : l∈allZ m n↔l.length=n∧∀ x,x∈l→-2≤x∧x<m:=by
 rw [allZ,List.mem_map]
 constructor
 ·rintro ⟨r,hr,rfl⟩
  have:=mem_allL.mp hr;refine ⟨by simpa using this.1,fun x hx=>?_⟩
  obtain ⟨y,hy,rfl⟩:=List.mem_map.mp hx
  have:=this.2 y hy;omega
 ·rintro ⟨h,k⟩;refine ⟨l.map fun x=>x+2,mem_allL.mpr ⟨by simpa using h,fun x hx=>?_⟩, ?_⟩
  ·obtain ⟨y,hy,rfl⟩:=List.mem_map.mp hx
   have:=k y hy;omega
  ·rw [List.map_map]
   conv=>rhs; rw [← List.map_id l]
   refine List.map_congr_left fun x _=>?_;simp only [Function.comp,id]; omega
theorem allZ_lex (m n : Nat) : (allZ m n).Pairwise LexI:=by
 rw [allZ,List.pairwise_map];refine List.Pairwise.imp_of_mem (fun {x y} hx hy h=>?_) (allL_lex (m+2) n)
 have lx:=(mem_allL.mp hx).1
 have ly:=(mem_allL.mp hy).1
 obtain ⟨a,h1,h2⟩:=h
 have ha : a<n:=by
  refine Classical.byContradiction fun q=>?_;rw [List.getD_eq_getElem?_getD,List.getD_eq_getElem?_getD,List.getElem?_eq_none (by omega),List.getElem?_eq_none (by omega)] at h2;exact absurd h2 (by simp)
 refine ⟨a,fun i hi=>?_, ?_⟩
 ·rw [map_getD _ (by omega),map_getD _ (by omega),h1 i hi]
 ·rw [map_getD _ (by omega),map_getD _ (by omega)]; omega
structure NatZ (f g : FU) (Z : Int→Prop) (t : List Int) : Prop where
 len : t.length=f.src.objs.toNat
 out : ∀ x,0≤x∧x<f.src.objs→Z x→ix t x=-2
 ar : ∀ x,0≤x∧x<f.src.objs→¬ Z x→f.tgt.Ar (ix t x) (ix f.ob x) (ix g.ob x)
 nat : ∀ a x y,f.src.Ar a x y→¬ Z x→¬ Z y→f.tgt.th (ix f.ar a) (ix t y)=f.tgt.th (ix t x) (ix g.ar a)
noncomputable def natZ (f g : FU) (Z : Int→Prop) (A : List Int) : List (List Int):=extG (allZ f.tgt.frm.length f.src.objs.toNat) (NatZ f g Z) A
noncomputable def natL (f g : FU) : List (List Int):=natZ f g (fun _=>False) (List.replicate f.src.objs.toNat (-1))
section
variable {f g : FU} {Z : Int→Prop} {A t : List Int}
theorem NatZ.mem (h : NatZ f g Z t) : t∈allZ f.tgt.frm.length f.src.objs.toNat:=by
 refine mem_allZ.mpr ⟨h.len,fun x hx=>?_⟩
 obtain ⟨i,hi,rfl⟩:=mem_getD.mp hx
 have hl:=h.len
 by_cases z : Z (i : Int)
 ·have:=h.out i (by omega) z;rw [ix_nat] at this; omega
 ·have:=(h.ar i (by omega) z).r;rw [ix_nat] at this; omega
theorem mem_natZ : t∈natZ f g Z A↔NatZ f g Z t∧ExtP A t:=mem_extG fun _ h=>h.mem
theorem natZ_iff (h0 : 0≤f.src.objs) : NatZ f g (fun _=>False) t↔NatF f g t :=
 ⟨fun h=>⟨by have:=h.len; omega,fun x hx=>h.ar x hx id,fun a x y k=>h.nat a x y k id id⟩,
  fun h=>⟨by have:=h.len; omega,fun _ _ z=>z.elim,fun x hx _=>h.ar x hx,fun a x y k _ _=>h.nat a x y k⟩⟩
theorem mem_natL (h0 : 0≤f.src.objs) : t∈natL f g↔NatF f g t:=by
 rw [natL,mem_natZ,natZ_iff h0];exact ⟨fun h=>h.1,fun h=>⟨h,extP_free _⟩⟩
structure ConsZ (f g : FU) (Z : Int→Prop) (A : List Int) : Prop where
 len : A.length=f.src.objs.toNat
 val : ∀ x,0≤x∧x<f.src.objs→(Z x∧ix A x=-2)∨(¬ Z x∧(ix A x=-1∨f.tgt.Ar (ix A x) (ix f.ob x) (ix g.ob x)))
 sq : ∀ a x y,f.src.Ar a x y→0≤ix A x→0≤ix A y→f.tgt.th (ix f.ar a) (ix A y)=f.tgt.th (ix A x) (ix g.ar a)
def FitZ (f g : FU) (A : List Int) (x b : Int) : Prop:=∀ a u v,f.src.Ar a u v→(u=x∨v=x)→0≤ix (A.set x.toNat b) u→0≤ix (A.set x.toNat b) v →
 f.tgt.th (ix f.ar a) (ix (A.set x.toNat b) v)=f.tgt.th (ix (A.set x.toNat b) u) (ix g.ar a)
theorem ix_setA {A : List Int} {x y b : Int} (hx : 0≤x∧x.toNat<A.length) (hy : 0≤y) : ix (A.set x.toNat b) y=if x=y then b else ix A y:=by
 rw [ix,getD_setI hx.2]
 by_cases e : x=y
 ·rw [if_pos e,if_pos (by rw [e])]
 ·rw [if_neg e,if_neg (by omega)]; rfl
theorem ConsZ.set (h : ConsZ f g Z A) (hf : f.src.Shape) {x b : Int} (hx : 0≤x∧x<f.src.objs) (hn : ix A x=-1) (a : f.tgt.Ar b (ix f.ob x) (ix g.ob x)) (k : FitZ f g A x b) : ConsZ f g Z (A.set x.toNat b):=by
 have hl:=h.len
 have hx' : 0≤x∧x.toNat<A.length:=by omega
 refine ⟨by rw [List.length_set]; exact hl,fun y hy=>?_,fun c u v m h1 h2=>?_⟩
 ·rw [ix_setA hx' hy.1]
  by_cases e : x=y
  ·subst e;rw [if_pos rfl]
   rcases h.val x hx with q | q
   ·rw [hn] at q; exact absurd q.2 (by omega)
   ·exact .inr ⟨q.1,.inr a⟩
  ·rw [if_neg e]; exact h.val y hy
 ·by_cases e : u=x∨v=x
  ·exact k c u v m e h1 h2
  ·have ru:=m.srcS hf
   have rv:=m.tgtS hf;rw [ix_setA hx' ru.1,if_neg fun q=>e (.inl q.symm)] at h1 ⊢;rw [ix_setA hx' rv.1,if_neg fun q=>e (.inr q.symm)] at h2 ⊢;exact h.sq c u v m h1 h2
theorem ConsZ.fit (h : ConsZ f g Z A) (hf : f.src.Shape) (k : NatZ f g Z t) (e : ExtP A t) {x : Int} (hx : 0≤x∧x<f.src.objs) (hn : ix A x=-1) :
  f.tgt.Ar (ix t x) (ix f.ob x) (ix g.ob x)∧FitZ f g A x (ix t x):=by
 have hl:=h.len
 have hx' : 0≤x∧x.toNat<A.length:=by omega
 have hz : ∀ y,0≤y∧y<f.src.objs→ix A y≠-2→¬ Z y:=fun y hy q=>by
  rcases h.val y hy with z | z
  ·exact absurd z.2 q
  ·exact z.1
 have hat : ∀ y,0≤y∧y<f.src.objs→0≤ix (A.set x.toNat (ix t x)) y→ix (A.set x.toNat (ix t x)) y=ix t y∧¬ Z y:=fun y hy q=>by
  rw [ix_setA hx' hy.1] at q ⊢
  by_cases e1 : x=y
  ·subst e1;rw [if_pos rfl]; exact ⟨rfl,hz x hx (by omega)⟩
  ·rw [if_neg e1] at q ⊢
   have:=(e y.toNat (by omega)).resolve_left (fun w=>by rw [show A.getD y.toNat default=ix A y from rfl] at w; omega);exact ⟨this.symm,hz y hy (by omega)⟩
 refine ⟨k.ar x hx (hz x hx (by omega)),fun a u v m _ h1 h2=>?_⟩
 have a1:=hat u (m.srcS hf) h1
 have a2:=hat v (m.tgtS hf) h2;rw [a1.1,a2.1];exact k.nat a u v m a1.2 a2.2
theorem natZ_none (h : ConsZ f g Z A) (hf : f.src.Shape) {x : Int} (hx : 0≤x∧x<f.src.objs) (hn : ix A x=-1) (hno : ∀ b,b∈hom f.tgt (ix f.ob x) (ix g.ob x)→¬ FitZ f g A x b) : natZ f g Z A=[] :=
 extG_nil fun P hP hE=>by
  have:=h.fit hf hP hE hx hn;exact hno _ (ar_hom.mpr this.1) this.2
theorem natZ_split (h : ConsZ f g Z A) (hf : f.src.Shape) {a : Nat} (ha : a<A.length) (hn : A.getD a default=-1) (hfst : ∀ i,i<a→A.getD i default≠-1) :
  natZ f g Z A=((hom f.tgt (ix f.ob a) (ix g.ob a)).filter fun b=>dec (FitZ f g A a b)).flatMap fun b=>natZ f g Z (A.set a b):=by
 have hl:=h.len
 have hx : 0≤(a : Int)∧(a : Int)<f.src.objs:=by omega
 have hn' : ix A (a : Int)=-1:=by rw [ix_nat]; exact hn
 refine extG_split (allZ_lex _ _) (fun _ h=>h.mem) ha hn hfst ((hom_lt _ _ _).filter _) (fun b hb=>(ar_hom.mp (List.mem_filter.mp hb).1).r.1) fun P hP hE=>?_
 have:=h.fit hf hP hE hx hn';rw [ix_nat] at this;exact List.mem_filter.mpr ⟨ar_hom.mpr this.1,dec_t this.2⟩
theorem natZ_leaf (h : ConsZ f g Z A) (hf : f.src.Shape) (hk : ∀ i,i<A.length→A.getD i default≠-1) : natZ f g Z A=[A]:=by
 have hl:=h.len
 have hz : ∀ x,0≤x∧x<f.src.objs→¬ Z x→f.tgt.Ar (ix A x) (ix f.ob x) (ix g.ob x):=fun x hx z=>by
  rcases h.val x hx with q | q
  ·exact absurd q.1 z
  ·exact q.2.resolve_left (hk x.toNat (by omega))
 refine extG_one (allZ_lex _ _) (fun _ h=>h.mem) ⟨hl,fun x hx z=>?_,hz,fun a x y k z1 z2=>h.sq a x y k (hz x (k.srcS hf) z1).r.1 (hz y (k.tgtS hf) z2).r.1⟩ (fun P hP=>by rw [hP.len,hl]) hk
 rcases h.val x hx with q | q
 ·exact q.2
 ·exact absurd z q.1
theorem free_cons (hf : f.src.Shape) : ConsZ f g (fun _=>False) (List.replicate f.src.objs.toNat (-1)):=by
 have e : ∀ x,0≤x∧x<f.src.objs→ix (List.replicate f.src.objs.toNat (-1 : Int)) x=-1:=fun x hx=>by
  rw [ix,List.getD_eq_getElem?_getD,List.getElem?_replicate,if_pos (by omega)]; rfl
 refine ⟨by simp,fun x hx=>.inr ⟨id,.inl (e x hx)⟩,fun a x y k h1 h2=>?_⟩;rw [e x (k.srcS hf)] at h1; omega
end
end Go.Shf
namespace Go.Shf
open Go.AW
def FnT (c d : Cat) (ob ar : List Int) : Prop:=TyA c d ob ar∧∀ i : Nat,i<c.frm.length→0≤ar.getD i default
theorem FnT.ar {c d : Cat} {ob ar : List Int} (h : FnT c d ob ar) {a : Int} (ha : c.ArR a) : TyE c d ob a (ix ar a):=by
 rcases h.1.ty a ha with q | q
 ·have:=h.2 a.toNat ha.2;rw [ix] at q;omega
 ·exact q
structure FuOk (k : FU) : Prop where
 s : k.src.Shape
 t : k.tgt.Shape
 o : TyO k.src k.tgt k.ob
 a : FnT k.src k.tgt k.ob k.ar
end Go.Shf
namespace Go.Proofs.Shf
open Go.AW Go.Proofs Go.Shf
theorem l02Hom_ok (B : Nat) (c : Cat) (s : c.Shape) (x y : Int) : Pur Tryz.prog B 197 [.agg c.cells,iI x,iI y] (iL (homC c x y)):=by
 refine ⟨fun H0=>c197 (by simp) fun _=>?_⟩;unfold s197
 have o : Owns H0 H0 []:=.nil _
 have hm:=s.m
 have htl:=s.tol;refine tt ?_;refine new_list iI o fun id H o=>tt ?_
 refine awp_for [1,2,3] (G:=Nat × List Int) (fun k g=>[(7,some (.buf g.1 g.2.length)),(8,some (.int .i64 (k : Int)))])
  (fun k g H=>g.2=homK c x y k∧Owns H0 H [(g.1,.cells 1 (g.2.map iI) 0)]) c.frm.length (id,[]) ⟨rfl,o⟩ rfl ?_
 clear o
 rintro k ⟨id,out⟩ H hk ⟨hout,o⟩;dsimp only at hout o
 have houl : out.length≤k:=by rw [hout]; exact homK_len _ _ _
 refine tt ?_;apply bk <;> intro h1
 ·have h1p : k<c.frm.length:=of_decide h1
  have w1:=wsucc (k:=k) (by omega);refine tt ?_;refine ⟨h1p, ?_⟩
  by_cases e1 : c.frm.getD k default=x
  ·rw [decide_eq_true e1];refine tt ?_;refine ⟨by omega, ?_⟩
   by_cases e2 : c.to.getD k default=y
   ·rw [decide_eq_true e2];refine tt ?_;refine app_own (k : Int) o rfl rfl (by simp only [maxL]; omega) fun z H o=>?_;refine tw w1 ?_;exact for_next (z,out++[(k : Int)]) h1p ⟨by rw [hout,homK_t e1 e2],o⟩ rfl
   ·rw [decide_eq_false e2];refine tw w1 ?_;exact for_next (id,out) h1p ⟨by rw [hout,homK_f fun h=>e2 h.2],o⟩ rfl
  ·rw [decide_eq_false e1];refine tw w1 ?_;exact for_next (id,out) h1p ⟨by rw [hout,homK_f fun h=>e1 h.1],o⟩ rfl
 ·have h1p:=of_ndecide h1
  have ek : k=c.frm.length:=by omega
  rw [ek,homK_full] at hout;refine tt ?_;refine fz_own o rfl fun H o=>tt ?_;exact pure_ret (by rw [hout]) o.sub
instance : Inhabited Cat:=⟨⟨0,[],[],[],[]⟩⟩
abbrev caP (c : Cat) : AV:=.ptr c.cells
instance : One caP:=⟨fun _=>rfl,fun _=>rfl⟩
theorem areCategories_ok (B : Nat) (l : List Cat) : Pur Tryz.prog B 57 [mL caP l] (.bool (dec (∀ c,c∈l→c.Is))):=by
 refine ⟨fun H0=>c57p (by simp) fun ⟨hf,_⟩=>?_⟩
 have hl:=fine_mL_le hf;simp only [maxL] at hl;unfold s57p;refine tt ?_;refine awp_for [5,6] (fun k _=>[(7,some (.int .i64 (k : Int)))]) (fun k _ H=>H=H0∧∀ i,i<k→(l.getD i default).Is) l.length () ⟨rfl,by simp⟩ rfl ?_
 rintro k _ H hk ⟨rfl,hall⟩;refine tt ?_;apply bk <;> intro h1
 ·have h1p:=dd h1
  have w1:=wsucc (k:=k) (by omega);refine tt ?_;refine ⟨h1p,(isCategory_ok B _).go fun _=>?_⟩;refine tt ?_;apply bk <;> intro h2
  ·refine tt ?_
   have h2p:=dd h2;exact pure_ret (by rw [dec_f]; intro h; exact h2p (h _ (mem_getD.mpr ⟨k,h1p,rfl⟩))) (.refl _)
  ·refine tw w1 ?_
   have h2p:=dd h2;exact for_next () (by omega) ⟨rfl,lt_succ_all hall h2p⟩ rfl
 ·refine tt ?_
  have h1p:=dd h1;exact pure_ret (by rw [dec_t]; exact all_getD.mpr fun i hi=>hall i (by omega)) (.refl _)
theorem hom_at {c : Cat} {x y : Int} {k : Nat} (hk : k<(hom c x y).length) : c.Ar ((hom c x y).getD k default) x y:=ar_hom.mp (mem_getD.mpr ⟨k,hk,rfl⟩)
theorem l02Unit_ok (B : Nat) (c : Cat) (hs : c.Shape) (f : Int) (hf : 0≤f∧f.toNat<c.frm.length) : Pur Tryz.prog B 131 [.agg c.cells,iI f] (.bool (decide (ix c.idn (ix c.frm f)=f))):=by
 refine ⟨fun H0=>c131p (by simp) fun _=>?_⟩;unfold s131p
 have hx:=hs.frmObj hf.2
 have hil:=hs.il;refine tt ?_;exact ⟨hf,⟨hx.1,by omega⟩,pure_ret rfl (.refl _)⟩
theorem functor_ok (B : Nat) (c d : Cat) (ob ar : List Int) : Pur Tryz.prog B 84 [.ptr c.cells,.ptr d.cells,iL ob,iL ar] (.agg (FU.cells ⟨c,d,ob,ar⟩)):=by
 refine ⟨fun H0=>c84p (by simp) fun _=>?_⟩;unfold s84p
 have o : Owns H0 H0 []:=.nil _;refine tt ?_;refine nb o fun id8 H o=>tt ?_;refine (catCopy_ok B c).go fun _=>tt ?_;refine (catCopy_ok B d).go fun _=>tt ?_;refine (clone_ok B ob).go fun _=>tt ?_;refine (clone_ok B ar).go fun _=>tt ?_;refine sw o fun H o=>tt ?_
 have hr:=o.rc 12 0 (by simp);simp only [List.drop_zero] at hr;rw [hr];exact pure_ret rfl o.sub
end Go.Proofs.Shf
