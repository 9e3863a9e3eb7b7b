/- A part of a proof. -/
import Derived.Test.YtphikjciekmijaaGreatDoorF7
set_option linter.unusedVariables false
set_option linter.unusedSimpArgs false
set_option linter.unusedSectionVars false
set_option maxRecDepth 100000
open Nat (reduceEqDiff reduceAdd reduceMul reduceLeDiff reduceLT)
namespace Go.Proofs.Shf
open Go.AW Go.Proofs Go.Shf
theorem solutionsCode_ok (B : Nat) (f : SF) (q : QS) : Pur Tryz.prog B 34 [.ptr f.cells,.ptr q.cells] (.tup [iLL (ansQ f q),iI (codQ f q)]):=by
 refine ⟨fun H0=>c34 (by simp) fun _=>?_⟩;unfold s34;refine tt ?_;refine (isSetFunctor_ok B f).go fun _=>?_
 by_cases hf : f.Is
 rotate_left 1
 ·have e : codQ f q=1:=by rw [codQ,if_neg fun h=>hf h.1]
  rw [dec_f hf];refine tt ?_;exact pure_ret (by rw [ansQ,e]; rfl) (.refl _)
 rw [dec_t hf];refine tt ?_;refine (isQuery_ok B f.shape hf.1.is q).go fun _=>?_
 by_cases hq : q.Ok f.shape
 rotate_left 1
 ·have e : codQ f q=1:=by rw [codQ,if_neg fun h=>hq h.2]
  rw [dec_f hq];refine tt ?_;exact pure_ret (by rw [ansQ,e]; rfl) (.refl _)
 rw [dec_t hq];refine tt ?_;refine (solutions_ok B f hf q hq).go fun _=>?_
 by_cases hP : prodT (szT f q.v)≤4096
 ·have e : codQ f q=0:=by rw [codQ,if_pos ⟨hf,hq⟩,if_pos hP]
  rw [decide_eq_true hP,if_pos hP];refine tt ?_;exact pure_ret (by rw [ansQ,e]; rfl) (.refl _)
 ·have e : codQ f q=3:=by rw [codQ,if_pos ⟨hf,hq⟩,if_neg hP]
  rw [decide_eq_false hP,if_neg hP];refine tt ?_;exact pure_ret (by rw [ansQ,e]; rfl) (.refl _)
def MatchQ (r : AV) : Prop:=∃ (a b : Int × Int) (ok : Bool),r=.tup [prE a,prE b,.bool ok]
theorem l38Match_ok (B : Nat) (c : Cat) (hc : c.Is) (q : QS) : Rd B 81 [.agg c.cells,.agg q.cells] MatchQ:=by
 intro id s H0 H hs o;refine c81 (by simp) fun ⟨_,_,hq,_⟩=>?_
 have hm:=hc.1.m
 have hml : c.frm.length≤40:=by omega
 have htl:=hc.1.tol;unfold s81;refine tt ?_;refine newRef_own o fun id6 H o=>tt ?_;refine newRef_own o fun id7 H o=>tt ?_
 by_cases hn : q.v.length=0
 ·rw [decide_eq_true (show (q.v.length : Int)=0 by omega)];refine tt ?_;refine sw o.swap fun H o=>tt ?_;refine sw o.swap fun H o=>tt ?_
  have hr6:=o.tl.rc 2 0 (by simp)
  have hr7:=o.rc 2 0 (by simp);simp only [List.drop_zero] at hr6 hr7;rw [hr6,hr7];exact src_ret ⟨(0,0),(0,0),false,rfl⟩ hs (o.pull [_,_])
 rw [decide_eq_false (show ¬ (q.v.length : Int)=0 by omega)];refine tt ?_;refine (l01Next_ok B q.v.length).go hs (o.pull [_,_]) fun r s H _ ⟨i,e,hi0,hi1,_⟩ hs o=>?_;subst e;refine tt ?_;refine (l01Next_ok B q.v.length).go hs o fun r s H _ ⟨j,e,hj0,hj1,_⟩ hs o=>?_;subst e;refine tt ?_;refine (l01Next_ok B c.frm.length).go hs o fun r s H _ ⟨a,e,ha0,ha1,ha2⟩ hs o=>?_;subst e;refine tt ?_;refine (l01Next_ok B c.frm.length).go hs o fun r s H _ ⟨b,e,hb0,hb1,hb2⟩ hs o=>?_;subst e
 have o : Owns H0 H [(id7,MObj.cells 2 [.int .i64 0,.int .i64 0] 0),(id6,MObj.cells 2 [.int .i64 0,.int .i64 0] 0),(id,s.obj)]:=o.pm
 replace hi1:=hi1 (by omega)
 replace hj1:=hj1 (by omega)
 obtain ⟨m,em⟩ : ∃ m : Nat,m=c.frm.length:=⟨_,rfl⟩
 have wm : IntKind.i64.wrap ((c.frm.length : Int)*(c.frm.length : Int))=((m*m : Nat) : Int):=by
  rw [← em]
  have : m*m≤40*40:=Nat.mul_le_mul (by omega) (by omega);rw [← Int.natCast_mul];exact wrap_i64 (by omega) (by omega)
 have hmm : m*m≤40*40:=Nat.mul_le_mul (by omega) (by omega);refine tt ?_
 refine awp_for [4,5,6,7,10,11,12] (G:=Int × Int) (fun k g=>[(13,some (iI g.1)),(14,some (iI g.2)),(15,some (.int .i64 (k : Int)))])
  (fun k g H'=>H'=H∧(0<m→(0≤g.1∧g.1.toNat<m)∧0≤g.2∧g.2.toNat<m)) (m*m) (a,b) ⟨rfl,fun h=>⟨⟨ha0,by have:=ha1 (by omega); omega⟩,hb0,by have:=hb1 (by omega); omega⟩⟩ rfl ?_
 rintro k ⟨a,b⟩ H' hk ⟨rfl,hab⟩;refine tw wm ?_;apply bk <;> intro h1
 ·have h1p : k<m*m:=of_decide h1
  have hm0 : 0<m:=by
   rcases Nat.eq_zero_or_pos m with e | e
   ·subst e; simp at h1p
   ·exact e
  obtain ⟨ha,hb⟩:=hab hm0
  have w1:=wsucc (k:=k) (by omega)
  have wa : IntKind.i64.wrap (a+1)=a+1:=wrap_i64 (by omega) (by omega)
  have wb : IntKind.i64.wrap (b+1)=b+1:=wrap_i64 (by omega) (by omega)
  have ta : 0≤(a+1).tmod (c.frm.length : Int)∧((a+1).tmod (c.frm.length : Int)).toNat<m:=by
   have h1:=Int.tmod_nonneg (c.frm.length : Int) (show 0≤a+1 by omega)
   have h2:=Int.tmod_lt_of_pos (a+1) (show 0<(c.frm.length : Int) by omega);omega
  have tb : 0≤(b+1).tmod (c.frm.length : Int)∧((b+1).tmod (c.frm.length : Int)).toNat<m:=by
   have h1:=Int.tmod_nonneg (c.frm.length : Int) (show 0≤b+1 by omega)
   have h2:=Int.tmod_lt_of_pos (b+1) (show 0<(c.frm.length : Int) by omega);omega
  have wl : IntKind.i64.wrap ((c.frm.length : Int) - 1)=(c.frm.length : Int) - 1:=wrap_i64 (by omega) (by omega);refine tt ?_;refine ⟨⟨ha.1,by omega⟩,⟨hi0,by omega⟩, ?_⟩
  by_cases e1 : ix c.frm a=ix q.v i
  focus
   rw [decide_eq_true e1];refine tt ?_;refine ⟨⟨hb.1,by omega⟩,⟨hj0,by omega⟩, ?_⟩
   by_cases e2 : ix c.frm b=ix q.v j
   focus
    rw [decide_eq_true e2];refine tt ?_;refine ⟨⟨ha.1,by omega⟩,⟨hb.1,by omega⟩, ?_⟩
    by_cases e3 : ix c.to a=ix c.to b
    focus
     rw [decide_eq_true e3];refine tt ?_;refine sw o.swap fun H o=>tt ?_;refine sw o.swap fun H o=>tt ?_
     have hr6:=o.tl.rc 2 0 (by simp)
     have hr7:=o.rc 2 0 (by simp);simp only [List.drop_zero] at hr6 hr7;rw [hr6,hr7];exact src_ret ⟨(i,a),(j,b),true,rfl⟩ hs (o.pull [_,_])
    rw [decide_eq_false e3];refine tt ?_
   rotate_left 1
   focus
    rw [decide_eq_false e2];refine tt ?_
  rotate_left 2
  focus
   rw [decide_eq_false e1];refine tt ?_
  all_goals
   refine tw wb ?_;refine ⟨by omega, ?_⟩;refine tw wl ?_;refine ⟨by omega,tt ?_⟩;apply bk <;> intro h2
   ·refine tw wa ?_;refine ⟨by omega, ?_⟩;refine tw w1 ?_;exact for_next ((a+1).tmod (c.frm.length : Int),(b+1).tmod (c.frm.length : Int)) h1p ⟨rfl,fun _=>⟨ta,tb⟩⟩ rfl
   ·refine tw w1 ?_;exact for_next (a,(b+1).tmod (c.frm.length : Int)) h1p ⟨rfl,fun _=>⟨ha,tb⟩⟩ rfl
 ·have h1p : ¬ k<m*m:=of_ndecide h1;refine tt ?_;refine sw o.swap fun H o=>tt ?_;refine sw o.swap fun H o=>tt ?_
  have hr6:=o.tl.rc 2 0 (by simp)
  have hr7:=o.rc 2 0 (by simp);simp only [List.drop_zero] at hr6 hr7;rw [hr6,hr7];exact src_ret ⟨(0,0),(0,0),false,rfl⟩ hs (o.pull [_,_])
end Go.Proofs.Shf
namespace Go.AW
theorem wk_cellN {α : Type} {w : Nat} {f : α→AV} [AggN w f] {F : Env→Heap→Prop} {σ : Env} {H0 H : Heap} {l : List (Nat × MObj)} {id sz fr id2 n fr2 : Nat} {cs : List AV} {A : List α} (k : Nat)
  (o : Owns H0 H ((id,.cells sz cs fr)::(id2,.cells w (flat (A.map f)) fr2)::l)) (hc : cs[k]? = some (.buf id2 n)) (hn : n=A.length)
  (hk : ∀ H',Owns H0 H' ((id,.cells sz (cs.set k (mL f A)) fr)::l)→wkW F σ H') : wkW F σ H:=by
 subst hn
 have h1:=o.h0
 have h2:=o.tl.h0;simp only at h1 h2
 have hne : id≠id2:=by
  have:=o.nd;simp only [List.map_cons,List.nodup_cons,List.mem_cons,not_or] at this;exact this.1.1
 have o2:=((o.swap.put (.cells w (flat (A.map f)) (flat (A.map f)).length)).tl).put (.cells sz (cs.set k (mL f A)) fr);refine wkW_step (σ1:=σ) ?_ (hk _ o2)
 intro g B w tm hW hE
 obtain ⟨g',q1,q2,q3⟩:=hW.gaveVn h2;refine ⟨g',q1, ?_,hE.mono q1⟩;refine q2.recell (by rw [Heap.get_set_ne _ _ hne]; exact h1) (by simp) fun j v hj hv=>?_
 by_cases e : j=k
 ·subst e
  have e1 : cs.getD j nv=.buf id2 A.length:=by rw [List.getD_eq_getElem?_getD,hc]; rfl
  have e2 : (cs.set j (mL f A)).getD j nv=mL f A:=by simp [List.getD_eq_getElem?_getD,hj]
  rw [e1] at hv;rw [e2]; exact q3 g' v (.refl _) hv
 ·have e2 : (cs.set k (mL f A)).getD j nv=cs.getD j nv:=by
   rw [List.getD_eq_getElem?_getD,List.getElem?_set_ne (by omega),← List.getD_eq_getElem?_getD]
  rw [e2]; exact hv
theorem app_listN {α : Type} {f : α→AV} {w : Nat} [h : AggN w f] {H0 H : Heap} {l : List (Nat × MObj)} {K : Kont} {id m : Nat} {out r : List α} (o : Owns H0 H ((id,.cells w (flat (out.map f)) 0)::l)) (hn : m=out.length) (hm : (out.length+r.length)*w≤maxL)
  (hk : ∀ id' H',Owns H0 H' ((id',.cells w (flat ((out++r).map f)) 0)::l)→K (.buf id' (out++r).length) H') :
  appW w (some (.buf id m)) (some (mL f r)) K H:=by
 subst hn
 have h0:=o.h0;simp only at h0
 have h2:=h.two;simp only [appW,h0,srcOf,mL,app2]
 have hle : out.length+r.length≤maxL:=Nat.le_trans (Nat.le_mul_of_pos_right _ (by omega)) hm;refine ⟨⟨trivial,flat_len out,by rw [List.length_map]; exact hle,by rw [List.length_map]; exact hm,okEls_mapN r⟩,fun id' hn=>?_⟩
 have:=o.mv hn (.cells w (flat ((out++r).map f)) 0)
 have e : flat (out.map f)++flat (r.map f)=flat ((out++r).map f):=by rw [List.map_append,flat_app]
 rw [e]
 have:=hk id' _ this
 simpa using this
end Go.AW
namespace Go.Proofs.Shf
open Go.AW Go.Proofs Go.Shf
def QueryR (r : AV) : Prop:=∃ q : QS,r=.agg q.cells
def QueryS (r : AV) : Prop:=∃ q : QS,r=.agg q.cells∧q.v.length≤3∧q.l.length≤3∧q.r.length≤3∧q.o.length≤3
theorem l38Some_ok (B : Nat) (c : Cat) (hc : c.Is) : Rd B 42 [.agg c.cells] QueryS:=by
 intro id s H0 H hs o;refine c42p (by simp) fun _=>?_
 have ho:=hc.1.o;unfold s42p;refine tt ?_;refine newRef_own o fun id4 H o=>tt ?_;refine newRef_own o fun id5 H o=>tt ?_;refine sw o fun H o=>tt ?_;refine wk_emc 0 o rfl fun H o=>wk_emc 1 o rfl fun H o=>wk_emc 2 o rfl fun H o=>wk_emc 3 o rfl fun H o=>wkW_done ?_;simp only [List.set_cons_zero,List.set_cons_succ] at o;refine tt ?_
 by_cases h0 : c.objs=0
 ·rw [decide_eq_true h0];refine tt ?_;refine rd_celln o (by simp) ?_;refine tt ?_;refine sw o.swap fun H o=>tt ?_
  have hr:=o.rc 4 0 (by simp);simp only [List.drop_zero] at hr;rw [hr];exact src_ret ⟨⟨[],[],[],[]⟩,rfl,by simp,by simp,by simp,by simp⟩ hs (o.pull [_,_])
 rw [decide_eq_false h0];refine tt ?_;refine (l01Next_ok B 3).go hs (o.pull [_,_]) fun r s H _ ⟨x,e,hx0,hx1,_⟩ hs o=>?_;subst e
 have hx1:=hx1 (by omega)
 obtain ⟨n,hn⟩ : ∃ n : Nat,x=n:=⟨_,(Int.toNat_of_nonneg hx0).symm⟩;subst hn
 have wx : IntKind.i64.wrap ((n : Int)+1)=((n+1 : Nat) : Int):=wrap_i64 (by omega) (by omega);refine tw wx ?_
 refine awp_for [0,3,4,5] (G:=Src × List Int) (fun k _=>[(6,some (.int .i64 ((n+1 - k : Nat) : Int)))])
  (fun k g H'=>g.1.Ok∧g.2.length=k∧Owns H0 H' [(id,g.1.obj),(id5,MObj.cells 4 [iL g.2,.sl [],.sl [],.sl []] 0),(id4,MObj.cells 4 [.nilsl,.nilsl,.nilsl,.nilsl] 0)]) (n+1) (s,[]) ⟨hs,rfl,o⟩ rfl ?_
 clear o hs s
 rintro k ⟨s,v⟩ H hk ⟨hs,hv,o⟩;dsimp only at hs hv o;refine tt ?_;apply bk <;> intro h1
 ·have h1p : k<n+1:=by simp at h1; omega
  have wk1 : IntKind.i64.wrap (((n+1 - k : Nat) : Int) - 1)=((n+1 - (k+1) : Nat) : Int):=by rw [wrap_i64 (by omega) (by omega)]; omega
  have o:=o.swap;refine tt ?_;refine ⟨⟨_,_,o.h0⟩,rd_cells o (by simp) ?_⟩;refine tt ?_;refine New.go' (l01Own_new B v) o fun X1 p1 H ⟨z,e1,e2⟩ o hsb=>⟨hsb, ?_⟩;subst e1 e2
  have o : Owns H0 H [(id,s.obj),(z,.cells 1 (v.map iI) 0),(id5,MObj.cells 4 [iL v,.sl [],.sl [],.sl []] 0),(id4,MObj.cells 4 [.nilsl,.nilsl,.nilsl,.nilsl] 0)]:=o.pm;refine tt ?_;refine (l01Next_ok B c.objs).goZ hs o fun r s H _ ⟨y,e,_⟩ hs o hz=>⟨hz, ?_⟩;subst e;refine tt ?_;refine app_own y o.swap rfl rfl (by simp only [maxL]; omega) fun z H o=>?_
  have o : Owns H0 H [(id5,MObj.cells 4 [iL v,.sl [],.sl [],.sl []] 0),(z,.cells 1 ((v++[y]).map iI) 0),(id,s.obj),(id4,MObj.cells 4 [.nilsl,.nilsl,.nilsl,.nilsl] 0)]:=o.pm;refine tt ?_;refine sw o fun H o=>tt ?_;refine wk_cell (f:=iI) (A:=v++[y]) 0 o rfl (by simp) fun H o=>wkW_done ?_;simp only [List.set_cons_zero,List.set_cons_succ] at o;refine tw wk1 ?_;exact for_next (s,v++[y]) h1p ⟨hs,by simp [hv],o.swap⟩ rfl
 ·have h1p : k=n+1:=by simp at h1; omega
  have hv3 : v.length≤3:=by omega
  clear h1 hk
  have o:=o.swap;refine tt ?_;refine rd_cells o (by simp) ?_;refine tt ?_;refine (l01Next_ok B 4).go hs o.swap fun r s H _ ⟨x,e,hx0,hx1,_⟩ hs o=>?_;subst e
  have hx1:=hx1 (by omega)
  obtain ⟨n,hn⟩ : ∃ n : Nat,x=n:=⟨_,(Int.toNat_of_nonneg hx0).symm⟩;subst hn;refine tt ?_
  refine awp_for [0,3,4,5,7] (G:=Src × List (Int × Int) × List (Int × Int)) (fun k _=>[(8,some (.int .i64 ((n - k : Nat) : Int)))])
   (fun k g H'=>g.1.Ok∧g.2.1.length≤k∧g.2.2.length≤k∧Owns H0 H' [(id5,MObj.cells 4 [iL v,mL prE g.2.1,mL prE g.2.2,.sl []] 0),(id,g.1.obj),(id4,MObj.cells 4 [.nilsl,.nilsl,.nilsl,.nilsl] 0)]) n (s,[],[]) ⟨hs,Nat.le_refl _,Nat.le_refl _,o.swap⟩ rfl ?_
  clear o hs s
  rintro k ⟨s,l,r⟩ H hk ⟨hs,hl,hr,o⟩;dsimp only at hs hl hr o;refine tt ?_;apply bk <;> intro h1
  ·have h1p : k<n:=by simp at h1; omega
   have wk1 : IntKind.i64.wrap (((n - k : Nat) : Int) - 1)=((n - (k+1) : Nat) : Int):=by rw [wrap_i64 (by omega) (by omega)]; omega
   refine tt ?_;refine rd_celln o (by simp) ?_;refine tt ?_;refine (l38Match_ok B c hc ⟨v,l,r,[]⟩).go hs o.swap fun res s H _ ⟨a,b,ok,e⟩ hs o=>?_;subst e;refine tt ?_;refine newRef_own o fun id9 H o=>tt ?_;refine newRef_own o fun id10 H o=>tt ?_;refine sw o.swap fun H o=>tt ?_;refine sw o.swap fun H o=>tt ?_;refine wk_ref 10 o rfl fun H o=>wk_ref 9 o rfl fun H o=>wkW_done ?_
   have o:=o.swap
   cases ok
   ·refine tt ?_;refine wkW_done ?_;refine tw wk1 ?_;exact for_next (s,l,r) h1p ⟨hs,by simp only; omega,by simp only; omega,o⟩ rfl
   ·refine tt ?_;refine ⟨⟨_,_,o.h0⟩,rd_cells o (by simp) ?_⟩;refine tt ?_;refine new_listN prE o fun z H o=>tt ?_;refine app_listN (f:=prE) (r:=l) o rfl (by simp only [maxL,List.length_nil]; omega) fun z H o=>?_;simp only [List.nil_append] at o;refine tt ?_;refine app_ownN (f:=prE) a o rfl rfl (by simp only [maxL]; omega) fun z H o=>tt ?_;refine sw o.swap fun H o=>tt ?_;refine ⟨⟨_,_,o.h0⟩,rd_cells o (by simp) ?_⟩;refine tt ?_;refine new_listN prE o fun z2 H o=>tt ?_;refine app_listN (f:=prE) (r:=r) o rfl (by simp only [maxL,List.length_nil]; omega) fun z2 H o=>?_;simp only [List.nil_append] at o;refine tt ?_;refine app_ownN (f:=prE) b o rfl rfl (by simp only [maxL]; omega) fun z2 H o=>tt ?_;refine sw o.swap fun H o=>tt ?_;refine wk_cellN (f:=prE) (A:=r++[b]) 2 o rfl rfl fun H o=>wk_cellN (f:=prE) (A:=l++[a]) 1 o rfl rfl fun H o=>wkW_done ?_;simp only [List.set_cons_zero,List.set_cons_succ] at o;refine tw wk1 ?_;exact for_next (s,l++[a],r++[b]) h1p ⟨hs,by simp; omega,by simp; omega,o⟩ rfl
  ·have h1p : k=n:=by simp at h1; omega
   clear h1 hk;refine tt ?_;refine (l01Next_ok B 3).go hs o.swap fun res s H _ ⟨x,e,hx0,hx1,_⟩ hs o=>?_;subst e
   have hx1:=hx1 (by omega)
   obtain ⟨n2,hn2⟩ : ∃ n2 : Nat,x=n2:=⟨_,(Int.toNat_of_nonneg hx0).symm⟩;subst hn2;refine tt ?_
   refine awp_for [0,4,5,7] (G:=Src × List Int) (fun k _=>[(12,some (.int .i64 ((n2 - k : Nat) : Int)))])
    (fun k g H'=>g.1.Ok∧g.2.length≤k∧Owns H0 H' [(id5,MObj.cells 4 [iL v,mL prE l,mL prE r,iL g.2] 0),(id,g.1.obj),(id4,MObj.cells 4 [.nilsl,.nilsl,.nilsl,.nilsl] 0)]) n2 (s,[]) ⟨hs,Nat.le_refl _,o.swap⟩ rfl ?_
   clear o hs s
   rintro k2 ⟨s,u⟩ H hk ⟨hs,hu,o⟩;dsimp only at hs hu o;refine tt ?_;apply bk <;> intro h1
   ·have h2p : k2<n2:=by simp at h1; omega
    have wk1 : IntKind.i64.wrap (((n2 - k2 : Nat) : Int) - 1)=((n2 - (k2+1) : Nat) : Int):=by rw [wrap_i64 (by omega) (by omega)]; omega
    refine tt ?_;refine rd_cells o (by simp) ?_;refine tt ?_;refine (l01Own_new B u).call o fun X1 p1 H ⟨z,e1,e2⟩ o=>?_;subst e1 e2
    have o : Owns H0 H [(id,s.obj),(z,.cells 1 (u.map iI) 0),(id5,MObj.cells 4 [iL v,mL prE l,mL prE r,iL u] 0),(id4,MObj.cells 4 [.nilsl,.nilsl,.nilsl,.nilsl] 0)]:=o.pm;refine tt ?_;refine (l01Next_ok B v.length).go hs o fun res s H _ ⟨y,e,_⟩ hs o=>?_;subst e;refine tt ?_;refine app_own y o.swap rfl rfl (by simp only [maxL]; omega) fun z H o=>?_
    have o : Owns H0 H [(id5,MObj.cells 4 [iL v,mL prE l,mL prE r,iL u] 0),(z,.cells 1 ((u++[y]).map iI) 0),(id,s.obj),(id4,MObj.cells 4 [.nilsl,.nilsl,.nilsl,.nilsl] 0)]:=o.pm;refine tt ?_;refine sw o fun H o=>tt ?_;refine wk_cell (f:=iI) (A:=u++[y]) 3 o rfl (by simp) fun H o=>wkW_done ?_;simp only [List.set_cons_zero,List.set_cons_succ] at o;refine tw wk1 ?_;exact for_next (s,u++[y]) h2p ⟨hs,by simp; omega,o⟩ rfl
   ·have h2p : k2=n2:=by simp at h1; omega
    refine tt ?_;refine rd_celln o (by simp) ?_;refine tt ?_;refine sw (o.pull [_,_]) fun H o=>tt ?_
    have hrr:=o.rc 4 0 (by simp);simp only [List.drop_zero] at hrr;rw [hrr];exact src_ret ⟨⟨v,l,r,u⟩,rfl,hv3,by simp only; omega,by simp only; omega,by simp only; omega⟩ hs (o.pull [_,_])
theorem l38Draw_ok (B : Nat) (c : Cat) : Rd B 18 [.agg c.cells] QueryR:=by
 intro id s H0 H hs o;refine c18p (by simp) fun _=>?_;unfold s18p;refine tt ?_;refine newRef_own o fun id4 H o=>tt ?_;refine (l02Is_ok B c).go fun _=>?_
 by_cases hc : c.Is
 rotate_left 1
 ·rw [dec_f hc];refine tt ?_;refine sw o fun H o=>tt ?_;refine wk_nils _ [] H o fun H o=>wkW_done ?_
  have hrr:=o.rc 4 0 (by simp);simp only [List.drop_zero] at hrr;refine tt ?_;rw [hrr];exact src_ret ⟨⟨[],[],[],[]⟩,rfl⟩ hs o.swap
 rw [dec_t hc]
 have ho:=hc.1.o;refine tt ?_;refine (l38Some_ok B c hc).go hs o.swap fun res s H hfi ⟨q,e,hqv,hql,hqr,hqo⟩ hs o=>?_;subst e;refine tt ?_;refine newRef_own o fun id5 H o=>tt ?_;refine sw o fun H o=>tt ?_;refine (l01Next_ok B 40).go hs o.swap fun res s H _ ⟨x,e,hx0,hx1,_⟩ hs o=>?_;subst e;refine tt ?_
 by_cases x0 : x=0
 ·rw [decide_eq_true x0];refine tt ?_
  have o:=o.swap;refine ⟨⟨_,_,o.h0⟩,rd_cells o (by simp) ?_⟩;refine tt ?_;refine New.go' (l01Own_new B q.v) o fun X1 p1 H ⟨z,e1,e2⟩ o hsb=>⟨hsb, ?_⟩;subst e1 e2
  have o : Owns H0 H [(id,s.obj),(z,.cells 1 (q.v.map iI) 0),(id5,MObj.cells 4 [iL q.v,mL prE q.l,mL prE q.r,iL q.o] 0),(id4,MObj.cells 4 [.nilsl,.nilsl,.nilsl,.nilsl] 0)]:=o.pm;refine tt ?_;refine (l02Number_ok B c.objs).goZ hs o fun r s H _ ⟨y,e⟩ hs o hz=>⟨hz, ?_⟩;subst e;refine tt ?_;refine app_own y o.swap rfl rfl (by simp only [maxL]; omega) fun z H o=>?_
  have o : Owns H0 H [(id5,MObj.cells 4 [iL q.v,mL prE q.l,mL prE q.r,iL q.o] 0),(z,.cells 1 ((q.v++[y]).map iI) 0),(id,s.obj),(id4,MObj.cells 4 [.nilsl,.nilsl,.nilsl,.nilsl] 0)]:=o.pm;refine tt ?_;refine sw o fun H o=>tt ?_;refine wk_cell (f:=iI) (A:=q.v++[y]) 0 o rfl (by simp) fun H o=>wkW_done ?_;simp only [List.set_cons_zero,List.set_cons_succ] at o;refine tt ?_;refine rd_celln o (by simp) ?_;refine tt ?_;refine sw (o.pull [_,_]) fun H o=>tt ?_;refine wkW_done ?_
  have hrr:=o.rc 4 0 (by simp);simp only [List.drop_zero] at hrr;refine tt ?_;rw [hrr];exact src_ret ⟨⟨q.v++[y],q.l,q.r,q.o⟩,rfl⟩ hs (o.pull [_,_])
 rw [decide_eq_false x0];refine tt ?_
 by_cases x1 : x=1
 ·rw [decide_eq_true x1];refine tt ?_
  have o:=o.swap;refine ⟨⟨_,_,o.h0⟩,rd_cells o (by simp) ?_⟩;refine tt ?_;refine ⟨⟨_,_,o.h0⟩,rd_cells o (by simp) ?_⟩;refine tt ?_;refine New.go' (l01Own_new B q.o) o fun X1 p1 H ⟨z,e1,e2⟩ o hsb=>⟨hsb, ?_⟩;subst e1 e2
  have o : Owns H0 H [(id,s.obj),(z,.cells 1 (q.o.map iI) 0),(id5,MObj.cells 4 [iL q.v,mL prE q.l,mL prE q.r,iL q.o] 0),(id4,MObj.cells 4 [.nilsl,.nilsl,.nilsl,.nilsl] 0)]:=o.pm;refine tt ?_;refine (l02Number_ok B q.v.length).goZ hs o fun r s H _ ⟨y,e⟩ hs o hz=>⟨hz, ?_⟩;subst e;refine tt ?_;refine app_own y o.swap rfl rfl (by simp only [maxL]; omega) fun z H o=>?_
  have o : Owns H0 H [(id5,MObj.cells 4 [iL q.v,mL prE q.l,mL prE q.r,iL q.o] 0),(z,.cells 1 ((q.o++[y]).map iI) 0),(id,s.obj),(id4,MObj.cells 4 [.nilsl,.nilsl,.nilsl,.nilsl] 0)]:=o.pm;refine tt ?_;refine sw o fun H o=>tt ?_;refine wk_cell (f:=iI) (A:=q.o++[y]) 3 o rfl (by simp) fun H o=>wkW_done ?_;simp only [List.set_cons_zero,List.set_cons_succ] at o;refine tt ?_;refine rd_celln o (by simp) ?_;refine tt ?_;refine sw (o.pull [_,_]) fun H o=>tt ?_;refine wkW_done ?_
  have hrr:=o.rc 4 0 (by simp);simp only [List.drop_zero] at hrr;refine tt ?_;rw [hrr];exact src_ret ⟨⟨q.v,q.l,q.r,q.o++[y]⟩,rfl⟩ hs (o.pull [_,_])
 rw [decide_eq_false x1];refine tt ?_
 by_cases x2 : x=2
 ·rw [decide_eq_true x2];refine tt ?_;refine new_listN prE o fun z H o=>tt ?_
  have o:=o.pull [_,_];refine rd_cells o (by simp) ?_;refine tt ?_;refine app_listN (f:=prE) (r:=q.l) o.swap rfl (by simp only [maxL,List.length_nil]; omega) fun z H o=>?_;simp only [List.nil_append] at o;refine tt ?_;refine (l01Next_ok B 3).go hs (o.pull [_,_]) fun res s H _ ⟨y1,e,_⟩ hs o=>?_;subst e;refine tt ?_;refine (l01Next_ok B 4).go hs o fun res s H _ ⟨y2,e,_⟩ hs o=>?_;subst e;refine tt ?_;refine app_ownN (f:=prE) (y1,y2) o.swap rfl rfl (by simp only [maxL]; omega) fun z H o=>tt ?_;refine sw (o.pull [_,_]) fun H o=>tt ?_;refine new_listN prE o fun z2 H o=>tt ?_;refine rd_cells o.swap (by simp) ?_;refine tt ?_;refine app_listN (f:=prE) (r:=q.r) o rfl (by simp only [maxL,List.length_nil]; omega) fun z2 H o=>?_;simp only [List.nil_append] at o;refine tt ?_;refine (l01Next_ok B 3).go hs (o.pull [_,_,_]) fun res s H _ ⟨y3,e,_⟩ hs o=>?_;subst e;refine tt ?_;refine (l01Next_ok B 4).go hs o fun res s H _ ⟨y4,e,_⟩ hs o=>?_;subst e;refine tt ?_;refine app_ownN (f:=prE) (y3,y4) o.swap rfl rfl (by simp only [maxL]; omega) fun z2 H o=>tt ?_;refine sw (o.pull [_,_]) fun H o=>tt ?_;refine wk_cellN (f:=prE) (A:=q.r++[(y3,y4)]) 2 o rfl (by simp) fun H o=>wk_cellN (f:=prE) (A:=q.l++[(y1,y2)]) 1 (o.perm (.cons _ (.swap _ _ _))) rfl (by simp) fun H o=>wkW_done ?_;simp only [List.set_cons_zero,List.set_cons_succ] at o;refine tt ?_;refine rd_celln o (by simp) ?_;refine tt ?_;refine sw (o.pull [_,_]) fun H o=>tt ?_;refine wkW_done ?_
  have hrr:=o.rc 4 0 (by simp);simp only [List.drop_zero] at hrr;refine tt ?_;rw [hrr];exact src_ret ⟨⟨q.v,q.l++[(y1,y2)],q.r++[(y3,y4)],q.o⟩,rfl⟩ hs (o.pull [_,_])
 rw [decide_eq_false x2];refine tt ?_
 have o:=o.swap;refine wkW_done ?_;refine tt ?_;refine rd_celln o (by simp) ?_;refine tt ?_;refine sw (o.pull [_,_]) fun H o=>tt ?_;refine wkW_done ?_
 have hrr:=o.rc 4 0 (by simp);simp only [List.drop_zero] at hrr;refine tt ?_;rw [hrr];exact src_ret ⟨q,rfl⟩ hs (o.pull [_,_])
instance : Inhabited QS:=⟨⟨[],[],[],[]⟩⟩
abbrev qsP (q : QS) : AV:=.ptr q.cells
instance : One qsP:=⟨fun _=>rfl,fun _=>rfl⟩
theorem areQueries_ok (B : Nat) (c : Cat) (l : List QS) : Pur Tryz.prog B 27 [.ptr c.cells,mL qsP l] (.bool (dec (c.Is∧∀ q,q∈l→q.Ok c))):=by
 refine ⟨fun H0=>c27 (by simp) fun ⟨_,hf,_⟩=>?_⟩
 have hl:=fine_mL_le hf;simp only [maxL] at hl;unfold s27;refine tt ?_;refine (isCategory_ok B c).go fun _=>?_
 by_cases hc : c.Is
 rotate_left 1
 ·rw [dec_f hc];refine tt ?_;exact pure_ret (by rw [dec_f fun h=>hc h.1]) (.refl _)
 rw [dec_t hc];refine tt ?_;refine awp_for [0,10,11] (fun k _=>[(12,some (.int .i64 (k : Int)))]) (fun k _ H=>H=H0∧∀ i,i<k→(l.getD i default).Ok c) l.length () ⟨rfl,by simp⟩ rfl ?_
 rintro k _ H hk ⟨rfl,hall⟩;refine tt ?_;apply bk <;> intro h1
 ·have h1p:=of_decide h1
  have w1:=wsucc (k:=k) (by omega);refine tt ?_;refine ⟨h1p,(isQuery_ok B c hc _).go fun _=>?_⟩
  by_cases h2 : (l.getD k default).Ok c
  ·rw [dec_t h2];refine tw w1 ?_;exact for_next () h1p ⟨rfl,lt_succ_all hall h2⟩ rfl
  ·rw [dec_f h2];refine tt ?_;exact pure_ret (by rw [dec_f]; intro h; exact h2 (h.2 _ (mem_getD.mpr ⟨k,h1p,rfl⟩))) (.refl _)
 ·have h1p:=of_ndecide h1;refine tt ?_;exact pure_ret (by rw [dec_t ⟨hc,all_getD.mpr fun i hi=>hall i (by omega)⟩]) (.refl _)
theorem decimals_ok (B : Nat) (hB : B % 2=1) (l : List Int) (h : Sml l) : Pur Tryz.prog B 54 [iL l] (.str (decsB l)):=by
 refine ⟨fun H0=>c54p (by simp) fun _=>?_⟩;unfold s54p
 have o : Owns H0 H0 []:=.nil _
 have hl:=h.1;refine tt ?_;refine new_list AV.str o fun id H o=>tt ?_
 refine awp_for [7,8] (G:=Nat × List (List UInt8)) (fun k g=>[(3,some (.buf g.1 g.2.length)),(9,some (.int .i64 (k : Int)))])
  (fun k g H=>g.2=(l.take k).map decB∧Owns H0 H [(g.1,.cells 1 (g.2.map AV.str) 0)]) l.length (id,[]) ⟨by simp,o⟩ rfl ?_
 clear o
 rintro k ⟨id,out⟩ H hk ⟨hout,o⟩;dsimp only at hout o
 have hol : out.length=k:=by rw [hout,List.length_map,List.length_take]; omega
 refine tt ?_;apply bk <;> intro h1
 ·have h1p : k<l.length:=of_decide h1
  have w1:=wsucc (k:=k) (by omega)
  have hx:=h.2 _ (mem_getD.mpr ⟨k,h1p,rfl⟩);refine tt ?_;refine ⟨h1p,tt ?_⟩;refine (format_ok B _ hx).go fun _=>tt ?_;refine app_own (decB (l.getD k default)) o rfl rfl (by rw [hol]; simp only [maxL]; omega) fun z H o=>?_;refine tw w1 ?_;refine for_next (z,out++[decB (l.getD k default)]) h1p ⟨?_,o⟩ rfl;rw [hout,take_succ' _ h1p,List.map_append]; rfl
 have h1p:=of_ndecide h1
 obtain rfl : k=l.length:=by omega
 rw [List.take_length] at hout;subst hout;refine tt ?_;refine fz_own o rfl fun H o=>tt ?_;refine (part_ok B hB _ h.len (by rw [List.length_map]; omega)).go fun _=>tt ?_;exact pure_ret rfl o.sub
theorem textI_ok (B : Nat) (hB : B % 2=1) (q : QS) (h : QSm q) : Pur Tryz.prog B 28 [.ptr q.cells] (.str (textB q)):=by
 refine ⟨fun H0=>c28p (by simp) fun _=>?_⟩;unfold s28p
 have o : Owns H0 H0 []:=.nil _
 have hl:=h.l6
 have hr:=h.rl;refine tt ?_;refine new_list AV.str o fun id H o=>tt ?_
 refine awp_for [0,10] (G:=Nat × List (List UInt8)) (fun k g=>[(3,some (.buf g.1 g.2.length)),(11,some (.int .i64 (k : Int)))])
  (fun k g H=>g.2=condsB q k∧Owns H0 H [(g.1,.cells 1 (g.2.map AV.str) 0)]) q.l.length (id,[]) ⟨by simp [condsB],o⟩ rfl ?_
 clear o
 rintro k ⟨id,out⟩ H hk ⟨hout,o⟩;dsimp only at hout o
 have hol : out.length=k:=by rw [hout,condsB,List.length_map,List.length_range]
 refine tt ?_;apply bk <;> intro h1
 ·have h1p : k<q.l.length:=of_decide h1
  have w1:=wsucc (k:=k) (by omega)
  have hlt:=h.lt k h1p
  have hrt:=h.rt k h1p
  have n1:=termB_len hlt
  have n2:=termB_len hrt;refine tt ?_;refine ⟨prE_at h1p, ?_⟩;rw [prE_get h1p];refine tt ?_;refine ⟨_,(termI_ok B _ hlt).run,tt ?_⟩;refine ⟨by simp only [maxL,List.length_append,List.length_cons,List.length_nil]; omega, ?_⟩;refine ⟨prE_at (by omega), ?_⟩;rw [prE_get (by omega)];refine tt ?_;refine ⟨_,(termI_ok B _ hrt).run,tt ?_⟩;refine ⟨by simp only [maxL,List.length_append,List.length_cons,List.length_nil]; omega, ?_⟩;refine app_own (condB q k) o rfl rfl (by rw [hol]; simp only [maxL]; omega) fun z H o=>?_;refine tw w1 ?_;refine for_next (z,out++[condB q k]) h1p ⟨?_,o⟩ rfl;rw [hout,condsB_succ]
 have h1p:=of_ndecide h1
 obtain rfl : k=q.l.length:=by omega
 subst hout
 have n1:=decsB_len h.v
 have n2:=decsB_len h.o
 have n3:=partB_len (condsB_len h (Nat.le_refl _));rw [hol] at n3;refine tt ?_;refine fz_own o rfl fun H o=>tt ?_;refine ⟨_,(decimals_ok B hB _ h.v).run,tt ?_⟩;refine ⟨by simp only [maxL,List.length_append,List.length_cons,List.length_nil]; omega, ?_⟩;refine ⟨_,(part_ok B hB _ (condsB_len h (Nat.le_refl _)) (by rw [hol]; omega)).run,tt ?_⟩;refine ⟨by simp only [maxL,List.length_append,List.length_cons,List.length_nil]; omega,by simp only [maxL,List.length_append,List.length_cons,List.length_nil]; omega, ?_⟩;refine ⟨_,(decimals_ok B hB _ h.o).run,tt ?_⟩;refine ⟨by simp only [maxL,List.length_append,List.length_cons,List.length_nil]; omega, ?_⟩;exact pure_ret rfl o.sub
theorem l04List_ok (B : Nat) (l : List Int) (h : Sml l) : Pur Tryz.prog B 57 [iL l] (.str (decsB l)):=by
 refine ⟨fun H0=>c57 (by simp) fun _=>?_⟩;unfold s57
 have hl:=h.1;refine tt ?_;refine awp_for [0] (G:=Unit) (fun k _=>[(3,some (.str (flatB ((l.take k).map decB)))),(4,some (.int .i64 (k : Int)))]) (fun k _ H=>H=H0) l.length () rfl rfl ?_
 rintro k _ H hk rfl
 have hfl : (flatB ((l.take k).map decB)).length≤192:=by
  have:=flatB_len (ws:=(l.take k).map decB) (m:=2) fun w hw=>h.len w (by
   obtain ⟨x,hx,rfl⟩:=List.mem_map.mp hw;exact List.mem_map.mpr ⟨x,List.mem_of_mem_take hx,rfl⟩)
  rw [List.length_map,List.length_take] at this;omega
 refine tt ?_;apply bk <;> intro h1
 ·have h1p : k<l.length:=of_decide h1
  have w1:=wsucc (k:=k) (by omega)
  have hx:=h.2 _ (mem_getD.mpr ⟨k,h1p,rfl⟩)
  have n1:=decB_len hx;refine tt ?_;refine ⟨by simp only [maxL,List.length_append,List.length_cons,List.length_nil]; omega,h1p,tt ?_⟩;refine (l01Dec_ok B _ hx).go fun _=>tt ?_;refine ⟨by simp only [maxL,List.length_append,List.length_cons,List.length_nil]; omega, ?_⟩;refine tw w1 ?_;refine for_next () h1p rfl ?_;rw [take_succ' _ h1p,List.map_append,List.map_cons,List.map_nil,flatB_snoc]
 have h1p:=of_ndecide h1
 obtain rfl : k=l.length:=by omega
 rw [List.take_length] at hfl ⊢;clear h1;refine tt ?_;apply bk <;> intro h2
 ·have h2p:=of_decide h2
  have e:=flatB_nil h2p;refine tt ?_;exact pure_ret (by rw [decsB,e]; rfl) (.refl _)
 ·have h2p:=of_ndecide h2
  have e : List.map decB l≠[]:=fun e=>h2p (by rw [e]; rfl)
  have ef:=flatB_join e;refine tt ?_;refine ⟨⟨by omega,by rw [ef]; simp only [List.length_append,List.length_cons,List.length_nil]; omega⟩, ?_⟩;exact pure_ret (by rw [ef,decsB,partB,if_neg e]; rfl) (.refl _)
theorem l38Text_ok (B : Nat) (q : QS) (h : QSm q) : Pur Tryz.prog B 29 [.agg q.cells] (.str (textB q)):=by
 refine ⟨fun H0=>c29 (by simp) fun _=>?_⟩;unfold s29
 have hl:=h.l6
 have hr:=h.rl;refine tt ?_;refine awp_for [1] (G:=Unit) (fun k _=>[(3,some (.str (flatB (condsB q k)))),(4,some (.int .i64 (k : Int)))]) (fun k _ H=>H=H0) q.l.length () rfl rfl ?_
 rintro k _ H hk rfl
 have hfl : (flatB (condsB q k)).length≤72:=by
  have:=flatB_len (condsB_len h hk);rw [condsB,List.length_map,List.length_range] at this
  show (flatB ((List.range k).map (condB q))).length≤72
  omega
 refine tt ?_;apply bk <;> intro h1
 ·have h1p : k<q.l.length:=of_decide h1
  have w1:=wsucc (k:=k) (by omega)
  have hlt:=h.lt k h1p
  have hrt:=h.rt k h1p
  have n1:=decB_len hlt.1
  have n2:=decB_len hlt.2
  have n3:=decB_len hrt.1
  have n4:=decB_len hrt.2;refine tt ?_;refine ⟨by simp only [maxL,List.length_append,List.length_cons,List.length_nil]; omega, ?_⟩;refine ⟨prE_at h1p, ?_⟩;rw [prE_get h1p];refine tt ?_;refine ⟨_,(l01Dec_ok B _ hlt.1).run,tt ?_⟩;refine ⟨by simp only [maxL,List.length_append,List.length_cons,List.length_nil]; omega,by simp only [maxL,List.length_append,List.length_cons,List.length_nil]; omega, ?_⟩;refine ⟨prE_at h1p, ?_⟩;rw [prE_get h1p];refine tt ?_;refine ⟨_,(l01Dec_ok B _ hlt.2).run,tt ?_⟩;refine ⟨by simp only [maxL,List.length_append,List.length_cons,List.length_nil]; omega,by simp only [maxL,List.length_append,List.length_cons,List.length_nil]; omega, ?_⟩;refine ⟨prE_at (by omega), ?_⟩;rw [prE_get (by omega)];refine tt ?_;refine ⟨_,(l01Dec_ok B _ hrt.1).run,tt ?_⟩;refine ⟨by simp only [maxL,List.length_append,List.length_cons,List.length_nil]; omega,by simp only [maxL,List.length_append,List.length_cons,List.length_nil]; omega, ?_⟩;refine ⟨prE_at (by omega), ?_⟩;rw [prE_get (by omega)];refine tt ?_;refine ⟨_,(l01Dec_ok B _ hrt.2).run,tt ?_⟩;refine ⟨by simp only [maxL,List.length_append,List.length_cons,List.length_nil]; omega, ?_⟩;refine tw w1 ?_;refine for_next () h1p rfl ?_;rw [condsB_succ,flatB_snoc]
  simp [condB,termB]
 have h1p:=of_ndecide h1
 obtain rfl : k=q.l.length:=by omega
 clear h1
 have ep:=partB_flat (condsB q q.l.length)
 have n1:=decsB_len h.v
 have n2:=decsB_len h.o;refine tt ?_;apply bk <;> intro h2
 ·have h2p:=of_decide h2;rw [if_pos h2p] at ep;refine tt ?_;refine ⟨_,(l04List_ok B _ h.v).run,tt ?_⟩;refine ⟨by simp only [maxL,List.length_append,List.length_cons,List.length_nil]; omega,by simp only [maxL,List.length_append,List.length_cons,List.length_nil]; omega,by simp only [maxL,List.length_append,List.length_cons,List.length_nil]; omega, ?_⟩;refine ⟨_,(l04List_ok B _ h.o).run,tt ?_⟩;refine ⟨by simp only [maxL,List.length_append,List.length_cons,List.length_nil]; omega, ?_⟩;refine pure_ret ?_ (.refl _)
  have e2 : ∀ X : List UInt8,decsB q.v++([32,124]++([32]++(partB (condsB q q.l.length)++X)))=decsB q.v++([32,124,32]++(partB (condsB q q.l.length)++X)):=fun _=>rfl
  have e3 : textB q=decsB q.v++[32,124]++([32]++partB (condsB q q.l.length))++[32,124,32]++decsB q.o:=by simp [textB]
  rw [e3,ep]
 ·have h2p:=of_ndecide h2;rw [if_neg h2p] at ep;refine tt ?_;refine ⟨_,(l04List_ok B _ h.v).run,tt ?_⟩;refine ⟨by simp only [maxL,List.length_append,List.length_cons,List.length_nil]; omega,by simp only [maxL,List.length_append,List.length_cons,List.length_nil]; omega,by simp only [maxL,List.length_append,List.length_cons,List.length_nil]; omega, ?_⟩;refine ⟨_,(l04List_ok B _ h.o).run,tt ?_⟩;refine ⟨by simp only [maxL,List.length_append,List.length_cons,List.length_nil]; omega, ?_⟩;refine pure_ret ?_ (.refl _)
  have e2 : ∀ X : List UInt8,decsB q.v++([32,124]++([32]++(partB (condsB q q.l.length)++X)))=decsB q.v++([32,124,32]++(partB (condsB q q.l.length)++X)):=fun _=>rfl
  have e3 : textB q=decsB q.v++[32,124]++([32]++partB (condsB q q.l.length))++[32,124,32]++decsB q.o:=by simp [textB]
  rw [e3,ep]
theorem l02Hom_ok (B : Nat) (c : Cat) (s : c.Shape) (x y : Int) : Pur Tryz.prog B 156 [.agg c.cells,iI x,iI y] (iL (homC c x y)):=by
 refine ⟨fun H0=>c156 (by simp) fun _=>?_⟩;unfold s156
 have o : Owns H0 H0 []:=.nil _
 have hm:=s.m
 have htl:=s.tol;refine tt ?_;refine new_list iI o fun id H o=>tt ?_
 refine awp_for [1,2,3] (G:=Nat × List Int) (fun k g=>[(7,some (.buf g.1 g.2.length)),(8,some (.int .i64 (k : Int)))])
  (fun k g H=>g.2=homK c x y k∧Owns H0 H [(g.1,.cells 1 (g.2.map iI) 0)]) c.frm.length (id,[]) ⟨rfl,o⟩ rfl ?_
 clear o
 rintro k ⟨id,out⟩ H hk ⟨hout,o⟩;dsimp only at hout o
 have houl : out.length≤k:=by rw [hout]; exact homK_len _ _ _
 refine tt ?_;apply bk <;> intro h1
 ·have h1p : k<c.frm.length:=of_decide h1
  have w1:=wsucc (k:=k) (by omega);refine tt ?_;refine ⟨h1p, ?_⟩
  by_cases e1 : c.frm.getD k default=x
  ·rw [decide_eq_true e1];refine tt ?_;refine ⟨by omega, ?_⟩
   by_cases e2 : c.to.getD k default=y
   ·rw [decide_eq_true e2];refine tt ?_;refine app_own (k : Int) o rfl rfl (by simp only [maxL]; omega) fun z H o=>?_;refine tw w1 ?_;exact for_next (z,out++[(k : Int)]) h1p ⟨by rw [hout,homK_t e1 e2],o⟩ rfl
   ·rw [decide_eq_false e2];refine tw w1 ?_;exact for_next (id,out) h1p ⟨by rw [hout,homK_f fun h=>e2 h.2],o⟩ rfl
  ·rw [decide_eq_false e1];refine tw w1 ?_;exact for_next (id,out) h1p ⟨by rw [hout,homK_f fun h=>e1 h.1],o⟩ rfl
 ·have h1p:=of_ndecide h1
  have ek : k=c.frm.length:=by omega
  rw [ek,homK_full] at hout;refine tt ?_;refine fz_own o rfl fun H o=>tt ?_;exact pure_ret (by rw [hout]) o.sub
theorem l02Unit_ok (B : Nat) (c : Cat) (hs : c.Shape) (f : Int) (hf : 0≤f∧f.toNat<c.frm.length) : Pur Tryz.prog B 130 [.agg c.cells,iI f] (.bool (decide (ix c.idn (ix c.frm f)=f))):=by
 refine ⟨fun H0=>c130p (by simp) fun _=>?_⟩;unfold s130p
 have hx:=hs.frmObj hf.2
 have hil:=hs.il;refine tt ?_;exact ⟨hf,⟨hx.1,by omega⟩,pure_ret rfl (.refl _)⟩
def AnyL (r : AV) : Prop:=∃ l : List Int,r=iL l
def AnyB (r : AV) : Prop:=∃ b : Bool,r=.bool b
theorem l06Moving_ok (B : Nat) (c : Cat) (hc : c.Shape) : Rets B 105 [.agg c.cells] AnyL:=by
 intro H0;refine c105 (by simp) fun _=>?_
 have sm:=hc.m;unfold s105
 have o : Owns H0 H0 []:=.nil _;refine tt ?_;refine new_list iI o fun id H o=>tt ?_;refine awp_for [1] (G:=Nat × List Int) (fun k g=>[(3,some (.buf g.1 g.2.length)),(4,some (.int .i64 (k : Int)))]) (fun k g H=>g.2.length≤k∧Owns H0 H [(g.1,.cells 1 (g.2.map iI) 0)]) c.frm.length (id,[]) ⟨by simp,o⟩ rfl ?_;clear o
 rintro k ⟨id,out⟩ H hk ⟨hl,o⟩;dsimp only at hl o;refine tt ?_;apply bk <;> intro h1
 ·have h1p:=of_decide h1
  have w:=wsucc (k:=k) (by omega);refine tt ?_;refine (l02Unit_ok B c hc k ⟨by omega,by show (k : Int).toNat<_; omega⟩).go fun _=>tt ?_;apply bk <;> intro h2
  ·refine tt ?_;refine app_own (k : Int) o rfl rfl (by simp only [maxL]; omega) fun id H o=>?_;refine tw w ?_;exact for_next (_,_) h1p ⟨by simp; omega,o⟩ rfl
  ·refine tw w ?_;exact for_next (_,_) h1p ⟨by simp only; omega,o⟩ rfl
 ·refine tt ?_;refine fz_own o rfl fun H o=>tt ?_;exact rets_ret ⟨out,rfl⟩ o.sub
theorem l06Small_ok (B : Nat) (c d : Cat) (hc : c.Shape) : Rets B 68 [.agg c.cells,.agg d.cells] AnyB:=by
 intro H0;refine c68 (by simp) fun _=>?_;unfold s68;refine tt ?_;refine (l06Moving_ok B c hc).go fun r _ ⟨l,e⟩=>?_;subst e;refine tt ?_
 cases h : decide ((l.length : Int)≤8)
 ·refine tt ?_;exact rets_ret ⟨_,rfl⟩ (.refl _)
 ·refine tt ?_;exact rets_ret ⟨_,rfl⟩ (.refl _)
theorem l06Rooms_ok (B : Nat) (c d : Cat) (hc : c.Shape) (hd : d.Shape) (ob : List Int) : Rets B 131 [.agg c.cells,.agg d.cells,iL ob] AnyB:=by
 intro H0;refine c131 (by simp) fun _=>?_
 have sm:=hc.m
 have tl:=hc.tol;unfold s131;refine tt ?_;refine awp_for [2,3,4] (G:=Unit) (fun k _=>[(7,some (.int .i64 (k : Int)))]) (fun k _ H'=>H'=H0) c.frm.length () rfl rfl ?_
 rintro k _ H hk rfl;refine tt ?_;apply bk <;> intro h1
 ·have h1p:=of_decide h1
  have w:=wsucc (k:=k) (by omega)
  have f0:=(hc.frmObj (f:=(k : Int)) h1p).1
  have t0:=(hc.toObj (f:=(k : Int)) h1p).1
  have f0 : 0≤c.frm.getD k default:=f0
  have t0 : 0≤c.to.getD k default:=t0;refine tt ?_
  (repeat (refine ⟨by first | exact h1p | exact (by omega : k<c.to.length), ?_⟩))
  refine tt ?_
  by_cases g1 : c.frm.getD k default<(ob.length : Int)
  ·rw [decide_eq_true g1];refine tt ?_
   by_cases g2 : c.to.getD k default<(ob.length : Int)
   ·rw [decide_eq_true g2];refine tt ?_;refine ⟨⟨f0,by omega⟩,⟨t0,by omega⟩, ?_⟩;refine ⟨_,(l02Hom_ok B d hd _ _).run,tt ?_⟩;apply bk <;> intro g3
    ·refine tt ?_;exact rets_ret ⟨_,rfl⟩ (.refl _)
    ·refine tw w ?_;exact for_next () h1p rfl rfl
   ·rw [decide_eq_false g2];refine tw w ?_;exact for_next () h1p rfl rfl
  ·rw [decide_eq_false g1];refine tw w ?_;exact for_next () h1p rfl rfl
 ·refine tt ?_;exact rets_ret ⟨_,rfl⟩ (.refl _)
instance : Inhabited Cat:=⟨⟨0,[],[],[],[]⟩⟩
abbrev cpP (c : Cat) : AV:=.ptr c.cells
instance : One cpP:=⟨fun _=>rfl,fun _=>rfl⟩
theorem areCats_ok (B : Nat) (l : List Cat) : Pur Tryz.prog B 44 [mL cpP l] (.bool (dec (∀ c,c∈l→c.Is))):=by
 refine ⟨fun H0=>c44 (by simp) fun ⟨hf,_⟩=>?_⟩
 have hl:=fine_mL_le hf;simp only [maxL] at hl;unfold s44;refine tt ?_;refine awp_for [5,6] (fun k _=>[(7,some (.int .i64 (k : Int)))]) (fun k _ H=>H=H0∧∀ i,i<k→(l.getD i default).Is) l.length () ⟨rfl,by simp⟩ rfl ?_
 rintro k _ H hk ⟨rfl,hall⟩;refine tt ?_;apply bk <;> intro h1
 ·have h1p:=dd h1
  have w1:=wsucc (k:=k) (by omega);refine tt ?_;refine ⟨h1p, ?_⟩;refine (isCategory_ok ..).go fun _=>tt ?_;apply bk <;> intro h2
  ·have h2p:=dd h2;refine tt ?_;refine pure_ret ?_ (.refl _);rw [dec_f]; intro h;exact h2p (h _ (mem_getD.mpr ⟨k,h1p,rfl⟩))
  ·have h2p:=dd h2;refine tw w1 ?_
   exact for_next () h1p ⟨rfl,fun i hi=>by
    by_cases e : i=k
    ·subst e; exact h2p
    ·exact hall i (by omega)⟩ rfl
 ·have h1p:=dd h1;refine tt ?_;refine pure_ret ?_ (.refl _);rw [dec_t]; intro c hc
  obtain ⟨i,hi,rfl⟩:=mem_getD.mp hc;exact hall i (by omega)
end Go.Proofs.Shf
namespace Go.Shf
open Go.AW
section
variable {p : PF} {a b x y : Int}
theorem Cat.Shape.toI {c : Cat} (h : c.Shape) (ha : c.ArR a) : 0≤a∧a.toNat<c.to.length:=by
 have:=h.tol
 obtain ⟨h1,h2⟩:=ha;omega
theorem Cat.Shape.idI {c : Cat} (h : c.Shape) (hx : c.ObR x) : 0≤x∧x.toNat<c.idn.length:=by
 have:=h.il
 obtain ⟨h1,h2⟩:=hx;omega
theorem Cat.Shape.frO {c : Cat} (h : c.Shape) (ha : c.ArR a) : c.ObR (ix c.frm a):=h.frmObj ha.2
theorem Cat.Shape.toO {c : Cat} (h : c.Shape) (ha : c.ArR a) : c.ObR (ix c.to a):=h.toObj ha.2
end
end Go.Shf
namespace Go.Proofs.Shf
open Go.AW Go.Proofs Go.Shf
end Go.Proofs.Shf
namespace Go.Shf
open Go.AW
section
variable {c : Cat} {a b : Int}
theorem Cat.Shape.comps (h : c.Shape) (ha : c.ArR a) (hb : c.ArR b) : (ix c.to a=ix c.frm b∧c.ArR (ix (ix c.comp a) b))∨ix (ix c.comp a) b=-1:=by
 by_cases e : ix c.to a=ix c.frm b
 ·left
  have q:=h.yes a.toNat b.toNat ha.2 hb.2 e
  have q : (0≤ix (ix c.comp a) b∧ix (ix c.comp a) b<c.frm.length)∧_:=q;exact ⟨e,q.1.1,by have:=q.1; omega⟩
 ·right
  exact h.non a.toNat b.toNat ha.2 hb.2 e
theorem Cat.Shape.coI (h : c.Shape) (ha : c.ArR a) : 0≤a∧a.toNat<c.comp.length:=by
 have:=h.cl
 obtain ⟨h1,h2⟩:=ha;omega
theorem Cat.Shape.coJ (h : c.Shape) (ha : c.ArR a) : (ix c.comp a).length=c.frm.length:=h.row a.toNat ha.2
theorem Cat.Shape.idA (h : c.Shape) {x : Int} (hx : c.ObR x) : c.ArR (ix c.idn x)∧ix c.frm (ix c.idn x)=x∧ix c.to (ix c.idn x)=x:=h.idArr hx
end
end Go.Shf
namespace Go.Proofs.Shf
open Go.AW Go.Proofs Go.Shf
def ForceK (c d : Cat) (ob : List Int) (H0 : Heap) (id : Nat) (l : Ob) : Kont:=fun r H'=>∃ (b : Bool) (ar : List Int),r=.bool b∧TyA c d ob ar∧Owns H0 H' ((id,.cells 1 (ar.map iI) 0)::l)
theorem l06Force_ok (B : Nat) {c d : Cat} (hc : c.Shape) (hd : d.Shape) {ob ar : List Int} (t : TyA c d ob ar) (id : Nat) (l : Ob) (H0 H : Heap) (o : Owns H0 H ((id,.cells 1 (ar.map iI) 0)::l)) :
  CallH Tryz.prog B 157 [.agg c.cells,.agg d.cells,.buf id c.frm.length] H (ForceK c d ob H0 id l):=by
 refine c157 (by simp) fun _=>?_
 have sm:=hc.m;unfold s157;refine tt ?_
 refine awp_while [2,3,4] (G:=Bool × List Int) (fun g=>[(7,some (.bool g.1))]) (fun m g H=>(m=ngs g.2+(if g.1=true then 1 else 0)∧TyA c d ob g.2)∧Owns H0 H ((id,.cells 1 (g.2.map iI) 0)::l))
  (ngs ar+1) (true,ar) ⟨⟨by simp,t⟩,o⟩ rfl ?_
 clear o t ar
 rintro m ⟨more,ar⟩ H ⟨⟨hm,t⟩,o⟩;dsimp only at hm t o
 cases more
 ·refine tt ?_;exact ⟨H,.refl _,true,ar,rfl,t,o⟩
 rw [if_pos rfl] at hm;refine tt ?_
 obtain ⟨n0,hn0⟩ : ∃ n0,ngs ar=n0:=⟨_,rfl⟩;rw [hn0] at hm
 refine awp_for [2,3,4] (G:=Bool × List Int) (fun a g=>[(7,some (.bool g.1)),(8,some (.int .i64 (a : Int)))])
  (fun a g H=>(ngs g.2+(if g.1=true then 1 else 0)≤n0∧TyA c d ob g.2)∧Owns H0 H ((id,.cells 1 (g.2.map iI) 0)::l)) c.frm.length (false,ar) ⟨⟨by simp [hn0],t⟩,o⟩ rfl ?_
 clear o t hn0 ar
 rintro a ⟨more,ar⟩ H ha ⟨⟨hm1,t⟩,o⟩;dsimp only at hm1 t o;refine tt ?_;apply bk <;> intro h1
 rotate_left
 ·refine tt ?_;exact while_next (ngs ar+(if more=true then 1 else 0)) (more,ar) (by omega) ⟨⟨rfl,t⟩,o⟩ rfl
 have h1p:=of_decide h1
 have w1:=wsucc (k:=a) (by omega)
 have hao : c.ArR a:=⟨by omega,h1p⟩
 have ci:=(hc.coI hao).2
 have cj : (c.comp.getD a default).length=c.frm.length:=hc.coJ hao;refine tt ?_
 refine awp_for [2,3,4,8] (G:=Bool × List Int) (fun b g=>[(7,some (.bool g.1)),(9,some (.int .i64 (b : Int)))])
  (fun b g H=>(ngs g.2+(if g.1=true then 1 else 0)≤n0∧TyA c d ob g.2)∧Owns H0 H ((id,.cells 1 (g.2.map iI) 0)::l)) c.frm.length (more,ar) ⟨⟨hm1,t⟩,o⟩ rfl ?_
 clear o t hm1
 rintro b ⟨more,ar⟩ H hb ⟨⟨hm1,t⟩,o⟩;dsimp only at hm1 t o
 have hl:=t.len;refine tt ?_;apply bk <;> intro h2
 rotate_left
 ·refine tw w1 ?_;exact for_next (more,ar) h1p ⟨⟨hm1,t⟩,o⟩ rfl
 have h2p:=of_decide h2
 have w2:=wsucc (k:=b) (by omega)
 have hbo : c.ArR b:=⟨by omega,h2p⟩
 have cj2 : b<(c.comp.getD a default).length:=by rw [cj]; exact h2p
 refine tt ?_;refine ⟨ci,cj2, ?_⟩
 rcases hc.comps hao hbo with ⟨hab,hho⟩ | hneg
 rotate_left
 ·have hlt : (c.comp.getD a default).getD b default<0:=by
   have e : (c.comp.getD a default).getD b default=-1:=hneg;omega
  rw [decide_eq_true hlt];refine tw w2 ?_;exact for_next (more,ar) h2p ⟨⟨hm1,t⟩,o⟩ rfl
 obtain ⟨h,hh⟩ : ∃ h : Int,(c.comp.getD a default).getD b default=h:=⟨_,rfl⟩
 have hho : c.ArR ((c.comp.getD a default).getD b default):=hho
 have hix : ix (ix c.comp a) b=h:=hh;rw [hh] at hho ⊢;rw [decide_eq_false (show ¬ h<0 by have:=hho.1; omega)];refine tt ?_;refine ⟨h1p,rd_own o (by omega) ?_⟩;refine tt ?_
 by_cases na : ar.getD a default<0
 ·rw [decide_eq_true na];refine tw w2 ?_;exact for_next (more,ar) h2p ⟨⟨hm1,t⟩,o⟩ rfl
 rw [decide_eq_false na];refine tt ?_;refine ⟨h2p,rd_own o (by omega) ?_⟩;refine tt ?_
 by_cases nb : ar.getD b default<0
 ·rw [decide_eq_true nb];refine tw w2 ?_;exact for_next (more,ar) h2p ⟨⟨hm1,t⟩,o⟩ rfl
 rw [decide_eq_false nb]
 have ta : TyE c d ob a (ar.getD a default):=(t.ty a hao).resolve_left na
 have tb : TyE c d ob b (ar.getD b default):=(t.ty b hbo).resolve_left nb
 have ti:=ta.comp hc hd hao hbo hab tb;rw [hix] at ti
 have di:=hd.coI ta.1
 have dj : (ix d.comp (ar.getD a default)).length=d.frm.length:=hd.coJ ta.1
 have dj2 : (ar.getD b default).toNat<(ix d.comp (ar.getD a default)).length:=by rw [dj]; exact tb.1.2
 have tb0:=tb.1.1;refine tt ?_;refine ⟨h1p,rd_own o (by omega) ?_⟩;refine tt ?_;refine ⟨di, ?_⟩;refine ⟨h2p,rd_own o (by omega) ?_⟩;refine tt ?_;refine ⟨⟨tb0,dj2⟩, ?_⟩
 obtain ⟨v,hv⟩ : ∃ v : Int,ix (ix d.comp (ar.getD a default)) (ar.getD b default)=v:=⟨_,rfl⟩;rw [hv] at ti ⊢
 have hh0:=hho.1
 have hh1 : h.toNat<ar.length:=by rw [hl]; exact hho.2
 have hh2 : h.toNat<c.frm.length:=hho.2
 have v0:=ti.1.1;refine tt ?_;refine ⟨⟨hh0,hh2⟩,rd_own o hh1 ?_⟩;refine tt ?_
 by_cases g : 0≤ar.getD h.toNat default
 ·rw [decide_eq_true g];refine tt ?_;refine ⟨⟨hh0,hh2⟩,rd_own o hh1 ?_⟩;refine tt ?_;apply bk <;> intro h3
  ·refine tt ?_;exact ⟨H,.refl _,false,ar,rfl,t,o⟩
  have h3p : ar.getD h.toNat default=v:=by simpa using h3
  have hs : ar.set h.toNat v=ar:=by
   rw [← h3p];refine List.ext_getElem (by simp) fun i q1 q2=>?_
   by_cases e : h.toNat=i
   ·subst e; simp [List.getD_eq_getElem?_getD,q2]
   ·simp [List.getElem_set,e]
  cases more
  ·refine tt ?_;refine ⟨⟨hh0,hh2⟩,rd_own o hh1 ?_⟩;refine tt ?_;rw [decide_eq_false (show ¬ ar.getD h.toNat default<0 by omega)];refine tt ?_;refine ⟨⟨hh0,hh2⟩,set_own v o rfl hh1 fun H o=>?_⟩;rw [hs] at o;refine tw w2 ?_;exact for_next (false,ar) h2p ⟨⟨hm1,t⟩,o⟩ rfl
  ·refine tt ?_;refine ⟨⟨hh0,hh2⟩,set_own v o rfl hh1 fun H o=>?_⟩;rw [hs] at o;refine tw w2 ?_;exact for_next (true,ar) h2p ⟨⟨hm1,t⟩,o⟩ rfl
 ·rw [decide_eq_false g]
  have hn:=ngs_set (v:=v) hh1 (by omega) v0
  have t2:=t.set hho ti
  cases more
  ·rw [if_neg (by simp)] at hm1;refine tt ?_;refine ⟨⟨hh0,hh2⟩,rd_own o hh1 ?_⟩;refine tt ?_;rw [decide_eq_true (show ar.getD h.toNat default<0 by omega)];refine tt ?_;refine ⟨⟨hh0,hh2⟩,set_own v o rfl hh1 fun H o=>?_⟩;refine tw w2 ?_;exact for_next (true,ar.set h.toNat v) h2p ⟨⟨by simp only [if_true]; omega,t2⟩,o⟩ rfl
  ·rw [if_pos rfl] at hm1;refine tt ?_;refine ⟨⟨hh0,hh2⟩,set_own v o rfl hh1 fun H o=>?_⟩;refine tw w2 ?_;exact for_next (true,ar.set h.toNat v) h2p ⟨⟨by simp only [if_true]; omega,t2⟩,o⟩ rfl
end Go.Proofs.Shf
