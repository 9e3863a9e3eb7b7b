/- Contracts, part 4. -/
import Derived.Test.YthflgdphhajkbaaGreatF3
set_option linter.unusedVariables false
set_option linter.unusedSimpArgs false
set_option linter.unusedSectionVars false
open Nat (reduceEqDiff reduceAdd reduceMul reduceLeDiff reduceLT)
namespace Go.Shf
open Go.AW
structure Gr (n : Nat) (F T : List Int) : Prop where
 n3 : n≤3
 l3 : F.length≤3
 tl : T.length=F.length
 up : ∀ e,e<F.length→0≤F.getD e default∧F.getD e default<T.getD e default∧T.getD e default<n
def pW3 (v : Int) : Nat:=if v=0 then 13 else if v=1 then 4 else 1
def pU3 (v : Int) : Nat:=if v=0 then 4 else if v=1 then 1 else 0
theorem pW3_pos (v : Int) : 1≤pW3 v:=by unfold pW3; split <;> (try split) <;> omega
theorem pW3_U (v : Int) : 1+3*pU3 v≤pW3 v:=by unfold pW3 pU3; split <;> (try split) <;> omega
theorem pW3_lt {v t : Int} (h0 : 0≤v) (h1 : v<t) (h2 : t<3) : pW3 t≤pU3 v:=by
 unfold pW3 pU3
 by_cases e0 : v=0
 ·rw [if_pos e0]; split <;> (try split) <;> omega
 ·by_cases e1 : v=1
  ·rw [if_neg e0,if_pos e1,if_neg (by omega),if_neg (by omega)]; omega
  ·omega
def wsum (P : List Pt) : Nat:=(P.map fun p=>pW3 p.to).sum
theorem wsum_app (P Q : List Pt) : wsum (P++Q)=wsum P+wsum Q:=by simp [wsum]
theorem wsum_len : ∀ (P : List Pt),P.length≤wsum P
 | []=>by simp [wsum]
 | p::P=>by
  have:=wsum_len P
  have:=pW3_pos p.to;simp only [wsum,List.map_cons,List.sum_cons,List.length_cons] at *;omega
def _root_.Go.AW.Pt.Ok (n : Nat) (p : Pt) : Prop:=(0≤p.frm∧p.frm<n)∧0≤p.to∧p.to<n
def PtQ (n : Nat) (r : AV) : Prop:=∃ P : List Pt,r=mL ptE P∧P.length≤18∧∀ p,p∈P→p.Ok n∧p.edges.length≤18
def PsOk (n : Nat) (P : List Pt) : Prop:=∀ p,p∈P→p.Ok n∧p.edges.length≤P.length
theorem PsOk.snoc {n : Nat} {P : List Pt} (h : PsOk n P) {p : Pt} (hp : p.Ok n) (hl : p.edges.length≤P.length+1) : PsOk n (P++[p]):=fun q hq=>by
 rw [List.length_append,List.length_singleton]
 rcases List.mem_append.mp hq with h1 | h1
 ·exact ⟨(h q h1).1,by have:=(h q h1).2; omega⟩
 ·rw [List.mem_singleton] at h1; subst h1; exact ⟨hp,hl⟩
theorem PsOk.set {n : Nat} {P : List Pt} (h : PsOk n P) {x y : Nat} (hy : y<P.length) : PsOk n (P.set x (P.getD y default)):=fun q hq=>by
 rw [List.length_set]
 rcases List.mem_or_eq_of_mem_set hq with h1 | h1
 ·exact h q h1
 ·subst h1; exact h _ (mem_getD.mpr ⟨y,hy,rfl⟩)
theorem PsOk.set' {n : Nat} {P Q : List Pt} (h : PsOk n P) (hq : PsOk n Q) (hl : P.length=Q.length) {x y : Nat} (hy : y<P.length) : PsOk n (Q.set x (P.getD y default)):=fun q hm=>by
 rw [List.length_set]
 rcases List.mem_or_eq_of_mem_set hm with h1 | h1
 ·exact hq q h1
 ·subst h1; rw [← hl]; exact h _ (mem_getD.mpr ⟨y,hy,rfl⟩)
theorem flat_snoc (P : List Pt) (a b : Int) (E : List Int) : flat (P.map ptE)++[iI a,iI b,iL E]=flat ((P++[(⟨a,b,E⟩ : Pt)]).map ptE):=by
 rw [List.map_append,flat_app]; rfl
end Go.Shf
namespace Go.Proofs.Shf
open Go.AW Go.Proofs Go.Shf
theorem l03All_ok (B n : Nat) (F T : List Int) (g : Gr n F T) : Rets B 302 [iI n,iL F,iL T] (PtQ n):=by
 intro H0;refine c302p.go fun _=>?_
 obtain ⟨gn,gl,gt,gu⟩:=g;refine tt ?_;refine newBuf_own (.nil _) fun idL H o=>tt ?_
 refine awp_for [0,1,2] (G:=Nat × List Pt) (fun k g=>[(7,some (.buf g.1 g.2.length)),(8,some (.int .i64 (k : Int)))])
  (fun k g H=>g.2.length=k∧PsOk n g.2∧wsum g.2≤(if k=0 then 0 else if k=1 then 13 else if k=2 then 17 else 18)∧Owns H0 H [(g.1,MObj.cells 3 (flat (g.2.map ptE)) 0)]) n (idL,[]) ⟨rfl,fun p hp=>by simp at hp,by simp [wsum],o⟩ rfl ?_
 clear o
 rintro k ⟨idL,P⟩ H hk ⟨hP,hok,hw,o⟩;dsimp only at hP hok hw o;refine tt ?_;refine ⟨fun h1=>At.mk ?_,fun h1=>At.mk ?_⟩
 ·have h1p:=of_decide h1
  have w:=wsucc (k:=k) (by omega);refine tt ?_;refine app_ownN (f:=ptE) (n:=3) ⟨(k : Int),(k : Int),[]⟩ o rfl rfl (by simp only [maxL]; omega) fun idL H o=>?_;refine tw w ?_;refine for_next (idL,P++[⟨(k : Int),(k : Int),[]⟩]) h1p ⟨by simp [hP], ?_, ?_,o⟩ rfl
  ·exact hok.snoc ⟨⟨by show (0 : Int)≤(k : Int); omega,by show (k : Int)<n; omega⟩,by show (0 : Int)≤(k : Int); omega,by show (k : Int)<n; omega⟩ (Nat.zero_le _)
  ·show wsum (P++[⟨(k : Int),(k : Int),[]⟩])≤_
   rw [wsum_app]
   have e : wsum [(⟨(k : Int),(k : Int),[]⟩ : Pt)]=pW3 k:=by simp [wsum]
   rw [e]
   have : k=0∨k=1∨k=2:=by omega
   rcases this with rfl | rfl | rfl
   ·simp [pW3] at hw ⊢; omega
   ·simp [pW3] at hw ⊢; omega
   ·simp [pW3] at hw ⊢; omega
 ·have h1p:=of_ndecide h1
  obtain rfl : k=n:=by omega
  have hw18 : wsum P≤18:=by
   refine Nat.le_trans hw ?_
   split <;> (try split) <;> (try split) <;> omega
  clear hw h1 h1p hk;refine tt ?_
  refine awp_for [1,2] (G:=Nat × List Pt) (fun k g=>[(7,some (.buf g.1 g.2.length)),(9,some (.int .i64 (k : Int)))])
   (fun j g H=>PsOk k g.2∧j≤g.2.length∧wsum (g.2.drop j)+j≤18∧Owns H0 H [(g.1,MObj.cells 3 (flat (g.2.map ptE)) 0)]) 18 (idL,P) ⟨hok,by simp,by simpa using hw18,o⟩ rfl ?_
  clear o hok hw18 hP
  rintro j ⟨idL,P⟩ H hj ⟨hok,hjl,hw,o⟩;dsimp only at hok hjl hw o
  have hlen : P.length≤18:=by
   have:=wsum_len (P.drop j);rw [List.length_drop] at this; omega
  refine tt ?_;refine ⟨fun h1=>At.mk ?_,fun h1=>At.mk ?_⟩
  case' refine_1 =>
   have h1p:=of_decide h1
   have h2p : decide ((P.length : Int)≤40)=true:=decide_eq_true (by omega);try simp only [go_sem,↓reduceIte,reduceEqDiff,reduceAdd,reduceMul,reduceLeDiff,reduceLT,h1,h2p]
   obtain ⟨pk,hpk⟩ : ∃ pk,P.getD j default=pk:=⟨_,rfl⟩
   have hw1 : wsum (P.drop (j+1))+(j+1)+F.length*pU3 pk.to≤18:=by
    have e1 : P.drop j=[pk]++P.drop (j+1):=by
     rw [List.drop_eq_getElem_cons (by omega),← hpk]
     simp [List.getD_eq_getElem?_getD,show j<P.length by omega]
    rw [e1,wsum_app] at hw
    have e2 : wsum [pk]=pW3 pk.to:=by simp [wsum]
    have e3:=pW3_U pk.to
    have e4 : F.length*pU3 pk.to≤3*pU3 pk.to:=Nat.mul_le_mul_right _ gl;omega
   have hjl1 : j<P.length:=by omega
   refine awp_for [1,2,9] (G:=Nat × List Pt) (fun k g=>[(7,some (.buf g.1 g.2.length)),(10,some (.int .i64 (k : Int)))])
    (fun e g H=>PsOk k g.2∧j<g.2.length∧g.2.getD j default=pk∧wsum (g.2.drop (j+1))+(j+1)+(F.length - e)*pU3 pk.to≤18∧Owns H0 H [(g.1,MObj.cells 3 (flat (g.2.map ptE)) 0)]) F.length (idL,P) ⟨hok,hjl1,hpk,hw1,o⟩ rfl ?_
   clear o hok hjl hw hlen hpk hw1 hjl1 h1 h2p h1p
   rintro e ⟨idL,P⟩ H he ⟨hok,hjl,hpk,hw,o⟩;dsimp only at hok hjl hpk hw o
   have hlen : P.length≤18:=by
    have:=wsum_len (P.drop (j+1));rw [List.length_drop] at this; omega
   refine tt ?_;refine ⟨fun h2=>At.mk ?_,fun h2=>At.mk ?_⟩
   ·have h2p:=of_decide h2
    have gue:=gu e h2p
    have we:=wsucc (k:=e) (by omega)
    have hsub : (F.length - e)*pU3 pk.to=(F.length - (e+1))*pU3 pk.to+pU3 pk.to:=by
     rw [show F.length - e=(F.length - (e+1))+1 by omega,Nat.succ_mul]
    refine tt ?_;refine ⟨by omega,by omega,rd_elN (f:=ptE) (n:=3) o hjl (by omega) ?_⟩;rw [hpk];refine tt ?_;refine ⟨fun h3=>At.mk ?_,fun h3=>At.mk ?_⟩
    ·have h3p:=of_decide h3;refine tt ?_
     have hpo:=hok pk (by rw [← hpk]; exact mem_getD.mpr ⟨j,hjl,rfl⟩)
     have hpo2:=hpo.2;refine ⟨hjl,⟨_,_,o.h0⟩,rd_elN (f:=ptE) (n:=3) o hjl (by omega) ?_⟩;rw [hpk];refine tt ?_;refine ⟨by omega,hjl,⟨_,_,o.h0⟩,rd_elN (f:=ptE) (n:=3) o hjl (by omega) ?_⟩;rw [hpk];refine tt ?_;refine New.go' (l01Own_new B pk.edges) o fun X1 p1 H ⟨ide,e1,e2⟩ o hs=>⟨hs, ?_⟩;subst e1 e2;refine tt ?_;refine app_own' _ o rfl rfl (by simp only [maxL]; omega) fun ide H E _ hE o=>tt ?_;refine app_rawN (f:=ptE) (n:=3) o.swap rfl rfl (by first | (simp only [go_sem]; done) | ((try simp only [go_sem]); simp [AV.one,one_mL])) (by simp only [maxL]; omega) fun idL H o=>tt ?_;refine wk_cell (f:=iI) ((flat (P.map ptE)).length+2) o (by rw [List.getElem?_append_right (by omega)]; simp) rfl fun H o=>wkW_done ?_;rw [List.set_append_right _ _ (by omega),show (flat (P.map ptE)).length+2 - (flat (P.map ptE)).length=2 by omega] at o;simp only [List.set_cons_zero,List.set_cons_succ] at o
     have o : Owns H0 H [(idL,MObj.cells 3 (flat ((P++[(⟨pk.frm,T.getD e default,E⟩ : Pt)]).map ptE)) 0)]:=by rw [← flat_snoc]; exact o
     refine tw we ?_
     have hlt:=pW3_lt gue.1 gue.2.1 (by omega);rw [h3p] at hlt;refine for_next (idL,P++[(⟨pk.frm,T.getD e default,E⟩ : Pt)]) h2p ⟨?_,by simp; omega, ?_, ?_,o⟩ (by simp)
     ·exact hok.snoc ⟨hpo.1.1,by show 0≤T.getD e default; omega,by show T.getD e default<k; omega⟩ (by show E.length≤_; omega)
     ·show (P++[_]).getD j default=pk
      rw [List.getD_eq_getElem?_getD,List.getElem?_append_left hjl,← List.getD_eq_getElem?_getD]; exact hpk
     ·show wsum ((P++[_]).drop (j+1))+(j+1)+(F.length - (e+1))*pU3 pk.to≤18
      rw [List.drop_append_of_le_length (by omega),wsum_app]
      have e2 : wsum [(⟨pk.frm,T.getD e default,E⟩ : Pt)]=pW3 (T.getD e default):=by simp [wsum]
      rw [e2]; omega
    ·refine tt ?_;refine wkW_done ?_;refine tw we ?_;exact for_next (idL,P) h2p ⟨hok,hjl,hpk,by show wsum (P.drop (j+1))+(j+1)+_≤18; omega,o⟩ rfl
   ·have wj:=wsucc (k:=j) (by omega);refine tw wj ?_;exact for_next (idL,P) (by omega) ⟨hok,hjl,by show wsum (P.drop (j+1))+(j+1)≤18; omega,o⟩ rfl
  case' refine_2 =>
   refine tw h1 ?_;clear hw hj hjl h1
   generalize hL : P.length=L at *;refine awp_for [7] (G:=List Pt) (fun x _=>[(11,some (.int .i64 ((1+x : Nat) : Int)))]) (fun x P H=>P.length=L∧PsOk k P∧Owns H0 H [(idL,MObj.cells 3 (flat (P.map ptE)) 0)]) L P ⟨hL,hok,o⟩ rfl ?_;clear o hok hL
   rintro x P H hx ⟨hL,hok,o⟩
   replace hL : P.length=L:=hL
   replace hok : PsOk k P:=hok
   replace o : Owns H0 H [(idL,MObj.cells 3 (flat (P.map ptE)) 0)]:=o;refine tt ?_;refine ⟨fun h1=>At.mk ?_,fun h1=>At.mk ?_⟩
   ·have h1p:=of_decide h1
    have wx:=wsucc (k:=1+x) (by omega);refine tt ?_;refine awp_while [7,11] (G:=Nat × List Pt) (fun g=>[(12,some (.int .i64 (g.1 : Int)))]) (fun m g H=>m=g.1∧g.1<L∧g.2.length=L∧PsOk k g.2∧Owns H0 H [(idL,MObj.cells 3 (flat (g.2.map ptE)) 0)]) (1+x) (1+x,P) ⟨rfl,by simp only; omega,hL,hok,o⟩ rfl ?_;clear o hok hL
    rintro m ⟨y,P⟩ H ⟨hm,hy,hL,hok,o⟩;dsimp only at hm;subst hm;dsimp only at hy hL hok o;refine tt ?_;refine ⟨fun h2=>At.mk ?_,fun h2=>At.mk ?_⟩
    case' refine_1 =>
     have h2p:=of_decide h2
     have wp : IntKind.i64.wrap ((m : Int) - 1)=((m - 1 : Nat) : Int):=wpred (by omega) (by omega);refine tw h2 ?_;refine ⟨by omega,rd_elA (f:=ptE) (n:=3) o (by omega) ?_⟩;refine tw wp ?_;refine ⟨by omega,rd_elA (f:=ptE) (n:=3) o (by omega) ?_⟩;refine tt ?_;refine ⟨_,l03Before_ok B _ _,tt ?_⟩;refine ⟨fun h3=>At.mk ?_,fun h3=>At.mk ?_⟩
     case' refine_1 =>
      refine tt ?_;refine ⟨by omega,rd_elA (f:=ptE) (n:=3) o (by omega) ?_⟩;refine tt ?_;refine newRef_own o fun id13 H o=>tt ?_;refine sw o fun H o=>?_;refine tw wp ?_;refine ⟨by omega,rd_elA (f:=ptE) (n:=3) o.tl (by omega) ?_⟩;refine tt ?_;refine ⟨by omega, ?_⟩;refine st_elN (f:=ptE) (n:=3) o.swap (by omega) (P.getD (m - 1) default) rfl fun H o=>?_;refine tw wp ?_
      have hr2:=o.tl.rc 3 0 (by simp);refine rd_celln o.tl (by simp) ?_;refine tt ?_;refine ⟨by omega, ?_⟩;refine st_elN (f:=ptE) (n:=3) o (by simp; omega) (P.getD m default) rfl fun H o=>?_;refine tw wp ?_
      have hp1 : PsOk k (P.set m (P.getD (m - 1) default)):=hok.set (by omega);exact while_next (m - 1) (m - 1,(P.set m (P.getD (m - 1) default)).set (m - 1) (P.getD m default)) (by omega) ⟨rfl,by show m - 1<L; omega,by simp [hL],hok.set' hp1 (by simp) (by omega),o.swap.tl⟩ rfl
    all_goals
     try (try simp only [go_sem,↓reduceIte,reduceEqDiff,reduceAdd,reduceMul,reduceLeDiff,reduceLT,h2])
     refine tw wx ?_;exact for_next P (by omega) ⟨hL,hok,o⟩ rfl
   ·refine tt ?_;refine fz_ownN (f:=ptE) (n:=3) o hL.symm fun H o=>tt ?_;exact rets_ret ⟨P,rfl,by omega,fun p hp=>⟨(hok p hp).1,by have:=(hok p hp).2; omega⟩⟩ o.sub
theorem l03Paths_ok (B n : Nat) (F T : List Int) (g : Gr n F T) : Rets B 270 [iI n,iL F,iL T] (CatQ 18):=by
 intro H0;refine c270p.go fun _=>?_
 have gn:=g.n3;refine tt ?_;refine newRef_own (.nil _) fun id6 H o=>tt ?_;refine (l03All_ok B n F T g).go fun r _ ⟨P,e,hP18,hPok⟩=>?_;subst e;refine tt ?_;refine newBuf_own o fun a H o=>tt ?_;refine newBuf_own o fun b H o=>tt ?_;refine ⟨by simp only [maxL]; omega, ?_⟩;refine mks_list iI 0 rfl o fun i H o=>tt ?_;refine newBuf_own o fun d H o=>tt ?_;refine newRef_own o fun id8 H o=>tt ?_;refine sw o fun H o=>tt ?_
 refine awp_for [6,7,8] (G:=(Nat × List Int) × (Nat × List Int) × List Int) (fun k _=>[(9,some (.int .i64 (k : Int)))])
  (fun k g H=>g.1.2.length=k∧g.2.1.2.length=k∧g.2.2.length=n∧Owns H0 H (prodO id8 id6 n g.1.1 g.1.2 g.2.1.1 g.2.1.2 i g.2.2 d [])) P.length ((a,[]),(b,[]),List.replicate n 0) ⟨rfl,rfl,by simp,by unfold prodO; simp only [List.length_replicate]; exact o.pm⟩ rfl ?_
 clear o
 rintro k ⟨⟨a,A⟩,⟨b,C⟩,I⟩ H hk ⟨hA,hC,hI,o⟩;dsimp only at hA hC hI o;refine tt ?_;refine ⟨fun h1=>At.mk ?_,fun h1=>At.mk ?_⟩
 ·have h1p:=of_decide h1
  have w:=wsucc (k:=k) (by omega)
  have hpk:=hPok (P.getD k default) (mem_getD.mpr ⟨k,h1p,rfl⟩)
  have hpf:=hpk.1.1;unfold prodO at o;refine tt ?_;refine rd_cells o (by simp) ?_;refine tt ?_;refine ⟨h1p,app_own' _ o.swap rfl rfl (by simp only [maxL]; omega) fun a H A2 _ hA2 o=>?_⟩;refine tt ?_;refine sw o.swap fun H o=>tt ?_;refine rd_cells o (by simp) ?_;refine tt ?_;refine ⟨h1p,app_own' _ (o.pull [_,_]) rfl rfl (by simp only [maxL]; omega) fun b H C2 _ hC2 o=>?_⟩;refine tt ?_;refine sw o.swap fun H o=>tt ?_;refine ⟨h1p, ?_⟩
  have o : Owns H0 H (prodO id8 id6 n a A2 b C2 i I d []):=by
   try unfold prodO
   exact o.pm
  refine ⟨fun h2=>At.mk ?_,fun h2=>At.mk ?_⟩
  ·unfold prodO at o;refine tt ?_;refine rd_cells o (by simp) ?_;refine tt ?_;refine ⟨h1p,by omega, ?_⟩;refine set_own (k : Int) (o.pull [_,_,_]) rfl (by omega) fun H o=>?_;refine tw w ?_;refine for_next ((a,A2),(b,C2),I.set (P.getD k default).frm.toNat k) h1p ⟨by show A2.length=_; omega,by show C2.length=_; omega,by simp [hI], ?_⟩ rfl
   try unfold prodO
   simp only [List.length_set];exact o.pm
  ·refine tw w ?_;exact for_next ((a,A2),(b,C2),I) h1p ⟨by show A2.length=_; omega,by show C2.length=_; omega,hI,o⟩ rfl
 ·have h1p:=of_ndecide h1
  obtain rfl : k=P.length:=by omega
  clear h1 h1p hk;unfold prodO at o;refine tt ?_;refine wk_cell 1 o rfl rfl fun H o=>?_;simp only [List.set_cons_zero,List.set_cons_succ] at o;refine wk_cell 2 o rfl rfl fun H o=>?_;simp only [List.set_cons_zero,List.set_cons_succ] at o;refine wk_cell 3 o rfl rfl fun H o=>wkW_done ?_;simp only [List.set_cons_zero,List.set_cons_succ] at o
  have o : Owns H0 H [(id8,MObj.cells 5 [iI n,iL A,iL C,iL I,.buf d 0] 0),(d,MObj.cells 1 [] 0),(id6,MObj.cells 5 [iI 0,.nilsl,.nilsl,.nilsl,.nilsl] 0)]:=o;refine tt ?_;refine rd_celln o (by simp) ?_;refine tt ?_;refine CallH.lentPure (es:=[.agg (Cat.cells ⟨n,A,C,I,[]⟩)]) (.bool _) rfl (fun j hj=>?_) (l02Fits_ok B ⟨n,A,C,I,[]⟩).run ?_
  ·have : j=0:=by simp at hj; omega
   subst this;refine Tr.arg (.agg _ _ rfl fun q hq=>?_)
   match q,hq with
   | 0,_=>exact .val _
   | 1,_=>exact .val _
   | 2,_=>exact .val _
   | 3,_=>exact .val _
   | 4,_=>exact .buf d 0 [] [] o.tl.h0 rfl (by simp) (by simp)
  rw [dec_t (show (n : Int)≤8∧A.length≤40 from ⟨by omega,by omega⟩)];refine tt ?_
  refine awp_for [6,7,8] (G:=Nat × List (List Int)) (fun k _=>[(10,some (.int .i64 (k : Int)))])
   (fun k g H=>g.2.length=k∧(∀ r,r∈g.2→r.length=P.length)∧Owns H0 H [(id8,MObj.cells 5 [iI n,iL A,iL C,iL I,.buf g.1 g.2.length] 0),(g.1,MObj.cells 1 (g.2.map iL) 0),(id6,MObj.cells 5 [iI 0,.nilsl,.nilsl,.nilsl,.nilsl] 0)]) P.length (d,[]) ⟨rfl,by simp,o⟩ rfl ?_
  clear o
  rintro x ⟨d,D⟩ H hx ⟨hD,hDr,o⟩;dsimp only at hD hDr o;refine tt ?_;refine ⟨fun h1=>At.mk ?_,fun h1=>At.mk ?_⟩
  ·have h1p:=of_decide h1
   have hpx:=hPok (P.getD x default) (mem_getD.mpr ⟨x,h1p,rfl⟩);refine tt ?_;refine newBuf_own o fun idr H o=>tt ?_
   refine awp_for [6,7,8,10] (G:=Nat × List Int) (fun y g=>[(11,some (.buf g.1 g.2.length)),(12,some (.int .i64 (y : Int)))])
    (fun y g H=>g.2.length=y∧Owns H0 H [(g.1,MObj.cells 1 (g.2.map iI) 0),(id8,MObj.cells 5 [iI n,iL A,iL C,iL I,.buf d D.length] 0),(d,MObj.cells 1 (D.map iL) 0),(id6,MObj.cells 5 [iI 0,.nilsl,.nilsl,.nilsl,.nilsl] 0)]) P.length (idr,[]) ⟨rfl,o⟩ rfl ?_
   clear o
   rintro y ⟨idr,row⟩ H hy ⟨hr,o⟩;dsimp only at hr o;refine tt ?_;refine ⟨fun h2=>At.mk ?_,fun h2=>At.mk ?_⟩
   ·have h2p:=of_decide h2
    have w:=wsucc (k:=y) (by omega)
    have hpy:=hPok (P.getD y default) (mem_getD.mpr ⟨y,h2p,rfl⟩);refine tt ?_;refine ⟨h1p,h2p, ?_⟩;refine ⟨fun h3=>At.mk ?_,fun h3=>At.mk ?_⟩
    ·refine tt ?_;refine ⟨h1p,h2p, ?_⟩;refine New.go' (l01Own_new B (P.getD x default).edges) o fun X1 p1 H ⟨ide,e1,e2⟩ o hs=>⟨hs, ?_⟩;subst e1 e2;refine tt ?_;refine app_list (f:=iI) (r:=(P.getD y default).edges) o rfl (by simp only [maxL]; omega) fun ide H o=>tt ?_;refine fz_own o rfl fun H o=>tt ?_
     generalize (P.getD x default).edges++(P.getD y default).edges=both
     refine awp_for [6,7,8,10,11,12,14] (G:=Int) (fun z h=>[(13,some (.int .i64 h)),(15,some (.int .i64 (z : Int)))])
      (fun z h H=>Owns H0 H [(idr,MObj.cells 1 (row.map iI) 0),(id8,MObj.cells 5 [iI n,iL A,iL C,iL I,.buf d D.length] 0),(d,MObj.cells 1 (D.map iL) 0),(id6,MObj.cells 5 [iI 0,.nilsl,.nilsl,.nilsl,.nilsl] 0)]) P.length (-1) o rfl ?_
     clear o
     rintro z h H hz o;refine tt ?_;refine ⟨fun h4=>At.mk ?_,fun h4=>At.mk ?_⟩
     ·have h4p:=of_decide h4
      have wz:=wsucc (k:=z) (by omega);refine tt ?_;refine ⟨h4p,h1p, ?_⟩;refine ⟨fun h5=>At.mk ?_,fun h5=>At.mk ?_⟩
      case' refine_1 =>
       refine tw h5 ?_;refine ⟨h4p,_,(l01Same_ok ..).run,tt ?_⟩;refine ⟨fun h6=>At.mk ?_,fun h6=>At.mk ?_⟩
       case' refine_1 =>
        refine tt ?_
      all_goals
       try (try simp only [go_sem,↓reduceIte,reduceEqDiff,reduceAdd,reduceMul,reduceLeDiff,reduceLT,h5])
       try (try simp only [go_sem,↓reduceIte,reduceEqDiff,reduceAdd,reduceMul,reduceLeDiff,reduceLT,wz])
       exact for_next _ h4p o rfl
     ·refine tt ?_;refine app_own' _ o rfl rfl (by simp only [maxL]; omega) fun idr H row2 _ hrow2 o=>?_;refine tw w ?_;exact for_next (idr,row2) h2p ⟨by show row2.length=_; omega,o⟩ rfl
    ·refine tt ?_;refine app_own' _ o rfl rfl (by simp only [maxL]; omega) fun idr H row2 _ hrow2 o=>?_;refine tw w ?_;exact for_next (idr,row2) h2p ⟨by show row2.length=_; omega,o⟩ rfl
   ·have h2p:=of_ndecide h2
    have w:=wsucc (k:=x) (by omega);refine tt ?_;refine fz_own o rfl fun H o=>tt ?_;refine rd_cells o (by simp) ?_;refine tt ?_;refine app_own' row o.swap rfl rfl (by simp only [maxL]; omega) fun d H D2 eD hD2 o=>tt ?_;refine sw o.swap fun H o=>?_;refine tw w ?_;refine for_next (d,D2) h1p ⟨by show D2.length=_; omega,fun r hr2=>?_,o⟩ rfl;dsimp only at hr2;rw [eD] at hr2
    rcases List.mem_append.mp hr2 with h | h
    ·exact hDr r h
    ·rw [List.mem_singleton] at h; subst h; omega
  ·have h1p:=of_ndecide h1;refine tt ?_;refine wk_cell 4 o rfl rfl fun H o=>wkW_done ?_;simp only [List.set_cons_zero,List.set_cons_succ] at o;refine tt ?_;refine rd_celln o (by simp) ?_;refine tt ?_;refine sw o.swap fun H o=>tt ?_
   have hr2:=o.rc 5 0 (by simp);simp only [List.drop_zero] at hr2;rw [hr2];refine tt ?_
   have hDA : D.length=A.length:=by omega
   refine rets_ret ⟨⟨n,A,C,I,D⟩,rfl,⟨by show (0 : Int)≤(n : Int); omega,by show (n : Int)≤((18 : Nat) : Int); omega⟩,by show (I.length : Int)=n; omega,by show A.length≤18; omega,by show C.length=A.length; omega,hDA,fun q hq=>?_⟩ o.sub;rw [hDr _ (mem_getD.mpr ⟨q,by rw [hDA]; exact hq,rfl⟩)]; exact hA.symm
theorem sq1 : SqT 4 [[1]]:=⟨by decide,by decide⟩
theorem l02Family_ok (B : Nat) : Rd B 206 [] (CatQ 100):=by
 intro id s H0 H hs o;refine c206p.go fun _=>?_;refine tt ?_;refine newRef_own o fun id2 H o=>tt ?_;refine (l01Next_ok B 12).go hs o.swap fun r s H _ ⟨k,e,hk0,hk1,_⟩ hs o=>?_;subst e
 have hk1:=hk1 (by omega);refine tt ?_;apply bk <;> intro q0
 ·refine tt ?_;refine (l01Next_ok B 5).go hs o fun r s H _ ⟨v,e,hv0,hv1,_⟩ hs o=>?_;subst e
  have hv1:=hv1 (by omega);refine tt ?_
  obtain ⟨v,rfl⟩:=Int.eq_ofNat_of_zero_le hv0;refine (l02Relation_ok B v (by omega)).go hs o fun r s H _ ⟨T,e,hT⟩ hs o=>?_;subst e;refine tt ?_;refine (l03Poset_ok B T hT).go fun r _ ⟨c,e,hc⟩=>?_;subst e;refine tt ?_;refine sw o.swap fun H o=>tt ?_
  have hr2:=o.rc 5 0 (by simp);simp only [List.drop_zero] at hr2;rw [hr2];refine tt ?_;exact src_ret ⟨c,rfl,hc.mono (by omega)⟩ hs o.swap
 refine tt ?_;apply bk <;> intro q1
 ·refine tt ?_;refine (l03Poset_ok B [[1,1],[0,1]] ⟨by decide,by decide⟩).go fun r _ ⟨c,e,hc⟩=>?_;subst e;refine tt ?_;refine sw o.swap fun H o=>tt ?_
  have hr2:=o.rc 5 0 (by simp);simp only [List.drop_zero] at hr2;rw [hr2];refine tt ?_;exact src_ret ⟨c,rfl,hc.mono (by omega)⟩ hs o.swap
 refine tt ?_;apply bk <;> intro q2
 ·refine tt ?_;refine (l03Poset_ok B [[1,1,1],[0,1,0],[0,0,1]] ⟨by decide,by decide⟩).go fun r _ ⟨c,e,hc⟩=>?_;subst e;refine tt ?_;refine sw o.swap fun H o=>tt ?_
  have hr2:=o.rc 5 0 (by simp);simp only [List.drop_zero] at hr2;rw [hr2];refine tt ?_;exact src_ret ⟨c,rfl,hc.mono (by omega)⟩ hs o.swap
 refine tt ?_;apply bk <;> intro q3
 ·refine tt ?_;refine (l03Paths_ok B 2 [0,0] [1,1] ⟨by decide,by decide,by decide,by decide⟩).go fun r _ ⟨c,e,hc⟩=>?_;subst e;refine tt ?_;refine sw o.swap fun H o=>tt ?_
  have hr2:=o.rc 5 0 (by simp);simp only [List.drop_zero] at hr2;rw [hr2];refine tt ?_;exact src_ret ⟨c,rfl,hc.mono (by omega)⟩ hs o.swap
 refine tt ?_;apply bk <;> intro q4
 ·refine tt ?_;refine (l02Monoid_ok B).go hs o fun r s H _ ⟨T,e,hT⟩ hs o=>?_;subst e;refine tt ?_;refine (l03Monoid_ok B T hT).go fun r _ ⟨c,e,hc⟩=>?_;subst e;refine tt ?_;refine sw o.swap fun H o=>tt ?_
  have hr2:=o.rc 5 0 (by simp);simp only [List.drop_zero] at hr2;rw [hr2];refine tt ?_;exact src_ret ⟨c,rfl,hc.mono (by omega)⟩ hs o.swap
 refine tt ?_;apply bk <;> intro q5
 ·refine tt ?_;refine (l01Next_ok B 3).go hs o fun r s H _ ⟨v,e,hv0,hv1,_⟩ hs o=>?_;subst e
  have hv1:=hv1 (by omega)
  obtain ⟨v,rfl⟩:=Int.eq_ofNat_of_zero_le hv0
  have wv : IntKind.i64.wrap (1+(v : Int))=((1+v : Nat) : Int):=by rw [wrap_i64 (by omega) (by omega)]; omega
  generalize hm : 1+v=m at *;refine tw wv ?_;refine newBuf_own o fun idr H o=>tt ?_;refine awp_for [2,3] (G:=Nat × List (List Int)) (fun i g=>[(4,some (.buf g.1 g.2.length)),(5,some (.int .i64 (i : Int)))]) (fun i g H=>g.2.length=i∧(∀ r,r∈g.2→r.length=m)∧Owns H0 H [(g.1,MObj.cells 1 (g.2.map iL) 0),(id,s.obj),(id2,MObj.cells 5 [.int .i64 0,.nilsl,.nilsl,.nilsl,.nilsl] 0)]) m (idr,[]) ⟨rfl,by simp,o⟩ rfl ?_;clear o
  rintro i ⟨idr,T⟩ H hi ⟨hT,hTr,o⟩;dsimp only at hT hTr o;refine tt ?_;apply bk <;> intro h1
  ·have h1p:=of_decide h1
   have wi:=wsucc (k:=i) (by omega);refine tt ?_;refine newBuf_own o fun ida H o=>tt ?_;refine awp_for [2,3,4,5] (G:=Nat × List Int) (fun j g=>[(6,some (.buf g.1 g.2.length)),(7,some (.int .i64 (j : Int)))]) (fun j g H=>g.2.length=j∧Owns H0 H [(g.1,MObj.cells 1 (g.2.map iI) 0),(idr,MObj.cells 1 (T.map iL) 0),(id,s.obj),(id2,MObj.cells 5 [.int .i64 0,.nilsl,.nilsl,.nilsl,.nilsl] 0)]) m (ida,[]) ⟨rfl,o⟩ rfl ?_;clear o
   rintro j ⟨ida,row⟩ H hj ⟨hr,o⟩;dsimp only at hr o;refine tt ?_;apply bk <;> intro h2
   ·have h2p:=of_decide h2
    have wj:=wsucc (k:=j) (by omega);refine tt ?_;refine app_own' _ o rfl rfl (by simp only [maxL]; omega) fun ida H row2 _ hrow2 o=>?_;refine tw wj ?_;exact for_next (ida,row2) h2p ⟨by show row2.length=_; omega,o⟩ rfl
   ·have h2p:=of_ndecide h2;refine tt ?_;refine fz_own o rfl fun H o=>tt ?_;refine app_own' row o rfl rfl (by simp only [maxL]; omega) fun idr H T2 eT hT2 o=>?_;refine tw wi ?_;refine for_next (idr,T2) h1p ⟨by show T2.length=_; omega,fun r hr2=>?_,o⟩ rfl;dsimp only at hr2;rw [eT] at hr2
    rcases List.mem_append.mp hr2 with h | h
    ·exact hTr r h
    ·rw [List.mem_singleton] at h; subst h; omega
  have h1p:=of_ndecide h1;refine tt ?_;refine fz_own o rfl fun H o=>tt ?_;refine (l03Poset_ok B T ⟨by omega,fun x hx=>by rw [hTr _ (mem_getD.mpr ⟨x,hx,rfl⟩)]; omega⟩).go fun r _ ⟨c,e,hc⟩=>?_;subst e;refine tt ?_;refine sw o.swap fun H o=>tt ?_
  have hr2:=o.rc 5 0 (by simp);simp only [List.drop_zero] at hr2;rw [hr2];refine tt ?_;exact src_ret ⟨c,rfl,hc.mono (by omega)⟩ hs o.swap
 refine tt ?_;apply bk <;> intro q6
 ·refine tt ?_;refine (l03Paths_ok B 3 [0,1,0] [1,2,2] ⟨by decide,by decide,by decide,by decide⟩).go fun r _ ⟨c,e,hc⟩=>?_;subst e;refine tt ?_;refine sw o.swap fun H o=>tt ?_
  have hr2:=o.rc 5 0 (by simp);simp only [List.drop_zero] at hr2;rw [hr2];refine tt ?_;exact src_ret ⟨c,rfl,hc.mono (by omega)⟩ hs o.swap
 refine tt ?_;apply bk <;> intro q7
 ·refine tt ?_;refine (l02Split_ok B).go fun r _ ⟨c,e,hc⟩=>?_;subst e;refine tt ?_;refine sw o.swap fun H o=>tt ?_
  have hr2:=o.rc 5 0 (by simp);simp only [List.drop_zero] at hr2;rw [hr2];refine tt ?_;exact src_ret ⟨c,rfl,hc.mono (by omega)⟩ hs o.swap
 refine tt ?_;apply bk <;> intro q8
 ·refine tt ?_;refine (l02Monoid_ok B).go hs o fun r s H _ ⟨T,e,hT⟩ hs o=>?_;subst e;refine tt ?_;refine (l03Monoid_ok B T hT).go fun r _ ⟨c,e,hc⟩=>?_;subst e;refine tt ?_;refine (l03Poset_ok B [[1]] sq1).go fun r _ ⟨d,e,hd⟩=>?_;subst e;refine tt ?_;refine (l03Join_ok B 4 16 (by omega) (by omega) c d hc hd).go fun r _ ⟨c,e,hc⟩=>?_;subst e;refine tt ?_;refine (l03Op_ok B (4+16+4*16) (by omega) c hc).go fun r _ ⟨c,e,hc⟩=>?_;subst e;refine tt ?_;refine sw o.swap fun H o=>tt ?_
  have hr2:=o.rc 5 0 (by simp);simp only [List.drop_zero] at hr2;rw [hr2];refine tt ?_;exact src_ret ⟨c,rfl,hc.mono (by omega)⟩ hs o.swap
 refine tt ?_;apply bk <;> intro q9
 ·refine tt ?_;refine (l02Monoid_ok B).go hs o fun r s H _ ⟨T,e,hT⟩ hs o=>?_;subst e;refine tt ?_;refine (l03Monoid_ok B T hT).go fun r _ ⟨c,e,hc⟩=>?_;subst e;refine tt ?_;refine (l03Poset_ok B [[1]] sq1).go fun r _ ⟨d,e,hd⟩=>?_;subst e;refine tt ?_;refine (l03Join_ok B 4 16 (by omega) (by omega) c d hc hd).go fun r _ ⟨c,e,hc⟩=>?_;subst e;refine tt ?_;refine sw o.swap fun H o=>tt ?_
  have hr2:=o.rc 5 0 (by simp);simp only [List.drop_zero] at hr2;rw [hr2];refine tt ?_;exact src_ret ⟨c,rfl,hc.mono (by omega)⟩ hs o.swap
 refine tt ?_;apply bk <;> intro q10
 ·refine tt ?_;refine (l01Next_ok B 2).go hs o fun r s H _ ⟨v,e,hv0,hv1,_⟩ hs o=>?_;subst e
  have hv1:=hv1 (by omega)
  obtain ⟨v,rfl⟩:=Int.eq_ofNat_of_zero_le hv0
  have wv : IntKind.i64.wrap (2+(v : Int))=((2+v : Nat) : Int):=by rw [wrap_i64 (by omega) (by omega)]; omega
  refine tw wv ?_;refine (l02Relation_ok B (2+v) (by omega)).go hs o fun r s H _ ⟨T,e,hT⟩ hs o=>?_;subst e;refine tt ?_;refine (l03Poset_ok B T hT).go fun r _ ⟨c,e,hc⟩=>?_;subst e;refine tt ?_;refine sw o.swap fun H o=>tt ?_
  have hr2:=o.rc 5 0 (by simp);simp only [List.drop_zero] at hr2;rw [hr2];refine tt ?_;exact src_ret ⟨c,rfl,hc.mono (by omega)⟩ hs o.swap
 refine tt ?_;refine (l01Next_ok B 2).go hs o fun r s H _ ⟨v,e,hv0,hv1,_⟩ hs o=>?_;subst e
 have hv1:=hv1 (by omega)
 obtain ⟨v,rfl⟩:=Int.eq_ofNat_of_zero_le hv0
 have wv : IntKind.i64.wrap (2+(v : Int))=((2+v : Nat) : Int):=by rw [wrap_i64 (by omega) (by omega)]; omega
 obtain ⟨n,hn⟩ : ∃ n,2+v=n:=⟨_,rfl⟩;rw [hn] at wv
 have hn23 : n=2∨n=3:=by omega
 clear hv0 hv1 hn;refine tw wv ?_;refine newBuf_own o fun f H o=>tt ?_;refine newBuf_own o fun t H o=>tt ?_;refine (l01Next_ok B 4).go hs (o.pull [_,_]) fun r s H _ ⟨q,e,hq0,hq1,_⟩ hs o=>?_;subst e
 have hq1:=hq1 (by omega)
 obtain ⟨q,rfl⟩:=Int.eq_ofNat_of_zero_le hq0;refine tt ?_
 refine awp_while [0,2,8] (G:=Src × (Nat × List Int) × (Nat × List Int) × Nat) (fun g=>[(9,some (.buf g.2.1.1 g.2.1.2.length)),(10,some (.buf g.2.2.1.1 g.2.2.1.2.length)),(11,some (.int .i64 (g.2.2.2 : Int)))])
  (fun m g H=>m=g.2.2.2∧g.1.Ok∧g.2.1.2.length+g.2.2.2≤3∧g.2.2.1.2.length=g.2.1.2.length∧(∀ e,e<g.2.1.2.length→0≤g.2.1.2.getD e default∧g.2.1.2.getD e default<g.2.2.1.2.getD e default∧g.2.2.1.2.getD e default<n) ∧
   Owns H0 H [(id,g.1.obj),(g.2.2.1.1,MObj.cells 1 (g.2.2.1.2.map iI) 0),(g.2.1.1,MObj.cells 1 (g.2.1.2.map iI) 0),(id2,MObj.cells 5 [.int .i64 0,.nilsl,.nilsl,.nilsl,.nilsl] 0)]) q (s,(f,[]),(t,[]),q) ⟨rfl,hs,by simp only [List.length_nil]; omega,rfl,fun e he=>by simp at he,o⟩ rfl ?_
 clear o hs hq0 hq1
 rintro m ⟨s,⟨f,F⟩,⟨t,T⟩,q⟩ H ⟨hm,hs,hF,hT,hE,o⟩;dsimp only at hm;subst hm;dsimp only at hs hF hT hE o
 have wn : IntKind.i64.wrap ((n : Int) - 1)=((n - 1 : Nat) : Int):=wpred (by omega) (by omega);refine tt ?_;apply bk <;> intro h1
 ·have h1p:=of_decide h1
  have wm : IntKind.i64.wrap ((m : Int) - 1)=((m - 1 : Nat) : Int):=wpred (by omega) (by omega);refine tw wn ?_;refine (l01Next_ok B ((n - 1 : Nat) : Int)).go hs o fun r s H _ ⟨x,e,hx0,hx1,_⟩ hs o=>?_;subst e
  have hx1:=hx1 (by omega)
  obtain ⟨x,rfl⟩:=Int.eq_ofNat_of_zero_le hx0;refine tt ?_;refine app_own' _ (o.pull [_,_]) rfl rfl (by simp only [maxL]; omega) fun f H F2 eF hF2 o=>?_
  have w1 : IntKind.i64.wrap ((x : Int)+1)=((x+1 : Nat) : Int):=wsucc (by omega)
  have w2 : IntKind.i64.wrap (((n - 1 : Nat) : Int) - (x : Int))=((n - 1 - x : Nat) : Int):=by rw [wrap_i64 (by omega) (by omega)]; omega
  try simp only [go_sem,↓reduceIte,reduceEqDiff,reduceAdd,reduceMul,reduceLeDiff,reduceLT,wn,w1,w2]
  refine (l01Next_ok B ((n - 1 - x : Nat) : Int)).go hs o.swap fun r s H _ ⟨y,e,hy0,hy1,_⟩ hs o=>?_;subst e
  have hy1:=hy1 (by omega)
  obtain ⟨y,rfl⟩:=Int.eq_ofNat_of_zero_le hy0
  have w3 : IntKind.i64.wrap (((x+1 : Nat) : Int)+(y : Int))=((x+1+y : Nat) : Int):=by rw [wrap_i64 (by omega) (by omega)]; omega
  refine tw w3 ?_;refine app_own' _ (o.pull [_,_]) rfl rfl (by simp only [maxL]; omega) fun t H T2 eT hT2 o=>?_;refine tw wm ?_;refine while_next (m - 1) (s,(f,F2),(t,T2),m - 1) (by omega) ⟨rfl,hs,by show F2.length+(m - 1)≤3; omega,by show T2.length=F2.length; omega,fun e he=>?_, ?_⟩ rfl
  ·show 0≤F2.getD e default∧F2.getD e default<T2.getD e default∧T2.getD e default<n
   dsimp only at he
   by_cases h2 : e<F.length
   ·have e1 : F2.getD e default=F.getD e default:=by rw [eF,List.getD_eq_getElem?_getD,List.getElem?_append_left h2,← List.getD_eq_getElem?_getD]
    have e2 : T2.getD e default=T.getD e default:=by rw [eT,List.getD_eq_getElem?_getD,List.getElem?_append_left (by omega),← List.getD_eq_getElem?_getD]
    rw [e1,e2]; exact hE e h2
   ·have e0 : e=F.length:=by omega
    have e1 : F2.getD e default=(x : Int):=by rw [eF,e0]; simp
    have e2 : T2.getD e default=((x+1+y : Nat) : Int):=by rw [eT,e0,← hT]; simp
    rw [e1,e2]; omega
  ·exact o.pm
 ·have h1p:=of_ndecide h1;refine tt ?_;refine fz_own o.swap rfl fun H o=>tt ?_;refine fz_own o.swap rfl fun H o=>tt ?_;refine (l03Paths_ok B n F T ⟨by omega,by omega,hT,hE⟩).go fun r _ ⟨c,e,hc⟩=>?_;subst e;refine tt ?_;refine sw o.swap fun H o=>tt ?_
  have hr2:=o.rc 5 0 (by simp);simp only [List.drop_zero] at hr2;rw [hr2];refine tt ?_;exact src_ret ⟨c,rfl,hc.mono (by omega)⟩ hs o.swap
theorem l02Some_ok (B : Nat) (mo ma : Int) : Rd B 125 [iI mo,iI ma] (CatQ 20000):=by
 intro id s H0 H hs o;refine c125p.go fun _=>?_;refine tt ?_;refine newRef_own o fun id6 H o=>tt ?_;refine awp_for [0,1,2,6] (G:=Src) (fun k _=>[(7,some (.int .i64 (k : Int)))]) (fun k s H=>s.Ok∧Owns H0 H [(id,s.obj),(id6,MObj.cells 5 [.int .i64 0,.nilsl,.nilsl,.nilsl,.nilsl] 0)]) 12 s ⟨hs,o.swap⟩ rfl ?_;clear o hs
 rintro k s H hk ⟨hs,o⟩
 replace hs : s.Ok:=hs
 replace o : Owns H0 H [(id,s.obj),(id6,MObj.cells 5 [.int .i64 0,.nilsl,.nilsl,.nilsl,.nilsl] 0)]:=o;refine tt ?_;refine ⟨fun h1=>At.mk ?_,fun h1=>At.mk ?_⟩
 ·have h1p:=of_decide h1
  have wk1:=wsucc (k:=k) (by omega);refine tt ?_;refine (l02Family_ok B).go hs o fun r s H _ ⟨c0,e,hc0⟩ hs o=>?_;subst e;refine tt ?_;refine newRef_own o fun id8 H o=>tt ?_;refine sw o fun H o=>tt ?_;refine (l01Next_ok B 5).go hs o.swap fun r s H _ ⟨v,e,_⟩ hs o=>?_;subst e;refine tt ?_;refine ⟨fun h2=>At.mk ?_,fun h2=>At.mk ?_⟩
  case' refine_1 =>
   refine tt ?_;refine ⟨⟨_,_,o.tl.h0⟩,rd_celln o.tl (by simp) ?_⟩;refine tt ?_;refine (l02Family_ok B).goZ hs o fun r s H _ ⟨c2,e,hc2⟩ hs o hz=>⟨hz, ?_⟩;subst e;refine tt ?_;refine New.go' (l03Sum_new B 100 100 (by omega) c0 c2 hc0 hc2) o fun X1 p1 H ⟨q,hq,a,b,i,d,Xs,ob,e1,hX,e2⟩ o _=>?_;subst e1 e2;refine tt ?_
   have o : Owns H0 H ((id8,MObj.cells 5 [iI c0.objs,iL c0.frm,iL c0.to,iL c0.idn,iLL c0.comp] 0)::(d,MObj.cells 1 Xs 0)::(a,MObj.cells 1 (q.frm.map iI) 0)::(b,MObj.cells 1 (q.to.map iI) 0)::(i,MObj.cells 1 (q.idn.map iI) 0)::(id,s.obj)::(id6,MObj.cells 5 [.int .i64 0,.nilsl,.nilsl,.nilsl,.nilsl] 0)::ob):=o.pm;refine sw o fun H o=>tt ?_
   have hXl:=hX.len
   have od : Owns H0 H ((d,MObj.cells 1 Xs 0)::(ob++[(id8,MObj.cells 5 [iI q.objs,.buf a q.frm.length,.buf b q.to.length,.buf i q.idn.length,.buf d Xs.length] 0),(a,MObj.cells 1 (q.frm.map iI) 0),(b,MObj.cells 1 (q.to.map iI) 0),(i,MObj.cells 1 (q.idn.map iI) 0),(id,s.obj),(id6,MObj.cells 5 [.int .i64 0,.nilsl,.nilsl,.nilsl,.nilsl] 0)])):=o.pm;refine wk_rows hX [] H od fun H o=>?_;simp only [List.nil_append] at o
   have o : Owns H0 H [(id8,MObj.cells 5 [iI q.objs,.buf a q.frm.length,.buf b q.to.length,.buf i q.idn.length,.buf d Xs.length] 0),(d,MObj.cells 1 (q.comp.map iL) 0),(a,MObj.cells 1 (q.frm.map iI) 0),(b,MObj.cells 1 (q.to.map iI) 0),(i,MObj.cells 1 (q.idn.map iI) 0),(id,s.obj),(id6,MObj.cells 5 [.int .i64 0,.nilsl,.nilsl,.nilsl,.nilsl] 0)]:=o.pm;refine wk_cell 4 o rfl hXl fun H o=>?_;simp only [List.set_cons_zero,List.set_cons_succ] at o;refine wk_cell 1 o rfl rfl fun H o=>?_;simp only [List.set_cons_zero,List.set_cons_succ] at o;refine wk_cell 2 o rfl rfl fun H o=>?_;simp only [List.set_cons_zero,List.set_cons_succ] at o;refine wk_cell 3 o rfl rfl fun H o=>wkW_done ?_;simp only [List.set_cons_zero,List.set_cons_succ] at o
   have o:=o.swap
   obtain ⟨c,rfl⟩ : ∃ c,c=q:=⟨_,rfl⟩
   have hc : c.Sh 200:=hq
  case' refine_2 =>
   refine tt ?_;refine wkW_done ?_
   obtain ⟨c,rfl⟩ : ∃ c,c=c0:=⟨_,rfl⟩
   have hc : c.Sh 200:=hc0.mono (show 100≤200 by omega)
  all_goals
   try clear h2
   refine tt ?_;refine (l01Next_ok B 8).go hs o fun r s H _ ⟨v2,e,_⟩ hs o=>?_;subst e;refine tt ?_;refine ⟨fun h3=>At.mk ?_,fun h3=>At.mk ?_⟩
   case' refine_1 =>
    refine tt ?_;refine ⟨⟨_,_,o.tl.h0⟩,rd_celln o.tl (by simp) ?_⟩;refine tt ?_;refine (l02Family_ok B).goZ hs o fun r s H _ ⟨c2,e,hc2⟩ hs o hz=>⟨hz, ?_⟩;subst e;refine tt ?_;refine (l03Product_ok B 200 100 (by omega) (by omega) (by omega) c c2 hc hc2).go fun r _ ⟨q,e,hq⟩=>?_;subst e;refine tt ?_;refine sw o.swap fun H o=>?_
    have o:=o.swap
    have hc:=hq
    obtain ⟨c,rfl⟩ : ∃ c,c=q:=⟨_,rfl⟩
    replace hc : c.Sh 20000:=hc
   case' refine_2 =>
    have hc:=hc.mono (show 200≤20000 by omega)
   all_goals
    try clear h3
    refine tt ?_;refine rd_cells o.tl (by simp) ?_;refine tt ?_;refine ⟨fun g1=>At.mk ?_,fun g1=>At.mk ?_⟩
    case' refine_1 =>
     refine tw g1 ?_;refine rd_cells o.tl (by simp) ?_;refine tt ?_;refine ⟨fun g2=>At.mk ?_,fun g2=>At.mk ?_⟩
     case' refine_1 =>
      refine tw g2 ?_;refine rd_celln o.tl (by simp) ?_;refine tt ?_;refine (l02Fits_ok B c).go fun _=>tt ?_;refine ⟨fun g3=>At.mk ?_,fun g3=>At.mk ?_⟩
      case refine_1 =>
       refine tt ?_;refine rd_celln o.tl (by simp) ?_;refine tt ?_;refine sw (o.pull [_,_]) fun H o=>tt ?_
       have hr2:=o.rc 5 0 (by simp);simp only [List.drop_zero] at hr2;rw [hr2];refine tt ?_;exact src_ret ⟨c,rfl,hc⟩ hs o.swap
    all_goals
     try (try simp only [go_sem,↓reduceIte,reduceEqDiff,reduceAdd,reduceMul,reduceLeDiff,reduceLT,g1])
     try (try simp only [go_sem,↓reduceIte,reduceEqDiff,reduceAdd,reduceMul,reduceLeDiff,reduceLT,g2])
     try (try simp only [go_sem,↓reduceIte,reduceEqDiff,reduceAdd,reduceMul,reduceLeDiff,reduceLT,wk1])
     exact for_next s (by omega) ⟨hs,o.swap.tl⟩ rfl
 ·refine tt ?_;refine (l03Poset_ok B [[1]] sq1).go fun r _ ⟨c,e,hc⟩=>?_;subst e;refine tt ?_;refine sw o.swap fun H o=>tt ?_
  have hr2:=o.rc 5 0 (by simp);simp only [List.drop_zero] at hr2;rw [hr2];refine tt ?_;exact src_ret ⟨c,rfl,hc.mono (by omega)⟩ hs o.swap
end Go.Proofs.Shf
namespace Go.AW
open Go.Shf
@[go_sem] theorem opE_slc {P : Program} {B : Nat} {d : Option Nat} {F : Env→Heap→Prop} {σ : Env} {H : Heap} (n : Nat) (x : X) (lo hi : Option X) : opE P B d (.slc n x lo hi) F σ H=pE d F σ H (slcE n (val σ x) (lo.map (val σ)) (hi.map (val σ))):=rfl
theorem wk_cat' {F : Env→Heap→Prop} {σ : Env} {H0 H : Heap} {l : Ob} {id fr : Nat} {x : Int} {a b i d : Nat} {A C I : List Int} {D : List (List Int)}
  (o : Owns H0 H ((id,.cells 5 [iI x,.buf a A.length,.buf b C.length,.buf i I.length,.buf d D.length] fr)::(a,.cells 1 (A.map iI) 0)::(b,.cells 1 (C.map iI) 0)::(i,.cells 1 (I.map iI) 0)::(d,.cells 1 (D.map iL) 0)::l))
  (hk : ∀ H',Owns H0 H' ((id,.cells 5 (Cat.cells ⟨x,A,C,I,D⟩) fr)::l)→wkW F σ H') : wkW F σ H:=by
 refine wk_cell 1 o rfl rfl fun H o=>?_;simp only [List.set_cons_zero,List.set_cons_succ] at o;refine wk_cell 2 o rfl rfl fun H o=>?_;simp only [List.set_cons_zero,List.set_cons_succ] at o;refine wk_cell 3 o rfl rfl fun H o=>?_;simp only [List.set_cons_zero,List.set_cons_succ] at o;refine wk_cell 4 o rfl rfl fun H o=>?_;simp only [List.set_cons_zero,List.set_cons_succ] at o;exact hk H o
theorem wk_cat {F : Env→Heap→Prop} {σ : Env} {H0 H : Heap} {l : Ob} {id fr : Nat} {x : Int} {a b i d : Nat} {A C I : List Int} {Xs : List AV} {As : List (List Int)} {ob : Ob} (h : LsR iI Xs As ob)
  (o : Owns H0 H ((id,.cells 5 [iI x,.buf a A.length,.buf b C.length,.buf i I.length,.buf d Xs.length] fr)::(a,.cells 1 (A.map iI) 0)::(b,.cells 1 (C.map iI) 0)::(i,.cells 1 (I.map iI) 0)::(d,.cells 1 Xs 0)::(ob++l)))
  (hk : ∀ H',Owns H0 H' ((id,.cells 5 (Cat.cells ⟨x,A,C,I,As⟩) fr)::l)→wkW F σ H') : wkW F σ H:=by
 have hl:=h.len
 have od : Owns H0 H ((d,.cells 1 Xs 0)::(ob++((id,.cells 5 [iI x,.buf a A.length,.buf b C.length,.buf i I.length,.buf d Xs.length] fr)::(a,.cells 1 (A.map iI) 0)::(b,.cells 1 (C.map iI) 0)::(i,.cells 1 (I.map iI) 0)::l))):=o.pm;refine wk_rows h [] H od fun H o=>?_;simp only [List.nil_append] at o;rw [hl] at o
 have o : Owns H0 H ((id,.cells 5 [iI x,.buf a A.length,.buf b C.length,.buf i I.length,.buf d As.length] fr)::(a,.cells 1 (A.map iI) 0)::(b,.cells 1 (C.map iI) 0)::(i,.cells 1 (I.map iI) 0)::(d,.cells 1 (As.map iL) 0)::l):=o.pm;exact wk_cat' o hk
theorem LsR.row {α : Type} [Inhabited α] {f : α→AV} [One f] {Xs : List AV} {As : List (List α)} {ob : Ob} (h : LsR f Xs As ob) {i : Nat} (hi : i<Xs.length) (hp : 0<(As.getD i []).length) :
  ∃ idr,Xs.getD i nv=.buf idr (As.getD i []).length∧∀ {H0 H : Heap} {l : Ob} {id : Nat} {K : Kont} (o : Owns H0 H ((id,.cells 1 Xs 0)::(ob++l))) (y : Nat) (hy : y<(As.getD i []).length) (v : α) {c : AV} (hc : c=f v)
   (hk : ∀ H' ob',LsR f Xs (As.set i ((As.getD i []).set y v)) ob'→Owns H0 H' ((id,.cells 1 Xs 0)::(ob'++l))→K nv H'),st1 (H.get idr) idr y 1 [c] K H:=by
 obtain ⟨p,r,h1,h2,h3⟩:=h.split i hi
 rcases h2 with ⟨_,_,e⟩ | ⟨idr,rfl,e⟩
 ·rw [e] at hp; simp at hp
 ·refine ⟨idr,e,fun {H0 H l id K} o y hy v {c} hc hk=>?_⟩
  have o1 : Owns H0 H ((idr,.cells 1 ((As.getD i []).map f) 0)::(id,.cells 1 Xs 0)::(r++l)):=by
   refine o.perm (((List.Perm.append_right l h1).cons _).trans ?_);simp only [List.cons_append,List.nil_append];exact .swap _ _ _
  refine set_own v o1 hc hy fun H' o2=>?_
  obtain ⟨o',k1,k2⟩:=h3 (.buf idr ((As.getD i []).set y v).length) ((As.getD i []).set y v) [(idr,.cells 1 (((As.getD i []).set y v).map f) 0)] (.inr ⟨idr,rfl,rfl⟩)
  have e2 : Xs.set i (.buf idr ((As.getD i []).set y v).length)=Xs:=by
   rw [List.length_set,← e];apply List.ext_getElem?
   intro j
   by_cases hj : i=j
   ·subst hj; rw [List.getElem?_set_self hi]; simp [List.getD_eq_getElem?_getD,hi]
   ·rw [List.getElem?_set_ne hj]
  rw [e2] at k1;refine hk H' o' k1 (o2.perm ((List.Perm.swap _ _ _).trans (.cons _ ?_)))
  have:=List.Perm.append_right l k2.symm
  simpa using this
end Go.AW
namespace Go.Proofs.Shf
open Go.AW Go.Proofs Go.Shf
def AnyQ (r : AV) : Prop:=∃ c : Cat,r=.agg c.cells
theorem anyQ (x : Int) (A C I : List Int) (D : List (List Int)) : AnyQ (.agg [iI x,iL A,iL C,iL I,iLL D]):=⟨⟨x,A,C,I,D⟩,rfl⟩
@[go_sem] def bendO (id3 : Nat) (x : Int) (a : Nat) (A : List Int) (b : Nat) (C : List Int) (i : Nat) (I : List Int) (d : Nat) (Xs : List AV) (l : Ob) : Ob :=
 (id3,.cells 5 [iI x,.buf a A.length,.buf b C.length,.buf i I.length,.buf d Xs.length] 0)::(a,.cells 1 (A.map iI) 0)::(b,.cells 1 (C.map iI) 0)::(i,.cells 1 (I.map iI) 0)::(d,.cells 1 Xs 0)::l
theorem l02Bend_ok (B N : Nat) (hN : N≤65536) (c : Cat) (hc : c.Sh N) : Rd B 126 [.agg c.cells] AnyQ:=by
 intro id s H0 H hs o;refine c126p.go fun _=>?_
 obtain ⟨cob,cil,cml,ctl,ccl,crow⟩:=hc;refine tt ?_;refine newRef_own o fun id3 H o=>tt ?_;refine newRef_own o fun id4 H o=>tt ?_;refine rd_celln o.tl (by simp) ?_;refine tt ?_;refine New.go' (l02Own_new B c) o fun X1 p1 H ⟨a,b,i,d,Xs,ob,e1,hX,e2⟩ o _=>?_;subst e1 e2
 have hXl:=hX.len;refine tt ?_
 have o : Owns H0 H ((id3,MObj.cells 5 [iI c.objs,iL c.frm,iL c.to,iL c.idn,iLL c.comp] 0)::(a,.cells 1 (c.frm.map iI) 0)::(b,.cells 1 (c.to.map iI) 0)::(i,.cells 1 (c.idn.map iI) 0)::(d,.cells 1 Xs 0)::(ob++[(id,s.obj),(id4,MObj.cells 5 [.int .i64 0,.nilsl,.nilsl,.nilsl,.nilsl] 0)])):=o.pm;refine sw o fun H o=>tt ?_;refine rd_cells o (by simp) ?_;refine tt ?_
 have hsrc : ∀ {H : Heap} {s : Src} {Xs : List AV} {ob : Ob} {a b i : Nat} {A C I : List Int} {x : Int},Owns H0 H (bendO id3 x a A b C i I d Xs (ob++[(id,s.obj),(id4,MObj.cells 5 [.int .i64 0,.nilsl,.nilsl,.nilsl,.nilsl] 0)])) →
   Owns H0 H ((id,s.obj)::bendO id3 x a A b C i I d Xs (ob++[(id4,MObj.cells 5 [.int .i64 0,.nilsl,.nilsl,.nilsl,.nilsl] 0)])):=by
  intro H s Xs ob a b i A C I x o;unfold bendO at o ⊢;exact o.pm
 have o:=hsrc (by unfold bendO; exact o);unfold bendO at o;refine (l01Next_ok B c.frm.length).go hs o fun r s H _ ⟨f,e,hf0,hf1,hf2⟩ hs o=>?_;subst e
 obtain ⟨f,rfl⟩:=Int.eq_ofNat_of_zero_le hf0;refine tt ?_;refine (l01Next_ok B 8).go hs o fun r s H _ ⟨v,e,_⟩ hs o=>?_;subst e;refine tt ?_;apply bk <;> intro q0
 focus
  refine tt ?_;refine rd_cells o.tl (by simp) ?_;refine tt ?_;refine (l01Pick_ok B [IntKind.i64.wrap (c.objs+1),-1,9] (by simp)).go hs o fun r s H _ ⟨v,e,_⟩ hs o=>?_;subst e;refine tt ?_;refine sw o.swap fun H o=>tt ?_
  have o : Owns H0 H ((id3,.cells 5 [iI (v),.buf a (c.frm).length,.buf b (c.to).length,.buf i (c.idn).length,.buf d (Xs).length] 0)::(a,.cells 1 ((c.frm).map iI) 0)::(b,.cells 1 ((c.to).map iI) 0)::(i,.cells 1 ((c.idn).map iI) 0)::(d,.cells 1 (Xs) 0)::(ob++[(id,s.obj),(id4,MObj.cells 5 [.int .i64 0,.nilsl,.nilsl,.nilsl,.nilsl] 0)])):=o.pm;refine wk_cat hX o fun H o=>?_
 rotate_left 1;refine tt ?_;apply bk <;> intro q1
 focus
  refine tt ?_;refine rd_cells o.tl (by simp) ?_;refine tt ?_;refine app_own' _ (o.pull [_,_]) rfl rfl (by simp only [maxL]; omega) fun a H A2 _ hA2 o=>tt ?_;refine sw (o.pull [_,_]) fun H o=>tt ?_
  have o : Owns H0 H ((id3,.cells 5 [iI (c.objs),.buf a (A2).length,.buf b (c.to).length,.buf i (c.idn).length,.buf d (Xs).length] 0)::(a,.cells 1 ((A2).map iI) 0)::(b,.cells 1 ((c.to).map iI) 0)::(i,.cells 1 ((c.idn).map iI) 0)::(d,.cells 1 (Xs) 0)::(ob++[(id,s.obj),(id4,MObj.cells 5 [.int .i64 0,.nilsl,.nilsl,.nilsl,.nilsl] 0)])):=o.pm;refine wk_cat hX o fun H o=>?_
 rotate_left 1;refine tt ?_;apply bk <;> intro q2
 focus
  refine tt ?_;refine rd_cells o.tl (by simp) ?_;refine tt ?_;apply bk <;> intro g1
  focus
   have g1p:=of_decide g1;refine tt ?_;refine ⟨⟨_,_,o.tl.h0⟩,rd_cells o.tl (by simp) ?_⟩;refine tt ?_;refine (l01Next_ok B _).goZ hs o fun r s H _ ⟨v,e,_⟩ hs o hz=>⟨hz, ?_⟩;subst e;refine tt ?_;refine ⟨by omega, ?_⟩;refine set_own v (o.pull [_,_,_,_]) rfl (by omega) fun H o=>tt ?_
   have o : Owns H0 H ((id3,.cells 5 [iI (c.objs),.buf a (c.frm).length,.buf b (c.to).length,.buf i (c.idn.set (Int.toNat 0) v).length,.buf d (Xs).length] 0)::(a,.cells 1 ((c.frm).map iI) 0)::(b,.cells 1 ((c.to).map iI) 0)::(i,.cells 1 ((c.idn.set (Int.toNat 0) v).map iI) 0)::(d,.cells 1 (Xs) 0)::(ob++[(id,s.obj),(id4,MObj.cells 5 [.int .i64 0,.nilsl,.nilsl,.nilsl,.nilsl] 0)])):=o.pm;refine wk_cat hX o fun H o=>?_
  rotate_left 1;refine tt ?_
  have o : Owns H0 H ((id3,.cells 5 [iI (c.objs),.buf a (c.frm).length,.buf b (c.to).length,.buf i (c.idn).length,.buf d (Xs).length] 0)::(a,.cells 1 ((c.frm).map iI) 0)::(b,.cells 1 ((c.to).map iI) 0)::(i,.cells 1 ((c.idn).map iI) 0)::(d,.cells 1 (Xs) 0)::(ob++[(id,s.obj),(id4,MObj.cells 5 [.int .i64 0,.nilsl,.nilsl,.nilsl,.nilsl] 0)])):=o.pm;refine wk_cat hX o fun H o=>?_
 rotate_left 2;refine tt ?_;apply bk <;> intro q3
 focus
  refine tw q3 ?_;apply bk <;> intro g1
  focus
   have g1p:=of_decide g1
   have hf1:=hf1 (by omega)
   have hrow:=crow f (by omega);refine tt ?_;refine ⟨⟨_,_,o.tl.h0⟩,rd_cells o.tl (by simp) ?_⟩;refine tt ?_;refine ⟨by omega, ?_⟩
   have od:=o.pull [_,_,_,_,_];simp only [List.cons_append,List.nil_append] at od;refine ⟨⟨_,_,od.h0⟩,rd_cells od (by omega) ?_⟩
   obtain ⟨idr,hXr,hst⟩:=hX.row (i:=f) (by omega) (by have : (c.comp.getD f []).length=c.frm.length:=hrow; omega);rw [hXr];refine tt ?_;refine (l01Next_ok B _).goZ hs o fun r s H _ ⟨v,e,hv0,hv1,_⟩ hs o hz=>⟨hz, ?_⟩;subst e
   have hv1:=hv1 (by omega);refine tt ?_;refine (l01Next_ok B _).goZ hs o fun r s H _ ⟨v2,e,_⟩ hs o hz=>⟨hz, ?_⟩;subst e
   have hrl : (c.comp.getD f []).length=c.frm.length:=hrow;refine tt ?_;refine ⟨by omega, ?_⟩
   have od : Owns H0 H ((d,MObj.cells 1 Xs 0)::(ob++((id,s.obj)::(id3,.cells 5 [iI c.objs,.buf a c.frm.length,.buf b c.to.length,.buf i c.idn.length,.buf d Xs.length] 0)::(a,.cells 1 (c.frm.map iI) 0)::(b,.cells 1 (c.to.map iI) 0)::(i,.cells 1 (c.idn.map iI) 0)::[(id4,MObj.cells 5 [.int .i64 0,.nilsl,.nilsl,.nilsl,.nilsl] 0)]))):=o.pm;refine hst od v.toNat (by omega) _ rfl fun H ob2 hX2 o=>tt ?_
   have o : Owns H0 H ((id3,.cells 5 [iI (c.objs),.buf a (c.frm).length,.buf b (c.to).length,.buf i (c.idn).length,.buf d (Xs).length] 0)::(a,.cells 1 ((c.frm).map iI) 0)::(b,.cells 1 ((c.to).map iI) 0)::(i,.cells 1 ((c.idn).map iI) 0)::(d,.cells 1 (Xs) 0)::(ob2++[(id,s.obj),(id4,MObj.cells 5 [.int .i64 0,.nilsl,.nilsl,.nilsl,.nilsl] 0)])):=o.pm;refine wk_cat hX2 o fun H o=>?_
  rotate_left 1;refine tt ?_
  have o : Owns H0 H ((id3,.cells 5 [iI (c.objs),.buf a (c.frm).length,.buf b (c.to).length,.buf i (c.idn).length,.buf d (Xs).length] 0)::(a,.cells 1 ((c.frm).map iI) 0)::(b,.cells 1 ((c.to).map iI) 0)::(i,.cells 1 ((c.idn).map iI) 0)::(d,.cells 1 (Xs) 0)::(ob++[(id,s.obj),(id4,MObj.cells 5 [.int .i64 0,.nilsl,.nilsl,.nilsl,.nilsl] 0)])):=o.pm;refine wk_cat hX o fun H o=>?_
 rotate_left 2;refine tt ?_;apply bk <;> intro q4
 focus
  refine tw q4 ?_;apply bk <;> intro g1
  focus
   have g1p:=of_decide g1
   have hf1:=hf1 (by omega)
   have hrow:=crow f (by omega);refine tt ?_;refine ⟨⟨_,_,o.tl.h0⟩,rd_cells o.tl (by simp) ?_⟩;refine tt ?_;refine ⟨by omega, ?_⟩
   have od:=o.pull [_,_,_,_,_];simp only [List.cons_append,List.nil_append] at od;refine ⟨⟨_,_,od.h0⟩,rd_cells od (by omega) ?_⟩
   obtain ⟨idr,hXr,hst⟩:=hX.row (i:=f) (by omega) (by have : (c.comp.getD f []).length=c.frm.length:=hrow; omega);rw [hXr];refine tt ?_;refine (l01Next_ok B _).goZ hs o fun r s H _ ⟨v,e,hv0,hv1,_⟩ hs o hz=>⟨hz, ?_⟩;subst e
   have hv1:=hv1 (by omega);refine tt ?_;refine (l01Next_ok B _).goZ hs o fun r s H _ ⟨v2,e,_⟩ hs o hz=>⟨hz, ?_⟩;subst e
   have hrl : (c.comp.getD f []).length=c.frm.length:=hrow;refine tt ?_;refine ⟨by omega, ?_⟩
   have od : Owns H0 H ((d,MObj.cells 1 Xs 0)::(ob++((id,s.obj)::(id3,.cells 5 [iI c.objs,.buf a c.frm.length,.buf b c.to.length,.buf i c.idn.length,.buf d Xs.length] 0)::(a,.cells 1 (c.frm.map iI) 0)::(b,.cells 1 (c.to.map iI) 0)::(i,.cells 1 (c.idn.map iI) 0)::[(id4,MObj.cells 5 [.int .i64 0,.nilsl,.nilsl,.nilsl,.nilsl] 0)]))):=o.pm;refine hst od v.toNat (by omega) _ rfl fun H ob2 hX2 o=>tt ?_
   have o : Owns H0 H ((id3,.cells 5 [iI (c.objs),.buf a (c.frm).length,.buf b (c.to).length,.buf i (c.idn).length,.buf d (Xs).length] 0)::(a,.cells 1 ((c.frm).map iI) 0)::(b,.cells 1 ((c.to).map iI) 0)::(i,.cells 1 ((c.idn).map iI) 0)::(d,.cells 1 (Xs) 0)::(ob2++[(id,s.obj),(id4,MObj.cells 5 [.int .i64 0,.nilsl,.nilsl,.nilsl,.nilsl] 0)])):=o.pm;refine wk_cat hX2 o fun H o=>?_
  rotate_left 1;refine tt ?_
  have o : Owns H0 H ((id3,.cells 5 [iI (c.objs),.buf a (c.frm).length,.buf b (c.to).length,.buf i (c.idn).length,.buf d (Xs).length] 0)::(a,.cells 1 ((c.frm).map iI) 0)::(b,.cells 1 ((c.to).map iI) 0)::(i,.cells 1 ((c.idn).map iI) 0)::(d,.cells 1 (Xs) 0)::(ob++[(id,s.obj),(id4,MObj.cells 5 [.int .i64 0,.nilsl,.nilsl,.nilsl,.nilsl] 0)])):=o.pm;refine wk_cat hX o fun H o=>?_
 rotate_left 2;refine tt ?_;apply bk <;> intro q5
 focus
  refine tw q5 ?_;apply bk <;> intro g1
  focus
   have g1p:=of_decide g1
   have hf1:=hf1 (by omega)
   have hrow:=crow f (by omega);refine tt ?_;refine ⟨⟨_,_,o.tl.h0⟩,rd_cells o.tl (by simp) ?_⟩;refine tt ?_;refine ⟨by omega, ?_⟩
   have od:=o.pull [_,_,_,_,_];simp only [List.cons_append,List.nil_append] at od;refine ⟨⟨_,_,od.h0⟩,rd_cells od (by omega) ?_⟩
   obtain ⟨idr,hXr,hst⟩:=hX.row (i:=f) (by omega) (by have : (c.comp.getD f []).length=c.frm.length:=hrow; omega);rw [hXr];refine tt ?_;refine (l01Next_ok B _).goZ hs o fun r s H _ ⟨v,e,hv0,hv1,_⟩ hs o hz=>⟨hz, ?_⟩;subst e
   have hv1:=hv1 (by omega);refine tt ?_;refine (l01Next_ok B _).goZ hs o fun r s H _ ⟨v2,e,_⟩ hs o hz=>⟨hz, ?_⟩;subst e
   have hrl : (c.comp.getD f []).length=c.frm.length:=hrow;refine tt ?_;refine ⟨by omega, ?_⟩
   have od : Owns H0 H ((d,MObj.cells 1 Xs 0)::(ob++((id,s.obj)::(id3,.cells 5 [iI c.objs,.buf a c.frm.length,.buf b c.to.length,.buf i c.idn.length,.buf d Xs.length] 0)::(a,.cells 1 (c.frm.map iI) 0)::(b,.cells 1 (c.to.map iI) 0)::(i,.cells 1 (c.idn.map iI) 0)::[(id4,MObj.cells 5 [.int .i64 0,.nilsl,.nilsl,.nilsl,.nilsl] 0)]))):=o.pm;refine hst od v.toNat (by omega) _ rfl fun H ob2 hX2 o=>tt ?_
   have o : Owns H0 H ((id3,.cells 5 [iI (c.objs),.buf a (c.frm).length,.buf b (c.to).length,.buf i (c.idn).length,.buf d (Xs).length] 0)::(a,.cells 1 ((c.frm).map iI) 0)::(b,.cells 1 ((c.to).map iI) 0)::(i,.cells 1 ((c.idn).map iI) 0)::(d,.cells 1 (Xs) 0)::(ob2++[(id,s.obj),(id4,MObj.cells 5 [.int .i64 0,.nilsl,.nilsl,.nilsl,.nilsl] 0)])):=o.pm;refine wk_cat hX2 o fun H o=>?_
  rotate_left 1;refine tt ?_
  have o : Owns H0 H ((id3,.cells 5 [iI (c.objs),.buf a (c.frm).length,.buf b (c.to).length,.buf i (c.idn).length,.buf d (Xs).length] 0)::(a,.cells 1 ((c.frm).map iI) 0)::(b,.cells 1 ((c.to).map iI) 0)::(i,.cells 1 ((c.idn).map iI) 0)::(d,.cells 1 (Xs) 0)::(ob++[(id,s.obj),(id4,MObj.cells 5 [.int .i64 0,.nilsl,.nilsl,.nilsl,.nilsl] 0)])):=o.pm;refine wk_cat hX o fun H o=>?_
 rotate_left 2;refine tw q5 ?_;apply bk <;> intro q6
 focus
  refine tt ?_;apply bk <;> intro g1
  focus
   have g1p:=of_decide g1
   have hf1:=hf1 (by omega);refine tt ?_;refine ⟨⟨_,_,o.tl.h0⟩,rd_cells o.tl (by simp) ?_⟩;refine tt ?_;refine ⟨⟨_,_,o.tl.h0⟩,rd_cells o.tl (by simp) ?_⟩;refine tt ?_;refine (l01Next_ok B _).goZ hs o fun r s H _ ⟨v,e,_⟩ hs o hz=>⟨hz, ?_⟩;subst e;refine tt ?_;refine ⟨by omega, ?_⟩;refine set_own v (o.pull [_,_,_]) rfl (by omega) fun H o=>tt ?_
   have o : Owns H0 H ((id3,.cells 5 [iI (c.objs),.buf a (c.frm).length,.buf b (c.to.set f v).length,.buf i (c.idn).length,.buf d (Xs).length] 0)::(a,.cells 1 ((c.frm).map iI) 0)::(b,.cells 1 ((c.to.set f v).map iI) 0)::(i,.cells 1 ((c.idn).map iI) 0)::(d,.cells 1 (Xs) 0)::(ob++[(id,s.obj),(id4,MObj.cells 5 [.int .i64 0,.nilsl,.nilsl,.nilsl,.nilsl] 0)])):=o.pm;refine wk_cat hX o fun H o=>?_
  rotate_left 1;refine tt ?_
  have o : Owns H0 H ((id3,.cells 5 [iI (c.objs),.buf a (c.frm).length,.buf b (c.to).length,.buf i (c.idn).length,.buf d (Xs).length] 0)::(a,.cells 1 ((c.frm).map iI) 0)::(b,.cells 1 ((c.to).map iI) 0)::(i,.cells 1 ((c.idn).map iI) 0)::(d,.cells 1 (Xs) 0)::(ob++[(id,s.obj),(id4,MObj.cells 5 [.int .i64 0,.nilsl,.nilsl,.nilsl,.nilsl] 0)])):=o.pm;refine wk_cat hX o fun H o=>?_
 rotate_left 2;refine tt ?_
 have od : Owns H0 H ((d,MObj.cells 1 Xs 0)::(ob++((id,s.obj)::(id3,.cells 5 [iI c.objs,.buf a c.frm.length,.buf b c.to.length,.buf i c.idn.length,.buf d Xs.length] 0)::(a,.cells 1 (c.frm.map iI) 0)::(b,.cells 1 (c.to.map iI) 0)::(i,.cells 1 (c.idn.map iI) 0)::[(id4,MObj.cells 5 [.int .i64 0,.nilsl,.nilsl,.nilsl,.nilsl] 0)]))):=o.pm;refine wk_rows hX [] H od fun H o=>wkW_done ?_;simp only [List.nil_append] at o;refine tt ?_;apply bk <;> intro g1
 focus
  have g1p:=of_decide g1
  have hf1:=hf1 (by omega)
  have hrow:=crow f (by omega);refine tt ?_;refine ⟨⟨_,_,o.tl.tl.h0⟩,rd_cells o.tl.tl (by simp) ?_⟩;refine tt ?_;refine ⟨⟨_,_,o.tl.tl.h0⟩,rd_cells o.tl.tl (by simp) ?_⟩;refine tt ?_;refine ⟨by omega,⟨_,_,o.h0⟩,rd_own (f:=iL) o (by omega) ?_⟩;refine tt ?_;refine ⟨⟨by omega,by omega⟩,by omega, ?_⟩;refine set_own (f:=iL) ((c.comp.getD f default).drop (Int.toNat 1)) o rfl (by omega) fun H o=>tt ?_
  have o : Owns H0 H ((id3,.cells 5 [iI c.objs,.buf a c.frm.length,.buf b c.to.length,.buf i c.idn.length,.buf d (c.comp.set f ((c.comp.getD f default).drop (Int.toNat 1))).length] 0)::(a,.cells 1 (c.frm.map iI) 0)::(b,.cells 1 (c.to.map iI) 0)::(i,.cells 1 (c.idn.map iI) 0)::(d,.cells 1 ((c.comp.set f ((c.comp.getD f default).drop (Int.toNat 1))).map iL) 0)::[(id,s.obj),(id4,MObj.cells 5 [.int .i64 0,.nilsl,.nilsl,.nilsl,.nilsl] 0)]):=by
   rw [show Xs.length=c.comp.length from hXl] at o;exact o.pm
  refine wk_cat' o fun H o=>?_
 rotate_left 1;refine tt ?_
 have o : Owns H0 H ((id3,.cells 5 [iI c.objs,.buf a c.frm.length,.buf b c.to.length,.buf i c.idn.length,.buf d (c.comp).length] 0)::(a,.cells 1 (c.frm.map iI) 0)::(b,.cells 1 (c.to.map iI) 0)::(i,.cells 1 (c.idn.map iI) 0)::(d,.cells 1 ((c.comp).map iL) 0)::[(id,s.obj),(id4,MObj.cells 5 [.int .i64 0,.nilsl,.nilsl,.nilsl,.nilsl] 0)]):=by
  have:=hXl;rw [show Xs.length=c.comp.length from hXl] at o;exact o.pm
 refine wk_cat' o fun H o=>?_
 all_goals
  refine wkW_done ?_;refine tt ?_;refine rd_celln o (by simp [Cat.cells]) ?_;try simp only [go_sem,↓reduceIte,reduceEqDiff,reduceAdd,reduceMul,reduceLeDiff,reduceLT,Cat.cells]
  refine sw (o.pull [_,_]) fun H o=>tt ?_
  have hr2:=o.rc 5 0 (by simp);simp only [List.drop_zero] at hr2;rw [hr2];refine tt ?_;exact src_ret (anyQ _ _ _ _ _) hs (o.pull [_,_])
theorem l02Object_ok (B : Nat) (c : Cat) (x : Int) : Pur Tryz.prog B 155 [.agg c.cells,iI x] (.bool (dec (0≤x∧x<c.objs))):=by
 refine ⟨fun H0=>c155.go fun hf=>?_⟩;refine tt ?_;apply bk <;> intro h1
 ·refine tw h1 ?_
  have h1p:=of_decide h1;exact pure_ret (by congr 1; rw [decide_dec]; exact dec_congr ⟨fun h=>⟨h1p,h⟩,fun h=>h.2⟩) (.refl _)
 ·refine tw h1 ?_;exact pure_ret (by rw [dec_f (fun h=>of_ndecide h1 h.1)]) (.refl _)
def ListQ (r : AV) : Prop:=∃ l : List Int,r=iL l
theorem l25List_ok (B : Nat) (c : Cat) (x : Int) : Rd B 156 [.agg c.cells,iI x] ListQ:=by
 intro id s H0 H hs o;refine c156p.go fun _=>?_;refine tt ?_;refine (l02Is_ok B c).go fun _=>tt ?_
 by_cases hI : c.Is
 focus
  rw [dec_t hI];refine tt ?_;refine (l02Object_ok B c x).go fun _=>tt ?_
  by_cases hx : 0≤x∧x<c.objs
  focus
   rw [dec_t hx];refine tt ?_;refine (l25Out_ok B c x).go fun _=>tt ?_;refine newBuf_own o fun idl H o=>tt ?_
   have hm:=hI.1.m
   have hout : ∀ a,a∈outs c x→0≤a∧a.toNat<c.frm.length:=fun a ha=>⟨(mem_outs.mp ha).1,(mem_outs.mp ha).2.1⟩
   have hol : (outs c x).length≤40:=by
    rw [outs,List.length_map];refine Nat.le_trans (List.length_filter_le _ _) ?_;rw [List.length_range]; omega
   refine awp_for [0,4,7] (G:=Src × Nat × List Int) (fun k g=>[(8,some (.buf g.2.1 g.2.2.length)),(9,some (.int .i64 (k : Int)))])
    (fun k g H=>g.1.Ok∧g.2.2.length≤k∧(∀ a,a∈g.2.2→0≤a∧a.toNat<c.frm.length)∧Owns H0 H [(id,g.1.obj),(g.2.1,MObj.cells 1 (g.2.2.map iI) 0)]) (outs c x).length (s,idl,[]) ⟨hs,Nat.le_refl _,by simp,o.swap⟩ rfl ?_
   clear o hs
   rintro k ⟨s,idl,L⟩ H hk ⟨hs,hL,hLr,o⟩;dsimp only at hs hL hLr o;refine tt ?_;apply bk <;> intro h1
   ·have h1p:=of_decide h1
    have w:=wsucc (k:=k) (by omega);refine tt ?_;refine (l01Next_ok B 3).go hs o fun r s H _ ⟨v,e,_⟩ hs o=>?_;subst e;refine tt ?_;apply bk <;> intro h2
    ·refine tt ?_;refine ⟨h1p,app_own' _ o.swap rfl rfl (by simp only [maxL]; omega) fun idl H L2 eL hL2 o=>?_⟩;refine tw w ?_;refine for_next (s,idl,L2) h1p ⟨hs,by show L2.length≤_; omega,fun a ha=>?_,o.swap⟩ rfl;dsimp only at ha;rw [eL] at ha
     rcases List.mem_append.mp ha with h | h
     ·exact hLr a h
     ·rw [List.mem_singleton] at h; subst h; exact hout _ (mem_getD.mpr ⟨k,h1p,rfl⟩)
    ·refine tw w ?_;exact for_next (s,idl,L) h1p ⟨hs,by show L.length≤_; omega,hLr,o⟩ rfl
   ·refine tt ?_;refine (l01Next_ok B 5).go hs o fun r s H _ ⟨v,e,_⟩ hs o=>?_;subst e;refine tt ?_;apply bk <;> intro h2
    ·refine tt ?_;refine call_fz 1 rfl o.swap rfl fun H o=>?_;refine (l25Close_ok B c hI.1 L hLr).go fun _=>tt ?_;exact src_ret ⟨_,rfl⟩ hs o
    ·refine tt ?_;refine (l01Next_ok B 8).go hs o fun r s H _ ⟨v,e,_⟩ hs o=>?_;subst e;refine tt ?_;apply bk <;> intro h3
     ·refine tt ?_;refine (l02Number_ok B _).go hs o fun r s H _ ⟨v,e⟩ hs o=>?_;subst e;refine tt ?_;refine app_own' _ o.swap rfl rfl (by simp only [maxL]; omega) fun idl H L2 eL hL2 o=>tt ?_;refine fz_own o rfl fun H o=>tt ?_;exact src_ret ⟨_,rfl⟩ hs o
     ·refine tt ?_;refine fz_own o.swap rfl fun H o=>tt ?_;exact src_ret ⟨_,rfl⟩ hs o
  rotate_left 1;rw [dec_f hx]
 rotate_left 1;rw [dec_f hI]
 all_goals
  refine tt ?_;refine newBuf_own o fun idl H o=>tt ?_;refine fz_own (f:=iI) (out:=[]) o rfl fun H o=>tt ?_;exact src_ret ⟨[],rfl⟩ hs o
theorem matches_ok (B : Nat) (f : SF) (h : f.Shape) (x : Int) (s : List Int) (hs : f.shape.Sieve x s) (t : List Int) : Pur Tryz.prog B 89 [.ptr f.cells,iL s,iL t] (.bool (dec (Fam f s t))):=by
 refine ⟨fun H0=>c89.go fun ⟨_,_,hf,_⟩=>?_⟩
 have hl:=fine_mL_le hf;simp only [maxL] at hl
 have hq:=rules_ok B f h x s hs
 have hfr:=fam_rules h hs (t:=t)
 have hra:=fun l hl=>rule_at h hs (l:=l) hl
 have hsz : (famSizes f s).length=s.length:=by simp [famSizes]
 have hzb : ∀ i,i<s.length→0≤(famSizes f s).getD i default∧(famSizes f s).getD i default≤16:=fun i hi=>(fam_size h hs hi).2
 have hRl : (famLinks f s).length≤1600:=by
  have h1:=rowsTo_len f.shape s s.length
  have h2:=hs.len
  have h3:=h.is.1.m
  have h4 : s.length*f.shape.frm.length≤40*40:=Nat.mul_le_mul (by omega) h3;simp only [famLinks,List.length_map,rowsOf];omega
 refine tt ?_;refine hq.go fun _=>?_
 generalize famSizes f s=Z at *
 generalize famLinks f s=R at *;refine tt ?_;apply bk <;> intro h0
 ·have h0p : ¬ t.length=Z.length:=by simpa using h0
  refine tt ?_;exact pure_ret (by rw [dec_f]; exact fun q=>h0p (by rw [(hfr.mp q).1,hsz])) (.refl _)
 have h0p : t.length=Z.length:=by simpa using h0
 refine tt ?_;refine awp_for [2,7,8,24,25] (G:=Unit) (fun k _=>[(26,some (.int .i64 (k : Int)))]) (fun k _ H=>H=H0∧∀ i,i<k→0≤t.getD i default∧t.getD i default<Z.getD i default) t.length () ⟨rfl,by simp⟩ rfl ?_
 rintro k _ H hk ⟨rfl,hall⟩;refine tt ?_;apply bk <;> intro h1
 ·have h1p : k<t.length:=of_decide h1
  have w:=wsucc (k:=k) (by omega)
  have hz:=hzb k (by omega)
  have w1 : IntKind.i64.wrap (Z.getD k default - 1)=Z.getD k default - 1:=wrap_i64 (by omega) (by omega);refine tt ?_;refine ⟨h1p,by omega, ?_⟩;refine tw w1 ?_;refine (inRange_ok B (t.getD k default) 0 (Z.getD k default - 1)).go fun _=>?_
  by_cases hi : 0≤t.getD k default∧t.getD k default≤Z.getD k default - 1
  ·rw [dec_t hi];refine tw w ?_;exact for_next () (by omega) ⟨rfl,lt_succ_all hall ⟨hi.1,by omega⟩⟩ rfl
  ·rw [dec_f hi];refine tt ?_;exact pure_ret (by rw [dec_f]; exact fun q=>hi (by have:=(hfr.mp q).2.1 k (by omega); omega)) (.refl _)
 have h1p : ¬ k<t.length:=of_ndecide h1
 obtain rfl : k=t.length:=by omega
 refine tt ?_;refine awp_for [2,40,41] (G:=Unit) (fun k _=>[(42,some (.int .i64 (k : Int)))]) (fun k _ H'=>H.sub H'∧∀ i,i<k→rulOk t (R.getD i default)) R.length () ⟨.refl _,by simp⟩ rfl ?_
 rintro k _ H' hk2 ⟨hsub,hall2⟩
 replace hsub : H.sub H':=hsub
 have o : Owns H H' []:=⟨hsub,by simp,by simp,by simp⟩;refine tt ?_;apply bk <;> intro h2
 ·have h2p : k<R.length:=of_decide h2
  have w:=wsucc (k:=k) (by omega)
  have hm : R.getD k default∈R:=mem_getD.mpr ⟨k,h2p,rfl⟩
  have hr:=hra _ hm;refine tt ?_;refine ⟨h2p,newRef_own o fun id12 H' o=>?_⟩;refine tt ?_;refine stc o fun H' o=>?_;simp only [wr_cons,wr_nil,List.set_cons_zero,List.set_cons_succ] at o;refine tt ?_;refine rd_cells o (by simp) ?_;refine tt ?_;refine ⟨⟨hr.2.1.1,by omega⟩,rd_cells o (by simp) ?_⟩;refine tt ?_;refine rd_cells o (by simp) ?_;refine tt ?_
  have ht:=hall (R.getD k default).i.toNat (by omega)
  have hix : ix t (R.getD k default).i=t.getD (R.getD k default).i.toNat default:=rfl;refine ⟨⟨hr.1.1,by omega⟩,⟨by omega,by omega⟩, ?_⟩;apply bk <;> intro h3
  ·have h3p : ¬ rulOk t (R.getD k default):=by simpa [rulOk] using h3
   refine tt ?_;exact pure_ret (by rw [dec_f]; exact fun q=>h3p ((hfr.mp q).2.2 _ hm)) o.sub
  ·have h3p : rulOk t (R.getD k default):=by simpa [rulOk] using h3
   refine tw w ?_;exact for_next () (by omega) ⟨o.sub,lt_succ_all hall2 h3p⟩ rfl
 have h2p : ¬ k<R.length:=of_ndecide h2;refine tt ?_;exact pure_ret (by rw [dec_t]; exact hfr.mpr ⟨by omega,fun i hi=>hall i (by omega),all_getD.mpr fun i hi=>hall2 i (by omega)⟩) hsub
theorem l19Element_ok (B : Nat) (f : SF) (x e : Int) (hx : 0≤x∧x<f.shape.objs) (hl : (f.sizes.length : Int)=f.shape.objs) : Pur Tryz.prog B 169 [.agg f.cells,iI x,iI e] (.bool (dec (0≤e∧e<ix f.sizes x))):=by
 refine ⟨fun H0=>c169.go fun _=>?_⟩;refine tt ?_;refine (l02Object_ok B f.shape x).go fun _=>?_;rw [dec_t hx];refine tt ?_
 by_cases h0 : 0≤e
 ·rw [decide_eq_true h0];refine tt ?_;refine ⟨by omega, ?_⟩;exact pure_ret (by rw [decide_dec]; exact congrArg AV.bool (dec_congr ⟨fun q=>⟨h0,q⟩,fun q=>q.2⟩)) (.refl _)
 ·rw [decide_eq_false h0];refine tt ?_;exact pure_ret (by rw [dec_f]; exact fun q=>h0 q.1) (.refl _)
theorem l28Matches_ok (B : Nat) (f : SF) (h : f.Shape) (x : Int) (s : List Int) (hs : f.shape.Sieve x s) (t : List Int) : Pur Tryz.prog B 91 [.agg f.cells,iL s,iL t] (.bool (dec (Fam f s t))):=by
 refine ⟨fun H0=>c91.go fun ⟨_,_,hf,_⟩=>?_⟩
 have hl:=fine_mL_le hf;simp only [maxL] at hl
 have hfr:=fam_rows h hs (t:=t)
 have hra:=fun r hr=>row_at h hs (r:=r) hr
 have h2l:=hs.len
 have h3l:=h.is.1.m
 have htl:=h.is.1.tol
 have hsl:=h.sl
 have hq:=l28Links_ok B f.shape h.is.1 s (fun a ha=>(hs.arr ha).1) (by omega)
 have hRl : (rowsOf f.shape s).length≤1600:=by
  have h1:=rowsTo_len f.shape s s.length
  have h4 : s.length*f.shape.frm.length≤40*40:=Nat.mul_le_mul (by omega) h3l;simp only [rowsOf];omega
 refine tt ?_;apply bk <;> intro h0
 ·have h0p : ¬ t.length=s.length:=by simpa using h0
  refine tt ?_;exact pure_ret (by rw [dec_f]; exact fun q=>h0p q.len) (.refl _)
 have h0p : t.length=s.length:=by simpa using h0
 refine tt ?_;refine awp_for [1,2,3] (G:=Unit) (fun k _=>[(7,some (.int .i64 (k : Int)))]) (fun k _ H=>H=H0∧∀ i,i<k→0≤t.getD i default∧t.getD i default<ix f.sizes (ix f.shape.to (s.getD i default))) s.length () ⟨rfl,by simp⟩ rfl ?_
 rintro k _ H hk ⟨rfl,hall⟩;refine tt ?_;apply bk <;> intro h1
 ·have h1p : k<s.length:=of_decide h1
  have w:=wsucc (k:=k) (by omega)
  have hm : s.getD k default∈s:=mem_getD.mpr ⟨k,h1p,rfl⟩
  have hv:=hs.arr hm
  have hto:=h.is.1.toObj hv.1.2
  have hel:=l19Element_ok B f (ix f.shape.to (s.getD k default)) (t.getD k default) hto hsl;refine tt ?_;refine ⟨h1p,⟨hv.1.1,by omega⟩,by omega,_,hel.run, ?_⟩
  by_cases hi : 0≤t.getD k default∧t.getD k default<ix f.sizes (ix f.shape.to (s.getD k default))
  ·rw [dec_t hi];refine tw w ?_;exact for_next () (by omega) ⟨rfl,lt_succ_all hall hi⟩ rfl
  ·rw [dec_f hi];refine tt ?_;exact pure_ret (by rw [dec_f]; exact fun q=>hi (q.ran k (by omega))) (.refl _)
 have h1p : ¬ k<s.length:=of_ndecide h1
 obtain rfl : k=s.length:=by omega
 refine tt ?_;refine hq.go fun _=>?_
 generalize rowsOf f.shape s=R at *;refine tt ?_;refine awp_for [2,3,8] (G:=Unit) (fun k _=>[(9,some (.int .i64 (k : Int)))]) (fun k _ H'=>H'=H∧∀ i,i<k→rowOk f t (R.getD i default)) R.length () ⟨rfl,by simp⟩ rfl ?_
 rintro k _ H' hk2 ⟨rfl,hall2⟩;refine tt ?_;apply bk <;> intro h2
 ·have h2p : k<R.length:=of_decide h2
  have w:=wsucc (k:=k) (by omega)
  have hm : R.getD k default∈R:=mem_getD.mpr ⟨k,h2p,rfl⟩
  have hr:=hra _ hm
  have ht:=hall ((R.getD k default).getD 0 default).toNat hr.2.1.2;refine tt ?_
  have hb : rowOk f t (R.getD k default)↔ix (ix f.acts (ix (R.getD k default) 1)) (ix t (ix (R.getD k default) 0))=ix t (ix (R.getD k default) 2):=Iff.rfl
  have hr3 : ∀ i : Int,0≤i∧i<3→0≤i∧i.toNat<(R.getD k default).length:=fun i hi=>by rw [hr.1]; omega
  refine ⟨h2p,hr3 1 (by omega),hr.2.2.1,h2p,hr3 0 (by omega),⟨hr.2.1.1,by rw [h0p]; exact hr.2.1.2⟩,⟨ht.1, ?_⟩,h2p,hr3 2 (by omega),⟨hr.2.2.2.1.1,by rw [h0p]; exact hr.2.2.2.1.2⟩, ?_⟩
  ·show (t.getD ((R.getD k default).getD 0 default).toNat default).toNat<(ix f.acts ((R.getD k default).getD 1 default)).length
   omega
  apply bk <;> intro h3
  ·have h3p : ¬ rowOk f t (R.getD k default):=by rw [hb]; simpa using h3
   refine tt ?_;exact pure_ret (by rw [dec_f]; exact fun q=>h3p ((hfr.mp q).2.2 _ hm)) (.refl _)
  ·have h3p : rowOk f t (R.getD k default):=by rw [hb]; simpa using h3
   refine tw w ?_;exact for_next () (by omega) ⟨rfl,lt_succ_all hall2 h3p⟩ rfl
 have h2p : ¬ k<R.length:=of_ndecide h2;refine tt ?_;exact pure_ret (by rw [dec_t]; exact hfr.mpr ⟨h0p,hall,all_getD.mpr fun i hi=>hall2 i (by omega)⟩) (.refl _)
open Classical in
/-- The code of a set functor, an object and a sieve. -/
noncomputable def sieveC (f : SF) (x : Int) (s : List Int) : Int:=if ¬ f.Is then 1 else if ¬ (0≤x∧x<f.shape.objs) then 2 else if ¬ f.shape.Sieve x s then 1 else 0
theorem sieveC_z {f : SF} {x : Int} {s : List Int} (h : sieveC f x s=0) : f.Is∧(0≤x∧x<f.shape.objs)∧f.shape.Sieve x s:=by
 unfold sieveC at h
 by_cases h1 : f.Is
 rotate_left
 ·rw [if_pos h1] at h; cases h
 rw [if_neg (fun q=>q h1)] at h
 by_cases h2 : 0≤x∧x<f.shape.objs
 rotate_left
 ·rw [if_pos h2] at h; cases h
 rw [if_neg (fun q=>q h2)] at h
 by_cases h3 : f.shape.Sieve x s
 ·exact ⟨h1,h2,h3⟩
 ·rw [if_pos h3] at h; cases h
theorem sieveCode_ok (B : Nat) (f : SF) (x : Int) (s : List Int) : Pur Tryz.prog B 88 [.ptr f.cells,iI x,iL s] (iI (sieveC f x s)):=by
 refine ⟨fun H0=>c88.go fun _=>?_⟩;refine tt ?_;refine (isSetFunctor_ok B f).go fun _=>?_
 by_cases h1 : f.Is
 rotate_left
 ·rw [dec_f h1];refine tt ?_;exact pure_ret (by rw [sieveC,if_pos h1]) (.refl _)
 rw [dec_t h1]
 have ho:=h1.1.is.1.o
 have w : IntKind.i64.wrap (f.shape.objs - 1)=f.shape.objs - 1:=wrap_i64 (by omega) (by omega);refine tw w ?_;refine (inRange_ok B x 0 (f.shape.objs - 1)).go fun _=>?_
 by_cases h2 : 0≤x∧x<f.shape.objs
 rotate_left
 ·rw [dec_f (show ¬ (0≤x∧x≤f.shape.objs - 1) by omega)];refine tt ?_;exact pure_ret (by rw [sieveC,if_neg (fun q=>q h1),if_pos h2]) (.refl _)
 rw [dec_t (show 0≤x∧x≤f.shape.objs - 1 by omega)];refine tt ?_;refine (isSieve_ok B f.shape h1.1.is.1 x s).go fun _=>?_
 by_cases h3 : f.shape.Sieve x s
 ·rw [dec_t h3];refine tt ?_;exact pure_ret (by rw [sieveC,if_neg (fun q=>q h1),if_neg (fun q=>q h2),if_neg (fun q=>q h3)]) (.refl _)
 ·rw [dec_f h3];refine tt ?_;exact pure_ret (by rw [sieveC,if_neg (fun q=>q h1),if_neg (fun q=>q h2),if_pos h3]) (.refl _)
theorem l28Sieve_ok (B : Nat) (f : SF) (x : Int) (s : List Int) : Pur Tryz.prog B 82 [.agg f.cells,iI x,iL s] (iI (sieveC f x s)):=by
 refine ⟨fun H0=>c82.go fun _=>?_⟩;refine tt ?_;refine (l19Is_ok B f).go fun _=>?_
 by_cases h1 : f.Is
 rotate_left
 ·rw [dec_f h1];refine tt ?_;exact pure_ret (by rw [sieveC,if_pos h1]) (.refl _)
 rw [dec_t h1];refine tt ?_;refine (l02Object_ok B f.shape x).go fun _=>?_
 by_cases h2 : 0≤x∧x<f.shape.objs
 rotate_left
 ·rw [dec_f h2];refine tt ?_;exact pure_ret (by rw [sieveC,if_neg (fun q=>q h1),if_pos h2]) (.refl _)
 rw [dec_t h2];refine tt ?_;refine (l25Sieve_ok B f.shape h1.1.is.1 x s).go fun _=>?_
 by_cases h3 : f.shape.Sieve x s
 ·rw [dec_t h3];refine tt ?_;exact pure_ret (by rw [sieveC,if_neg (fun q=>q h1),if_neg (fun q=>q h2),if_neg (fun q=>q h3)]) (.refl _)
 ·rw [dec_f h3];refine tt ?_;exact pure_ret (by rw [sieveC,if_neg (fun q=>q h1),if_neg (fun q=>q h2),if_pos h3]) (.refl _)
open Classical in
/-- What AmalgamationsOf hands back: its list, its code. -/
noncomputable def amR (f : SF) (x : Int) (s t : List Int) : AV:=if sieveC f x s=0 then (if Fam f s t then .tup [iL (glue f x s t),iI 0] else .tup [iL [],iI 5]) else .tup [iL [],iI (sieveC f x s)]
theorem sieve_glue {f : SF} {x : Int} {s : List Int} (h : f.Is) (hx : 0≤x∧x<f.shape.objs) (hs : f.shape.Sieve x s) : (0≤x∧x.toNat<f.sizes.length)∧ix f.sizes x≤17∧(∀ a,a∈s→0≤a∧a.toNat<f.acts.length)∧∀ a,a∈s→((ix f.acts a).length : Int)=ix f.sizes x:=by
 have h1:=h.1.sl
 have h2:=h.1.sizeAt hx
 have h3:=h.1.al;refine ⟨by omega,by omega,fun a ha=>by have:=hs.arr ha; omega,fun a ha=>?_⟩
 have hv:=hs.arr ha
 have:=h.1.actLen hv.1.2;rw [hv.2] at this; exact this
theorem implAmal_ok (B : Nat) (f : SF) (x : Int) (s t : List Int) : Pur Tryz.prog B 22 [.agg f.cells,iI x,iL s,iL t] (amR f x s t):=by
 refine ⟨fun H0=>c22.go fun _=>?_⟩;refine tt ?_;refine (sieveCode_ok B f x s).go fun _=>tt ?_
 by_cases h0 : sieveC f x s=0
 rotate_left
 ·refine ⟨fun _=>At.mk ?_,fun e=>absurd (by simpa using e) h0⟩;refine tt ?_;exact pure_ret (by rw [amR,if_neg h0]; rfl) (.refl _)
 refine ⟨fun e=>absurd h0 (by simpa using e),fun _=>At.mk ?_⟩
 obtain ⟨hf,hx,hs⟩:=sieveC_z h0
 obtain ⟨g1,g2,g3,g4⟩:=sieve_glue hf hx hs;refine tt ?_;refine (matches_ok B f hf.1 x s hs t).go fun _=>?_
 by_cases h1 : Fam f s t
 ·rw [dec_t h1];refine tt ?_;refine (amalgamations_ok B f x s t g1 g2 g3 g4).go fun _=>tt ?_;exact pure_ret (by rw [amR,if_pos h0,if_pos h1]) (.refl _)
 ·rw [dec_f h1];refine tt ?_;exact pure_ret (by rw [amR,if_pos h0,if_neg h1]; rfl) (.refl _)
theorem specAmal_ok (B : Nat) (f : SF) (x : Int) (s t : List Int) : Pur Tryz.prog B 23 [.agg f.cells,iI x,iL s,iL t] (amR f x s t):=by
 refine ⟨fun H0=>c23.go fun _=>?_⟩;refine tt ?_;refine (l28Sieve_ok B f x s).go fun _=>tt ?_
 by_cases h0 : sieveC f x s=0
 rotate_left
 ·refine ⟨fun _=>At.mk ?_,fun e=>absurd (by simpa using e) h0⟩;refine tt ?_;exact pure_ret (by rw [amR,if_neg h0]; rfl) (.refl _)
 refine ⟨fun e=>absurd h0 (by simpa using e),fun _=>At.mk ?_⟩
 obtain ⟨hf,hx,hs⟩:=sieveC_z h0
 obtain ⟨g1,g2,g3,g4⟩:=sieve_glue hf hx hs;refine tt ?_;refine (l28Matches_ok B f hf.1 x s hs t).go fun _=>?_
 by_cases h1 : Fam f s t
 ·rw [dec_t h1];refine tt ?_;refine (l28Glued_ok B f x s t g1 g2 g3 g4).go fun _=>tt ?_;exact pure_ret (by rw [amR,if_pos h0,if_pos h1]) (.refl _)
 ·rw [dec_f h1];refine tt ?_;exact pure_ret (by rw [amR,if_pos h0,if_neg h1]; rfl) (.refl _)
open Classical in
/-- What MatchingFamilies hands back. -/
noncomputable def mfR (f : SF) (x : Int) (s : List Int) : AV:=if sieveC f x s=0 then (if (famS f s).length≤200 then .tup [iLL (famS f s),iI 0] else .tup [iLL [],iI 3]) else .tup [iLL [],iI (sieveC f x s)]
theorem implFams_ok (B : Nat) (f : SF) (x : Int) (s : List Int) : Pur Tryz.prog B 25 [.agg f.cells,iI x,iL s] (mfR f x s):=by
 refine ⟨fun H0=>c25.go fun _=>?_⟩;refine tt ?_;refine (sieveCode_ok B f x s).go fun _=>tt ?_
 by_cases h0 : sieveC f x s=0
 rotate_left
 ·refine ⟨fun _=>At.mk ?_,fun e=>absurd (by simpa using e) h0⟩;refine tt ?_;exact pure_ret (by rw [mfR,if_neg h0]; rfl) (.refl _)
 refine ⟨fun e=>absurd h0 (by simpa using e),fun _=>At.mk ?_⟩
 obtain ⟨hf,hx,hs⟩:=sieveC_z h0;refine tt ?_;refine (families_ok B f hf.1 x s hs 200 (by omega)).go fun _=>?_
 by_cases h1 : (famS f s).length≤200
 ·rw [decide_eq_true h1,List.take_of_length_le (by omega)];refine tt ?_;exact pure_ret (by rw [mfR,if_pos h0,if_pos h1]) (.refl _)
 ·rw [decide_eq_false h1];refine tt ?_;exact pure_ret (by rw [mfR,if_pos h0,if_neg h1]; rfl) (.refl _)
theorem specFams_ok (B : Nat) (f : SF) (x : Int) (s : List Int) : Pur Tryz.prog B 26 [.agg f.cells,iI x,iL s] (mfR f x s):=by
 refine ⟨fun H0=>c26.go fun _=>?_⟩;refine tt ?_;refine (l28Sieve_ok B f x s).go fun _=>tt ?_
 by_cases h0 : sieveC f x s=0
 rotate_left
 ·refine ⟨fun _=>At.mk ?_,fun e=>absurd (by simpa using e) h0⟩;refine tt ?_;exact pure_ret (by rw [mfR,if_neg h0]; rfl) (.refl _)
 refine ⟨fun e=>absurd h0 (by simpa using e),fun _=>At.mk ?_⟩
 obtain ⟨hf,hx,hs⟩:=sieveC_z h0;refine tt ?_;refine (l28Families_ok B f x s hf.1 hs 201 (by omega) (by omega)).go fun _=>?_
 have hlen : ((famS f s).take 201).length=min 201 (famS f s).length:=List.length_take;refine tt ?_;apply bk <;> intro h1
 ·have h1p : ¬ (famS f s).length≤200:=by have:=of_decide h1; omega
  refine tt ?_;exact pure_ret (by rw [mfR,if_pos h0,if_neg h1p]; rfl) (.refl _)
 ·have h1p : (famS f s).length≤200:=by have:=of_ndecide h1; omega
  refine tt ?_;exact pure_ret (by rw [mfR,if_pos h0,if_pos h1p,List.take_of_length_le (by omega)]) (.refl _)
theorem hasRow5_ok (B : Nat) (l : List (List Int)) (r : List Int) : Pur Tryz.prog B 28 [iLL l,iL r] (.bool (dec (r∈l))):=by
 refine ⟨fun H0=>c28.go fun ⟨hf,_⟩=>?_⟩
 have hl:=fine_mL_le hf;simp only [maxL] at hl;refine tt ?_;refine awp_for [0,1] (fun k _=>[(5,some (.int .i64 (k : Int)))]) (fun k _ H=>H=H0∧∀ i,i<k→l.getD i default≠r) l.length () ⟨rfl,by simp⟩ rfl ?_
 rintro k _ H hk ⟨rfl,hall⟩;refine tt ?_;apply bk <;> intro h1
 ·have h1p : k<l.length:=of_decide h1
  have w:=wsucc (k:=k) (by omega);refine tt ?_;refine ⟨h1p, ?_⟩;refine (likeInts_ok B (l.getD k default) r).go fun _=>?_
  by_cases h2 : l.getD k default=r
  ·rw [dec_t h2];refine tt ?_;exact pure_ret (by rw [dec_t]; exact mem_getD.mpr ⟨k,h1p,h2⟩) (.refl _)
  ·rw [dec_f h2];refine tw w ?_;exact for_next () (by omega) ⟨rfl,lt_succ_all hall h2⟩ rfl
 ·have h1p : ¬ k<l.length:=of_ndecide h1
  have hn : ¬ r∈l:=fun q=>by
   obtain ⟨i,hi,e⟩:=mem_getD.mp q;exact hall i (by omega) e
  refine tt ?_;exact pure_ret (by rw [dec_f hn]) (.refl _)
end Go.Proofs.Shf
namespace Go.Shf
open Go.AW
def offs (ms : List (Nat × List Bool)) : Nat:=(ms.map fun m=>(m.2.filter fun b=>!b).length).sum
theorem filt_set (l : List Bool) (y : Nat) (h : y<l.length) (h0 : l.getD y default=false) : ((l.set y true).filter fun b=>!b).length+1=(l.filter fun b=>!b).length:=by
 induction l generalizing y with
 | nil=>simp at h
 | cons a l ih =>
  cases y with
  | zero =>
   simp only [List.getD_cons_zero] at h0;subst h0
   simp [List.set]
  | succ y =>
   have:=ih y (by simpa using h) (by simpa using h0);simp only [List.set,List.filter_cons]
   split <;> simp_all <;> omega
theorem offs_set (ms : List (Nat × List Bool)) (x y : Nat) (hx : x<ms.length) (hy : y<(ms.getD x default).2.length) (h0 : (ms.getD x default).2.getD y default=false) :
  offs (ms.set x ((ms.getD x default).1,(ms.getD x default).2.set y true))+1=offs ms:=by
 induction ms generalizing x with
 | nil=>simp at hx
 | cons a ms ih =>
  cases x with
  | zero =>
   simp only [List.getD_cons_zero] at hy h0 ⊢
   have:=filt_set a.2 y hy h0;simp only [offs,List.set,List.map_cons,List.sum_cons];omega
  | succ x =>
   have:=ih x (by simpa using hx) (by simpa using hy) (by simpa using h0);simp only [List.getD_cons_succ,offs,List.set,List.map_cons,List.sum_cons] at this ⊢;omega
theorem mark_set {L : List (List (List Int))} {ms : List (Nat × List Bool)} (hM : MarkOk L (ms.map Prod.snd)) (x y : Nat) (hx : x<ms.length) (b : Bool) : MarkOk L ((ms.set x ((ms.getD x default).1,(ms.getD x default).2.set y b)).map Prod.snd):=by
 refine ⟨by simpa using hM.len,fun z hz=>?_⟩
 have hz2:=hM.row z hz
 have hl : z<ms.length:=by have:=hM.len; simp at this; omega
 rw [map_getD _ (by simpa using hl)] at ⊢;rw [map_getD _ hl] at hz2;rw [getD_set]
 split
 ·rename_i e
  obtain ⟨rfl,_⟩:=e;simp only [List.length_set]; exact hz2
 ·exact hz2
end Go.Shf
namespace Go.Proofs.Shf
open Go.AW Go.Proofs Go.Shf
def StepK (L : List (List (List Int))) (ms : List (Nat × List Bool)) (id : Nat) (l : Ob) (H0 : Heap) : Kont:=fun r H' =>
 (r=.bool false∧Owns H0 H' ((id,.cells 1 (ms.map bufE) 0)::(inner AV.bool ms++l))) ∨
 (r=.bool true∧∃ ms' : List (Nat × List Bool),ms'.length=ms.length∧MarkOk L (ms'.map Prod.snd)∧offs ms'<offs ms∧Owns H0 H' ((id,.cells 1 (ms'.map bufE) 0)::(inner AV.bool ms'++l)))
theorem l27Step_own (B : Nat) (c : Cat) (L : List (List (List Int))) (t : TabOk c L) (ms : List (Nat × List Bool)) (hM : MarkOk L (ms.map Prod.snd)) (id : Nat) (H0 H : Heap) (l : List (Nat × MObj))
  (o : Owns H0 H ((id,.cells 1 (ms.map bufE) 0)::(inner AV.bool ms++l))) :
  CallH Tryz.prog B 296 [.agg (tabCells c L),.buf id ms.length] H (StepK L ms id l H0):=by
 refine c296p.go fun _=>?_
 have hm:=t.is.1.m
 have hto:=t.is.1.tol
 have hml:=hM.len
 have hmM : (ms.map Prod.snd).length=ms.length:=List.length_map ..
 have htp:=tops_len (c:=c) (L:=L)
 have hpl:=pulls_len (c:=c) (L:=L)
 have hLo:=t.len
 have hob:=t.is.1.o
 have gM : ∀ x : Nat,x<ms.length→((ms.getD x default).2).length=(L.getD x default).length:=fun x hx=>by rw [← map_snd_get ms hx]; exact hM.row x (by omega)
 have mgM : ∀ (x : Nat) (k : Int),x<ms.length→mg (ms.map Prod.snd) x k=ix (ms.getD x default).2 k:=fun x k hx=>by rw [mg,ix_nat,map_snd_get ms hx]
 have stop : ∀ {Hn : Heap} {v : AV} {x y : Nat},x<ms.length→y<(ms.getD x default).2.length→(ms.getD x default).2.getD y default=false →
   Owns H0 Hn ((id,.cells 1 ((ms.set x ((ms.getD x default).1,(ms.getD x default).2.set y true)).map bufE) 0)::(inner AV.bool (ms.set x ((ms.getD x default).1,(ms.getD x default).2.set y true))++l))→v=.bool true→subW (StepK L ms id l H0) v Hn:=by
  intro Hn v x y hx hy h0 o h3
  have:=offs_set ms x y hx hy h0;exact ⟨Hn,.refl _,.inr ⟨h3,_,by simp,mark_set hM x y hx true,by omega,o⟩⟩
 refine tt ?_;refine awp_for [1,2] (fun x _=>[(5,some (.int .i64 (x : Int)))]) (fun x _ H'=>H'=H∧∀ y,y<x→XOk c L (ms.map Prod.snd) y) ms.length () ⟨rfl,by simp⟩ rfl ?_
 rintro x _ H' hxl ⟨rfl,hall⟩;refine tt ?_;apply bk <;> intro h1
 rotate_left
 ·refine tt ?_
  have h1p:=dd h1;exact ⟨H',.refl _,.inl ⟨rfl,o⟩⟩
 refine tt ?_
 have h1p:=dd h1
 have w1:=wsucc (k:=x) (by omega)
 have htop:=t.top (x:=x) (by omega)
 have hrow:=gM x h1p
 have hfew:=t.few x (by omega)
 have hgx:=o.inner_get h1p;refine ⟨h1p,rd_own o h1p ?_⟩;refine tt ?_;refine ⟨by omega,⟨htop.1.1,by omega⟩,rd_inner hgx (by omega) ?_⟩;refine tt ?_;apply bk <;> intro h2
 ·refine tw h2 ?_
  have h2p:=dd h2;refine ⟨h1p,rd_own o h1p ?_⟩;refine tt ?_;refine ⟨by omega,⟨htop.1.1,by omega⟩, ?_⟩;refine st_inner o (by omega) (by omega) true rfl fun H o=>tt ?_;exact stop (by omega) (by omega) (by assumption) o rfl
 refine tw h2 ?_
 have h2p:=dd h2
 have hxt : mg (ms.map Prod.snd) x ((topsOf c L).getD x default)=true:=by rw [mgM _ _ h1p]; exact h2p
 refine awp_for [1,2,5] (fun s _=>[(6,some (.int .i64 (s : Int)))]) (fun s _ H2=>H2=H'∧∀ y,y<s→SOk c L (ms.map Prod.snd) x y) (ms.getD x default).2.length () ⟨rfl,by simp⟩ rfl ?_
 rintro s _ H2 hsl ⟨rfl,hsall⟩;refine tt ?_;refine ⟨h1p,rd_own o h1p ?_⟩;refine tt ?_;apply bk <;> intro h3
 rotate_left
 ·refine tw w1 ?_
  have h3p:=dd h3;exact for_next () h1p ⟨rfl,lt_succ_all hall ⟨hxt,fun y hy=>hsall y (by rw [map_snd_get ms h1p] at hy; omega)⟩⟩ rfl
 refine tt ?_
 have h3p:=dd h3
 have w3:=wsucc (k:=s) (by omega);refine ⟨h1p,rd_own o h1p ?_⟩;refine tt ?_;refine ⟨h3p,rd_inner hgx h3p ?_⟩;refine tt ?_;apply bk <;> intro h4
 ·try simp only [go_sem,↓reduceIte,reduceEqDiff,reduceAdd,reduceMul,reduceLeDiff,reduceLT,h4,w3]
  have h4p:=dd h4;exact for_next () h3p ⟨rfl,lt_succ_all hsall fun e=>by rw [map_snd_get ms h1p,h4p] at e; cases e⟩ rfl
 refine tw h4 ?_
 have h4p:=dd h4;refine awp_for [1,2,5,6] (fun a _=>[(7,some (.int .i64 (a : Int)))]) (fun a _ H3=>H3=H2∧∀ y,y<a→AOk c L (ms.map Prod.snd) x s y) c.frm.length () ⟨rfl,by simp⟩ rfl ?_
 rintro a _ H3 hal ⟨rfl,haall⟩;refine tt ?_;rw [hpl];refine tt ?_;apply bk <;> intro h5
 ·refine tt ?_
  have h5p:=dd h5
  have w5:=wsucc (k:=a) (by omega)
  have haa : 0≤(a : Int)∧(a : Int).toNat<c.frm.length:=⟨by omega,by simpa using h5p⟩;refine ⟨h5p, ?_⟩;apply bk <;> intro h6
  rotate_left
  ·try simp only [go_sem,↓reduceIte,reduceEqDiff,reduceAdd,reduceMul,reduceLeDiff,reduceLT,h6,w5]
   have h6p:=dd h6;exact for_next () h5p ⟨rfl,lt_succ_all haall fun e=>absurd e h6p⟩ rfl
  refine tw h6 ?_
  have h6p:=dd h6
  have hto:=t.to haa;simp only [ix_nat,toNat_nat] at hto
  have hpr:=pulls_row (L:=L) haa;simp only [ix_nat] at hpr
  have hsr : s<(ix L (ix c.frm a)).length:=by rw [ix_nat,h6p,ix_nat,← hrow]; exact h3p
  have hp:=(t.pull haa hsr).1;simp only [ix_nat] at hp
  have hy : (c.to.getD a default).toNat<ms.length:=by omega
  have hgy:=o.inner_get hy
  have hrowy:=gM _ hy
  have hix : ix ms (c.to.getD a default)=ms.getD (c.to.getD a default).toNat default:=rfl
  have hixL : ix L (c.to.getD a default)=L.getD (c.to.getD a default).toNat default:=rfl;simp only [ix_nat] at hsr;rw [hixL] at hp;refine ⟨by omega,⟨hto.1,hy⟩,rd_own o hy ?_⟩;refine tt ?_;refine ⟨by omega,by omega,⟨hp.1,by omega⟩,rd_inner hgy (by omega) ?_⟩;refine tt ?_
  have hmg : mg (ms.map Prod.snd) (c.to.getD a default) (((pullsOf c L).getD a default).getD s default)=(ms.getD (c.to.getD a default).toNat default).2.getD (((pullsOf c L).getD a default).getD s default).toNat default:=by
   have:=mgM (c.to.getD a default).toNat (((pullsOf c L).getD a default).getD s default) hy;rw [Int.toNat_of_nonneg hto.1] at this;rw [this]; rfl
  apply bk <;> intro h7
  ·refine tw h7 ?_
   have h7p:=dd h7;refine ⟨by omega,⟨hto.1,hy⟩,rd_own o hy ?_⟩;refine tt ?_;refine ⟨by omega,by omega,⟨hp.1,by omega⟩, ?_⟩;refine st_inner o (by omega) (by omega) true rfl fun H o=>tt ?_;exact stop (by omega) (by omega) (by assumption) o rfl
  ·try simp only [go_sem,↓reduceIte,reduceEqDiff,reduceAdd,reduceMul,reduceLeDiff,reduceLT,h7,w5]
   have h7p:=dd h7;exact for_next () h5p ⟨rfl,lt_succ_all haall fun _=>by rw [hmg]; exact h7p⟩ rfl
 ·refine tt ?_
  have h5p:=dd h5
  have ha0 : ∀ y,y<c.frm.length→AOk c L (ms.map Prod.snd) x s y:=fun y hy=>haall y (by omega);refine awp_for [1,2,5,6] (fun k _=>[(8,some (.int .i64 (k : Int)))]) (fun k _ H4=>H4=H3∧∀ y,y<k→KOk c L (ms.map Prod.snd) x s y) (ms.getD x default).2.length () ⟨rfl,by simp⟩ rfl ?_
  rintro k _ H4 hkl ⟨rfl,hkall⟩;refine tt ?_;refine ⟨h1p,rd_own o h1p ?_⟩;refine tt ?_;apply bk <;> intro h8
  ·refine tt ?_
   have h8p:=dd h8
   have w8:=wsucc (k:=k) (by omega);refine ⟨h1p,rd_own o h1p ?_⟩;refine tt ?_;refine ⟨h8p,rd_inner hgx h8p ?_⟩;refine tt ?_;apply bk <;> intro h9
   ·refine tw h9 ?_
    have h9p:=dd h9
    refine CallH.lentPure (r:=.bool (dec (LocP c L (ms.map Prod.snd) x s k))) (es:=[.agg (tabCells c L),bLL (ms.map Prod.snd),.int .i64 x,.int .i64 s,.int .i64 k]) (.bool _) rfl (fun i hi=>?_)
     (l27Local_ok B c L t (ms.map Prod.snd) hM x s k (by omega) (by omega) (by omega)).run ?_
    ·obtain rfl | rfl | rfl | rfl | rfl : i=0∨i=1∨i=2∨i=3∨i=4:=by simp only [List.length_cons,List.length_nil] at hi; omega
     ·exact val_arg _
     ·exact lent_nest o rfl
     ·exact val_arg _
     ·exact val_arg _
     ·exact val_arg _
    refine tt ?_;apply bk <;> intro h10
    ·refine tt ?_
     have h10p:=dd h10;refine ⟨h1p,rd_own o h1p ?_⟩;refine tt ?_;refine ⟨h8p, ?_⟩;refine st_inner o (by omega) (by omega) true rfl fun H o=>tt ?_;exact stop (by omega) (by omega) (by assumption) o rfl
    ·refine tw w8 ?_
     have h10p:=dd h10;exact for_next () h8p ⟨rfl,lt_succ_all hkall (.inr h10p)⟩ rfl
   ·try simp only [go_sem,↓reduceIte,reduceEqDiff,reduceAdd,reduceMul,reduceLeDiff,reduceLT,h9,w8]
    have h9p:=dd h9;exact for_next () h8p ⟨rfl,lt_succ_all hkall (.inl (by rw [map_snd_get ms h1p]; exact h9p))⟩ rfl
  ·refine tw w3 ?_
   have h8p:=dd h8;exact for_next () h3p ⟨rfl,lt_succ_all hsall fun _=>⟨ha0,fun y hy=>hkall y (by rw [map_snd_get ms h1p] at hy; omega)⟩⟩ rfl
end Go.Proofs.Shf
namespace Go.Shf
open Go.AW
theorem getD_l {α : Type} {a b : List α} {i : Nat} {d : α} (h : i<a.length) : (a++b).getD i d=a.getD i d:=by
 rw [List.getD_eq_getElem?_getD,List.getElem?_append_left h,← List.getD_eq_getElem?_getD]
theorem getD_r {α : Type} {a b : List α} {i : Nat} {d : α} (h : a.length≤i) : (a++b).getD i d=b.getD (i - a.length) d:=by
 rw [List.getD_eq_getElem?_getD,List.getElem?_append_right h,← List.getD_eq_getElem?_getD]
end Go.Shf
namespace Go.Proofs.Shf
open Go.AW Go.Proofs Go.Shf
theorem l27Base_ok (B : Nat) : Rd B 288 [] (CatQ 20000):=by
 intro id s H0 H hs o;refine c288.go fun _=>?_;refine tt ?_;refine newRef_own o fun id2 H o=>tt ?_;refine (l01Next_ok B 20).go hs o.swap fun r s H _ ⟨k,e,_⟩ hs o=>?_;subst e;refine tt ?_;apply bk <;> intro h1
 ·refine tt ?_;refine (l02Some_ok B 6 24).go hs o fun r s H _ ⟨c,e,h1⟩ hs o=>?_;subst e;refine tt ?_;refine sw o.swap fun H o=>tt ?_
  have hr:=o.rc 5 0 (by simp);simp only [List.drop_zero] at hr;rw [hr];refine tt ?_;exact src_ret ⟨c,rfl,h1⟩ hs o.swap
 ·refine tt ?_;refine (l02Some_ok B 4 9).go hs o fun r s H _ ⟨c,e,h1⟩ hs o=>?_;subst e;refine tt ?_;refine sw o.swap fun H o=>tt ?_
  have hr:=o.rc 5 0 (by simp);simp only [List.drop_zero] at hr;rw [hr];refine tt ?_;exact src_ret ⟨c,rfl,h1⟩ hs o.swap
def CatK (c : Cat) (H0 : Heap) : Kont:=fun r H'=>(∃ cod,cod≠0∧r=.tup [.agg [.int .i64 0,.nilsl,.nilsl,.nilsl,.nilsl,.nilsl,.nilsl,.nilsl],.nilsl,iI cod]∧H'=H0) ∨
 ((c.Is∧AllFew c)∧∃ (id : Nat) (ms : List (Nat × List Bool)),r=.tup [.agg (tabCells c (listsOf c)),.buf id ms.length,iI 0]∧MarkOk (listsOf c) (ms.map Prod.snd)∧Owns H0 H' ((id,.cells 1 (ms.map bufE) 0)::inner AV.bool ms))
theorem l27Category_own (B : Nat) (c : Cat) (H0 : Heap) : CallH Tryz.prog B 289 [.agg c.cells] H0 (CatK c H0):=by
 refine c289p.go fun _=>?_
 have o : Owns H0 H0 []:=.nil _;refine tt ?_;refine nb o fun id2 H o=>tt ?_;refine (l02Is_ok B c).go fun _=>?_
 by_cases hc : c.Is
 rotate_left 1
 ·rw [dec_f hc];refine tt ?_;refine sw o fun H o=>tt ?_
  have hr:=o.rc 8 0 (by simp);simp only [List.drop_zero] at hr;rw [hr];refine tt ?_;exact ⟨H0,o.sub,.inl ⟨1,by decide,rfl,rfl⟩⟩
 rw [dec_t hc];refine tt ?_;refine (l27Make_ok B c hc).go fun _=>?_
 by_cases hf : AllFew c
 rotate_left 1
 ·rw [dec_f hf,tabA_f hf];refine tt ?_;refine nb o fun id5 H o=>tt ?_;refine sw o fun H o=>tt ?_;refine sw o.swap fun H o=>tt ?_
  have hr:=o.rc 8 0 (by simp);simp only [List.drop_zero] at hr;rw [hr];refine tt ?_;exact ⟨H0,o.sub,.inl ⟨3,by decide,rfl,rfl⟩⟩
 rw [dec_t hf,tabA_t hf]
 have hL : (listsOf c).length=c.objs.toNat:=by simp [listsOf]
 have hT:=tabOk hc hf;refine tt ?_;refine nb o fun id5 H o=>tt ?_;refine sw o fun H o=>tt ?_;refine newBuf_own o fun idM H o=>tt ?_
 refine awp_for [2,5] (G:=Nat × List (Nat × List Bool)) (fun k g=>[(7,some (.buf g.1 g.2.length)),(8,some (.int .i64 (k : Int)))])
  (fun k g H=>(g.2.length=k∧∀ x,x<k→(g.2.getD x default).2.length=((listsOf c).getD x default).length)∧Owns H0 H ((g.1,.cells 1 (g.2.map bufE) 0)::(inner AV.bool g.2++[(id5,MObj.cells 8 (tabCells c (listsOf c)) 0),(id2,MObj.cells 8 [.int .i64 0,.nilsl,.nilsl,.nilsl,.nilsl,.nilsl,.nilsl,.nilsl] 0)]))) (listsOf c).length (idM,[]) ⟨⟨rfl,fun x hx=>by omega⟩,o⟩ rfl ?_
 clear o
 rintro k ⟨idM,ms⟩ H hk ⟨⟨hl,hrow⟩,o⟩;dsimp only at hl hrow o
 have g5 : H.get id5=some (MObj.cells 8 (tabCells c (listsOf c)) 0):=o.get (id5,MObj.cells 8 (tabCells c (listsOf c)) 0) (by simp)
 have hob:=hc.1.o;refine tt ?_;refine rd_get g5 (by simp [tabCells]) ?_;refine tt ?_;apply bk <;> intro h1
 ·have h1p:=of_decide h1
  have w:=wsucc (k:=k) (by omega)
  have hfew:=hT.few k h1p;refine tt ?_;refine rd_get g5 (by simp [tabCells]) ?_;refine tt ?_;refine ⟨h1p,tt ?_⟩;refine ⟨⟨by omega,by simp only [maxL]; omega⟩,mks_list AV.bool false rfl o fun idr H o=>?_⟩;refine tt ?_;refine app_own (f:=bufE) (idr,List.replicate ((listsOf c).getD k default).length false) o.swap (by simp [bufE]) rfl (by simp only [maxL]; omega) fun idM H o=>?_;refine tw w ?_;refine for_next (idM,ms++[(idr,List.replicate ((listsOf c).getD k default).length false)]) h1p ⟨⟨by simp [hl],fun x hx=>?_⟩, ?_⟩ rfl
  ·show ((ms++[_]).getD x default).2.length=_
   by_cases e : x<k
   ·rw [getD_l (by omega)]; exact hrow x e
   ·have ex : x=k:=by omega
    rw [getD_r (by omega),ex,hl,Nat.sub_self]; simp
  ·refine o.perm (.cons _ ?_);simp only [inner,List.map_append,List.map_cons,List.map_nil,List.append_assoc,List.cons_append,List.nil_append];exact List.perm_middle.symm
 ·have h1p : k=(listsOf c).length:=by have:=of_ndecide h1; omega
  refine tt ?_
  have o : Owns H0 H ((id5,MObj.cells 8 (tabCells c (listsOf c)) 0)::(id2,MObj.cells 8 [.int .i64 0,.nilsl,.nilsl,.nilsl,.nilsl,.nilsl,.nilsl,.nilsl] 0)::(idM,.cells 1 (ms.map bufE) 0)::inner AV.bool ms):=o.pm;refine rd_celln o (by simp [tabCells]) ?_;refine tt ?_;refine st_cells o.swap (by simp) (by simp [tabCells]) (by first | (simp only [go_sem]; done) | ((try simp only [go_sem]); simp [AV.one,one_mL])) fun H o=>?_;simp only [wr_cons,wr_nil,List.set_cons_zero,List.set_cons_succ] at o;refine tt ?_
  have hr:=o.rc 8 0 (by simp);simp only [List.drop_zero] at hr;rw [hr];refine tt ?_;refine ⟨H,.refl _,.inr ⟨⟨hc,hf⟩,idM,ms,rfl,⟨by simp [hl,h1p],fun x hx=>?_⟩,o.tl.tl⟩⟩;rw [map_getD _ (by omega)]; exact hrow x (by omega)
theorem l27Spread_own (B : Nat) (c : Cat) (L : List (List (List Int))) (t : TabOk c L) (ms : List (Nat × List Bool)) (hM : MarkOk L (ms.map Prod.snd)) (id : Nat) (H0 H : Heap) (l : Ob)
  (o : Owns H0 H ((id,.cells 1 (ms.map bufE) 0)::(inner AV.bool ms++l))) :
  CallH Tryz.prog B 290 [.agg (tabCells c L),.buf id ms.length] H (fun r H'=>r=.tup []∧∃ ms' : List (Nat × List Bool),ms'.length=ms.length∧MarkOk L (ms'.map Prod.snd)∧Owns H0 H' ((id,.cells 1 (ms'.map bufE) 0)::(inner AV.bool ms'++l))):=by
 refine c290.go fun _=>?_
 obtain ⟨n,hn⟩ : ∃ n,ms.length=n:=⟨_,rfl⟩;rw [hn];refine tt ?_;refine awp_while [1,2] (G:=List (Nat × List Bool)) (fun _=>[]) (fun m ms' H=>m=offs ms'∧ms'.length=n∧MarkOk L (ms'.map Prod.snd)∧Owns H0 H ((id,.cells 1 (ms'.map bufE) 0)::(inner AV.bool ms'++l))) (offs ms) ms ⟨rfl,hn,hM,o⟩ rfl ?_;clear o
 rintro m ms' H ⟨rfl,hl,hM',o⟩
 have hcall:=l27Step_own B c L t ms' hM' id H0 H l o;rw [hl] at hcall;refine tt ?_;refine hcall.mono ?_
 rintro r H' (⟨rfl,o⟩ | ⟨rfl,ms2,hl2,hM2,hlt,o⟩)
 ·refine tt ?_;exact ⟨H',.refl _,rfl,ms',hl,hM',o⟩
 ·refine tt ?_;exact while_next (offs ms2) ms2 hlt ⟨rfl,hl2.trans hl,hM2,o⟩ rfl
def TopO (c : Cat) (C : List (List (List Int))) (p : Ob) (X : AV) : Prop:=∃ (idC : Nat) (Xs : List AV) (ob : Ob),X=.agg [iI c.objs,iL c.frm,iL c.to,iL c.idn,iLL c.comp,.buf idC Xs.length]∧LsR iL Xs C ob∧(Xs.length≤1000∧∀ r,r∈C→r.length≤1000)∧p=(idC,.cells 1 Xs 0)::ob
@[go_sem] def tpO (c : Cat) (X : AV) : MObj:=.cells 6 [iI c.objs,iL c.frm,iL c.to,iL c.idn,iLL c.comp,X] 0
theorem l27Covers_new (B : Nat) (c : Cat) (hc : c.Is) (L : List (List (List Int))) (t : TabOk c L) (M : List (List Bool)) (hM : MarkOk L M) : New Tryz.prog B 291 [.agg (tabCells c L),mL (mL AV.bool) M] (fun p X=>∃ C,TopO c C p X):=by
 refine ⟨fun H0=>c291.go fun _=>?_⟩
 have o : Owns H0 H0 []:=.nil _
 have hob:=hc.1.o
 have hLl:=t.len
 have hMl:=hM.len;refine tt ?_;refine nb o fun id4 H o=>tt ?_;refine (l02Own_ok B c).go fun _=>tt ?_;refine newBuf_own o fun idC H o=>tt ?_;refine nb o fun id5 H o=>tt ?_;refine sw o fun H o=>tt ?_
 have o : Owns H0 H ((id5,tpO c (.buf idC ([] : List AV).length))::(idC,.cells 1 [] 0)::([]++[(id4,MObj.cells 6 [.int .i64 0,.nilsl,.nilsl,.nilsl,.nilsl,.nilsl] 0)])):=o
 refine awp_for [1,2,4,5] (G:=Nat × List AV × Ob × List (List (List Int))) (fun x _=>[(6,some (.int .i64 (x : Int)))])
  (fun x g H=>LsR iL g.2.1 g.2.2.2 g.2.2.1∧(g.2.1.length=x∧∀ r,r∈g.2.2.2→r.length≤1000)∧Owns H0 H ((id5,tpO c (.buf g.1 g.2.1.length))::(g.1,.cells 1 g.2.1 0)::(g.2.2.1++[(id4,MObj.cells 6 [.int .i64 0,.nilsl,.nilsl,.nilsl,.nilsl,.nilsl] 0)]))) M.length (idC,[],[],[]) ⟨.nil,⟨rfl,by simp⟩,o⟩ rfl ?_
 clear o
 rintro x ⟨idC,Xs,ob,C⟩ H hx ⟨hX,⟨hXl,hCr⟩,o⟩;dsimp only at hX hXl hCr o;refine tt ?_;apply bk <;> intro h1
 ·have h1p:=of_decide h1
  have w:=wsucc (k:=x) (by omega)
  have hrow:=hM.row x (by omega)
  have hfew:=t.few x (by omega);refine tt ?_;refine newBuf_own o fun idr H o=>tt ?_
  refine awp_for [1,2,4,5,6] (G:=Nat × List (List Int)) (fun k g=>[(7,some (.buf g.1 g.2.length)),(8,some (.int .i64 (k : Int)))])
   (fun k g H=>g.2.length≤k∧Owns H0 H ((g.1,.cells 1 (g.2.map iL) 0)::(id5,tpO c (.buf idC Xs.length))::(idC,.cells 1 Xs 0)::(ob++[(id4,MObj.cells 6 [.int .i64 0,.nilsl,.nilsl,.nilsl,.nilsl,.nilsl] 0)]))) (M.getD x default).length (idr,[]) ⟨by simp,o⟩ rfl ?_
  clear o
  rintro k ⟨idr,A⟩ H hk ⟨hA,o⟩;dsimp only at hA o;refine tt ?_;refine ⟨h1p, ?_⟩;apply bk <;> intro h2
  ·have h2p:=of_decide h2
   have wk:=wsucc (k:=k) (by omega);refine tt ?_;refine ⟨h1p,h2p, ?_⟩
   cases hb : (M.getD x default).getD k default with
   | false =>
    refine tw wk ?_;exact for_next (idr,A) h2p ⟨by show A.length≤_; omega,o⟩ rfl
   | true =>
    refine tt ?_;refine ⟨by omega,by omega, ?_⟩;refine (l01Own_ok ..).go fun _=>tt ?_;refine app_own (f:=iL) ((L.getD x default).getD k default) o rfl rfl (by simp only [maxL]; omega) fun idr H o=>?_;refine tw wk ?_;exact for_next (idr,A++[(L.getD x default).getD k default]) h2p ⟨by simp; omega,o⟩ rfl
  ·have h2p : k=(M.getD x default).length:=by have:=of_ndecide h2; omega
   refine tt ?_;refine rd_cells o.tl (by simp) ?_;refine tt ?_
   have o : Owns H0 H ((idC,.cells 1 Xs 0)::((idr,.cells 1 (A.map iL) 0)::(ob++[(id5,tpO c (.buf idC Xs.length)),(id4,MObj.cells 6 [.int .i64 0,.nilsl,.nilsl,.nilsl,.nilsl,.nilsl] 0)]))):=o.pm;refine app_raw o rfl rfl rfl (by simp only [maxL]; omega) fun idD H o=>tt ?_
   have o : Owns H0 H ((id5,tpO c (.buf idC Xs.length))::(idD,.cells 1 (Xs++[AV.buf idr A.length]) 0)::(idr,.cells 1 (A.map iL) 0)::(ob++[(id4,MObj.cells 6 [.int .i64 0,.nilsl,.nilsl,.nilsl,.nilsl,.nilsl] 0)])):=o.pm;refine sw o fun H o=>?_;refine tw w ?_
   have hXs : (Xs++[AV.buf idr A.length]).length=Xs.length+1:=by simp
   refine for_next (idD,Xs++[AV.buf idr A.length],ob++[(idr,MObj.cells 1 (A.map iL) 0)],C++[A]) h1p ⟨hX.snoc' (.inr ⟨idr,rfl,rfl⟩),⟨by simp [hXl],fun r hr=>?_⟩, ?_⟩ rfl;rotate_left 1;simp only [tpO];rw [hXs];exact o.pm
   rcases List.mem_append.mp hr with h | h
   ·exact hCr r h
   ·rw [List.mem_singleton] at h; subst h; omega
 ·refine tt ?_
  have o : Owns H0 H ((id5,tpO c (.buf idC Xs.length))::(id4,MObj.cells 6 [.int .i64 0,.nilsl,.nilsl,.nilsl,.nilsl,.nilsl] 0)::(idC,.cells 1 Xs 0)::ob):=o.pm;refine rd_celln o (by simp) ?_;refine tt ?_;refine sw o.swap fun H o=>tt ?_
  have hr2:=o.rc 6 0 (by simp);simp only [List.drop_zero] at hr2;rw [hr2];refine tt ?_;exact ⟨H,.refl H,_,⟨C,idC,Xs,ob,rfl,hX,⟨by omega,hCr⟩,rfl⟩,o.tl.tl⟩
def TopS (id : Nat) (c : Cat) (H0 : Heap) (l : Ob) : Kont:=fun r H'=>∃ (s' : Src) (C : List (List (List Int))) (p : Ob),s'.Ok∧TopO c C p r∧Owns H0 H' ((id,s'.obj)::(p++l))
theorem l27Some_own (B : Nat) (c : Cat) {id : Nat} {s : Src} {H0 H : Heap} {l : Ob} (hs : s.Ok) (o : Owns H0 H ((id,s.obj)::l)) : CallH Tryz.prog B 252 [.ref id 0,.agg c.cells] H (TopS id c H0 l):=by
 refine c252p.go fun _=>?_;refine tt ?_;refine nb o fun id4 H o=>tt ?_;refine (l27Category_own B c H).mono ?_
 rintro r H' (⟨cod,hcod,rfl,rfl⟩ | ⟨⟨hc,hf⟩,idM,ms,rfl,hM,o2⟩)
 ·refine ⟨trivial,tt ?_⟩;refine nb o fun id5 H o=>tt ?_;refine sw o fun H o=>tt ?_;rw [decide_eq_false hcod];refine tt ?_;refine newBuf_own o fun idC H o=>tt ?_;refine sw (o.pull [_,_]) fun H o=>tt ?_
  have hr2:=o.rc 6 0 (by simp);simp only [List.drop_zero] at hr2;rw [hr2];refine tt ?_;refine ⟨H,.refl _,s,[],[(idC,.cells 1 [] 0)],hs,⟨idC,[],[],rfl,.nil,⟨by simp,by simp⟩,rfl⟩, ?_⟩
  have o : Owns H0 H ((id4,MObj.cells 6 [iI c.objs,iL c.frm,iL c.to,iL c.idn,iLL c.comp,.buf idC 0] 0)::(id5,MObj.cells 8 [.int .i64 0,.nilsl,.nilsl,.nilsl,.nilsl,.nilsl,.nilsl,.nilsl] 0)::(id,s.obj)::([(idC,.cells 1 [] 0)]++l)):=o.pm;exact o.tl.tl
 ·refine ⟨trivial, ?_⟩
  have o:=o.trans o2
  have ht:=tabOk hc hf;refine tt ?_;refine nb o fun id5 H o=>tt ?_;refine sw o fun H o=>?_
  have dT : ∀ i : Decidable True,@decide True i=true:=fun i=>decide_eq_true trivial;refine tw dT ?_
  obtain ⟨n,hn⟩ : ∃ n,ms.length=n:=⟨_,rfl⟩;rw [hn]
  have z6 : ∃ z : MObj,z=MObj.cells 6 [.int .i64 0,.nilsl,.nilsl,.nilsl,.nilsl,.nilsl] 0:=⟨_,rfl⟩
  have o : Owns H0 H ((id,s.obj)::(idM,.cells 1 (ms.map bufE) 0)::(inner AV.bool ms++([(id5,MObj.cells 8 (tabCells c (listsOf c)) 0),(id4,MObj.cells 6 [.int .i64 0,.nilsl,.nilsl,.nilsl,.nilsl,.nilsl] 0)]++l))):=by
   simp only [tabCells] at o ⊢;exact o.pm
  refine (l01Next_ok B 3).go hs o fun r s H _ ⟨v,e,hv0,hv1,_⟩ hs o=>?_;subst e
  obtain ⟨v,rfl⟩:=Int.eq_ofNat_of_zero_le hv0
  have hv1:=hv1 (by omega);refine tt ?_
  refine awp_while [0,4,5,6] (G:=Nat × Src × List (Nat × List Bool)) (fun g=>[(8,some (.int .i64 (g.1 : Int)))])
   (fun m g H=>(m=g.1∧g.1<3∧g.2.1.Ok)∧(g.2.2.length=n∧MarkOk (listsOf c) (g.2.2.map Prod.snd))∧Owns H0 H ((id,g.2.1.obj)::(idM,.cells 1 (g.2.2.map bufE) 0)::(inner AV.bool g.2.2++([(id5,MObj.cells 8 (tabCells c (listsOf c)) 0),(id4,MObj.cells 6 [.int .i64 0,.nilsl,.nilsl,.nilsl,.nilsl,.nilsl] 0)]++l)))) v (v,s,ms) ⟨⟨rfl,by simp only; omega,hs⟩,⟨hn,hM⟩,o⟩ rfl ?_
  clear o hs hM hn hv0 hv1
  rintro m ⟨v,s,ms⟩ H ⟨⟨hm,hv3,hs⟩,⟨hn,hM⟩,o⟩;dsimp only at hm;subst hm;dsimp only at hv3 hs hn hM o
  have hMl:=hM.len;rw [List.length_map] at hMl;refine tt ?_;refine ⟨fun h1=>At.mk ?_,fun h1=>At.mk ?_⟩
  case' refine_1 =>
   have h1p:=of_decide h1;refine tw h1 ?_;refine ⟨fun h2=>At.mk ?_,fun h2=>At.mk ?_⟩
   case' refine_1 =>
    have h2p:=of_decide h2;refine tt ?_;refine (l01Next_ok B n).go hs o fun r s H _ ⟨x,e,hx0,hx1,_⟩ hs o=>?_;subst e
    have hx1:=hx1 (by omega)
    obtain ⟨x,rfl⟩:=Int.eq_ofNat_of_zero_le hx0
    have hxm : x<ms.length:=by omega
    have htop:=(ht.top (x:=x) (by omega)).1
    have hrl:=hM.row x (by omega);rw [map_getD _ hxm] at hrl
    have wp : IntKind.i64.wrap ((m : Int) - 1)=((m - 1 : Nat) : Int):=wpred (by omega) (by omega);refine tt ?_;refine ⟨by omega,⟨_,_,o.tl.h0⟩,rd_cells o.tl (by simp; omega) ?_⟩;rw [getD_map ms (by omega)];refine tt ?_;refine ⟨by omega,⟨_,_,o.tl.h0⟩,rd_cells o.tl (by simp; omega) ?_⟩;rw [getD_map ms (by omega)];refine tt ?_;refine (l01Next_ok B ((ms.getD x default).2.length)).goZ hs o fun r s H _ ⟨v,e,hv0,hv1,_⟩ hs o hz=>⟨hz, ?_⟩;subst e
    have hv1:=hv1 (by omega);refine tt ?_;refine ⟨by omega, ?_⟩
    have o : Owns H0 H ((idM,MObj.cells 1 (ms.map bufE) 0)::(inner AV.bool ms++((id,s.obj)::([(id5,MObj.cells 8 (tabCells c (listsOf c)) 0),(id4,MObj.cells 6 [.int .i64 0,.nilsl,.nilsl,.nilsl,.nilsl,.nilsl] 0)]++l)))):=o.pm;refine st_inner o (by omega) (by omega) true rfl fun H o=>?_
    have hM:=mark_set hM x v.toNat hxm true;refine tw wp ?_;exact while_next (m - 1) (m - 1,s,ms.set x ((ms.getD x default).1,(ms.getD x default).2.set v.toNat true)) (by omega) ⟨⟨rfl,by show m - 1<3; omega,hs⟩,⟨by simp [hn],hM⟩,by simp only [tabCells] at o ⊢; exact o.pm⟩ rfl
  all_goals
   try (try simp only [go_sem,↓reduceIte,reduceEqDiff,reduceAdd,reduceMul,reduceLeDiff,reduceLT,h1])
   try (try simp only [go_sem,↓reduceIte,reduceEqDiff,reduceAdd,reduceMul,reduceLeDiff,reduceLT])
   clear h1;refine rd_getn (o.get (id5,MObj.cells 8 (tabCells c (listsOf c)) 0) (by simp)) (by simp [tabCells]) ?_;refine tt ?_
   have hcall:=l27Spread_own B c (listsOf c) ht ms hM idM H0 H ((id,s.obj)::([(id5,MObj.cells 8 (tabCells c (listsOf c)) 0),(id4,MObj.cells 6 [.int .i64 0,.nilsl,.nilsl,.nilsl,.nilsl,.nilsl] 0)]++l)) (o.pm);rw [hn] at hcall;refine hcall.mono ?_;clear hcall o hM hn hMl
   rintro r H ⟨rfl,ms,hn,hM,o⟩;refine tt ?_;refine wk_nest (f:=AV.bool) ms [] H o fun H o=>?_;simp only [List.nil_append] at o;refine wk_slot (f:=mL AV.bool) (A:=ms.map Prod.snd) 6 (.inr ⟨idM,by rw [List.length_map,hn],o⟩) rfl fun H o=>wkW_done ?_;refine tt ?_;refine rd_getn (o.get (id5,MObj.cells 8 (tabCells c (listsOf c)) 0) (by simp)) (by simp [tabCells]) ?_;refine tt ?_;refine New.go' (l27Covers_new B c hc (listsOf c) ht (ms.map Prod.snd) hM) o fun X p H ⟨C,idC,Xs,ob,e1,hX,hbd,e2⟩ o _=>?_;subst e1 e2;refine tt ?_
   have o : Owns H0 H ((id4,MObj.cells 6 [.int .i64 0,.nilsl,.nilsl,.nilsl,.nilsl,.nilsl] 0)::(id5,MObj.cells 8 (tabCells c (listsOf c)) 0)::(id,s.obj)::(((idC,.cells 1 Xs 0)::ob)++l)):=o.pm;refine sw o fun H o=>tt ?_
   have hr2:=o.rc 6 0 (by simp);simp only [List.drop_zero] at hr2;rw [hr2];refine tt ?_;exact ⟨H,.refl _,s,C,(idC,.cells 1 Xs 0)::ob,hs,⟨idC,Xs,ob,rfl,hX,hbd,rfl⟩,o.tl.tl⟩
def TopR (r : AV) : Prop:=∃ j : Top,r=.agg j.cells
theorem l27Draw_ok (B : Nat) : Rd B 251 [] TopR:=by
 intro id s H0 H hs o;refine c251p.go fun _=>?_;refine tt ?_;refine nb o fun id2 H o=>tt ?_;refine (l27Base_ok B).go hs o.swap fun r s H _ ⟨c,e,_⟩ hs o=>?_;subst e;refine tt ?_;refine (l27Some_own B c hs o).mono ?_
 rintro r H ⟨s,C,p,hs,⟨idC,Xs,ob,rfl,hX,⟨hb1,hb2⟩,rfl⟩,o⟩
 have hXl:=hX.len;refine tt ?_;refine nb o fun id3 H o=>tt ?_;refine sw o fun H o=>tt ?_
 have o : Owns H0 H ((id,s.obj)::(id3,tpO c (.buf idC Xs.length))::(idC,.cells 1 Xs 0)::(ob++[(id2,MObj.cells 6 [.int .i64 0,.nilsl,.nilsl,.nilsl,.nilsl,.nilsl] 0)])):=by
  simp only [tpO];exact o.pm
 refine (l01Next_ok B 24).go hs o fun r s H _ ⟨v,e,_⟩ hs o=>?_;subst e;refine tt ?_;apply bk <;> intro g0
 ·refine tt ?_;refine rd_cells o.tl (by simp) ?_;refine tt ?_;apply bk <;> intro g3
  ·have g3p:=of_decide g3;refine tw g3 ?_;refine rd_cells o.tl (by simp) ?_;refine tt ?_;refine ⟨by omega,rd_cells o.tl.tl (by omega) ?_⟩
   obtain ⟨X0,Xs,rfl⟩ : ∃ a r,Xs=a::r:=by
    cases Xs with
    | nil=>simp at g3p
    | cons a r=>exact ⟨a,r,rfl⟩
   obtain ⟨A0,C0,pX,oC,rfl,rfl,hp,hR⟩ : ∃ A0 C0 pX oC,C=A0::C0∧ob=pX++oC∧LsP iL pX X0 A0∧LsR iL Xs C0 oC:=by
    cases hX with
    | cons hp hR=>exact ⟨_,_,_,_,rfl,rfl,hp,hR⟩
   have hlA:=hp.lenE
   have hX : LsR iL (X0::Xs) (A0::C0) (pX++oC):=.cons hp hR;rw [show (X0::Xs).getD (Int.toNat 0) nv=X0 from rfl];refine tw hlA ?_
   have hCl:=hX.len
   have od : Owns H0 H ((idC,.cells 1 (X0::Xs) 0)::((pX++oC)++[(id3,tpO c (.buf idC (X0::Xs).length)),(id,s.obj),(id2,MObj.cells 6 [.int .i64 0,.nilsl,.nilsl,.nilsl,.nilsl,.nilsl] 0)])):=o.pm;refine wk_rows hX [] H od fun H o=>?_;simp only [List.nil_append] at o
   have o : Owns H0 H ((id3,tpO c (.buf idC (X0::Xs).length))::(idC,.cells 1 ((A0::C0).map (mL iL)) 0)::[(id,s.obj),(id2,MObj.cells 6 [.int .i64 0,.nilsl,.nilsl,.nilsl,.nilsl,.nilsl] 0)]):=o.pm;refine wkW_done ?_;refine tt ?_;apply bk <;> intro g4
   ·have g4p:=of_decide g4;refine tt ?_;refine rd_cells o (by simp) ?_;refine tt ?_;refine rd_cells o (by simp) ?_;refine tt ?_;refine ⟨by simp,rd_own o.tl (by simp) ?_⟩;rw [show (A0::C0).getD (Int.toNat 0) default=A0 from rfl];refine tt ?_;refine ⟨by omega,by simp, ?_⟩;refine set_own (A0.drop (Int.toNat 1)) o.swap rfl (by simp) fun H o=>?_
    have o:=o.swap
    have hCl : (X0::Xs).length=((A0::C0).set (Int.toNat 0) (A0.drop (Int.toNat 1))).length:=by rw [List.length_set]; exact hCl
    refine tt ?_;simp only [tpO] at o;refine wk_cell (f:=mL iL) 5 o rfl hCl fun H o=>wkW_done ?_;simp only [List.set_cons_zero,List.set_cons_succ] at o;refine tt ?_;refine rd_celln o (by simp) ?_;refine tt ?_;refine sw (o.pull [_,_]) fun H o=>tt ?_
    have hr2:=o.rc 6 0 (by simp);simp only [List.drop_zero] at hr2;rw [hr2];refine tt ?_;exact src_ret ⟨⟨c,(A0::C0).set (Int.toNat 0) (A0.drop (Int.toNat 1))⟩,rfl⟩ hs (o.pull [_,_])
   ·refine tt ?_;simp only [tpO] at o;refine wk_cell (f:=mL iL) 5 o rfl hCl fun H o=>wkW_done ?_;simp only [List.set_cons_zero,List.set_cons_succ] at o;refine tt ?_;refine rd_celln o (by simp) ?_;refine tt ?_;refine sw (o.pull [_,_]) fun H o=>tt ?_
    have hr2:=o.rc 6 0 (by simp);simp only [List.drop_zero] at hr2;rw [hr2];refine tt ?_;exact src_ret ⟨⟨c,A0::C0⟩,rfl⟩ hs (o.pull [_,_])
  ·refine tw g3 ?_;refine wkW_done ?_;refine tt ?_
   have hCl:=hX.len
   have od : Owns H0 H ((idC,.cells 1 (Xs) 0)::((ob)++[(id3,tpO c (.buf idC (Xs).length)),(id,s.obj),(id2,MObj.cells 6 [.int .i64 0,.nilsl,.nilsl,.nilsl,.nilsl,.nilsl] 0)])):=o.pm;refine wk_rows hX [] H od fun H o=>?_;simp only [List.nil_append] at o
   have o : Owns H0 H ((id3,tpO c (.buf idC (Xs).length))::(idC,.cells 1 ((C).map (mL iL)) 0)::[(id,s.obj),(id2,MObj.cells 6 [.int .i64 0,.nilsl,.nilsl,.nilsl,.nilsl,.nilsl] 0)]):=o.pm;simp only [tpO] at o;refine wk_cell (f:=mL iL) 5 o rfl hCl fun H o=>wkW_done ?_;simp only [List.set_cons_zero,List.set_cons_succ] at o;refine tt ?_;refine rd_celln o (by simp) ?_;refine tt ?_;refine sw (o.pull [_,_]) fun H o=>tt ?_
   have hr2:=o.rc 6 0 (by simp);simp only [List.drop_zero] at hr2;rw [hr2];refine tt ?_;exact src_ret ⟨⟨c,C⟩,rfl⟩ hs (o.pull [_,_])
 ·refine tt ?_;apply bk <;> intro g1
  ·refine tt ?_;refine rd_cells o.tl (by simp) ?_;refine tt ?_;refine newBuf_own o fun idr H o=>tt ?_
   have o : Owns H0 H ((idC,.cells 1 Xs 0)::((idr,.cells 1 [] 0)::(id,s.obj)::(id3,tpO c (.buf idC Xs.length))::(ob++[(id2,MObj.cells 6 [.int .i64 0,.nilsl,.nilsl,.nilsl,.nilsl,.nilsl] 0)]))):=o.pm;refine app_raw o rfl rfl rfl (by simp only [maxL]; omega) fun idD H o=>tt ?_
   have o : Owns H0 H ((id3,tpO c (.buf idC Xs.length))::(idD,.cells 1 (Xs++[AV.buf idr 0]) 0)::((idr,.cells 1 [] 0)::(id,s.obj)::(ob++[(id2,MObj.cells 6 [.int .i64 0,.nilsl,.nilsl,.nilsl,.nilsl,.nilsl] 0)]))):=o.pm;refine sw o fun H o=>tt ?_
   have hX:=hX.snoc' (X:=.buf idr 0) (A:=[]) (p:=[(idr,.cells 1 [] 0)]) (.inr ⟨idr,rfl,rfl⟩)
   have hXs : Xs.length+1=(Xs++[AV.buf idr 0]).length:=by simp
   rw [hXs] at o
   have o : Owns H0 H ((id3,tpO c (.buf idD (Xs++[AV.buf idr 0]).length))::(idD,.cells 1 (Xs++[AV.buf idr 0]) 0)::((idr,.cells 1 [] 0)::(id,s.obj)::(ob++[(id2,MObj.cells 6 [.int .i64 0,.nilsl,.nilsl,.nilsl,.nilsl,.nilsl] 0)]))):=o
   have hCl:=hX.len
   have od : Owns H0 H ((idD,.cells 1 (Xs++[AV.buf idr 0]) 0)::((ob++[(idr,.cells 1 [] 0)])++[(id3,tpO c (.buf idD (Xs++[AV.buf idr 0]).length)),(id,s.obj),(id2,MObj.cells 6 [.int .i64 0,.nilsl,.nilsl,.nilsl,.nilsl,.nilsl] 0)])):=o.pm;refine wk_rows hX [] H od fun H o=>?_;simp only [List.nil_append] at o
   have o : Owns H0 H ((id3,tpO c (.buf idD (Xs++[AV.buf idr 0]).length))::(idD,.cells 1 ((C++[[]]).map (mL iL)) 0)::[(id,s.obj),(id2,MObj.cells 6 [.int .i64 0,.nilsl,.nilsl,.nilsl,.nilsl,.nilsl] 0)]):=o.pm;simp only [tpO] at o;refine wk_cell (f:=mL iL) 5 o rfl hCl fun H o=>wkW_done ?_;simp only [List.set_cons_zero,List.set_cons_succ] at o;refine tt ?_;refine rd_celln o (by simp) ?_;refine tt ?_;refine sw (o.pull [_,_]) fun H o=>tt ?_
   have hr2:=o.rc 6 0 (by simp);simp only [List.drop_zero] at hr2;rw [hr2];refine tt ?_;exact src_ret ⟨⟨c,C++[[]]⟩,rfl⟩ hs (o.pull [_,_])
  ·refine tt ?_;apply bk <;> intro g2
   ·refine tt ?_;refine rd_cells o.tl (by simp) ?_;refine tt ?_;apply bk <;> intro g3
    ·have g3p:=of_decide g3
     have hc0:=hb2 (C.getD 0 []) (mem_getD.mpr ⟨0,by omega,rfl⟩);refine tt ?_;refine ⟨⟨_,_,o.tl.h0⟩,rd_cells o.tl (by simp) ?_⟩;refine tt ?_;refine ⟨⟨_,_,o.tl.h0⟩,rd_cells o.tl (by simp) ?_⟩;refine tt ?_;refine ⟨by omega,⟨_,_,o.tl.tl.h0⟩,rd_cells o.tl.tl (by omega) ?_⟩;refine tt ?_;refine (l02Number_ok B 3).goZ hs o fun r s H _ ⟨v,e⟩ hs o hz=>⟨hz, ?_⟩;subst e;refine tt ?_
     have o : Owns H0 H ((idC,.cells 1 Xs 0)::(ob++[(id,s.obj),(id3,tpO c (.buf idC Xs.length)),(id2,MObj.cells 6 [.int .i64 0,.nilsl,.nilsl,.nilsl,.nilsl,.nilsl] 0)])):=o.pm;refine rows_app (i:=0) o hX (by omega) [v] rfl (by simp only [maxL]; omega) fun X' ob' H hX1 hX' o=>?_;try simp only [go_sem,↓reduceIte,reduceEqDiff,reduceAdd,reduceMul,reduceLeDiff,reduceLT,AV.cells_one hX1]
     refine ⟨by omega,st_cells o (by omega) (by (try simp only [go_sem]); (try simp)) (by simp [hX1]) fun H o=>?_⟩
     have hw : wr Xs (Int.toNat 0) [X']=Xs.set 0 X':=rfl;rw [hw,show Xs.length=(Xs.set 0 X').length by simp] at o
     replace hX:=hX';refine tt ?_
     have hCl:=hX.len
     have od : Owns H0 H ((idC,.cells 1 (Xs.set 0 X') 0)::((ob')++[(id3,tpO c (.buf idC (Xs.set 0 X').length)),(id,s.obj),(id2,MObj.cells 6 [.int .i64 0,.nilsl,.nilsl,.nilsl,.nilsl,.nilsl] 0)])):=o.pm;refine wk_rows hX [] H od fun H o=>?_;simp only [List.nil_append] at o
     have o : Owns H0 H ((id3,tpO c (.buf idC (Xs.set 0 X').length))::(idC,.cells 1 ((C.set 0 (C.getD 0 []++[[v]])).map (mL iL)) 0)::[(id,s.obj),(id2,MObj.cells 6 [.int .i64 0,.nilsl,.nilsl,.nilsl,.nilsl,.nilsl] 0)]):=o.pm;simp only [tpO] at o;refine wk_cell (f:=mL iL) 5 o rfl hCl fun H o=>wkW_done ?_;simp only [List.set_cons_zero,List.set_cons_succ] at o;refine tt ?_;refine rd_celln o (by simp) ?_;refine tt ?_;refine sw (o.pull [_,_]) fun H o=>tt ?_
     have hr2:=o.rc 6 0 (by simp);simp only [List.drop_zero] at hr2;rw [hr2];refine tt ?_;exact src_ret ⟨⟨c,C.set 0 (C.getD 0 []++[[v]])⟩,rfl⟩ hs (o.pull [_,_])
    ·refine tt ?_
     have hCl:=hX.len
     have od : Owns H0 H ((idC,.cells 1 (Xs) 0)::((ob)++[(id3,tpO c (.buf idC (Xs).length)),(id,s.obj),(id2,MObj.cells 6 [.int .i64 0,.nilsl,.nilsl,.nilsl,.nilsl,.nilsl] 0)])):=o.pm;refine wk_rows hX [] H od fun H o=>?_;simp only [List.nil_append] at o
     have o : Owns H0 H ((id3,tpO c (.buf idC (Xs).length))::(idC,.cells 1 ((C).map (mL iL)) 0)::[(id,s.obj),(id2,MObj.cells 6 [.int .i64 0,.nilsl,.nilsl,.nilsl,.nilsl,.nilsl] 0)]):=o.pm;simp only [tpO] at o;refine wk_cell (f:=mL iL) 5 o rfl hCl fun H o=>wkW_done ?_;simp only [List.set_cons_zero,List.set_cons_succ] at o;refine tt ?_;refine rd_celln o (by simp) ?_;refine tt ?_;refine sw (o.pull [_,_]) fun H o=>tt ?_
     have hr2:=o.rc 6 0 (by simp);simp only [List.drop_zero] at hr2;rw [hr2];refine tt ?_;exact src_ret ⟨⟨c,C⟩,rfl⟩ hs (o.pull [_,_])
   ·refine tt ?_
    have hCl:=hX.len
    have od : Owns H0 H ((idC,.cells 1 (Xs) 0)::((ob)++[(id3,tpO c (.buf idC (Xs).length)),(id,s.obj),(id2,MObj.cells 6 [.int .i64 0,.nilsl,.nilsl,.nilsl,.nilsl,.nilsl] 0)])):=o.pm;refine wk_rows hX [] H od fun H o=>?_;simp only [List.nil_append] at o
    have o : Owns H0 H ((id3,tpO c (.buf idC (Xs).length))::(idC,.cells 1 ((C).map (mL iL)) 0)::[(id,s.obj),(id2,MObj.cells 6 [.int .i64 0,.nilsl,.nilsl,.nilsl,.nilsl,.nilsl] 0)]):=o.pm;simp only [tpO] at o;refine wk_cell (f:=mL iL) 5 o rfl hCl fun H o=>wkW_done ?_;simp only [List.set_cons_zero,List.set_cons_succ] at o;refine tt ?_;refine rd_celln o (by simp) ?_;refine tt ?_;refine sw (o.pull [_,_]) fun H o=>tt ?_
    have hr2:=o.rc 6 0 (by simp);simp only [List.drop_zero] at hr2;rw [hr2];refine tt ?_;exact src_ret ⟨⟨c,C⟩,rfl⟩ hs (o.pull [_,_])
theorem set_getD_selfT (A : List Int) (i : Nat) : A.set i (A.getD i default)=A:=by
 apply List.ext_getElem?
 intro j
 by_cases e : i=j
 ·subst e
  by_cases h : i<A.length
  ·simp [List.getD_eq_getElem?_getD,h]
  ·rw [List.getElem?_eq_none (by simp; omega),List.getElem?_eq_none (by omega)]
 ·rw [List.getElem?_set_ne e]
theorem classes_ok (B : Nat) (l : List Int) (hl : l.length≤100000) : Pur Tryz.prog B 279 [iL l] (iL (classL l)):=by
 refine ⟨fun H0=>c279p.go fun _=>?_⟩
 have o : Owns H0 H0 []:=.nil _;refine tt ?_;refine new_list iI o fun id3 H o=>tt ?_;refine new_list iI o fun id4 H o=>tt ?_
 refine awp_for [0] (G:=(Nat × List Int) × (Nat × List Int)) (fun k g=>[(3,some (.buf g.1.1 g.1.2.length)),(4,some (.buf g.2.1 g.2.2.length)),(5,some (.int .i64 (k : Int)))])
  (fun k g H=>(g.1.2=classL (l.take k)∧g.2.2=seenL (l.take k))∧Owns H0 H [(g.2.1,.cells 1 (g.2.2.map iI) 0),(g.1.1,.cells 1 (g.1.2.map iI) 0)]) l.length ((id3,[]),(id4,[])) ⟨⟨rfl,rfl⟩,o⟩ rfl ?_
 clear o
 rintro k ⟨⟨id3,out⟩,⟨id4,seen⟩⟩ H hk ⟨⟨hout,hseen⟩,o⟩;dsimp only at o hout hseen
 have hol : out.length=k:=by rw [hout,classL_len,List.length_take]; omega
 have hsl : seen.length≤k:=by rw [hseen]; exact Nat.le_trans (seenL_len _ _ rfl) (by rw [List.length_take]; omega)
 refine tt ?_;apply bk <;> intro h1
 ·refine tt ?_
  have h1p:=dd h1
  have w1:=wsucc (k:=k) (by omega)
  have hs1:=seenL_snoc (l.take k) (l.getD k default)
  have ho1:=classL_snoc (l.take k) (l.getD k default);rw [← take_one l h1p,← hseen] at hs1;rw [← take_one l h1p,← hout] at ho1;refine ⟨h1p,call_lent 0 rfl o rfl (.int _ _) (l01Index_ok ..).run ?_⟩
  have hb:=indexOf_bd seen (l.getD k default)
  have hm:=indexOf_mem seen (l.getD k default);refine tt ?_;apply bk <;> intro h2
  ·refine tt ?_
   have h2p:=dd h2
   have hni : l.getD k default ∉ seen:=fun h=>by have:=hm.mpr h; omega
   rw [if_neg hni] at hs1;rw [hs1,indexOf_newT hni] at ho1;refine ⟨h1p, ?_⟩;refine app_own (l.getD k default) o rfl rfl (by simp only [maxL]; omega) fun id4 H o=>tt ?_;refine app_own ((seen.length : Nat) : Int) o.swap rfl rfl (by simp only [maxL]; omega) fun id3 H o=>?_;refine tw w1 ?_;exact for_next ((_,_),(_,_)) (by omega) ⟨⟨ho1.symm,hs1.symm⟩,o.swap⟩ rfl
  ·refine tt ?_
   have h2p:=dd h2
   have hi : l.getD k default∈seen:=hm.mp (by omega);rw [if_pos hi] at hs1;rw [hs1] at ho1;refine app_own (indexOf seen (l.getD k default)) o.swap rfl rfl (by simp only [maxL]; omega) fun id3 H o=>?_;refine tw w1 ?_;exact for_next ((_,_),(_,_)) (by omega) ⟨⟨ho1.symm,hs1.symm⟩,o.swap⟩ rfl
 ·refine tt ?_
  have h1p:=dd h1
  obtain rfl : k=l.length:=by omega
  refine fz_own o.swap rfl fun H o=>tt ?_;exact pure_ret (by rw [hout,List.take_length]) o.sub
theorem join_pok (B : Nat) (n : Nat) (hn : n≤100000) (ps : List (List Int)) (hp : ∀ q,q∈ps→2≤q.length∧(0≤q.getD 0 default∧(q.getD 0 default).toNat<n)∧(0≤q.getD 1 default∧(q.getD 1 default).toNat<n)) :
  Pur Tryz.prog B 229 [iI n,iLL ps] (iL (joinL n ps)):=by
 refine ⟨fun H0=>c229p.go fun ⟨_,hf,_⟩=>?_⟩
 have hl:=fine_mL_le hf;simp only [maxL] at hl
 have o : Owns H0 H0 []:=.nil _;refine tt ?_;refine new_list iI o fun id H o=>tt ?_;refine awp_for [0,1] (G:=Nat × List Int) (fun k g=>[(5,some (.buf g.1 g.2.length)),(6,some (.int .i64 (k : Int)))]) (fun k g H=>g.2=(List.range k).map Int.ofNat∧Owns H0 H [(g.1,.cells 1 (g.2.map iI) 0)]) n (id,[]) ⟨rfl,o⟩ rfl ?_;clear o
 rintro k ⟨id,A⟩ H hk ⟨hA,o⟩;dsimp only at hA o
 have hAl : A.length=k:=by rw [hA]; simp
 refine tt ?_;apply bk <;> intro h1
 ·refine tt ?_
  have h1p:=dd h1
  have w1:=wsucc (k:=k) (by omega);refine app_own (k : Int) o rfl rfl (by simp only [maxL]; omega) fun id H o=>?_;refine tw w1 ?_;exact for_next (_,_) (by omega) ⟨by rw [hA,List.range_succ]; simp,o⟩ rfl
 ·refine tt ?_
  have h1p:=dd h1
  obtain rfl : k=n:=by omega
  refine awp_for [1,5] (fun q _=>[(7,some (.int .i64 (q : Int)))]) (fun q A H=>A=labs k (ps.take q)∧Owns H0 H [(id,.cells 1 (A.map iI) 0)]) ps.length A ⟨hA,o⟩ rfl ?_;clear o
  rintro q A2 H hq ⟨hA2,o⟩
  have hl2 : A2.length=k:=by rw [hA2,labs_len]
  refine tt ?_;apply bk <;> intro h2
  ·refine tt ?_
   have h2p:=dd h2
   have w2:=wsucc (k:=q) (by omega)
   have hqq:=hp _ (mem_getD.mpr ⟨q,h2p,rfl⟩)
   have e0 : ix (ps.getD q default) 0=(ps.getD q default).getD 0 default:=rfl
   have e1 : ix (ps.getD q default) 1=(ps.getD q default).getD 1 default:=rfl
   have hstep:=labs_succ k ps h2p;rw [← hA2,e0,e1] at hstep;refine ⟨h2p,⟨by omega,Nat.lt_of_lt_of_le (by decide) hqq.1⟩,⟨by rw [e0]; omega,by rw [e0]; omega⟩,rd_own o (by rw [e0]; omega) ?_⟩;refine tt ?_;refine ⟨h2p,⟨by omega,Nat.lt_of_lt_of_le (by decide) hqq.1⟩,⟨by rw [e1]; omega,by rw [e1]; omega⟩,rd_own o (by rw [e1]; omega) ?_⟩;refine tt ?_;rw [e0,e1]
   have ea : A2.getD ((ps.getD q default).getD 0 default).toNat default=ix A2 ((ps.getD q default).getD 0 default):=rfl
   have eb : A2.getD ((ps.getD q default).getD 1 default).toNat default=ix A2 ((ps.getD q default).getD 1 default):=rfl;rw [ea,eb]
   generalize ix A2 ((ps.getD q default).getD 0 default)=va at hstep ⊢
   generalize ix A2 ((ps.getD q default).getD 1 default)=vb at hstep ⊢;refine awp_for [1,5,7,8,9] (fun i _=>[(10,some (.int .i64 (i : Int)))]) (fun i A H=>A=relabTo A2 va vb i∧Owns H0 H [(id,.cells 1 (A.map iI) 0)]) k A2 ⟨(relabTo_zero _ _ _).symm,o⟩ rfl ?_;clear o
   rintro i A3 H hi ⟨hA3,o⟩
   have hl3 : A3.length=k:=by rw [hA3,relabTo_len _ _ _ (by omega)]; exact hl2
   rw [hAl];refine tt ?_;apply bk <;> intro h3
   ·refine tw h3 ?_
    have h3p:=dd h3
    have w3:=wsucc (k:=i) (by omega)
    have hg:=relabTo_get A2 va vb (i:=i) (by omega)
    have hs:=relabTo_succ A2 va vb (i:=i) (by omega);rw [← hA3] at hg hs;apply bk <;> intro h4
    ·refine tt ?_
     have h4p:=dd h4;refine ⟨h3p,rd_own o (by omega) ?_⟩;refine tt ?_;apply bk <;> intro h5
     ·refine tt ?_
      have h5p:=dd h5;refine ⟨h3p,set_own _ o rfl (by omega) fun H o=>?_⟩;refine tw w3 ?_;exact for_next _ (by omega) ⟨by rw [hs,if_pos (by rw [← hg]; exact h5p)],o⟩ rfl
     ·refine tw w3 ?_
      have h5p:=dd h5;refine for_next A3 (by omega) ⟨?_,o⟩ rfl;rw [hs,if_neg (by rw [← hg]; exact h5p),← hg,set_getD_selfT]
    ·refine tw w2 ?_
     have h4p:=dd h4;refine for_next A3 (by omega) ⟨?_,o⟩ rfl;subst h4p
     have : ∀ i,relabTo A2 va va i=A2:=fun i=>by rw [relabTo,relab_same,List.take_append_drop]
     rw [hA3,this,hstep,relab_same]
   ·try simp only [go_sem,↓reduceIte,reduceEqDiff,reduceAdd,reduceMul,reduceLeDiff,reduceLT,h3,w2]
    have h3p:=dd h3;refine for_next A3 (by omega) ⟨?_,o⟩ rfl
    have hik : i=A2.length:=by omega
    rw [hA3,hik,relabTo_all,hstep]
  ·refine tt ?_
   have h2p:=dd h2
   obtain rfl : q=ps.length:=by omega
   rw [List.take_length] at hA2;rw [hAl];refine fz_own o hl2.symm fun H o=>tt ?_;refine (classes_ok B A2 (by omega)).go fun _=>tt ?_;exact pure_ret (by rw [joinL,hA2]) o.sub
theorem l01Pairs_own (B : Nat) (p : List Int) (H0 H : Heap) (l : List (Nat × MObj)) (o : Owns H0 H l) : CallH Tryz.prog B 298 [iL p] H (OwnK iL H0 l (·=pairsOf p)):=by
 refine c298p.go fun ⟨hf,_⟩=>?_
 have hl:=fine_mL_le hf;simp only [maxL] at hl;refine tt ?_;refine new_list iL o fun id H o=>tt ?_
 refine awp_for [0] (G:=Nat × List (List Int)) (fun k g=>[(3,some (.buf g.1 g.2.length)),(4,some (.int .i64 (k : Int)))])
  (fun k g H=>g.2=(List.range k).map (fun i : Nat=>[indexOf p (p.getD i default),(i : Int)])∧Owns H0 H ((g.1,.cells 1 (g.2.map iL) 0)::l)) p.length (id,[]) ⟨rfl,o⟩ rfl ?_
 clear o
 rintro k ⟨id,out⟩ H hk ⟨hout,o⟩;dsimp only at hout o
 have hol : out.length=k:=by rw [hout]; simp
 refine tt ?_;apply bk <;> intro h1
 ·refine tt ?_
  have h1p:=dd h1
  have w1:=wsucc (k:=k) (by omega);refine ⟨h1p,(l01Index_ok ..).go fun _=>?_⟩;refine tt ?_;refine app_own [indexOf p (p.getD k default),(k : Int)] o rfl rfl (by simp only [maxL]; omega) fun id H o=>?_;refine tw w1 ?_;exact for_next (_,_) (by omega) ⟨by rw [hout,List.range_succ]; simp,o⟩ rfl
 ·refine tt ?_
  have h1p:=dd h1
  obtain rfl : k=p.length:=by omega
  exact own_ret o rfl (by rw [hout]; rfl)
end Go.Proofs.Shf
namespace Go.Shf
open Go.AW Go.Proofs.Shf
abbrev kB : Int→AV:=AV.int .u8
instance : One kB:=⟨fun _=>rfl,fun _=>rfl⟩
def keyB (L : List (List Int)) : List Int:=L.flatMap fun l=>l.map IntKind.u8.wrap++[255]
def keyS (L : List (List Int)) : List UInt8:=(keyB L).map fun n=>UInt8.ofNat n.toNat
theorem keyB_snoc (L : List (List Int)) (l : List Int) : keyB (L++[l])=keyB L++l.map IntKind.u8.wrap++[255]:=by
 simp [keyB]
theorem keyB_app (A C : List (List Int)) : keyB (A++C)=keyB A++keyB C:=by simp [keyB]
theorem keyB_take_le (L : List (List Int)) (k : Nat) : (keyB (L.take k)).length≤(keyB L).length:=by
 have : keyB L=keyB (L.take k)++keyB (L.drop k):=by rw [← keyB_app,List.take_append_drop]
 rw [this,List.length_append]; omega
theorem keyB_len (L : List (List Int)) : L.length≤(keyB L).length:=by
 induction L with
 | nil=>simp
 | cons a L ih =>
  have : keyB (a::L)=keyB [a]++keyB L:=keyB_app [a] L;rw [this,List.length_append]
  have : 1≤(keyB [a]).length:=by simp [keyB]
  simp only [List.length_cons]; omega
theorem keyB_mem (L : List (List Int)) {k : Nat} (hk : k<L.length) : (keyB (L.take k)).length+(L.getD k default).length+1≤(keyB L).length:=by
 have h1:=keyB_take_le L (k+1);rw [take_succ_getD L hk,keyB_snoc] at h1;simp only [List.length_append,List.length_map,List.length_cons,List.length_nil] at h1;omega
def plS (L : List (List Int)) : Nat→List AV × List AV
 | 0=>([],[])
 | k+1=>mput (.str (keyS [L.getD k default])) (iI k) (plS L k).1 (plS L k).2
theorem mput_str (k x : AV) (hk : ∃ s,k=.str s) : ∀ (ks vs : List AV),(∀ a,a∈ks→∃ s,a=.str s)→∀ a,a∈(mput k x ks vs).1→∃ s,a=.str s
 | [],_,h,a,ha=>by simp [mput] at ha; subst ha; exact hk
 | b::ks,[],h,a,ha=>by simp [mput] at ha; subst ha; exact hk
 | b::ks,v::vs,h,a,ha=>by
  simp only [mput] at ha
  split at ha
  ·simp only [List.mem_cons] at ha
   rcases ha with rfl | ha
   ·exact hk
   ·exact h a (by simp [ha])
  ·simp only [List.mem_cons] at ha
   rcases ha with rfl | ha
   ·exact h a (by simp)
   ·exact mput_str k x hk ks vs (fun c hc=>h c (by simp [hc])) a ha
theorem plS_str (L : List (List Int)) : ∀ k a,a∈(plS L k).1→∃ s,a=.str s
 | 0,a,h=>by simp [plS] at h
 | k+1,a,h=>mput_str _ _ ⟨_,rfl⟩ _ _ (plS_str L k) a h
theorem okKey_plS (L : List (List Int)) (k : Nat) (s : List UInt8) : okKey 1 (.str s) (plS L k).1:=⟨rfl,fun a ha=>by obtain ⟨t,rfl⟩:=plS_str L k a ha; rfl⟩
end Go.Shf
namespace Go.Proofs.Shf
open Go.AW Go.Proofs Go.Shf
theorem key_ok (B : Nat) (L : List (List Int)) (hb : (keyB L).length≤1000000) : Pur Tryz.prog B 192 [iLL L] (.str (keyS L)):=by
 refine ⟨fun H0=>c192p.go fun hfi=>?_⟩
 have hL : L.length≤(keyB L).length:=keyB_len L;refine tt ?_;refine newBuf_own (.nil _) fun id3 H o=>tt ?_
 refine awp_for [9,10] (G:=Nat) (fun k g=>[(3,some (.buf g (keyB (L.take k)).length)),(11,some (.int .i64 (k : Int)))])
  (fun k g H=>Owns H0 H [(g,.cells 1 ((keyB (L.take k)).map kB) 0)]) L.length id3 o rfl ?_
 clear o
 rintro k id3 H hk o
 replace o : Owns H0 H [(id3,.cells 1 ((keyB (L.take k)).map kB) 0)]:=o;refine tt ?_;apply bk <;> intro h1
 ·have h1p:=of_decide h1
  have w:=wsucc (k:=k) (by omega);refine tt ?_;refine ⟨h1p, ?_⟩
  have hkm:=keyB_mem L h1p
  generalize hl : L.getD k default=l at *
  generalize hP : keyB (L.take k)=P at *
  have hP2 : keyB (L.take (k+1))=P++l.map IntKind.u8.wrap++[255]:=by rw [take_succ_getD L h1p,keyB_snoc,hP,hl]
  refine awp_for [9,10,11,15,16] (G:=Nat) (fun j g=>[(3,some (.buf g (P++(l.take j).map IntKind.u8.wrap).length)),(17,some (.int .i64 (j : Int)))])
   (fun j g H=>Owns H0 H [(g,.cells 1 ((P++(l.take j).map IntKind.u8.wrap).map kB) 0)]) l.length id3 (by simpa using o) (by simp only [List.take_zero,List.map_nil,List.append_nil]; rfl) ?_
  clear o
  rintro j id3 H hj o
  replace o : Owns H0 H [(id3,.cells 1 ((P++(l.take j).map IntKind.u8.wrap).map kB) 0)]:=o;refine tt ?_;apply bk <;> intro h2
  ·have h2p:=of_decide h2
   have w2:=wsucc (k:=j) (by omega);refine tt ?_;refine ⟨h2p, ?_⟩;refine app_own (f:=kB) (IntKind.u8.wrap (l.getD j default)) o rfl rfl (by simp only [List.length_append,List.length_map,List.length_take,maxL]; omega) fun id9 H o=>?_
   have e : (P++(l.take j).map IntKind.u8.wrap)++[IntKind.u8.wrap (l.getD j default)]=P++(l.take (j+1)).map IntKind.u8.wrap:=by
    rw [take_succ_getD l h2p,List.map_append,← List.append_assoc]; rfl
   rw [e] at o ⊢;refine tw w2 ?_;exact for_next id9 h2p o rfl
  ·have h2p:=of_ndecide h2
   obtain rfl : j=l.length:=by omega
   rw [List.take_length] at o ⊢;refine tt ?_;refine app_own (f:=kB) 255 o rfl rfl (by simp only [List.length_append,List.length_map,maxL]; omega) fun id9 H o=>?_;rw [← hP2] at o ⊢;refine tw w ?_;exact for_next id9 h1p o rfl
 ·have h1p:=of_ndecide h1
  obtain rfl : k=L.length:=by omega
  rw [List.take_length] at o ⊢;refine tt ?_;refine fz_own o rfl fun H o=>tt ?_
  have hb2 : b2sE (some (mL kB (keyB L)))=some (∀ e,e∈(keyB L).map kB→e.isByte=true,.str (keyS L)):=by
   rw [mL,b2sE_sl,List.map_map]; rfl
  rw [hb2];refine tt ?_;refine ⟨fun e he=>?_,pure_ret rfl o.sub⟩
  obtain ⟨n,_,rfl⟩:=List.mem_map.mp he
  rfl
theorem places_ok (B : Nat) (L : List (List Int)) (hl : L.length≤1000000) (hb : ∀ l,l∈L→l.length≤1000) : Pur Tryz.prog B 255 [iLL L] (.imap (plS L L.length).1 (plS L L.length).2):=by
 refine ⟨fun H0=>c255p.go fun hfi=>?_⟩;refine tt ?_;refine newMap_own (.nil _) fun id3 H o=>tt ?_
 refine awp_for [3,7,8] (G:=Unit) (fun k g=>[(9,some (.int .i64 (k : Int)))])
  (fun k g H=>Owns H0 H [(id3,.map (plS L k).1 (plS L k).2)]) L.length () o rfl ?_
 clear o
 rintro k _ H hk o
 replace o : Owns H0 H [(id3,.map (plS L k).1 (plS L k).2)]:=o;refine tt ?_;apply bk <;> intro h1
 ·have h1p:=of_decide h1
  have w:=wsucc (k:=k) (by omega);refine tt ?_;refine ⟨h1p, ?_⟩
  have hm : L.getD k default∈L:=mem_getD.mpr ⟨k,h1p,rfl⟩;refine (key_ok B [L.getD k default] (by have:=hb _ hm; simp [keyB]; simp only [List.getD_eq_getElem?_getD] at this; omega)).go fun _=>?_
  have hg : H.get id3=some (.map (plS L k).1 (plS L k).2):=o.h0;refine tt ?_;rw [hg];refine tt ?_;refine ⟨okKey_plS L k _, ?_⟩;refine tw w ?_;exact for_next () h1p (o.put _) rfl
 ·have h1p:=of_ndecide h1
  obtain rfl : k=L.length:=by omega
  refine tt ?_;refine wk_imap 3 o rfl fun H o=>wkW_done ?_;refine tt ?_;exact pure_ret rfl o.sub
end Go.Proofs.Shf
