/- A part of a proof. -/
import Derived.Test.YthflgdphhajkbaaGreatF8
import Derived.Deep.Slices
import Derived.SizedLaws
set_option linter.unusedVariables false
set_option linter.unusedSimpArgs false
set_option linter.unusedSectionVars false
open Nat (reduceEqDiff reduceAdd reduceMul reduceLeDiff reduceLT)
namespace Go.Shf
open Go.AW Go.Proofs.Shf
theorem mapL_is4 {f g : SF} {p : List (List Int)} (hf : f.Is) (hg : g.Is) (e : f.shape=g.shape) (h : MapL f g p) : SM.Is ⟨f,g,p⟩:=by
 have hsl:=hf.1.sl
 have hl:=h.len;refine ⟨hf,hg,e,⟨by show p.length=f.sizes.length; omega,fun x hx=>?_⟩,fun a ha e he=>?_⟩
 ·have hx' : x<p.length:=hx
  have:=h.pl x (by omega);simp only [ix_nat] at this;refine ⟨this.1,fun y hy=>?_⟩
  obtain ⟨i,hi,rfl⟩:=mem_getD.mp hy
  have h2:=this.2 i (by have : i<(p.getD x default).length:=hi; omega);rw [ix_nat] at h2;exact h2
 ·have ha' : a<f.acts.length:=ha
  have he' : e<(f.acts.getD a default).length:=he
  have hal:=hf.1.al
  have hac:=hf.1.actLen (a:=(a : Int)) (by simp; omega)
  have:=h.nl a ⟨by omega,by simp; omega⟩ e (by rw [ix_nat] at hac; omega);simp only [ix_nat] at this;exact this
end Go.Shf
namespace Go.Proofs.Shf
open Go.AW Go.Proofs Go.Shf
theorem isSetMap_ok4 (B : Nat) (m : SM) : Pur Tryz.prog B 45 [.agg m.cells] (.bool (dec m.Is)):=by
 refine ⟨fun H0=>c45.go fun _=>?_⟩;refine tt ?_;refine (isNatural_ok B m).go fun _=>tt ?_;exact pure_ret rfl (.refl _)
def OntoK (S : SF) (U : List (List Int)) (k : Nat) : Prop:=∀ i,i<k→Onto (S.sizes.getD i default) (U.getD i default)
def FreshK (U : List (List Int)) (k : Nat) : Prop:=∀ i,i<k→Fresh (U.getD i default)
def FreshT (U : List (List Int)) (k e : Nat) : Prop:=FreshK U k∧∀ i,i<e→(U.getD k default).getD i default ∉ (U.getD k default).take i
theorem ontoK_t {S : SF} {U : List (List Int)} {k : Nat} (h : Onto (S.sizes.getD k default) (U.getD k default)) : OntoK S U (k+1)↔OntoK S U k :=
 ⟨fun H i hi=>H i (by omega),fun H i hi=>by
  by_cases e : i=k
  ·rw [e]; exact h
  ·exact H i (by omega)⟩
theorem freshT_t {U : List (List Int)} {k e : Nat} (h : (U.getD k default).getD e default ∉ (U.getD k default).take e) : FreshT U k (e+1)↔FreshT U k e :=
 ⟨fun H=>⟨H.1,fun i hi=>H.2 i (by omega)⟩,fun H=>⟨H.1,fun i hi=>by
  by_cases q : i=e
  ·rw [q]; exact h
  ·exact H.2 i (by omega)⟩⟩
theorem freshT_0 {U : List (List Int)} {k : Nat} : FreshT U k 0↔FreshK U k:=⟨fun H=>H.1,fun H=>⟨H,fun i hi=>by omega⟩⟩
theorem freshT_n {U : List (List Int)} {k : Nat} : FreshT U k (U.getD k default).length↔FreshK U (k+1) :=
 ⟨fun H i hi=>by
  by_cases e : i=k
  ·rw [e]; exact H.2
  ·exact H.1 i (by omega),fun H=>⟨fun i hi=>H i (by omega),H k (by omega)⟩⟩
theorem fnSheafUnits_ok (B : Nat) (code : List UInt8) : Pur Tryz.prog B 5 [mL Go.AW.iB code] (.bool true):=by
 refine ⟨fun H0=>c5p.go fun _=>?_⟩
 have o : Owns H0 H0 []:=.nil _;refine tt ?_;refine (big_ok B code).go fun _=>tt ?_;apply bk <;> intro g0
 ·refine tt ?_;exact pure_ret rfl (.refl _)
 refine tt ?_;refine (drawUnit_ok B code).go fun r _ ⟨j,f,e⟩=>?_;subst e;refine tt ?_;refine nb o fun id3 H o=>tt ?_;refine nb o fun id4 H o=>tt ?_;refine sw o.swap fun H o=>tt ?_;refine sw o.swap fun H o=>tt ?_;refine wk_ref 4 o rfl fun H o=>wk_ref 3 o rfl fun H o=>wkW_done ?_;refine tt ?_;refine (implSheafUnit_v B j f).go fun _=>tt ?_;refine nb o fun id5 H o=>tt ?_;refine sw o fun H o=>tt ?_;refine (SheafUnit_v B j f).go fun _=>tt ?_;refine nb o fun id7 H o=>tt ?_;refine sw o fun H o=>tt ?_;refine wk_ref 7 o rfl fun H o=>wk_ref 5 o rfl fun H o=>wkW_done ?_;refine td ?_;refine (likeMaps5_ok B (shfM j f)).go fun _=>?_;refine td ?_
 by_cases hz : twoC j f=0
 rotate_left
 ·rw [decide_eq_false hz];refine tt ?_;exact pure_ret rfl o.sub
 obtain ⟨hcf,hfew⟩:=two_z hz
 obtain ⟨hF,hf,hsh,hcov⟩:=code_cov hcf
 have hid:=code_id hcf
 have hU : shfM j f=⟨f,stepSF (stepSF f (leastL f.shape j.covers)) (leastL f.shape j.covers),thenS (unitS f (leastL f.shape j.covers)) (unitS (stepSF f (leastL f.shape j.covers)) (leastL f.shape j.covers))⟩:=by
  rw [shfM,if_pos ⟨hcf,hfew⟩,hsh]
 have hM : unitM j f=⟨f,stepSF f (leastL f.shape j.covers),unitS f (leastL f.shape j.covers)⟩:=by
  rw [unitM,if_pos ⟨hcf,hfew.1⟩,hsh]
 have hfc : firstC j f=0:=by rw [firstC,if_pos hcf,if_pos hfew.1]
 rw [hsh] at hfew
 have hi1:=step_is hf hcov hfew.1
 have hi2:=step_is hi1 hcov hfew.2
 have k1 : codeF j (stepSF f (leastL f.shape j.covers))=0:=code_on hcf hi1 rfl
 have k2 : codeF j (stepSF (stepSF f (leastL f.shape j.covers)) (leastL f.shape j.covers))=0:=code_on hcf hi2 rfl
 have q1:=implSheafOf_v B j f
 have q2:=implIsSheaf_ok B j (stepSF (stepSF f (leastL f.shape j.covers)) (leastL f.shape j.covers))
 have q3:=implIsSheaf_ok B j f
 have q4:=IsSheaf_ok B j f
 have q5:=implSheafStep_v B j f
 have q6:=SheafStep_v B j f
 have q7:=implSep_ok B j (stepSF f (leastL f.shape j.covers)) k1
 have q9:=implSep_ok B j f hcf
 have hs1:=step_sep hf.1 hcov hid
 have hs2 : SheafLeast (stepSF (stepSF f (leastL f.shape j.covers)) (leastL f.shape j.covers)) (leastL f.shape j.covers):=step_sheaf (f:=stepSF f (leastL f.shape j.covers)) hi1.1 hi1.compL hcov hid hfew.2 hs1
 have hmp:=two_map hf.1 hf.compL hcov hid hfew
 have q8:=isSetMap_ok4 B ⟨f,stepSF (stepSF f (leastL f.shape j.covers)) (leastL f.shape j.covers),thenS (unitS f (leastL f.shape j.covers)) (unitS (stepSF f (leastL f.shape j.covers)) (leastL f.shape j.covers))⟩;rw [dec_t (mapL_is4 hf hi2 rfl hmp)] at q8
 have hO:=two_onto hf.1 hf.compL hcov hid hfew
 have hFr:=two_fresh hf.1 hf.compL hcov hid hfew;rw [hU,hz] at q1;rw [k2,dec_t (show ShB j _ from ⟨k2,by rw [hsh]; exact hs2⟩)] at q2;rw [hcf,dec_congr (show ShB j f↔SheafLeast f (leastL f.shape j.covers) from ⟨fun h=>by rw [← hsh]; exact h.2,fun h=>⟨hcf,by rw [hsh]; exact h⟩⟩)] at q3 q4;rw [hM,hfc] at q5 q6;rw [hsh,dec_t hs1] at q7;rw [hsh] at q9;rw [hU,hz]
 have hUl : (thenS (unitS f (leastL f.shape j.covers)) (unitS (stepSF f (leastL f.shape j.covers)) (leastL f.shape j.covers))).length=f.sizes.length:=by simp [thenS,unitS]
 have hSl : (stepSF (stepSF f (leastL f.shape j.covers)) (leastL f.shape j.covers)).sizes.length=f.sizes.length:=by
  have h1:=hi2.1.sl
  have h2:=hf.1.sl
  have h3 : (stepSF (stepSF f (leastL f.shape j.covers)) (leastL f.shape j.covers)).shape.objs=f.shape.objs:=rfl;omega
 have hpos : ∀ i : Nat,i<f.sizes.length→0≤(stepSF (stepSF f (leastL f.shape j.covers)) (leastL f.shape j.covers)).sizes.getD i default:=fun i hi=>(hi2.1.sz _ (mem_getD.mpr ⟨i,by omega,rfl⟩)).1
 have hrl : ∀ i : Nat,i<f.sizes.length→((thenS (unitS f (leastL f.shape j.covers)) (unitS (stepSF f (leastL f.shape j.covers)) (leastL f.shape j.covers))).getD i default).length≤16:=fun i hi=>by
  have h1:=hf.1.sl
  have h2:=(hmp.pl (i : Int) ⟨by omega,by omega⟩).1
  have h3:=hf.1.sizeAt (y:=(i : Int)) ⟨by omega,by omega⟩;rw [ix_nat] at h2;omega
 have hob:=hf.1.is.1.o
 have hsl:=hf.1.sl
 generalize unitS f (leastL f.shape j.covers)=u1 at *
 generalize hV : leastL f.shape j.covers=V at *
 generalize stepSF f V=S1 at *
 generalize hS2 : stepSF S1 V=S2 at *
 generalize thenS u1 (unitS S1 V)=U at *;refine td ?_;refine q1.go fun _=>tt ?_;refine nb o fun id9 H o=>tt ?_;refine sw o fun H o=>tt ?_;refine wk_ref 9 o rfl fun H o=>wkW_done ?_;refine tt ?_;refine q2.go fun _=>tt ?_;refine q3.go fun _=>tt ?_;refine q4.go fun _=>tt ?_;refine q5.go fun _=>tt ?_;refine nb o fun id17 H o=>tt ?_;refine sw o fun H o=>tt ?_;refine wk_ref 17 o rfl fun H o=>wkW_done ?_;refine tt ?_;refine q6.go fun _=>tt ?_;refine nb o fun id19 H o=>tt ?_;refine sw o fun H o=>tt ?_;refine wk_ref 19 o rfl fun H o=>wkW_done ?_;refine tt ?_;refine q7.go fun _=>?_
 generalize hb : dec (SheafLeast f V)=b
 have hbe : (b == b)=true:=by cases b <;> rfl
 refine td ?_;refine q8.go fun _=>?_;try simp only [go_sem,↓reduceIte,reduceEqDiff,reduceAdd,reduceMul,reduceLeDiff,reduceLT,dT5,hbe]
 refine (likeSets5_ok B S2).go fun _=>?_;try simp only [go_sem,↓reduceIte,reduceEqDiff,reduceAdd,reduceMul,reduceLeDiff,reduceLT,dT5,hbe]
 refine (likeSets5_ok B S1).go fun _=>?_;try simp only [go_sem,↓reduceIte,reduceEqDiff,reduceAdd,reduceMul,reduceLeDiff,reduceLT,dT5,hbe]
 have os : H0.sub H:=o.sub;clear o;refine awp_for [3,4,7,15] (G:=Unit) (fun k _=>[(23,some (.bool (dec (OntoK S2 U k)))),(24,some (.bool (dec (FreshK U k)))),(25,some (.int .i64 (k : Int)))]) (fun k _ H=>H0.sub H) f.sizes.length () os (by rw [dec_t (show OntoK S2 U 0 from fun i hi=>by omega),dec_t (show FreshK U 0 from fun i hi=>by omega)]; rfl) ?_;clear os
 rintro k _ H hk1 os
 replace os : H0.sub H:=os;refine tt ?_;apply bk <;> intro h1
 ·have h1p : k<f.sizes.length:=of_decide h1
  have w1:=wsucc (k:=k) (by omega)
  have hO' : Pur Tryz.prog B 46 [iI (S2.sizes.getD k default),iL (U.getD k default)] (.bool (dec (Onto (S2.sizes.getD k default) (U.getD k default)))):=onto5_ok B (S2.sizes.getD k default) (U.getD k default) (hpos k h1p)
  have hrk:=hrl k h1p;refine cut_mid (fun σ H=>σ=[(3,some (.ptr j.cells)),(4,some (.ptr f.cells)),(7,some (.ptr (SM.cells ⟨f,S2,U⟩))),(15,some (.bool b)),(23,some (.bool (dec (OntoK S2 U (k+1))))),(24,some (.bool (dec (FreshK U k)))),(25,some (.int .i64 (k : Int)))]∧H0.sub H) ?_ ?_
  ·by_cases hP : OntoK S2 U k
   ·rw [dec_t hP];refine tt ?_;refine ⟨by omega,by omega,_,hO'.run, ?_⟩
    by_cases hQ : Onto (S2.sizes.getD k default) (U.getD k default)
    ·rw [dec_t hQ];refine tt ?_;exact wkW_done ⟨by rw [dec_t ((ontoK_t hQ).mpr hP)],os⟩
    ·rw [dec_f hQ];refine tt ?_;exact wkW_done ⟨by rw [dec_f (show ¬ OntoK S2 U (k+1) from fun e=>hQ (e k (by omega)))],os⟩
   ·rw [dec_f hP];refine tt ?_;exact wkW_done ⟨by rw [dec_f (show ¬ OntoK S2 U (k+1) from fun e=>hP fun i hi=>e i (by omega))],os⟩
  rintro σ H ⟨rfl,os⟩;refine tt ?_;refine awp_for [3,4,7,15,23,25] (G:=Unit) (fun e _=>[(24,some (.bool (dec (FreshT U k e)))),(26,some (.int .i64 (e : Int)))]) (fun e _ H=>H0.sub H) (U.getD k default).length () os (by rw [dec_congr freshT_0]; rfl) ?_;clear os
  rintro e _ H hk2 os
  replace os : H0.sub H:=os;refine tt ?_;refine ⟨by omega, ?_⟩;apply bk <;> intro h2
  ·have h2p : e<(U.getD k default).length:=of_decide h2
   have w2:=wsucc (k:=e) (by omega)
   by_cases hT : FreshT U k e
   ·rw [dec_t hT];refine tt ?_;refine ⟨by omega,by omega,by omega,h2p,_,(hasInt_ok B ((U.getD k default).take e) ((U.getD k default).getD e default)).run, ?_⟩
    by_cases hm : (U.getD k default).getD e default∈(U.getD k default).take e
    ·rw [dec_t hm];refine tw w2 ?_;exact for_next () (by omega) os (by rw [dec_f (show ¬ FreshT U k (e+1) from fun q=>q.2 e (by omega) hm)])
    ·rw [dec_f hm];refine tw w2 ?_;exact for_next () (by omega) os (by rw [dec_t ((freshT_t hm).mpr hT)])
   ·rw [dec_f hT];refine tw w2 ?_;exact for_next () (by omega) os (by rw [dec_f (show ¬ FreshT U k (e+1) from fun q=>hT ⟨q.1,fun i hi=>q.2 i (by omega)⟩)])
  ·have h2p : ¬ e<(U.getD k default).length:=of_ndecide h2
   obtain rfl : e=(U.getD k default).length:=by omega
   refine tw w1 ?_;exact for_next () (by omega) os (by rw [dec_congr freshT_n])
 have h1p : ¬ k<f.sizes.length:=of_ndecide h1
 obtain rfl : k=f.sizes.length:=by omega
 have e1 : dec (OntoK S2 U f.sizes.length)=b:=(dec_congr hO).trans hb
 have e2 : dec (FreshK U f.sizes.length)=dec (SepL f V):=dec_congr hFr;rw [e1,e2];refine tt ?_;refine q9.go fun _=>?_
 generalize dec (SepL f V)=c
 have hce : (c == c)=true:=by cases c <;> rfl
 try simp only [go_sem,↓reduceIte,reduceEqDiff,reduceAdd,reduceMul,reduceLeDiff,reduceLT,dT5,hbe,hce]
 exact pure_ret rfl os
end Go.Proofs.Shf
namespace Go.AW
def WN (P : AV→Prop) (a : AV) : Prop:=(∃ al : List AV,a=.sl al∧∀ x,x∈al→P x)∨∃ n,1048576<n∧n≤140737488355328∧a=.big n
def WB (a : AV) : Prop:=(∃ l : List UInt8,a=mL iB l)∨∃ n,1048576<n∧n≤140737488355328∧a=.big n
end Go.AW
namespace Go.Proofs.Shf
open Go.AW Go.Proofs Go.Shf
open Go.Deep
def gh0 (W : World) : Gh:=⟨fun b o=>W.cell? ⟨b,o,none⟩,fun _=>none,fun _=>none⟩
theorem wrel0 (W : World) : WRel (gh0 W) W.heap.size [] W where
 fz b o v h:=h
 fm b es h:=by cases h
 ob i o h:=by simp [Heap.get] at h
 inj i j b c c' n h:=by simp [Heap.get] at h
 injm i j b n h:=by simp [Heap.get] at h
 base:=Nat.le_refl _
 fin:=⟨0,fun i _=>rfl⟩
section
variable {H : Type} {enc : TypeId × Value→H} {W : World}
def RdV (enc : TypeId × Value→H) (W : World) (t : TypeId) (Q : AV→Prop) : Prop :=
 ∀ fuel v d ps,DataW.trod enc Tryz.prog W 0 (fun _=>true) true fuel t [v]=some (d,ps)→(∀ n,n∈d.weights Tryz.prog t→n≤reachBytes)→∃ a,Q a∧VRel (gh0 W) a v
theorem rd_byte : RdV enc W 5 fun a=>∃ b : UInt8,a=Go.AW.iB b:=by
 intro fuel v d ps h _
 cases fuel with
 | zero=>simp [DataW.trod] at h
 | succ fuel =>
  cases v <;> simp only [DataW.trod,Tryz.underlying5] at h <;> try (cases h; done)
  rename_i k n
  split at h
  ·rename_i hk
   obtain ⟨rfl,hf⟩:=hk
   have hr : 0≤n∧n≤255:=by
    simp only [Lit.wf,Bool.and_eq_true,decide_eq_true_eq] at hf;exact ⟨hf.1,hf.2⟩
   refine ⟨_,⟨UInt8.ofNat n.toNat,rfl⟩, ?_⟩
   have e : Go.AW.iB (UInt8.ofNat n.toNat)=.int .u8 n:=by
    have h1 : (UInt8.ofNat n.toNat).toNat=n.toNat:=by rw [UInt8.toNat_ofNat']; omega
    rw [Go.AW.iB,h1,Int.toNat_of_nonneg hr.1]
   rw [e];exact .int _ n
  ·cases h
theorem weightsAll_mem {P : Program} {e : TypeId} {l : List (DataW H)} {x : DataW H} (hx : x∈l) {n : Nat} (hn : n∈x.weights P e) : n∈DataW.weightsAll P e l:=by
 induction l with
 | nil=>simp at hx
 | cons y r ih =>
  simp only [DataW.weightsAll,List.mem_append]
  rcases List.mem_cons.mp hx with rfl | hx
  ·exact .inl hn
  ·exact .inr (ih hx)
theorem rd_slice {t e : TypeId} {Q : AV→Prop} (ht : Tryz.prog.underlying t=some (.slice e)) (hc : Tryz.prog.cellsOf e=1) (hb : 1≤Tryz.prog.bytesOf e) (hQ : ∀ a,Q a→a.cells=[a]) (h : RdV enc W e Q) : RdV enc W t (WN Q):=by
 intro fuel v d ps htr hw
 rcases open_slice1 ht hc htr with ⟨hv,hx⟩ | ⟨a,len,cap,m,n,V,D,Pl,hv,_,hl,hm,hmm,hx,hel⟩
 ·injection hv with hv
  subst hv;exact ⟨.sl [],.inl ⟨[],rfl,by simp⟩,.slnil none 0⟩
 ·injection hv with hv
  subst hv;simp only [if_true] at hmm;subst hmm;simp only [Prod.mk.injEq] at hx
  obtain ⟨rfl,rfl⟩:=hx
  have hw0 : (((List.range len).map D).length+((List.range (m - len)).map fun j=>D (len+j)).length)*Tryz.prog.bytesOf e≤reachBytes:=hw _ (by simp [DataW.weights,ht])
  have hlen : len≤140737488355328:=by
   simp only [List.length_map,List.length_range] at hw0
   have h1 : len*1≤(len+(m - len))*Tryz.prog.bytesOf e:=Nat.mul_le_mul (by omega) hb
   have h2 : reachBytes≤140737488355328:=by decide
   omega
  by_cases hbig : 1099511627776<len
  ·exact ⟨.big len,.inr ⟨len,by omega,hlen,rfl⟩,.big _ _ _ hlen⟩
  ·have hall : ∀ i,∃ x,i<len→Q x∧VRel (gh0 W) x (V i):=by
    intro i
    by_cases hi : i<len
    ·obtain ⟨x,q1,q2⟩:=h n (V i) (D i) (Pl i) (hel i (by omega)).2 fun k hk=>hw k (by
      simp only [DataW.weights,ht,List.mem_cons,List.mem_append];exact .inr (.inl (weightsAll_mem (List.mem_map.mpr ⟨i,List.mem_range.mpr hi,rfl⟩) hk)))
     exact ⟨x,fun _=>⟨q1,q2⟩⟩
    ·exact ⟨.nilp,fun h=>absurd h hi⟩
   obtain ⟨A,hA⟩:=Classical.axiomOfChoice hall
   have hget : ∀ i,i<len→((List.range len).map A).getD i nv=A i:=fun i hi=>getD_map_range A nv hi;refine ⟨.sl ((List.range len).map A),.inl ⟨_,rfl,fun x hx=>?_⟩, ?_⟩
   ·obtain ⟨i,hi,rfl⟩:=List.mem_map.mp hx;exact (hA i (List.mem_range.mp hi)).1
   ·by_cases h0 : len=0
    ·subst h0; exact .slnil _ _
    ·have hsp : a=⟨a.block,a.off,none⟩:=by
      have:=(hel 0 (by omega)).1
      obtain ⟨b,o,s⟩:=a
      cases s with
      | none=>rfl
      | some s=>exfalso; simp [Addr.add,World.cell?] at this; split at this <;> simp at this
     have hadd : ∀ i,a.add i=⟨a.block,a.off+i,none⟩:=by
      intro i;rw [hsp];unfold Addr.add
      split
      ·rename_i e; simp [e]
      ·rfl
     have key : VRel (gh0 W) (.sl ((List.range len).map A)) (.slice (some ⟨a.block,a.off,none⟩) ((List.range len).map A).length m):=by
      refine .sl _ a.block a.off 1 m V (by simp [maxL]; omega) (by simp; omega) (fun i hi=>?_) (fun i j hi hj=>?_) (fun i j hi hj=>?_)
      ·rw [hget i (by simpa using hi),hQ _ (hA i (by simpa using hi)).1]; rfl
      ·have hi' : i<len:=by simpa using hi
       have:=(hel i (by omega)).1;rw [hadd] at this
       have e : i*1+j=i:=by omega
       rw [e]; exact this
      ·have hi' : i<len:=by simpa using hi
       have e : i*1+j=i:=by omega
       obtain rfl : j=0:=by omega
       rw [e,hget i hi',hQ _ (hA i hi').1];exact (hA i hi').2
     rw [List.length_map,List.length_range,← hsp] at key;exact key
theorem WB.of {a : AV} (h : WN (fun a=>∃ b : UInt8,a=Go.AW.iB b) a) : WB a:=by
 rcases h with ⟨l,rfl,hl⟩ | h
 ·refine .inl ⟨l.map fun x=>match x with | .int _ n=>UInt8.ofNat n.toNat | _=>0, ?_⟩
  rw [mL,List.map_map]
  congr 1
  have : ∀ x,x∈l→(Go.AW.iB ∘ fun x : AV=>match x with | .int _ n=>UInt8.ofNat n.toNat | _=>0) x=x:=fun x hx=>by
   obtain ⟨n,rfl⟩:=hl x hx
   simp [Go.AW.iB]
  exact ((List.map_congr_left this).trans (by simp)).symm
 ·exact .inr h
theorem rd_bytes : ∀ fuel v d ps,DataW.trod enc Tryz.prog W 0 (fun _=>true) true fuel 22 [v]=some (d,ps)→(∀ n,n∈d.weights Tryz.prog 22→n≤reachBytes)→∃ a,WB a∧VRel (gh0 W) a v:=fun fuel v d ps k w=>by
 obtain ⟨a,q1,q2⟩:=rd_slice Tryz.underlying22 (by kernel_rfl) (of_decide_eq_true (by kernel_rfl)) (fun a ⟨n,e⟩=>by rw [e]; rfl) rd_byte fuel v d ps k w;exact ⟨a,WB.of q1,q2⟩
end
theorem big_big (B n : Nat) (hn : 1048576<n) : Pur Tryz.prog B 8 [.big n] (.bool true):=by
 refine ⟨fun H0=>c8.go fun hf=>?_⟩;refine tt ?_;exact pure_ret (by congr 1; simp; omega) (.refl _)
end Go.Proofs.Shf
namespace Go.Proofs.Shf
open Go.AW Go.Proofs Go.Shf
theorem fnSheafUnits_all (B : Nat) (a : AV) (h : WB a) : Pur Tryz.prog B 5 [a] (.bool true):=by
 rcases h with ⟨l,rfl⟩ | ⟨n,hn,_,rfl⟩
 ·exact fnSheafUnits_ok B l
 ·refine ⟨fun H0=>c5p.go fun _=>?_⟩;refine tt ?_;refine (big_big B n hn).go fun _=>tt ?_;exact pure_ret rfl (.refl _)
end Go.Proofs.Shf
