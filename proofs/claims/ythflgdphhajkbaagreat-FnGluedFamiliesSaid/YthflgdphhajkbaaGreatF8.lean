/- A part of a proof. -/
import Derived.Test.YthflgdphhajkbaaGreatF7
import Derived.Test.YthflgdphhajkbaaGreatProg
import Derived.Recover
import Derived.Tactics
import Derived.Deep.Slices
import Derived.SizedLaws
set_option linter.unusedVariables false
set_option linter.unusedSimpArgs false
set_option linter.unusedSectionVars false
open Nat (reduceEqDiff reduceAdd reduceMul reduceLeDiff reduceLT)
namespace Go.Proofs.Shf
open Go.AW Go.Proofs
end Go.Proofs.Shf
namespace Go.Proofs.Shf
open Go.AW Go.Proofs Go.Shf
end Go.Proofs.Shf
namespace Go.AW
end Go.AW
namespace Go.Proofs.Shf
open Go.AW Go.Proofs Go.Shf
end Go.Proofs.Shf
namespace Go.Shf
open Go.AW
end Go.Shf
namespace Go.Proofs.Shf
open Go.AW Go.Proofs Go.Shf
end Go.Proofs.Shf
namespace Go.AW
open Go.Proofs Go.Shf Go.Proofs.Shf
theorem Pur.weak {P : Program} {B : Nat} {f : FuncId} {args : List AV} {r r' : AV} (h : Pur P B f args r) (hw : ∀ g v,VRel g r v→VRel g r' v) : Pur P B f args r':=by
 refine ⟨fun H=>⟨(h.run H).1,fun g w vs hW hv=>?_⟩⟩;refine ((h.run H).2 g w vs hW hv).mono fun e w' ⟨v,he,g',r2,H',q1,⟨q2,q3⟩,q4,q5,q6⟩=>?_;subst q2 q3;exact ⟨v,he,g',r',H',q1,⟨rfl,rfl⟩,hw _ _ q4,q5,q6⟩
end Go.AW
namespace Go.Proofs.Shf
open Go.AW Go.Proofs Go.Shf
def WkV (a b : AV) : Prop:=∀ g v,VRel g a v→VRel g b v
theorem WkV.refl (a : AV) : WkV a a:=fun _ _ h=>h
theorem WkV.nil : WkV .nilsl (.sl []):=fun g v h=>by cases h; exact .slnil none 0
inductive WkL : List AV→List AV→Prop
 | nil : WkL [] []
 | cons {a b : AV} {r s : List AV} (h : WkV a b) (t : WkL r s) : WkL (a::r) (b::s)
theorem WkL.get {r s : List AV} (h : WkL r s) : r.length=s.length∧∀ i,i<r.length→WkV (r.getD i nv) (s.getD i nv):=by
 induction h with
 | nil=>exact ⟨rfl,fun i hi=>by simp at hi⟩
 | cons h _ ih =>
  refine ⟨by simp [ih.1],fun i hi=>?_⟩
  cases i with
  | zero=>simpa using h
  | succ i=>simpa using ih.2 i (by simpa using hi)
theorem WkV.agg {r s : List AV} (h : WkL r s) : WkV (.agg r) (.agg s):=fun g v hv=>by
 obtain ⟨hl,h⟩:=h.get
 cases hv with
 | agg _ vs hs hv=>exact .agg s vs (by omega) fun i hi=>h i (by omega) g _ (hv i (by omega))
theorem WkV.tup {r s : List AV} (h : WkL r s) : WkV (.tup r) (.tup s):=fun g v hv=>by
 obtain ⟨hl,h⟩:=h.get
 cases hv with
 | tup _ vs hs hv=>exact .tup s vs (by omega) fun i hi=>h i (by omega) g _ (hv i (by omega))
theorem wk7 : WkL [.int .i64 0,.nilsl,.nilsl,.nilsl,.nilsl,.nilsl,.nilsl] (SF.cells zSF):=.cons (.refl _) (.cons .nil (.cons .nil (.cons .nil (.cons .nil (.cons .nil (.cons .nil .nil))))))
theorem WkV.code {r s : List AV} {c : AV} (h : WkL r s) : WkV (.tup [.agg r,c]) (.tup [.agg s,c]):=.tup (.cons (.agg h) (.cons (.refl _) .nil))
theorem SheafOf_v (B : Nat) (j : Top) (f : SF) : Pur Tryz.prog B 32 [.agg j.cells,.agg f.cells] (.tup [.agg (SF.cells (shfM j f).tgt),.int .i64 (twoC j f)]):=by
 refine (SheafOf_ok B j f).weak fun g v hv=>?_
 by_cases h : codeF j f=0∧TwoFew f (leastL j.shape j.covers)
 ·rw [twoB,if_pos h] at hv;rw [shfM,if_pos h]; exact hv
 ·rw [twoB,if_neg h] at hv;rw [shfM,if_neg h]; exact WkV.code wk7 g v hv
theorem implSheafOf_v (B : Nat) (j : Top) (f : SF) : Pur Tryz.prog B 31 [.agg j.cells,.agg f.cells] (.tup [.agg (SF.cells (shfM j f).tgt),.int .i64 (twoC j f)]):=New.pur (f:=fun m : SF=>.tup [.agg m.cells,.int .i64 (twoC j f)]) (owSF.tupc _) (implSheafOf_new B j f)
end Go.Proofs.Shf
namespace Go.Shf
open Go.AW
end Go.Shf
namespace Go.Proofs.Shf
open Go.AW Go.Proofs Go.Shf
end Go.Proofs.Shf
namespace Go.Shf
open Go.AW
theorem step_is {f : SF} {V : List (List Int)} (h : f.Is) (v : CovOk f.shape V) (hf : StepFew f V) : (stepSF f V).Is:=by
 have hs:=step_shape h.1 v hf
 have hc:=step_comp h.1 v hf;refine ⟨hs,⟨fun x hx e he=>?_,fun a b ha hb hab e he=>?_⟩⟩
 ·replace hx : x<f.shape.idn.length:=hx
  have hid:=h.1.is.1.il
  have hxo : 0≤(x : Int)∧(x : Int)<f.shape.objs:=by omega
  have ha:=h.1.is.1.idArr hxo;rw [ix_nat] at ha
  show (ix (stepActs f V) (f.shape.idn.getD x default)).getD e default=e
  replace he : e<(ix (stepActs f V) (f.shape.idn.getD x default)).length:=he;rw [stepActs_ix ha.1,List.length_map] at he
  have s1:=step_act h.1 v ha.1 (k:=(e : Int)) ⟨by omega,by simpa using he⟩;rw [← ix_nat (ix (stepActs f V) _),s1.1]
  have hfi:=fam_idx h.1 v (x:=ix f.shape.frm (f.shape.idn.getD x default)) (by rw [ha.2.1]; exact hxo) (k:=(e : Int)) ⟨by omega,by simpa using he⟩
  have hm : movedF f.shape V (f.shape.idn.getD x default) (ix (famS f (ix V (ix f.shape.frm (f.shape.idn.getD x default)))) e)=ix (famS f (ix V (ix f.shape.frm (f.shape.idn.getD x default)))) e:=by
   have h1:=hfi.1;rw [ha.2.1] at h1 ⊢;refine fam_ext (v.at hxo).nodup (by rw [movedF,List.length_map,ha.2.2]) h1.len fun b hb=>?_
   have hbv:=(v.at hxo).arr hb
   have:=moved_entry (c:=f.shape) (V:=V) (a:=f.shape.idn.getD x default) (b:=b) (t:=ix (famS f (ix V x)) e) (by rw [ha.2.2]; exact hb);rw [ha.2.2,ha.2.1] at this;rw [this]
   have hi:=h.1.is.idl hbv.1;rw [hbv.2,ix_nat] at hi;rw [hi]
  rw [hm]
  have h2:=hfi.2;rw [ha.2.1] at h2;rw [ha.2.1,ha.2.2];exact h2
 ·have:=hc a b ⟨by omega,by simpa using ha⟩ ⟨by omega,by simpa using hb⟩ (by simpa only [ix_nat] using hab) e ⟨by omega,by simpa [ix_nat] using he⟩
  simpa only [ix_nat] using this
end Go.Shf
namespace Go.Proofs.Shf
open Go.AW Go.Proofs Go.Shf
theorem code_top {j : Top} {f : SF} (h : codeF j f=0) : AllFew j.shape∧TopIs j.shape j.covers∧(j.covers.length : Int)=j.shape.objs∧∀ x : Nat,x<j.covers.length→∀ s,s∈j.covers.getD x default→j.shape.Sieve x s:=by
 obtain ⟨hF,hf,hct,hsh⟩:=codeF_z h
 have haf : AllFew j.shape:=by
  unfold codeT at hct;rw [if_neg (fun e=>e hF)] at hct;apply Classical.byContradiction; intro e;rw [if_pos e] at hct; cases hct
 refine ⟨haf, ?_,hF.len,fun x hx s hs=>?_⟩
 ·unfold codeT at hct;rw [if_neg (fun e=>e hF),if_neg (fun e=>e haf)] at hct;apply Classical.byContradiction; intro e;rw [if_neg e] at hct; cases hct
 ·obtain ⟨k,hk,rfl⟩:=mem_getD.mp hs;exact hF.sv x hx k hk
theorem code_id {j : Top} {f : SF} (h : codeF j f=0) : CovId f.shape (leastL f.shape j.covers):=by
 obtain ⟨hF,hf,hct,hsh⟩:=codeF_z h
 obtain ⟨_,ht,hl,hs⟩:=code_top h;rw [hsh] at ht hl hs;exact least_id hf.1.is hl hs ht
theorem dT5 {p : Decidable True} : @decide True p=true:=@decide_eq_true True p trivial
theorem lkRows5_ok (B : Nat) (a : List (List Int)) : Pur Tryz.prog B 27 [iLL a,iLL a] (.bool true):=by
 refine ⟨fun H0=>c27.go fun ⟨hf,_⟩=>?_⟩
 have hl:=fine_mL_le hf;simp only [maxL] at hl;refine tt ?_;refine ⟨fun e=>(by simp at e),fun _=>At.mk ?_⟩;refine tt ?_;refine awp_for [0,1] (G:=Unit) (fun k _=>[(5,some (.int .i64 (k : Int)))]) (fun k _ H=>H=H0) a.length () rfl rfl ?_
 rintro k _ H hk rfl;refine tt ?_;apply bk <;> intro h1
 ·have h1p : k<a.length:=of_decide h1
  have w:=wsucc (k:=k) (by omega);refine tt ?_;refine ⟨h1p,h1p,tt ?_⟩;refine ⟨_,(likeInts_ok B _ _).run, ?_⟩;rw [dec_t rfl];refine tw w ?_;exact for_next () (by omega) rfl rfl
 ·refine tt ?_;exact pure_ret rfl (.refl _)
theorem likeCat5_ok (B : Nat) (c : Cat) : Pur Tryz.prog B 17 [.agg c.cells,.agg c.cells] (.bool true):=by
 refine ⟨fun H0=>c17.go fun _=>?_⟩;refine td ?_;refine (likeInts_ok B _ _).go fun _=>?_;rw [dec_t rfl];refine td ?_;refine (likeInts_ok B _ _).go fun _=>?_;rw [dec_t rfl];refine td ?_;refine (likeInts_ok B _ _).go fun _=>?_;rw [dec_t rfl];refine td ?_;refine (lkRows5_ok B _).go fun _=>?_;refine td ?_;exact pure_ret rfl (.refl _)
theorem likeSets5_ok (B : Nat) (f : SF) : Pur Tryz.prog B 33 [.agg f.cells,.agg f.cells] (.bool true):=by
 refine ⟨fun H0=>c33.go fun _=>?_⟩;refine td ?_;refine (likeCat5_ok B f.shape).go fun _=>?_;refine td ?_;refine (likeInts_ok B _ _).go fun _=>?_;rw [dec_t rfl];refine td ?_;refine (lkRows5_ok B _).go fun _=>?_;refine td ?_;exact pure_ret rfl (.refl _)
theorem drawOf_ok (B : Nat) (code : List UInt8) : Rets B 30 [mL Go.AW.iB code] DrawJF:=by
 intro H0;refine c30.go fun _=>?_
 have o : Owns H0 H0 []:=.nil _;refine tt ?_;refine nb o fun id2 H o=>tt ?_;refine nb o fun id3 H o=>tt ?_;refine (l28On_ok B code).go fun r _ ⟨j,f,e⟩=>?_;subst e;refine tt ?_;refine sw o.swap fun H o=>tt ?_;refine sw o.swap fun H o=>tt ?_
 have hr3:=o.rc 7 0 (by simp)
 have hr2:=o.tl.rc 6 0 (by simp);simp only [List.drop_zero] at hr2 hr3;rw [hr2,hr3];exact rets_ret ⟨j,f,rfl⟩ o.sub
theorem amR_at (f : SF) (x : Int) (s t : List Int) (h0 : sieveC f x s=0) : ∃ (A : List Int) (cd : Int),amR f x s t=.tup [iL A,iI cd]∧(cd=0∨cd=5)∧(cd=0↔Fam f s t):=by
 by_cases h1 : Fam f s t
 ·exact ⟨glue f x s t,0,by rw [amR,if_pos h0,if_pos h1],.inl rfl,by simp [h1]⟩
 ·exact ⟨[],5,by rw [amR,if_pos h0,if_neg h1],.inr rfl,by simp [h1]⟩
theorem sieveC_c (f : SF) (x : Int) (s : List Int) (h0 : ¬ sieveC f x s=0) : sieveC f x s=1∨sieveC f x s=2:=by
 unfold sieveC at *
 split
 ·exact .inl rfl
 ·split
  ·exact .inr rfl
  ·rename_i h1 h2
   rw [if_neg h1,if_neg h2] at h0
   split
   ·exact .inl rfl
   ·rename_i h3
    rw [if_neg h3] at h0;exact absurd rfl h0
theorem cover_fams {j : Top} {g : SF} (hcf : codeF j g=0) (hfew : TwoFew g (leastL g.shape j.covers)) {y : Int} (hy : 0≤y∧y<g.shape.objs) {s : List Int} (hs : s∈j.covers.getD y.toNat default) :
  sieveC (stepSF (stepSF g (leastL g.shape j.covers)) (leastL g.shape j.covers)) y s=0∧(famS (stepSF (stepSF g (leastL g.shape j.covers)) (leastL g.shape j.covers)) s).length≤16 ∧
   ((famS (stepSF (stepSF g (leastL g.shape j.covers)) (leastL g.shape j.covers)) s).length : Int)=ix (stepSF (stepSF g (leastL g.shape j.covers)) (leastL g.shape j.covers)).sizes y:=by
 obtain ⟨hF,hf,hsh,hcov⟩:=code_cov hcf
 have hid:=code_id hcf
 obtain ⟨_,ht,hl,hsv⟩:=code_top hcf
 have hi1:=step_is hf hcov hfew.1
 have hi2:=step_is hi1 hcov hfew.2
 have hs1:=step_sep hf.1 hcov hid
 have hs2 : SheafLeast (stepSF (stepSF g (leastL g.shape j.covers)) (leastL g.shape j.covers)) (leastL g.shape j.covers):=step_sheaf (f:=stepSF g (leastL g.shape j.covers)) hi1.1 hi1.compL hcov hid hfew.2 hs1;rw [hsh] at ht hl hsv
 have key:=(sheaf_iff (f:=stepSF (stepSF g (leastL g.shape j.covers)) (leastL g.shape j.covers)) hi2.1 hi2.compL hl hsv ht).mpr hs2
 have hyl : y.toNat<j.covers.length:=by omega
 have hgood:=key y.toNat hyl s hs
 have hsi:=hsv y.toNat hyl s hs;rw [Int.toNat_of_nonneg hy.1] at hgood hsi;refine ⟨?_,hgood.1,((good_iff hi2.1 hi2.compL hsi hy).mp hgood).2⟩;unfold sieveC;rw [if_neg (fun q=>q hi2),if_neg (fun q=>q hy),if_neg (fun q=>q hsi)]
theorem fnGluedFamilies_ok (B : Nat) (code : List UInt8) : Pur Tryz.prog B 4 [mL Go.AW.iB code] (.bool true):=by
 refine ⟨fun H0=>c4p.go fun _=>?_⟩
 have o : Owns H0 H0 []:=.nil _;refine tt ?_;refine (big_ok B code).go fun _=>tt ?_;apply bk <;> intro g0
 ·refine tt ?_;exact pure_ret rfl (.refl _)
 refine tt ?_;refine (drawAmal_ok B code).go fun r _ ⟨f,x,s,t,e⟩=>?_;subst e;refine tt ?_;refine nb o fun id3 H o=>tt ?_;refine sw o fun H o=>tt ?_;refine wk_ref 3 o rfl fun H o=>wkW_done ?_;refine tt ?_;refine (implAmal_ok B f x s t).go fun _=>?_
 by_cases h0 : sieveC f x s=0
 rotate_left
 ·have hc:=sieveC_c f x s h0
  have e : amR f x s t=.tup [iL [],iI (sieveC f x s)]:=by rw [amR,if_neg h0]
  have hn5 : decide (sieveC f x s=5)=false:=decide_eq_false (by omega)
  have hn0 : decide (sieveC f x s=0)=false:=decide_eq_false h0;rw [e];refine tt ?_;refine (specAmal_ok B f x s t).go fun _=>?_;rw [e];refine td ?_;refine (likeInts_ok B [] []).go fun _=>?_;rw [dec_t rfl];refine td ?_;refine cut_mid (fun _ _=>False) ?_ fun _ _ h=>h.elim;try simp only [go_sem,↓reduceIte,reduceEqDiff,reduceAdd,reduceMul,reduceLeDiff,reduceLT,dT5,hn5,hn0]
  exact pure_ret rfl o.sub
 obtain ⟨hf,hx,hs⟩:=sieveC_z h0
 obtain ⟨g1,g2,g3,g4⟩:=sieve_glue hf hx hs
 obtain ⟨A,cd,e,hcd,hiff⟩:=amR_at f x s t h0;rw [e];refine tt ?_;refine (specAmal_ok B f x s t).go fun _=>?_;rw [e];refine td ?_;refine (likeInts_ok B A A).go fun _=>?_;rw [dec_t rfl];refine td ?_;refine cut_mid (fun σ H=>σ=[(0,some (mL Go.AW.iB code)),(3,some (.ptr f.cells)),(4,some (iI x)),(5,some (iL s)),(6,some (iL t)),(8,some (iI cd))]∧H0.sub H) ?_ ?_
 ·refine tt ?_
  rcases hcd with rfl | rfl
  ·refine td ?_;exact wkW_done ⟨rfl,o.sub⟩
  ·have d0 : decide ((5 : Int)=0)=false:=rfl
   have d5 : decide ((5 : Int)=5)=true:=rfl;try simp only [go_sem,↓reduceIte,reduceEqDiff,reduceAdd,reduceMul,reduceLeDiff,reduceLT,dT5,d0,d5]
   exact wkW_done ⟨rfl,o.sub⟩
 clear o
 rintro σ H ⟨rfl,os⟩;refine tt ?_
 obtain ⟨L,c2,e2,h2⟩ : ∃ (L : List (List Int)) (c2 : Int),mfR f x s=.tup [iLL L,iI c2]∧(c2=3∨(c2=0∧L=famS f s)):=by
  by_cases hl : (famS f s).length≤200
  ·exact ⟨famS f s,0,by rw [mfR,if_pos h0,if_pos hl],.inr ⟨rfl,rfl⟩⟩
  ·exact ⟨[],3,by rw [mfR,if_pos h0,if_neg hl],.inl rfl⟩
 refine (implFams_ok B f x s).go fun _=>?_;rw [e2];refine tt ?_;refine (specFams_ok B f x s).go fun _=>?_;rw [e2];refine td ?_;refine (lkRows5_ok B L).go fun _=>?_;refine td ?_;refine cut_mid (fun σ H=>σ=[(0,some (mL Go.AW.iB code)),(3,some (.ptr f.cells)),(4,some (iI x)),(5,some (iL s))]∧H0.sub H) ?_ ?_
 ·refine tt ?_
  rcases h2 with rfl | ⟨rfl,rfl⟩
  ·have d3 : decide ((3 : Int)=0)=false:=rfl;try simp only [go_sem,↓reduceIte,reduceEqDiff,reduceAdd,reduceMul,reduceLeDiff,reduceLT,dT5,d3]
   exact wkW_done ⟨rfl,os⟩
  ·refine td ?_;refine (hasRow5_ok B (famS f s) t).go fun _=>?_
   have hb : dec (t∈famS f s)=decide (cd=0):=by
    rw [decide_dec]; exact dec_congr (((famS_is hf.1 hs).mem t).trans hiff.symm)
   rw [hb]
   have hbe : (decide (cd=0) == decide (cd=0))=true:=by cases decide (cd=0) <;> rfl
   try simp only [go_sem,↓reduceIte,reduceEqDiff,reduceAdd,reduceMul,reduceLeDiff,reduceLT,dT5,hbe]
   exact wkW_done ⟨rfl,os⟩
 clear os
 rintro σ H ⟨rfl,os⟩;refine tt ?_;refine cut_mid (fun σ H=>σ=[(0,some (mL Go.AW.iB code))]∧H0.sub H) ?_ ?_
 ·refine tt ?_
  obtain ⟨n,hn⟩ : ∃ n : Nat,ix f.sizes x=(n : Int):=⟨(ix f.sizes x).toNat,by have:=hf.1.sizeAt hx; omega⟩;refine awp_for [0,3,4,5] (G:=Unit) (fun k _=>[(15,some (.int .i64 (k : Int)))]) (fun k _ H=>H0.sub H) n () os rfl ?_;clear os
  rintro k _ H hk os
  replace os : H0.sub H:=os;refine tt ?_;refine ⟨g1, ?_⟩;rw [hn];apply bk <;> intro h1
  ·have h1p : k<n:=by have:=of_decide h1; omega
   have w:=wsucc (k:=k) (by omega)
   have o : Owns H0 H []:=⟨os,by simp,by simp,by simp⟩
   have hsl:=hs.len
   have hml:=hf.1.is.1.m;refine tt ?_;refine new_list iI o fun id H o=>tt ?_;refine awp_for [0,3,4,5,15] (G:=Nat × List (Int)) (fun i g=>[(16,some (.buf g.1 g.2.length)),(17,some (.int .i64 (i : Int)))]) (fun i g H=>g.2=((s.take i).map fun a=>ix (ix f.acts a) k)∧Owns H0 H [(g.1,.cells 1 (g.2.map iI) 0)]) s.length (id,[]) ⟨rfl,o⟩ rfl ?_;clear o
   rintro i ⟨id,out⟩ H hi ⟨hout,o⟩;dsimp only at hout o;refine tt ?_;apply bk <;> intro h2
   ·have h2p : i<s.length:=of_decide h2
    have w2:=wsucc (k:=i) (by omega)
    have hm : s.getD i default∈s:=mem_getD.mpr ⟨i,h2p,rfl⟩
    have ha:=g3 _ hm
    have hb:=g4 _ hm;refine tt ?_;refine ⟨h2p,ha,by omega, ?_⟩;refine app_own (ix (ix f.acts (s.getD i default)) k) o rfl rfl (by rw [hout,List.length_map,List.length_take]; simp only [maxL]; omega) fun id H o=>?_;refine tw w2 ?_;exact for_next (_,_) (by omega) ⟨by rw [hout,take_map_succ s _ h2p]; simp only [ix_nat],o⟩ rfl
   have h2p:=of_ndecide h2
   have ho : out=imgs f s k:=by rw [hout,show i=s.length by omega,List.take_length]; rfl
   subst ho;refine tt ?_;refine fz_own o rfl fun H o=>?_
   have os:=o.sub;clear o
   have hfm:=imgs_fam hf.1 hf.compL hs (e:=(k : Int)) ⟨by omega,by omega⟩
   have e3 : amR f x s (imgs f s k)=.tup [iL (glue f x s (imgs f s k)),iI 0]:=by rw [amR,if_pos h0,if_pos hfm]
   have hmg : (k : Int)∈glue f x s (imgs f s k):=mem_glue.mpr ⟨⟨by omega,by omega⟩,rfl⟩;refine tt ?_;refine (implAmal_ok B f x s (imgs f s k)).go fun _=>?_;rw [e3];refine td ?_;refine (hasInt_ok B (glue f x s (imgs f s k)) k).go fun _=>?_;rw [dec_t hmg];try simp only [go_sem,↓reduceIte,reduceEqDiff,reduceAdd,reduceMul,reduceLeDiff,reduceLT,dT5,w]
   exact for_next () (by omega) os rfl
  ·refine tt ?_;exact wkW_done ⟨rfl,os⟩
 clear os
 rintro σ H ⟨rfl,os⟩
 have o : Owns H0 H []:=⟨os,by simp,by simp,by simp⟩;clear os;refine tt ?_;refine (drawOf_ok B code).go fun r _ ⟨j,g,e⟩=>?_;subst e;refine tt ?_;refine nb o fun id20 H o=>tt ?_;refine nb o fun id21 H o=>tt ?_;refine sw o.swap fun H o=>tt ?_;refine sw o.swap fun H o=>tt ?_;refine wk_ref 21 o rfl fun H o=>wk_ref 20 o rfl fun H o=>wkW_done ?_;refine tt ?_;refine (implSheafOf_v B j g).go fun _=>tt ?_;refine nb o fun id22 H o=>tt ?_;refine sw o fun H o=>tt ?_;refine wk_ref 22 o rfl fun H o=>wkW_done ?_;refine tt ?_;refine (SheafOf_v B j g).go fun _=>tt ?_;refine nb o fun id24 H o=>tt ?_;refine sw o fun H o=>tt ?_;refine wk_ref 24 o rfl fun H o=>wkW_done ?_;refine td ?_;refine (likeSets5_ok B (shfM j g).tgt).go fun _=>?_;refine td ?_
 by_cases hz : twoC j g=0
 rotate_left
 ·rw [decide_eq_false hz];refine tt ?_;exact pure_ret rfl o.sub
 obtain ⟨hcf,hfew⟩:=two_z hz
 obtain ⟨hF,hg,hsh,hcov⟩:=code_cov hcf
 have hU : (shfM j g).tgt=stepSF (stepSF g (leastL g.shape j.covers)) (leastL g.shape j.covers):=by
  rw [shfM,if_pos ⟨hcf,hfew⟩,hsh]
 rw [hsh] at hfew
 have hfams:=fun y hy s hs=>cover_fams hcf hfew (y:=y) hy (s:=s) hs
 obtain ⟨_,htop,hcl,hcs⟩:=code_top hcf;rw [hsh] at htop hcl
 have hSl : (stepSF (stepSF g (leastL g.shape j.covers)) (leastL g.shape j.covers)).sizes.length=j.covers.length:=by
  have:=hcov.len;simp only [stepSF,stepSizes,List.length_map,List.length_range];omega
 rw [hz,hU]
 generalize stepSF (stepSF g (leastL g.shape j.covers)) (leastL g.shape j.covers)=S at *;refine td ?_;apply bk <;> intro h5
 ·refine tt ?_;exact pure_ret rfl o.sub
 have h5p : ¬ g.shape.objs=0:=by simpa using h5
 have hob:=hg.1.is.1.o;refine tt ?_;refine (roll_ok B code 2806 _).mono' fun r H1 _ ⟨id,s2,e,hs2,o2⟩=>?_;subst e
 have o:=o.trans o2;refine tt ?_;refine (below_ok B g.shape.objs).go hs2 o fun r s2 H1 _ ⟨y,e,hy0,hy1,_⟩ hs2 o=>?_;subst e
 have hy : 0≤y∧y<g.shape.objs:=⟨hy0,hy1 (by omega)⟩
 have hyl : y.toNat<j.covers.length:=by omega
 have hne : 0<(j.covers.getD y.toNat default).length:=List.length_pos_of_mem (htop.top y.toNat (by omega));refine tt ?_;refine ⟨⟨hy0,hyl⟩,⟨hy0,hyl⟩, ?_⟩;refine (below_ok B ((ix j.covers y).length : Int)).go hs2 o fun r s2 H1 _ ⟨i,e,hi0,hi1,_⟩ hs2 o=>?_;subst e
 have hne2 : 0<(ix j.covers y).length:=hne
 have hi : 0≤i∧i.toNat<(ix j.covers y).length:=⟨hi0,by have:=hi1 (by omega); omega⟩
 obtain ⟨q1,q2,q3⟩:=hfams y hy (ix (ix j.covers y) i) (ix_mem (l:=ix j.covers y) hi.2)
 have e4 : mfR S y (ix (ix j.covers y) i)=.tup [iLL (famS S (ix (ix j.covers y) i)),iI 0]:=by rw [mfR,if_pos q1,if_pos (by omega)]
 refine tt ?_;refine ⟨hi,tt ?_⟩;refine (implFams_ok B S y (ix (ix j.covers y) i)).go fun _=>?_;rw [e4];refine td ?_;refine ⟨⟨hy0,by omega⟩, ?_⟩;rw [q3];refine td ?_;exact pure_ret rfl o.sub
end Go.Proofs.Shf
namespace Go.AW
def WN (P : AV→Prop) (a : AV) : Prop:=(∃ al : List AV,a=.sl al∧∀ x,x∈al→P x)∨∃ n,1048576<n∧n≤140737488355328∧a=.big n
def WB (a : AV) : Prop:=(∃ l : List UInt8,a=mL iB l)∨∃ n,1048576<n∧n≤140737488355328∧a=.big n
end Go.AW
namespace Go.Proofs.Shf
open Go.AW Go.Proofs Go.Shf
open Go.Deep
def gh0 (W : World) : Gh:=⟨fun b o=>W.cell? ⟨b,o,none⟩,fun _=>none,fun _=>none⟩
theorem wrel0 (W : World) : WRel (gh0 W) W.heap.size [] W where
 fz b o v h:=h
 fm b es h:=by cases h
 ob i o h:=by simp [Heap.get] at h
 inj i j b c c' n h:=by simp [Heap.get] at h
 injm i j b n h:=by simp [Heap.get] at h
 base:=Nat.le_refl _
 fin:=⟨0,fun i _=>rfl⟩
section
variable {H : Type} {enc : TypeId × Value→H} {W : World}
def RdV (enc : TypeId × Value→H) (W : World) (t : TypeId) (Q : AV→Prop) : Prop :=
 ∀ fuel v d ps,DataW.trod enc Tryz.prog W 0 (fun _=>true) true fuel t [v]=some (d,ps)→(∀ n,n∈d.weights Tryz.prog t→n≤reachBytes)→∃ a,Q a∧VRel (gh0 W) a v
theorem rd_byte : RdV enc W 5 fun a=>∃ b : UInt8,a=Go.AW.iB b:=by
 intro fuel v d ps h _
 cases fuel with
 | zero=>simp [DataW.trod] at h
 | succ fuel =>
  cases v <;> simp only [DataW.trod,Tryz.underlying5] at h <;> try (cases h; done)
  rename_i k n
  split at h
  ·rename_i hk
   obtain ⟨rfl,hf⟩:=hk
   have hr : 0≤n∧n≤255:=by
    simp only [Lit.wf,Bool.and_eq_true,decide_eq_true_eq] at hf;exact ⟨hf.1,hf.2⟩
   refine ⟨_,⟨UInt8.ofNat n.toNat,rfl⟩, ?_⟩
   have e : Go.AW.iB (UInt8.ofNat n.toNat)=.int .u8 n:=by
    have h1 : (UInt8.ofNat n.toNat).toNat=n.toNat:=by rw [UInt8.toNat_ofNat']; omega
    rw [Go.AW.iB,h1,Int.toNat_of_nonneg hr.1]
   rw [e];exact .int _ n
  ·cases h
theorem weightsAll_mem {P : Program} {e : TypeId} {l : List (DataW H)} {x : DataW H} (hx : x∈l) {n : Nat} (hn : n∈x.weights P e) : n∈DataW.weightsAll P e l:=by
 induction l with
 | nil=>simp at hx
 | cons y r ih =>
  simp only [DataW.weightsAll,List.mem_append]
  rcases List.mem_cons.mp hx with rfl | hx
  ·exact .inl hn
  ·exact .inr (ih hx)
theorem rd_slice {t e : TypeId} {Q : AV→Prop} (ht : Tryz.prog.underlying t=some (.slice e)) (hc : Tryz.prog.cellsOf e=1) (hb : 1≤Tryz.prog.bytesOf e) (hQ : ∀ a,Q a→a.cells=[a]) (h : RdV enc W e Q) : RdV enc W t (WN Q):=by
 intro fuel v d ps htr hw
 rcases open_slice1 ht hc htr with ⟨hv,hx⟩ | ⟨a,len,cap,m,n,V,D,Pl,hv,_,hl,hm,hmm,hx,hel⟩
 ·injection hv with hv
  subst hv;exact ⟨.sl [],.inl ⟨[],rfl,by simp⟩,.slnil none 0⟩
 ·injection hv with hv
  subst hv;simp only [if_true] at hmm;subst hmm;simp only [Prod.mk.injEq] at hx
  obtain ⟨rfl,rfl⟩:=hx
  have hw0 : (((List.range len).map D).length+((List.range (m - len)).map fun j=>D (len+j)).length)*Tryz.prog.bytesOf e≤reachBytes:=hw _ (by simp [DataW.weights,ht])
  have hlen : len≤140737488355328:=by
   simp only [List.length_map,List.length_range] at hw0
   have h1 : len*1≤(len+(m - len))*Tryz.prog.bytesOf e:=Nat.mul_le_mul (by omega) hb
   have h2 : reachBytes≤140737488355328:=by decide
   omega
  by_cases hbig : 1099511627776<len
  ·exact ⟨.big len,.inr ⟨len,by omega,hlen,rfl⟩,.big _ _ _ hlen⟩
  ·have hall : ∀ i,∃ x,i<len→Q x∧VRel (gh0 W) x (V i):=by
    intro i
    by_cases hi : i<len
    ·obtain ⟨x,q1,q2⟩:=h n (V i) (D i) (Pl i) (hel i (by omega)).2 fun k hk=>hw k (by
      simp only [DataW.weights,ht,List.mem_cons,List.mem_append];exact .inr (.inl (weightsAll_mem (List.mem_map.mpr ⟨i,List.mem_range.mpr hi,rfl⟩) hk)))
     exact ⟨x,fun _=>⟨q1,q2⟩⟩
    ·exact ⟨.nilp,fun h=>absurd h hi⟩
   obtain ⟨A,hA⟩:=Classical.axiomOfChoice hall
   have hget : ∀ i,i<len→((List.range len).map A).getD i nv=A i:=fun i hi=>getD_map_range A nv hi;refine ⟨.sl ((List.range len).map A),.inl ⟨_,rfl,fun x hx=>?_⟩, ?_⟩
   ·obtain ⟨i,hi,rfl⟩:=List.mem_map.mp hx;exact (hA i (List.mem_range.mp hi)).1
   ·by_cases h0 : len=0
    ·subst h0; exact .slnil _ _
    ·have hsp : a=⟨a.block,a.off,none⟩:=by
      have:=(hel 0 (by omega)).1
      obtain ⟨b,o,s⟩:=a
      cases s with
      | none=>rfl
      | some s=>exfalso; simp [Addr.add,World.cell?] at this; split at this <;> simp at this
     have hadd : ∀ i,a.add i=⟨a.block,a.off+i,none⟩:=by
      intro i;rw [hsp];unfold Addr.add
      split
      ·rename_i e; simp [e]
      ·rfl
     have key : VRel (gh0 W) (.sl ((List.range len).map A)) (.slice (some ⟨a.block,a.off,none⟩) ((List.range len).map A).length m):=by
      refine .sl _ a.block a.off 1 m V (by simp [maxL]; omega) (by simp; omega) (fun i hi=>?_) (fun i j hi hj=>?_) (fun i j hi hj=>?_)
      ·rw [hget i (by simpa using hi),hQ _ (hA i (by simpa using hi)).1]; rfl
      ·have hi' : i<len:=by simpa using hi
       have:=(hel i (by omega)).1;rw [hadd] at this
       have e : i*1+j=i:=by omega
       rw [e]; exact this
      ·have hi' : i<len:=by simpa using hi
       have e : i*1+j=i:=by omega
       obtain rfl : j=0:=by omega
       rw [e,hget i hi',hQ _ (hA i hi').1];exact (hA i hi').2
     rw [List.length_map,List.length_range,← hsp] at key;exact key
theorem WB.of {a : AV} (h : WN (fun a=>∃ b : UInt8,a=Go.AW.iB b) a) : WB a:=by
 rcases h with ⟨l,rfl,hl⟩ | h
 ·refine .inl ⟨l.map fun x=>match x with | .int _ n=>UInt8.ofNat n.toNat | _=>0, ?_⟩
  rw [mL,List.map_map]
  congr 1
  have : ∀ x,x∈l→(Go.AW.iB ∘ fun x : AV=>match x with | .int _ n=>UInt8.ofNat n.toNat | _=>0) x=x:=fun x hx=>by
   obtain ⟨n,rfl⟩:=hl x hx
   simp [Go.AW.iB]
  exact ((List.map_congr_left this).trans (by simp)).symm
 ·exact .inr h
theorem rd_bytes : ∀ fuel v d ps,DataW.trod enc Tryz.prog W 0 (fun _=>true) true fuel 22 [v]=some (d,ps)→(∀ n,n∈d.weights Tryz.prog 22→n≤reachBytes)→∃ a,WB a∧VRel (gh0 W) a v:=fun fuel v d ps k w=>by
 obtain ⟨a,q1,q2⟩:=rd_slice Tryz.underlying22 (by kernel_rfl) (of_decide_eq_true (by kernel_rfl)) (fun a ⟨n,e⟩=>by rw [e]; rfl) rd_byte fuel v d ps k w;exact ⟨a,WB.of q1,q2⟩
end
theorem big_big (B n : Nat) (hn : 1048576<n) : Pur Tryz.prog B 8 [.big n] (.bool true):=by
 refine ⟨fun H0=>c8.go fun hf=>?_⟩;refine tt ?_;exact pure_ret (by congr 1; simp; omega) (.refl _)
end Go.Proofs.Shf
