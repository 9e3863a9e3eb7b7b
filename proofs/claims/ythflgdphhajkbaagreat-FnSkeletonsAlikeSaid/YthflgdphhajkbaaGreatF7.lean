/- A part of a proof. -/
import Derived.Test.YthflgdphhajkbaaGreatF6
set_option linter.unusedVariables false
set_option linter.unusedSimpArgs false
set_option linter.unusedSectionVars false
open Nat (reduceEqDiff reduceAdd reduceMul reduceLeDiff reduceLT)
namespace Go.Proofs.Shf
open Go.AW Go.Proofs Go.Shf
theorem dT5 {p : Decidable True} : @decide True p=true:=@decide_eq_true True p trivial
theorem lkRows5_ok (B : Nat) (a : List (List Int)) : Pur Tryz.prog B 27 [iLL a,iLL a] (.bool true):=by
 refine ⟨fun H0=>c27 (by simp) fun ⟨hf,_⟩=>?_⟩
 have hl:=fine_mL_le hf;simp only [maxL] at hl;unfold s27;refine tt ?_;refine ⟨fun e=>(by simp at e),fun _=>At.mk ?_⟩;refine tt ?_;refine awp_for [0,1] (G:=Unit) (fun k _=>[(5,some (.int .i64 (k : Int)))]) (fun k _ H=>H=H0) a.length () rfl rfl ?_
 rintro k _ H hk rfl;refine tt ?_;apply bk <;> intro h1
 ·have h1p : k<a.length:=of_decide h1
  have w:=wsucc (k:=k) (by omega);refine tt ?_;refine ⟨h1p,h1p,tt ?_⟩;refine ⟨_,(likeInts_ok B _ _).run, ?_⟩;rw [dec_t rfl];refine tw w ?_;exact for_next () (by omega) rfl rfl
 ·refine tt ?_;exact pure_ret rfl (.refl _)
theorem likeCat5_ok (B : Nat) (c : Cat) : Pur Tryz.prog B 17 [.agg c.cells,.agg c.cells] (.bool true):=by
 refine ⟨fun H0=>c17 (by simp) fun _=>?_⟩;unfold s17;refine td ?_;refine (likeInts_ok B _ _).go fun _=>?_;rw [dec_t rfl];refine td ?_;refine (likeInts_ok B _ _).go fun _=>?_;rw [dec_t rfl];refine td ?_;refine (likeInts_ok B _ _).go fun _=>?_;rw [dec_t rfl];refine td ?_;refine (lkRows5_ok B _).go fun _=>?_;refine td ?_;exact pure_ret rfl (.refl _)
theorem likeFu5_ok (B : Nat) (k : FU) : Pur Tryz.prog B 12 [.agg k.cells,.agg k.cells] (.bool true):=by
 refine ⟨fun H0=>c12p (by simp) fun _=>?_⟩;unfold s12p;refine tt ?_;refine (likeCat5_ok B k.src).go fun _=>tt ?_;refine (likeCat5_ok B k.tgt).go fun _=>tt ?_;refine (likeInts_ok B _ _).go fun _=>?_;rw [dec_t rfl];refine tt ?_;refine (likeInts_ok B _ _).go fun _=>?_;rw [dec_t rfl];refine tt ?_;exact pure_ret rfl (.refl _)
theorem searchable_ok (B : Nat) (c d : Cat) : Pur Tryz.prog B 231 [.ptr c.cells,.ptr d.cells] (.bool (dec (c.frm.length≤16∧d.frm.length≤16))):=by
 refine ⟨fun H0=>c231p (by simp) fun _=>?_⟩;unfold s231p;refine tt ?_;refine (arrows_ok B c).go fun _=>?_
 by_cases h1 : c.frm.length≤16
 rotate_left
 ·have h1' : decide ((c.frm.length : Int)≤16)=false:=decide_eq_false (by omega);try simp only [go_sem,↓reduceIte,reduceEqDiff,reduceAdd,reduceMul,reduceLeDiff,reduceLT,h1']
  exact pure_ret (congrArg AV.bool (dec_f fun q=>h1 q.1).symm) (.refl _)
 have h1' : decide ((c.frm.length : Int)≤16)=true:=decide_eq_true (by omega);try simp only [go_sem,↓reduceIte,reduceEqDiff,reduceAdd,reduceMul,reduceLeDiff,reduceLT,h1']
 refine (arrows_ok B d).go fun _=>?_
 by_cases h2 : d.frm.length≤16
 rotate_left
 ·have h2' : decide ((d.frm.length : Int)≤16)=false:=decide_eq_false (by omega);try simp only [go_sem,↓reduceIte,reduceEqDiff,reduceAdd,reduceMul,reduceLeDiff,reduceLT,h2']
  exact pure_ret (congrArg AV.bool (dec_f fun q=>h2 q.2).symm) (.refl _)
 have h2' : decide ((d.frm.length : Int)≤16)=true:=decide_eq_true (by omega);try simp only [go_sem,↓reduceIte,reduceEqDiff,reduceAdd,reduceMul,reduceLeDiff,reduceLT,h2']
 exact pure_ret (congrArg AV.bool (dec_t ⟨h1,h2⟩).symm) (.refl _)
theorem l02Full_ok (B : Nat) (c : Cat) (hc : c.Shape) (L : List Int) : Pur Tryz.prog B 61 [.agg c.cells,iL L] (iL (fullA c L)):=by
 refine ⟨fun H0=>c61p (by simp) fun _=>?_⟩;unfold s61p
 have o : Owns H0 H0 []:=.nil _
 have hm:=hc.m
 have htl:=hc.tol;refine tt ?_;refine new_list iI o fun id H o=>tt ?_
 refine awp_for [1,2] (G:=Nat × List Int) (fun k g=>[(5,some (.buf g.1 g.2.length)),(6,some (.int .i64 (k : Int)))])
  (fun k g H=>g.2=fullK c L k∧Owns H0 H [(g.1,.cells 1 (g.2.map iI) 0)]) c.frm.length (id,[]) ⟨rfl,o⟩ rfl ?_
 clear o
 rintro k ⟨id,out⟩ H hk ⟨hout,o⟩;dsimp only at hout o
 have houl : out.length≤k:=by rw [hout]; exact fullK_len _ _ _
 refine tt ?_;apply bk <;> intro h1
 ·have h1p : k<c.frm.length:=of_decide h1
  have w1:=wsucc (k:=k) (by omega);refine tt ?_;refine ⟨h1p,(l01Has_ok B L _).go fun _=>?_⟩
  by_cases e1 : c.frm.getD k default∈L
  ·rw [dec_t e1];refine tt ?_;refine ⟨by omega,(l01Has_ok B L _).go fun _=>?_⟩
   by_cases e2 : c.to.getD k default∈L
   ·rw [dec_t e2];refine tt ?_;refine app_own (k : Int) o rfl rfl (by simp only [maxL]; omega) fun z H o=>?_;refine tw w1 ?_;exact for_next (z,out++[(k : Int)]) h1p ⟨by rw [hout,fullK_t e1 e2],o⟩ rfl
   ·rw [dec_f e2];refine tw w1 ?_;exact for_next (id,out) h1p ⟨by rw [hout,fullK_f fun h=>e2 h.2],o⟩ rfl
  ·rw [dec_f e1];refine tw w1 ?_;exact for_next (id,out) h1p ⟨by rw [hout,fullK_f fun h=>e1 h.1],o⟩ rfl
 ·have h1p:=of_ndecide h1;refine tt ?_;refine fz_own o rfl fun H o=>?_;exact pure_ret (by rw [hout,show k=c.frm.length by omega]; rfl) o.sub
theorem l11Least_ok (B : Nat) (c : Cat) (hc : c.Is) (x y : Int) : Pur Tryz.prog B 141 [.agg c.cells,iI x,iI y] (iI (leastI c x y)):=by
 refine ⟨fun H0=>c141p (by simp) fun _=>?_⟩;unfold s141p;refine tt ?_;refine (l02Hom_ok B c hc.1 _ _).go fun _=>?_
 have hbk : ∀ k,k<(homC c x y).length→c.Ar ((homC c x y).getD k default) x y:=fun k hk=>by
  rw [← hom_homC] at hk ⊢; exact hom_at hk
 have hL : leastI c x y=((homC c x y).find? fun f=>decide (0≤invF c f)).getD (-1):=by rw [← hom_homC]; rfl
 have hm:=hc.1.m
 have hln : (homC c x y).length≤c.frm.length:=homC_len _ _
 generalize homC c x y=L at hbk hL hln ⊢;refine tt ?_;refine awp_for [3,7] (fun k _=>[(8,some (.int .i64 (k : Int)))]) (fun k _ H=>H=H0∧∀ i,i<k→decide (0≤invF c (L.getD i default))=false) L.length () ⟨rfl,by simp⟩ rfl ?_
 rintro k _ H hk ⟨rfl,hall⟩;refine tt ?_;apply bk <;> intro h1
 ·have h1p:=dd h1
  have w1:=wsucc (k:=k) (by omega)
  have b:=hbk k h1p;refine tt ?_;refine ⟨h1p,_,(l02Inverse_ok B c hc _ b.r).run, ?_⟩
  by_cases e1 : 0≤invF c (L.getD k default)
  ·have e1':=decide_eq_true e1;try simp only [go_sem,↓reduceIte,reduceEqDiff,reduceAdd,reduceMul,reduceLeDiff,reduceLT,e1']
   exact ⟨h1p,pure_ret (by rw [hL,find_at h1p e1' hall]; rfl) (.refl _)⟩
  ·have e1':=decide_eq_false e1;try simp only [go_sem,↓reduceIte,reduceEqDiff,reduceAdd,reduceMul,reduceLeDiff,reduceLT,e1',w1]
   exact for_next () (by omega) ⟨rfl,lt_succ_all hall e1'⟩ rfl
 ·refine tt ?_
  have h1p:=dd h1;exact pure_ret (by rw [hL,find_non fun i hi=>hall i (by omega)]; rfl) (.refl _)
theorem l06Alike_ok (B : Nat) (c : Cat) (hc : c.Is) (x y : Int) : Pur Tryz.prog B 228 [.agg c.cells,iI x,iI y] (.bool (dec (IsoO c x y))):=by
 refine ⟨fun H0=>c228p (by simp) fun _=>?_⟩;unfold s228p;refine tt ?_;refine (l02Hom_ok B c hc.1 _ _).go fun _=>?_
 have hbk : ∀ k,k<(homC c x y).length→c.Ar ((homC c x y).getD k default) x y:=fun k hk=>by
  rw [← hom_homC] at hk ⊢; exact hom_at hk
 have hmem : ∀ f,c.Ar f x y→f∈homC c x y:=fun f a=>by rw [← hom_homC]; exact ar_hom.mpr a
 have hm:=hc.1.m
 have hln : (homC c x y).length≤c.frm.length:=homC_len _ _
 generalize homC c x y=L at hbk hmem hln ⊢;refine tt ?_;refine awp_for [3,7] (fun k _=>[(8,some (.int .i64 (k : Int)))]) (fun k _ H=>H=H0∧∀ i,i<k→¬ 0≤invF c (L.getD i default)) L.length () ⟨rfl,by simp⟩ rfl ?_
 rintro k _ H hk ⟨rfl,hall⟩;refine tt ?_;apply bk <;> intro h1
 ·have h1p:=dd h1
  have w1:=wsucc (k:=k) (by omega)
  have b:=hbk k h1p;refine tt ?_;refine ⟨h1p,_,(l02Inverse_ok B c hc _ b.r).run, ?_⟩
  by_cases e1 : 0≤invF c (L.getD k default)
  ·have e1':=decide_eq_true e1;try simp only [go_sem,↓reduceIte,reduceEqDiff,reduceAdd,reduceMul,reduceLeDiff,reduceLT,e1']
   obtain ⟨g,i⟩:=(invF_iff b).mp e1;exact pure_ret (congrArg AV.bool (dec_t ⟨_,g,i⟩).symm) (.refl _)
  ·have e1':=decide_eq_false e1;try simp only [go_sem,↓reduceIte,reduceEqDiff,reduceAdd,reduceMul,reduceLeDiff,reduceLT,e1',w1]
   exact for_next () (by omega) ⟨rfl,lt_succ_all hall e1⟩ rfl
 ·refine tt ?_
  have h1p:=dd h1;refine pure_ret (congrArg AV.bool (dec_f fun ⟨f,g,i⟩=>?_).symm) (.refl _)
  obtain ⟨j,hj,e⟩:=mem_getD.mp (hmem f i.a);exact hall j (by omega) (e ▸ (invF_iff i.a).mpr ⟨g,i⟩)
theorem set_getD_selfT (A : List Int) (i : Nat) : A.set i (A.getD i default)=A:=by
 apply List.ext_getElem?
 intro j
 by_cases e : i=j
 ·subst e
  by_cases h : i<A.length
  ·simp [List.getD_eq_getElem?_getD,h]
  ·rw [List.getElem?_eq_none (by simp; omega),List.getElem?_eq_none (by omega)]
 ·rw [List.getElem?_set_ne e]
theorem classes_ok (B : Nat) (l : List Int) (hl : l.length≤100000) : Pur Tryz.prog B 279 [iL l] (iL (classL l)):=by
 refine ⟨fun H0=>c279p (by simp) fun _=>?_⟩;unfold s279p
 have o : Owns H0 H0 []:=.nil _;refine tt ?_;refine new_list iI o fun id3 H o=>tt ?_;refine new_list iI o fun id4 H o=>tt ?_
 refine awp_for [0] (G:=(Nat × List Int) × (Nat × List Int)) (fun k g=>[(3,some (.buf g.1.1 g.1.2.length)),(4,some (.buf g.2.1 g.2.2.length)),(5,some (.int .i64 (k : Int)))])
  (fun k g H=>(g.1.2=classL (l.take k)∧g.2.2=seenL (l.take k))∧Owns H0 H [(g.2.1,.cells 1 (g.2.2.map iI) 0),(g.1.1,.cells 1 (g.1.2.map iI) 0)]) l.length ((id3,[]),(id4,[])) ⟨⟨rfl,rfl⟩,o⟩ rfl ?_
 clear o
 rintro k ⟨⟨id3,out⟩,⟨id4,seen⟩⟩ H hk ⟨⟨hout,hseen⟩,o⟩;dsimp only at o hout hseen
 have hol : out.length=k:=by rw [hout,classL_len,List.length_take]; omega
 have hsl : seen.length≤k:=by rw [hseen]; exact Nat.le_trans (seenL_len _ _ rfl) (by rw [List.length_take]; omega)
 refine tt ?_;apply bk <;> intro h1
 ·refine tt ?_
  have h1p:=dd h1
  have w1:=wsucc (k:=k) (by omega)
  have hs1:=seenL_snoc (l.take k) (l.getD k default)
  have ho1:=classL_snoc (l.take k) (l.getD k default);rw [← take_one l h1p,← hseen] at hs1;rw [← take_one l h1p,← hout] at ho1;refine ⟨h1p,call_lent 0 rfl o rfl (.int _ _) (l01Index_ok ..).run ?_⟩
  have hb:=indexOf_bd seen (l.getD k default)
  have hm:=indexOf_mem seen (l.getD k default);refine tt ?_;apply bk <;> intro h2
  ·refine tt ?_
   have h2p:=dd h2
   have hni : l.getD k default ∉ seen:=fun h=>by have:=hm.mpr h; omega
   rw [if_neg hni] at hs1;rw [hs1,indexOf_newT hni] at ho1;refine ⟨h1p, ?_⟩;refine app_own (l.getD k default) o rfl rfl (by simp only [maxL]; omega) fun id4 H o=>tt ?_;refine app_own ((seen.length : Nat) : Int) o.swap rfl rfl (by simp only [maxL]; omega) fun id3 H o=>?_;refine tw w1 ?_;exact for_next ((_,_),(_,_)) (by omega) ⟨⟨ho1.symm,hs1.symm⟩,o.swap⟩ rfl
  ·refine tt ?_
   have h2p:=dd h2
   have hi : l.getD k default∈seen:=hm.mp (by omega);rw [if_pos hi] at hs1;rw [hs1] at ho1;refine app_own (indexOf seen (l.getD k default)) o.swap rfl rfl (by simp only [maxL]; omega) fun id3 H o=>?_;refine tw w1 ?_;exact for_next ((_,_),(_,_)) (by omega) ⟨⟨ho1.symm,hs1.symm⟩,o.swap⟩ rfl
 ·refine tt ?_
  have h1p:=dd h1
  obtain rfl : k=l.length:=by omega
  refine fz_own o.swap rfl fun H o=>tt ?_;exact pure_ret (by rw [hout,List.take_length]) o.sub
theorem join_pok (B : Nat) (n : Nat) (hn : n≤100000) (ps : List (List Int)) (hp : ∀ q,q∈ps→2≤q.length∧(0≤q.getD 0 default∧(q.getD 0 default).toNat<n)∧(0≤q.getD 1 default∧(q.getD 1 default).toNat<n)) :
  Pur Tryz.prog B 229 [iI n,iLL ps] (iL (joinL n ps)):=by
 refine ⟨fun H0=>c229p (by simp) fun ⟨_,hf,_⟩=>?_⟩
 have hl:=fine_mL_le hf;simp only [maxL] at hl;unfold s229p
 have o : Owns H0 H0 []:=.nil _;refine tt ?_;refine new_list iI o fun id H o=>tt ?_;refine awp_for [0,1] (G:=Nat × List Int) (fun k g=>[(5,some (.buf g.1 g.2.length)),(6,some (.int .i64 (k : Int)))]) (fun k g H=>g.2=(List.range k).map Int.ofNat∧Owns H0 H [(g.1,.cells 1 (g.2.map iI) 0)]) n (id,[]) ⟨rfl,o⟩ rfl ?_;clear o
 rintro k ⟨id,A⟩ H hk ⟨hA,o⟩;dsimp only at hA o
 have hAl : A.length=k:=by rw [hA]; simp
 refine tt ?_;apply bk <;> intro h1
 ·refine tt ?_
  have h1p:=dd h1
  have w1:=wsucc (k:=k) (by omega);refine app_own (k : Int) o rfl rfl (by simp only [maxL]; omega) fun id H o=>?_;refine tw w1 ?_;exact for_next (_,_) (by omega) ⟨by rw [hA,List.range_succ]; simp,o⟩ rfl
 ·refine tt ?_
  have h1p:=dd h1
  obtain rfl : k=n:=by omega
  refine awp_for [1,5] (fun q _=>[(7,some (.int .i64 (q : Int)))]) (fun q A H=>A=labs k (ps.take q)∧Owns H0 H [(id,.cells 1 (A.map iI) 0)]) ps.length A ⟨hA,o⟩ rfl ?_;clear o
  rintro q A2 H hq ⟨hA2,o⟩
  have hl2 : A2.length=k:=by rw [hA2,labs_len]
  refine tt ?_;apply bk <;> intro h2
  ·refine tt ?_
   have h2p:=dd h2
   have w2:=wsucc (k:=q) (by omega)
   have hqq:=hp _ (mem_getD.mpr ⟨q,h2p,rfl⟩)
   have e0 : ix (ps.getD q default) 0=(ps.getD q default).getD 0 default:=rfl
   have e1 : ix (ps.getD q default) 1=(ps.getD q default).getD 1 default:=rfl
   have hstep:=labs_succ k ps h2p;rw [← hA2,e0,e1] at hstep;refine ⟨h2p,⟨by omega,Nat.lt_of_lt_of_le (by decide) hqq.1⟩,⟨by rw [e0]; omega,by rw [e0]; omega⟩,rd_own o (by rw [e0]; omega) ?_⟩;refine tt ?_;refine ⟨h2p,⟨by omega,Nat.lt_of_lt_of_le (by decide) hqq.1⟩,⟨by rw [e1]; omega,by rw [e1]; omega⟩,rd_own o (by rw [e1]; omega) ?_⟩;refine tt ?_;rw [e0,e1]
   have ea : A2.getD ((ps.getD q default).getD 0 default).toNat default=ix A2 ((ps.getD q default).getD 0 default):=rfl
   have eb : A2.getD ((ps.getD q default).getD 1 default).toNat default=ix A2 ((ps.getD q default).getD 1 default):=rfl;rw [ea,eb]
   generalize ix A2 ((ps.getD q default).getD 0 default)=va at hstep ⊢
   generalize ix A2 ((ps.getD q default).getD 1 default)=vb at hstep ⊢;refine awp_for [1,5,7,8,9] (fun i _=>[(10,some (.int .i64 (i : Int)))]) (fun i A H=>A=relabTo A2 va vb i∧Owns H0 H [(id,.cells 1 (A.map iI) 0)]) k A2 ⟨(relabTo_zero _ _ _).symm,o⟩ rfl ?_;clear o
   rintro i A3 H hi ⟨hA3,o⟩
   have hl3 : A3.length=k:=by rw [hA3,relabTo_len _ _ _ (by omega)]; exact hl2
   rw [hAl];refine tt ?_;apply bk <;> intro h3
   ·refine tw h3 ?_
    have h3p:=dd h3
    have w3:=wsucc (k:=i) (by omega)
    have hg:=relabTo_get A2 va vb (i:=i) (by omega)
    have hs:=relabTo_succ A2 va vb (i:=i) (by omega);rw [← hA3] at hg hs;apply bk <;> intro h4
    ·refine tt ?_
     have h4p:=dd h4;refine ⟨h3p,rd_own o (by omega) ?_⟩;refine tt ?_;apply bk <;> intro h5
     ·refine tt ?_
      have h5p:=dd h5;refine ⟨h3p,set_own _ o rfl (by omega) fun H o=>?_⟩;refine tw w3 ?_;exact for_next _ (by omega) ⟨by rw [hs,if_pos (by rw [← hg]; exact h5p)],o⟩ rfl
     ·refine tw w3 ?_
      have h5p:=dd h5;refine for_next A3 (by omega) ⟨?_,o⟩ rfl;rw [hs,if_neg (by rw [← hg]; exact h5p),← hg,set_getD_selfT]
    ·refine tw w2 ?_
     have h4p:=dd h4;refine for_next A3 (by omega) ⟨?_,o⟩ rfl;subst h4p
     have : ∀ i,relabTo A2 va va i=A2:=fun i=>by rw [relabTo,relab_same,List.take_append_drop]
     rw [hA3,this,hstep,relab_same]
   ·try simp only [go_sem,↓reduceIte,reduceEqDiff,reduceAdd,reduceMul,reduceLeDiff,reduceLT,h3,w2]
    have h3p:=dd h3;refine for_next A3 (by omega) ⟨?_,o⟩ rfl
    have hik : i=A2.length:=by omega
    rw [hA3,hik,relabTo_all,hstep]
  ·refine tt ?_
   have h2p:=dd h2
   obtain rfl : q=ps.length:=by omega
   rw [List.take_length] at hA2;rw [hAl];refine fz_own o hl2.symm fun H o=>tt ?_;refine (classes_ok B A2 (by omega)).go fun _=>tt ?_;exact pure_ret (by rw [joinL,hA2]) o.sub
def PrsK (c : Cat) (x y : Nat) (out : List (List Int)) : Prop:=out.length≤8*x+y∧∀ q,q∈out↔∃ i j : Nat,j<i∧(i<x∨(i=x∧j<y))∧IsoO c i j∧q=[(j : Int),(i : Int)]
theorem prsK_cls {c : Cat} (h : c.Is) {ps : List (List Int)} (hp : PrsK c c.objs.toNat 0 ps) : (∀ q,q∈ps→(0≤ix q 0∧(ix q 0).toNat<c.objs.toNat)∧0≤ix q 1∧(ix q 1).toNat<c.objs.toNat)∧joinL c.objs.toNat ps=clsK c:=by
 have h1 : ∀ q,q∈ps→(0≤ix q 0∧(ix q 0).toNat<c.objs.toNat)∧0≤ix q 1∧(ix q 1).toNat<c.objs.toNat:=fun q hq=>by
  obtain ⟨i,j,hj,hi,_,rfl⟩:=(hp.2 q).mp hq
  show (0≤(j : Int)∧(j : Int).toNat<c.objs.toNat)∧0≤(i : Int)∧(i : Int).toNat<c.objs.toNat
  omega
 refine ⟨h1, ?_⟩;rw [joinL];refine clsK_eq h (labs_len _ _) fun u v hu hv=>?_;rw [labs_iff h1 hu hv]
 constructor
 ·intro e
  have key : ∀ a b,EqN (prN ps) a b→a=b∨IsoO c a b:=fun a b e=>by
   induction e with
   | gen x y hm =>
    simp only [prN,List.mem_map,Prod.mk.injEq] at hm
    obtain ⟨q,hq,e1,e2⟩:=hm
    obtain ⟨i,j,_,_,hi,rfl⟩:=(hp.2 q).mp hq
    have e1 : (j : Int)=x:=e1
    have e2 : (i : Int)=y:=e2;subst e1 e2;exact .inr hi.symm
   | refl x=>exact .inl rfl
   | symm _ k=>exact k.imp Eq.symm IsoO.symm
   | trans _ _ k l =>
    rcases k with rfl | k
    ·exact l
    rcases l with rfl | l
    ·exact .inr k
    ·exact .inr (k.trans h l)
  rcases key _ _ e with e | k
  ·rw [← e]; exact .refl h (by omega)
  ·exact k
 ·intro i
  rcases Nat.lt_trichotomy u v with q | q | q
  ·exact .gen _ _ (List.mem_map.mpr ⟨[(u : Int),(v : Int)],(hp.2 _).mpr ⟨v,u,q,.inl hv,i.symm,rfl⟩,rfl⟩)
  ·rw [q]; exact .refl _
  ·exact .symm (.gen _ _ (List.mem_map.mpr ⟨[(v : Int),(u : Int)],(hp.2 _).mpr ⟨u,v,q,.inl hu,i,rfl⟩,rfl⟩))
theorem PrsK.hit {c : Cat} {x y : Nat} {out : List (List Int)} (h : PrsK c x y out) (hy : y<x) (i : IsoO c x y) : PrsK c x (y+1) (out++[[(y : Int),(x : Int)]]):=by
 refine ⟨by have:=h.1; rw [List.length_append,List.length_singleton]; omega,fun q=>?_⟩;rw [List.mem_append,h.2,List.mem_singleton]
 constructor
 ·rintro (⟨a,b,h1,h2,h3,rfl⟩ | rfl)
  ·exact ⟨a,b,h1,by omega,h3,rfl⟩
  ·exact ⟨x,y,hy,by omega,i,rfl⟩
 ·rintro ⟨a,b,h1,h2,h3,rfl⟩
  by_cases e : a=x∧b=y
  ·exact .inr (by rw [e.1,e.2])
  ·exact .inl ⟨a,b,h1,by omega,h3,rfl⟩
theorem PrsK.miss {c : Cat} {x y : Nat} {out : List (List Int)} (h : PrsK c x y out) (i : ¬ IsoO c x y) : PrsK c x (y+1) out:=by
 refine ⟨by have:=h.1; omega,fun q=>?_⟩;rw [h.2]
 constructor
 ·rintro ⟨a,b,h1,h2,h3,rfl⟩; exact ⟨a,b,h1,by omega,h3,rfl⟩
 ·rintro ⟨a,b,h1,h2,h3,rfl⟩;refine ⟨a,b,h1, ?_,h3,rfl⟩
  by_cases e : a=x∧b=y
  ·rw [e.1,e.2] at h3; exact absurd h3 i
  ·omega
theorem PrsK.next {c : Cat} {x : Nat} {out : List (List Int)} (h : PrsK c x x out) (hx : x≤8) : PrsK c (x+1) 0 out:=by
 refine ⟨by have:=h.1; omega,fun q=>?_⟩;rw [h.2]
 constructor
 ·rintro ⟨a,b,h1,h2,h3,rfl⟩; exact ⟨a,b,h1,by omega,h3,rfl⟩
 ·rintro ⟨a,b,h1,h2,h3,rfl⟩; exact ⟨a,b,h1,by omega,h3,rfl⟩
theorem l11Classes_ok (B : Nat) (c : Cat) (hc : c.Is) : Pur Tryz.prog B 139 [.agg c.cells] (iL (clsK c)):=by
 refine ⟨fun H0=>c139p (by simp) fun _=>?_⟩;unfold s139p
 have o : Owns H0 H0 []:=.nil _
 have hob:=hc.1.o;refine tt ?_;refine new_list iL o fun id H o=>tt ?_
 refine awp_for [1] (G:=Nat × List (List Int)) (fun x g=>[(3,some (.buf g.1 g.2.length)),(4,some (.int .i64 (x : Int)))])
  (fun x g H=>PrsK c x 0 g.2∧Owns H0 H [(g.1,.cells 1 (g.2.map iL) 0)]) c.objs.toNat (id,[]) ⟨⟨by simp,fun q=>⟨fun h=>(List.not_mem_nil h).elim,fun ⟨i,j,_,h,_⟩=>by omega⟩⟩,o⟩ rfl ?_
 clear o
 rintro x ⟨id,out⟩ H hx ⟨hP,o⟩;dsimp only at hP o;refine tt ?_;apply bk <;> intro h1
 ·have h1p:=of_decide h1
  have w1:=wsucc (k:=x) (by omega);refine tt ?_
  refine awp_for [1,4] (G:=Nat × List (List Int)) (fun y g=>[(3,some (.buf g.1 g.2.length)),(5,some (.int .i64 (y : Int)))])
   (fun y g H=>PrsK c x y g.2∧Owns H0 H [(g.1,.cells 1 (g.2.map iL) 0)]) x (id,out) ⟨hP,o⟩ rfl ?_
  clear o hP
  rintro y ⟨id,out⟩ H hy ⟨hP,o⟩;dsimp only at hP o
  have hl:=hP.1;refine tt ?_;apply bk <;> intro h2
  ·have h2p : y<x:=by have:=of_decide h2; omega
   have w2:=wsucc (k:=y) (by omega);refine tt ?_;refine (l06Alike_ok B c hc x y).go fun _=>?_
   by_cases t : IsoO c x y
   ·rw [dec_t t];refine tt ?_;refine app_own [(y : Int),(x : Int)] o rfl rfl (by simp only [maxL]; omega) fun z H o=>?_;refine tw w2 ?_;exact for_next (z,out++[[(y : Int),(x : Int)]]) h2p ⟨hP.hit h2p t,o⟩ rfl
   ·rw [dec_f t];refine tw w2 ?_;exact for_next (id,out) h2p ⟨hP.miss t,o⟩ rfl
  have h2p : y=x:=by have:=of_ndecide h2; omega
  subst h2p;refine tw w1 ?_;exact for_next (id,out) (by omega) ⟨hP.next (by omega),o⟩ rfl
 have h1p : x=c.objs.toNat:=by have:=of_ndecide h1; omega
 subst h1p
 obtain ⟨hq,hcls⟩:=prsK_cls hc hP;refine tt ?_;refine fz_own o rfl fun H o=>tt ?_
 have hj:=join_pok B c.objs.toNat (by omega) out fun q hq'=>by
  obtain ⟨i,j,h1,h2,_,rfl⟩:=(hP.2 q).mp hq'
  have:=hq _ hq';exact ⟨by simp,this⟩
 rw [Int.toNat_of_nonneg hob.1,hcls] at hj;refine hj.go fun _=>tt ?_;exact pure_ret rfl o.sub
theorem l11Skeleton_ok (B : Nat) (c : Cat) (hc : c.Is) : Pur Tryz.prog B 60 [.agg c.cells] (iL (leadL c)):=by
 refine ⟨fun H0=>c60p (by simp) fun _=>?_⟩;unfold s60p
 have o : Owns H0 H0 []:=.nil _
 have hob:=hc.1.o
 have hll : (clsK c).length=c.objs.toNat:=by have:=clsK_len hc; omega
 refine tt ?_;refine (l11Classes_ok B c hc).go fun _=>tt ?_;refine new_list iI o fun id H o=>tt ?_
 refine awp_for [1,3] (G:=Nat × List Int) (fun k g=>[(4,some (.buf g.1 g.2.length)),(5,some (.int .i64 (k : Int)))])
  (fun k g H=>g.2=leadK c k∧Owns H0 H [(g.1,.cells 1 (g.2.map iI) 0)]) c.objs.toNat (id,[]) ⟨rfl,o⟩ rfl ?_
 clear o
 rintro k ⟨id,out⟩ H hk ⟨hout,o⟩;dsimp only at hout o
 have houl : out.length≤k:=by rw [hout]; exact leadK_len _
 refine tt ?_;apply bk <;> intro h1
 ·have h1p:=of_decide h1
  have w1:=wsucc (k:=k) (by omega)
  have hf:=cls_first hc (k:=k) (by omega);refine tt ?_;refine ⟨by omega,(l01Index_ok B _ _).go fun _=>?_⟩;rw [hf]
  by_cases e1 : repO c k=k
  ·have e1':=decide_eq_true e1;try simp only [go_sem,↓reduceIte,reduceEqDiff,reduceAdd,reduceMul,reduceLeDiff,reduceLT,e1']
   refine app_own (k : Int) o rfl rfl (by simp only [maxL]; omega) fun z H o=>?_;refine tw w1 ?_;exact for_next (z,out++[(k : Int)]) (by omega) ⟨by rw [hout,leadK_t e1],o⟩ rfl
  ·have e1':=decide_eq_false e1;try simp only [go_sem,↓reduceIte,reduceEqDiff,reduceAdd,reduceMul,reduceLeDiff,reduceLT,e1',w1]
   exact for_next (id,out) (by omega) ⟨by rw [hout,leadK_f e1],o⟩ rfl
 ·have h1p:=of_ndecide h1;refine tt ?_;refine fz_own o rfl fun H o=>?_;exact pure_ret (by rw [hout,leadL,show k=c.objs.toNat by omega]) o.sub
theorem l11Chosen_ok (B : Nat) (c : Cat) (hc : c.Is) : Pur Tryz.prog B 62 [.agg c.cells] (iL ((List.range c.objs.toNat).map fun x : Nat=>choO c x)):=by
 refine ⟨fun H0=>c62p (by simp) fun _=>?_⟩;unfold s62p
 have o : Owns H0 H0 []:=.nil _
 have hob:=hc.1.o
 have hil:=hc.1.il
 have hll : (clsK c).length=c.objs.toNat:=by have:=clsK_len hc; omega
 refine tt ?_;refine (l11Classes_ok B c hc).go fun _=>tt ?_;refine new_list iI o fun id H o=>tt ?_
 refine awp_for [1,3] (G:=Nat × List Int) (fun k g=>[(4,some (.buf g.1 g.2.length)),(5,some (.int .i64 (k : Int)))])
  (fun k g H=>g.2=(List.range k).map (fun x : Nat=>choO c x)∧Owns H0 H [(g.1,.cells 1 (g.2.map iI) 0)]) c.objs.toNat (id,[]) ⟨rfl,o⟩ rfl ?_
 clear o
 rintro k ⟨id,out⟩ H hk ⟨hout,o⟩;dsimp only at hout o
 have houl : out.length=k:=by rw [hout]; simp
 refine tt ?_;apply bk <;> intro h1
 ·have h1p:=of_decide h1
  have w1:=wsucc (k:=k) (by omega)
  have hf:=cls_first hc (k:=k) (by omega);refine tt ?_;refine ⟨by omega,(l01Index_ok B _ _).go fun _=>?_⟩;rw [hf];refine tt ?_
  by_cases e1 : (k : Int)=repO c k
  ·have e1':=decide_eq_true e1;try simp only [go_sem,↓reduceIte,reduceEqDiff,reduceAdd,reduceMul,reduceLeDiff,reduceLT,e1']
   refine ⟨by omega, ?_⟩;refine app_own (c.idn.getD k default) o rfl rfl (by simp only [maxL]; omega) fun z H o=>?_;refine tw w1 ?_;exact for_next (z,out++[c.idn.getD k default]) (by omega) ⟨by rw [hout,List.range_succ,List.map_append,List.map_singleton,choO,if_pos e1.symm,ix_nat],o⟩ rfl
  ·have e1':=decide_eq_false e1;try simp only [go_sem,↓reduceIte,reduceEqDiff,reduceAdd,reduceMul,reduceLeDiff,reduceLT,e1']
   refine (l11Least_ok B c hc _ _).go fun _=>tt ?_;refine app_own (leastI c k (repO c k)) o rfl rfl (by simp only [maxL]; omega) fun z H o=>?_;refine tw w1 ?_;exact for_next (z,out++[leastI c k (repO c k)]) (by omega) ⟨by rw [hout,List.range_succ,List.map_append,List.map_singleton,choO,if_neg fun h=>e1 h.symm],o⟩ rfl
 ·have h1p:=of_ndecide h1;refine tt ?_;refine fz_own o rfl fun H o=>?_;exact pure_ret (by rw [hout,show k=c.objs.toNat by omega]) o.sub
theorem l06Make_ok (B : Nat) (c d : Cat) (ob ar : List Int) : Pur Tryz.prog B 66 [.agg c.cells,.agg d.cells,iL ob,iL ar] (.agg (FU.cells ⟨c,d,ob,ar⟩)):=by
 refine ⟨fun H0=>c66p (by simp) fun _=>?_⟩;unfold s66p
 have o : Owns H0 H0 []:=.nil _;refine tt ?_;refine nb o fun id8 H o=>tt ?_;refine ⟨_,(l02Own_ok B c).run,_,(l02Own_ok B d).run,_,(l01Own_ok B ob).run,_,(l01Own_ok B ar).run,tt ?_⟩;refine sw o fun H o=>tt ?_
 have hr:=o.rc 12 0 (by simp);simp only [List.drop_zero] at hr;rw [hr];exact pure_ret rfl o.sub
theorem l02Part_ok (B : Nat) (c : Cat) (hc : c.Is) (L : List Int) (s : Sel c L) (hL : selK L c.objs.toNat=L) : Pur Tryz.prog B 145 [.agg c.cells,iL (fullA c L)] (.agg (Go.Shf.part c L).cells):=by
 refine ⟨fun H0=>c145p (by simp) fun _=>?_⟩;unfold s145p
 have hs:=hc.1
 have hm:=hs.m
 have htl:=hs.tol
 have hil:=hs.il
 have hcl:=hs.cl
 have hob:=hs.o
 have hAl:=fullA_len (c:=c) (L:=L)
 have hAm : ∀ f,f∈fullA c L→0≤f∧f.toNat<c.frm.length:=fun f hf=>(mem_fullA.mp hf).1
 have hpf : (Go.Shf.part c L).frm=(fullA c L).map fun a=>indexOf L (ix c.frm a):=rfl
 have hpt : (Go.Shf.part c L).to=(fullA c L).map fun a=>indexOf L (ix c.to a):=rfl
 have hpi : (Go.Shf.part c L).idn=L.map fun x=>indexOf (fullA c L) (ix c.idn x):=rfl
 have hpc : (Go.Shf.part c L).comp=(fullA c L).map fun a=>(fullA c L).map fun b=>indexOf (fullA c L) (c.th a b):=rfl
 have hAi : ∀ x : Nat,x<c.objs.toNat→((c.idn.getD x default)∈fullA c L↔(x : Int)∈L):=fun x hx=>by
  have h:=hs.idArr (x:=(x : Int)) ⟨by omega,by omega⟩;rw [ix_nat] at h;rw [mem_fullA,h.2.1,h.2.2];exact ⟨fun q=>q.2.1,fun q=>⟨h.1,q,q⟩⟩
 generalize hA : fullA c L=A at *
 have o : Owns H0 H0 []:=.nil _;refine tt ?_;refine newRef_own o fun id4 H o=>tt ?_;refine new_list iI o fun id5 H o=>tt ?_
 refine awp_for [1,2,4] (G:=Nat × List Int) (fun k g=>[(5,some (.buf g.1 g.2.length)),(6,some (.int .i64 (k : Int)))])
  (fun k g H=>g.2=selK L k∧Owns H0 H [(g.1,.cells 1 (g.2.map iI) 0),(id4,MObj.cells 5 [.int .i64 0,.nilsl,.nilsl,.nilsl,.nilsl] 0)]) c.objs.toNat (id5,[]) ⟨rfl,o⟩ rfl ?_
 clear o
 rintro k ⟨id5,out⟩ H hk ⟨hout,o⟩;dsimp only at hout o
 have houl : out.length≤k:=by rw [hout]; exact selK_len _ _
 refine tt ?_;apply bk <;> intro h1
 ·have h1p:=of_decide h1
  have w1:=wsucc (k:=k) (by omega);refine tt ?_;refine ⟨by omega,(l01Has_ok B A _).go fun _=>?_⟩
  by_cases e1 : (k : Int)∈L
  ·rw [dec_t ((hAi k (by omega)).mpr e1)];refine tt ?_;refine app_own (k : Int) o rfl rfl (by simp only [maxL]; omega) fun z H o=>?_;refine tw w1 ?_;exact for_next (z,out++[(k : Int)]) (by omega) ⟨by rw [hout,selK_t e1],o⟩ rfl
  ·rw [dec_f fun h=>e1 ((hAi k (by omega)).mp h)];refine tw w1 ?_;exact for_next (id5,out) (by omega) ⟨by rw [hout,selK_f e1],o⟩ rfl
 have h1p : k=c.objs.toNat:=by have:=of_ndecide h1; omega
 rw [h1p,hL] at hout;clear h1 h1p houl hk;subst hout;refine tt ?_;refine fz_own o rfl fun H o=>tt ?_;refine new_list iI o fun idA H o=>tt ?_;refine new_list iI o fun idB H o=>tt ?_;refine new_list iI o fun idC H o=>tt ?_;refine new_list iL o fun idD H o=>tt ?_;refine newRef_own o fun id7 H o=>tt ?_;refine sw o fun H o=>?_
 have hth : ∀ f g,f∈A→g∈A→ix (ix c.comp f) g=c.th f g:=fun f g _ _=>rfl;refine tt ?_
 replace o : Owns H0 H ((id7,MObj.cells 5 [iI (out.length : Int),.buf idA 0,.buf idB 0,.buf idC 0,.buf idD 0] 0)::(idC,.cells 1 (([] : List Int).map iI) 0) ::
   [(idD,.cells 1 (([] : List (List Int)).map iL) 0),(idB,.cells 1 (([] : List Int).map iI) 0),(idA,.cells 1 (([] : List Int).map iI) 0),(id4,MObj.cells 5 [.int .i64 0,.nilsl,.nilsl,.nilsl,.nilsl] 0)]):=o.pm
 refine awp_for [1,2,4,5,7] (G:=Nat) (fun k _=>[(8,some (.int .i64 (k : Int)))])
  (fun k g H=>Owns H0 H ((id7,MObj.cells 5 [iI (out.length : Int),.buf idA 0,.buf idB 0,.buf g k,.buf idD 0] 0)::(g,.cells 1 (((out.take k).map fun x=>indexOf A (ix c.idn x)).map iI) 0) ::
   [(idD,.cells 1 (([] : List (List Int)).map iL) 0),(idB,.cells 1 (([] : List Int).map iI) 0),(idA,.cells 1 (([] : List Int).map iI) 0),(id4,MObj.cells 5 [.int .i64 0,.nilsl,.nilsl,.nilsl,.nilsl] 0)])) out.length idC o rfl ?_
 clear o
 rintro k idC H hk o
 replace o : Owns H0 H ((id7,MObj.cells 5 [iI (out.length : Int),.buf idA 0,.buf idB 0,.buf idC k,.buf idD 0] 0)::(idC,.cells 1 (((out.take k).map fun x=>indexOf A (ix c.idn x)).map iI) 0) ::
   [(idD,.cells 1 (([] : List (List Int)).map iL) 0),(idB,.cells 1 (([] : List Int).map iI) 0),(idA,.cells 1 (([] : List Int).map iI) 0),(id4,MObj.cells 5 [.int .i64 0,.nilsl,.nilsl,.nilsl,.nilsl] 0)]):=o
 refine tt ?_;apply bk <;> intro h1
 ·have h1p : k<out.length:=by have:=of_decide h1; omega
  have w1:=wsucc (k:=k) (by have:=s.len hc; omega)
  have hx:=s.ran _ (mem_getD.mpr ⟨k,h1p,rfl⟩);refine tt ?_;refine rd_cells o (by simp) ?_;refine tt ?_;refine ⟨h1p,⟨hx.1,by omega⟩,_,(l01Index_ok B A _).run,tt ?_⟩;refine app_own (indexOf A (ix c.idn (out.getD k default))) o.swap rfl (by rw [List.length_map,List.length_take]; omega) (by have:=s.len hc; simp only [List.length_map,List.length_take,maxL]; omega) fun z H o=>?_
  have eS : ((out.take k).map fun x=>indexOf A (ix c.idn x))++[indexOf A (ix c.idn (out.getD k default))]=(out.take (k+1)).map fun x=>indexOf A (ix c.idn x):=by rw [take_one _ h1p,List.map_append]; rfl
  rw [eS] at o ⊢;rw [show ((out.take (k+1)).map fun x=>indexOf A (ix c.idn x)).length=k+1 by rw [List.length_map,List.length_take]; omega];refine tt ?_;refine sw o.swap fun H o=>?_;refine tw w1 ?_;exact for_next z h1p o rfl
 have h1p : k=out.length:=by have:=of_ndecide h1; omega
 subst h1p;rw [List.take_of_length_le (Nat.le_refl _)] at o
 replace o : Owns H0 H ((id7,MObj.cells 5 [iI (out.length : Int),.buf idA 0,.buf idB 0,.buf idC out.length,.buf idD 0] 0)::(idA,.cells 1 (([] : List Int).map iI) 0)::(idB,.cells 1 (([] : List Int).map iI) 0)::(idD,.cells 1 (([] : List (List Int)).map iL) 0) ::
   [(idC,.cells 1 ((out.map fun x=>indexOf A (ix c.idn x)).map iI) 0),(id4,MObj.cells 5 [.int .i64 0,.nilsl,.nilsl,.nilsl,.nilsl] 0)]):=o.pm
 refine tt ?_
 refine awp_for [1,2,4,5,7] (G:=Nat × Nat × Nat) (fun a _=>[(9,some (.int .i64 (a : Int)))])
  (fun a g H=>Owns H0 H ((id7,MObj.cells 5 [iI (out.length : Int),.buf g.1 a,.buf g.2.1 a,.buf idC out.length,.buf g.2.2 a] 0)::(g.1,.cells 1 (((A.take a).map fun f=>indexOf out (ix c.frm f)).map iI) 0) ::
   (g.2.1,.cells 1 (((A.take a).map fun f=>indexOf out (ix c.to f)).map iI) 0)::(g.2.2,.cells 1 (((A.take a).map fun f=>A.map fun g=>indexOf A (c.th f g)).map iL) 0) ::
   [(idC,.cells 1 ((out.map fun x=>indexOf A (ix c.idn x)).map iI) 0),(id4,MObj.cells 5 [.int .i64 0,.nilsl,.nilsl,.nilsl,.nilsl] 0)])) A.length (idA,idB,idD) o rfl ?_
 clear o
 rintro a ⟨idA,idB,idD⟩ H ha o;dsimp only at o;refine tt ?_;apply bk <;> intro h1
 ·have h1p : a<A.length:=by have:=of_decide h1; omega
  have w1:=wsucc (k:=a) (by omega)
  have hfA : A.getD a default∈A:=mem_getD.mpr ⟨a,h1p,rfl⟩
  have hf:=hAm _ hfA
  have eA : A.take (a+1)=A.take a++[A.getD a default]:=take_one _ h1p
  have hta : (A.take a).length=a:=by rw [List.length_take]; omega
  have hta1 : (A.take (a+1)).length=a+1:=by rw [List.length_take]; omega
  refine tt ?_;refine rd_cells o (by simp) ?_;refine tt ?_;refine ⟨h1p,hf,_,(l01Index_ok B out _).run,tt ?_⟩;refine app_own (indexOf out (ix c.frm (A.getD a default))) o.swap rfl (by rw [List.length_map,hta]) (by simp only [List.length_map,hta,maxL]; omega) fun z1 H o=>?_
  have e1 : ((A.take a).map fun f=>indexOf out (ix c.frm f))++[indexOf out (ix c.frm (A.getD a default))]=(A.take (a+1)).map fun f=>indexOf out (ix c.frm f):=by rw [eA,List.map_append]; rfl
  rw [e1] at o ⊢;rw [List.length_map,hta1];refine tt ?_;refine sw o.swap fun H o=>tt ?_;refine rd_cells o (by simp) ?_;refine tt ?_;refine ⟨h1p,⟨hf.1,by omega⟩,_,(l01Index_ok B out _).run,tt ?_⟩;refine app_own (indexOf out (ix c.to (A.getD a default))) (o.pull [_,_]) rfl (by rw [List.length_map,hta]) (by simp only [List.length_map,hta,maxL]; omega) fun z2 H o=>?_
  have e2 : ((A.take a).map fun f=>indexOf out (ix c.to f))++[indexOf out (ix c.to (A.getD a default))]=(A.take (a+1)).map fun f=>indexOf out (ix c.to f):=by rw [eA,List.map_append]; rfl
  rw [e2] at o ⊢;rw [List.length_map,hta1];refine tt ?_;refine sw o.swap fun H o=>tt ?_;refine new_list iI o fun idr H o=>?_
  obtain ⟨R,hR⟩ : ∃ R : Ob,R=(idD,.cells 1 (((A.take a).map fun f=>A.map fun g=>indexOf A (c.th f g)).map iL) 0)::(id7,MObj.cells 5 [iI (out.length : Int),.buf z1 (a+1),.buf z2 (a+1),.buf idC out.length,.buf idD a] 0) ::
   (z1,.cells 1 (((A.take (a+1)).map fun f=>indexOf out (ix c.frm f)).map iI) 0)::(z2,.cells 1 (((A.take (a+1)).map fun f=>indexOf out (ix c.to f)).map iI) 0) ::
   [(idC,.cells 1 ((out.map fun x=>indexOf A (ix c.idn x)).map iI) 0),(id4,MObj.cells 5 [.int .i64 0,.nilsl,.nilsl,.nilsl,.nilsl] 0)]:=⟨_,rfl⟩
  replace o : Owns H0 H ((idr,.cells 1 (([] : List Int).map iI) 0)::R):=by
   rw [hR];refine o.perm ?_;simp only [List.append_eq,List.cons_append,List.nil_append];exact (permC fun x=>by (try dsimp only); simp only [List.append_eq,List.count_append,List.count_cons,List.count_nil,List.map_nil,List.length_nil,List.length_append,List.length_cons,List.length_set,Nat.zero_add,List.nil_append,iI,iL]; omega)
  refine tt ?_
  refine awp_for [1,2,4,5,7,9] (G:=Nat × List Int) (fun b g=>[(10,some (.buf g.1 g.2.length)),(11,some (.int .i64 (b : Int)))])
   (fun b g H=>g.2=(A.take b).map (fun g=>indexOf A (c.th (A.getD a default) g))∧Owns H0 H ((g.1,.cells 1 (g.2.map iI) 0)::R)) A.length (idr,[]) ⟨rfl,o⟩ rfl ?_
  clear o
  rintro b ⟨idr,row⟩ H hb ⟨hrow,o⟩;dsimp only at hrow o
  have hrl : row.length=b:=by rw [hrow,List.length_map,List.length_take]; omega
  refine tt ?_;apply bk <;> intro h2
  ·have h2p : b<A.length:=by have:=of_decide h2; omega
   have w2:=wsucc (k:=b) (by omega)
   have hgA : A.getD b default∈A:=mem_getD.mpr ⟨b,h2p,rfl⟩
   have hg:=hAm _ hgA
   have rf:=hs.row' hf.2
   have eB : (A.take (b+1)).map (fun g=>indexOf A (c.th (A.getD a default) g))=row++[indexOf A (c.th (A.getD a default) (A.getD b default))]:=by rw [take_one _ h2p,List.map_append,hrow]; rfl
   refine tt ?_;refine ⟨h1p,⟨hf.1,by omega⟩,h2p,⟨hg.1,by omega⟩,_,(l01Index_ok B A _).run,tt ?_⟩;refine app_own (indexOf A (c.th (A.getD a default) (A.getD b default))) o rfl rfl (by simp only [maxL]; omega) fun z H o=>?_;refine tw w2 ?_;exact for_next (z,row++[indexOf A (c.th (A.getD a default) (A.getD b default))]) h2p ⟨eB.symm,o⟩ rfl
  have h2p : b=A.length:=by have:=of_ndecide h2; omega
  rw [h2p,List.take_of_length_le (Nat.le_refl _)] at hrow;refine tt ?_;refine fz_own o rfl fun H o=>?_;subst hR;refine tt ?_;refine rd_cells o.swap (by simp) ?_;refine tt ?_;refine app_own row o rfl (by rw [List.length_map,hta]) (by simp only [List.length_map,hta,maxL]; omega) fun z4 H o=>?_
  have e4 : ((A.take a).map fun f=>A.map fun g=>indexOf A (c.th f g))++[row]=(A.take (a+1)).map fun f=>A.map fun g=>indexOf A (c.th f g):=by rw [eA,List.map_append,hrow]; rfl
  rw [e4] at o ⊢;rw [List.length_map,hta1];refine tt ?_;refine sw o.swap fun H o=>?_;refine tw w1 ?_;exact for_next (z1,z2,z4) h1p (o.pm) rfl
 have h1p : a=A.length:=by have:=of_ndecide h1; omega
 subst h1p;rw [List.take_of_length_le (Nat.le_refl _)] at o;refine tt ?_;refine wk_cell 1 o rfl (by simp) fun H o=>?_;simp only [List.set_cons_zero,List.set_cons_succ] at o;refine wk_cell 2 o rfl (by simp) fun H o=>?_;simp only [List.set_cons_zero,List.set_cons_succ] at o;refine wk_cell 4 o rfl (by simp) fun H o=>?_;simp only [List.set_cons_zero,List.set_cons_succ] at o;refine wk_cell 3 o rfl (by simp) fun H o=>wkW_done ?_;simp only [List.set_cons_zero,List.set_cons_succ] at o;refine tt ?_;refine rd_celln o (by simp) ?_;refine tt ?_;refine sw o.swap fun H o=>tt ?_
 have hr4:=o.rc 5 0 (by simp);simp only [List.drop_zero] at hr4;rw [hr4];exact pure_ret (by rw [hpf,hpt,hpi,hpc]; rfl) o.sub
theorem l11Part_ok (B : Nat) (c : Cat) (hc : c.Is) : Pur Tryz.prog B 67 [.agg c.cells] (.agg (skS c).cells):=by
 refine ⟨fun H0=>c67p (by simp) fun _=>?_⟩;unfold s67p
 have o : Owns H0 H0 []:=.nil _;refine tt ?_;refine newRef_own o fun id4 H o=>tt ?_;refine ⟨_,(l11Skeleton_ok B c hc).run,_,(l02Full_ok B c hc.1 _).run,_,(l02Part_ok B c hc (leadL c) lead_sel (lead_sel2 c)).run, ?_⟩;rw [show Go.Shf.part c (leadL c)=skS c from rfl]
 generalize skS c=S;refine tt ?_;refine sw o fun H o=>tt ?_
 have hr:=o.rc 5 0 (by simp);simp only [List.drop_zero] at hr;rw [hr];exact pure_ret rfl o.sub
end Go.Proofs.Shf
namespace Go.AW
theorem cut_at {P : Program} {B : Nat} {l : List Nat} {a b : SC} {Q : AQ} {σ : Env} {H : Heap} (M : Env→Heap→Prop) (h1 : awp P B a (ctQ l M Q) σ H) (h2 : ∀ σ' H',M σ' H'→awp P B b Q σ' H') : awp P B (.cut l a b) Q σ H:=⟨M,h1,h2⟩
end Go.AW
namespace Go.Proofs.Shf
open Go.AW Go.Proofs Go.Shf
theorem l10Which_ok (B : Nat) (h f g : Int) : Pur Tryz.prog B 306 [iI h,iI f,iI g] (iI (whichI h f g)):=by
 refine ⟨fun H0=>c306 (by simp) fun _=>?_⟩;unfold s306;refine tt ?_
 by_cases e1 : h=f <;> by_cases e2 : h=g
 all_goals
  first | rw [decide_eq_true e1] | rw [decide_eq_false e1]
  refine tt ?_
  first | rw [decide_eq_true e2] | rw [decide_eq_false e2]
  refine tt ?_;refine pure_ret ?_ (.refl _);rw [whichI]
  first | rw [if_pos e1] | rw [if_neg e1]
  first | rw [if_pos e2] | rw [if_neg e2]
  rfl
theorem l25SortedP (B : Nat) (l : List (List Int)) : Pur Tryz.prog B 308 [iLL l] (iLL (sortI l)) :=
 ⟨fun H0=>(l25Sorted_ok B l H0).mono fun r H' ⟨e,M,hr,h1,h2⟩=>⟨by rw [hr,sortI_eq h1 h2],e⟩⟩
theorem flat4_ok (B : Nat) (L : List (List Int)) (hL : ∀ l,l∈L→l.length≤4) (hn : L.length≤1000) : Pur Tryz.prog B 307 [iLL L] (iL L.flatten):=by
 refine ⟨fun H0=>c307 (by simp) fun ⟨hf,_⟩=>?_⟩;unfold s307
 have o : Owns H0 H0 []:=.nil _;refine tt ?_;refine new_list iI o fun id H o=>tt ?_
 refine awp_for [0] (G:=Nat × List Int) (fun k g=>[(3,some (.buf g.1 g.2.length)),(4,some (.int .i64 (k : Int)))])
  (fun k G H=>(G.2=(L.take k).flatten∧G.2.length≤4*k)∧Owns H0 H [(G.1,.cells 1 (G.2.map iI) 0)]) L.length (id,[]) ⟨by simp,o⟩ rfl ?_
 clear o
 rintro k ⟨id,out⟩ H hk ⟨⟨hout,hol⟩,o⟩;dsimp only at hout hol o;refine tt ?_;apply bk <;> intro h1
 ·have h1p : k<L.length:=by have:=of_decide h1; omega
  have w1:=wsucc (k:=k) (by omega)
  have h1l:=hL _ (mem_getD.mpr ⟨k,h1p,rfl⟩);refine tt ?_;refine ⟨h1p, ?_⟩;refine app_list (f:=iI) (r:=L.getD k default) o rfl (by simp only [maxL]; omega) fun id H o=>?_;refine tw w1 ?_;exact for_next (_,out++L.getD k default) (by omega) ⟨⟨by rw [hout,take_succ' L h1p]; simp,by simp only [List.length_append]; omega⟩,o⟩ rfl
 ·have h1p : k=L.length:=by have:=of_ndecide h1; omega
  refine tt ?_;refine fz_own o rfl fun H o=>tt ?_;exact pure_ret (by rw [hout,h1p,List.take_length]) o.sub
theorem l10Alike_ok (B : Nat) (a : List Int) (ha : a.length≤1000) : Pur Tryz.prog B 283 [iL a,iL a] (.bool true):=by
 refine ⟨fun H0=>c283 (by simp) fun _=>?_⟩;unfold s283;refine td ?_;refine awp_for [0,1] (G:=Unit) (fun k _=>[(5,some (.int .i64 (k : Int)))]) (fun k _ H=>H=H0) a.length () rfl rfl ?_
 rintro k _ H hk rfl;refine tt ?_;apply bk <;> intro h1
 ·have h1p : k<a.length:=of_decide h1
  have w1:=wsucc (k:=k) (by omega);refine tt ?_;refine awp_for [0,1,5] (G:=Unit) (fun i _=>[(6,some (iI 0)),(7,some (.int .i64 (i : Int)))]) (fun i _ H'=>H'=H) a.length () rfl rfl ?_
  rintro i _ H' hi rfl;refine tt ?_;apply bk <;> intro h2
  ·have h2p : i<a.length:=of_decide h2
   have w2:=wsucc (k:=i) (by omega);refine tt ?_;refine ⟨h2p,h1p, ?_⟩
   by_cases e : a.getD i default=a.getD k default
   ·rw [decide_eq_true e];refine tt ?_;refine ⟨h2p,h1p, ?_⟩;rw [decide_eq_true e];refine tw w2 ?_;exact for_next () (by omega) rfl rfl
   ·rw [decide_eq_false e];refine tt ?_;refine ⟨h2p,h1p, ?_⟩;rw [decide_eq_false e];refine tw w2 ?_;exact for_next () (by omega) rfl rfl
  ·try simp only [go_sem,↓reduceIte,reduceEqDiff,reduceAdd,reduceMul,reduceLeDiff,reduceLT,w1,dT5]
   exact for_next () (by omega) rfl rfl
 ·refine tt ?_;exact pure_ret rfl (.refl _)
theorem l10Look_ok (B : Nat) (c : Cat) (hc : c.Is) (cs : List Int) (hl : cs.length=c.frm.length) (f : Int) (hf : 0≤f∧f.toNat<c.frm.length) : Pur Tryz.prog B 281 [.agg c.cells,iL cs,iI f] (iL (lookF c cs f)):=by
 refine ⟨fun H0=>c281p (by simp) fun _=>?_⟩;unfold s281p
 have o : Owns H0 H0 []:=.nil _
 have hm:=hc.1.m
 have hcl:=hc.1.cl
 obtain ⟨n,rfl⟩ : ∃ n : Nat,f=n:=⟨f.toNat,(Int.toNat_of_nonneg hf.1).symm⟩
 have hn : n<c.frm.length:=by simpa using hf.2
 have rn:=hc.1.row n hn;refine tt ?_;refine new_list iL o fun id H o=>tt ?_
 refine awp_for [1,2,3] (G:=Nat × List (List Int)) (fun k g=>[(7,some (.buf g.1 g.2.length)),(8,some (.int .i64 (k : Int)))])
  (fun k g H=>g.2=lookK c cs n k∧Owns H0 H [(g.1,.cells 1 (g.2.map iL) 0)]) c.frm.length (id,[]) ⟨rfl,o⟩ rfl ?_
 clear o
 rintro k ⟨id,out⟩ H hk ⟨hout,o⟩;dsimp only at hout o
 have houl : out.length≤2*k:=by rw [hout]; exact lookK_len _ _ _ _
 refine tt ?_;apply bk <;> intro h1
 ·have h1p : k<c.frm.length:=of_decide h1
  have w1:=wsucc (k:=k) (by omega)
  have rk:=hc.1.row k h1p
  have t1:=th_ran hc hn h1p
  have t2:=th_ran hc h1p hn
  have e1 : c.th (n : Int) (k : Int)=(c.comp.getD n default).getD k default:=by rw [Cat.th,ix_nat,ix_nat]
  have e2 : c.th (k : Int) (n : Int)=(c.comp.getD k default).getD n default:=by rw [Cat.th,ix_nat,ix_nat]
  refine tt ?_;refine cut_at (fun σ H=>∃ (id : Nat) (o1 : List (List Int)),σ=[(1,some (iL cs)),(2,some (iI (n : Int))),(3,some (.ptr c.cells)),(7,some (.buf id o1.length)),(8,some (iI (k : Int)))]∧o1=out++(if 0≤c.th n k then [[0,ix cs k,ix cs (c.th n k),whichI (c.th n k) n k]] else [])∧Owns H0 H [(id,.cells 1 (o1.map iL) 0)]) ?_ ?_
  ·refine tt ?_;refine ⟨by omega,by omega, ?_⟩
   by_cases e : 0≤(c.comp.getD n default).getD k default
   ·rw [decide_eq_true e];refine tt ?_;refine ⟨by omega,by omega,by omega,⟨e,by omega⟩,by omega,by omega,_,(l10Which_ok B _ _ _).run,tt ?_⟩;refine app_own [0,cs.getD k default,ix cs ((c.comp.getD n default).getD k default),whichI ((c.comp.getD n default).getD k default) n k] o rfl rfl (by simp only [maxL]; omega) fun z H o=>tt ?_;exact wkW_done ⟨z,_,rfl,by rw [e1,if_pos e],o⟩
   ·rw [decide_eq_false e];refine tt ?_;exact wkW_done ⟨id,_,rfl,by rw [e1,if_neg e,List.append_nil],o⟩
  ·clear o
   rintro σ H ⟨id,o1,rfl,ho1,o⟩
   have hol : o1.length≤2*k+1:=by rw [ho1,List.length_append]; split <;> simp <;> omega
   have hK : lookK c cs n (k+1)=o1++(if 0≤c.th k n then [[1,ix cs k,ix cs (c.th k n),whichI (c.th k n) n k]] else []):=by rw [lookK,look1,← hout,ho1,List.append_assoc]
   refine tt ?_;refine ⟨by omega,by omega, ?_⟩
   by_cases e : 0≤(c.comp.getD k default).getD n default
   ·rw [decide_eq_true e];refine tt ?_;refine ⟨by omega,by omega,by omega,⟨e,by omega⟩,by omega,by omega,_,(l10Which_ok B _ _ _).run,tt ?_⟩;refine app_own [1,cs.getD k default,ix cs ((c.comp.getD k default).getD n default),whichI ((c.comp.getD k default).getD n default) n k] o rfl rfl (by simp only [maxL]; omega) fun z H o=>?_;refine tw w1 ?_;exact for_next (z,o1++[[1,cs.getD k default,ix cs ((c.comp.getD k default).getD n default),whichI ((c.comp.getD k default).getD n default) n k]]) h1p ⟨by rw [hK,e2,if_pos e,ix_nat],o⟩ rfl
   ·rw [decide_eq_false e];refine tw w1 ?_;exact for_next (id,o1) h1p ⟨by rw [hK,e2,if_neg e,List.append_nil],o⟩ rfl
 ·have h1p : k=c.frm.length:=by have:=of_ndecide h1; omega
  subst h1p
  have hnl : n<cs.length:=by omega
  have hf4 : ∀ l,l∈sortI out→l.length≤4:=fun l hl=>by
   have:=(sortI_perm out).mem_iff.mp hl;rw [hout] at this;exact Nat.le_of_eq (lookK_four this)
  have hfl : (sortI out).length≤80:=by rw [(sortI_perm out).length_eq]; omega
  have hff : (sortI out).flatten.length≤320:=by
   have:=flatten_four hf4; omega
  refine tt ?_;refine fz_own o rfl fun H o=>tt ?_;refine ⟨hnl,_,(l25SortedP B out).run,_,(flat4_ok B (sortI out) hf4 (by omega)).run,tt ?_⟩;refine newBuf_own o fun id H o=>?_
  have o : Owns H0 H [(id,.cells 1 ([cs.getD n default].map iI) 0)]:=o;refine tt ?_;refine app_list (f:=iI) (r:=(sortI out).flatten) o rfl (by simp only [maxL,List.length_singleton]; omega) fun id H o=>tt ?_;refine fz_own o rfl fun H o=>tt ?_;exact pure_ret (by rw [lookF,ix_nat,hout]; rfl) o.sub
end Go.Proofs.Shf
namespace Go.AW
section
variable {α : Type} [Inhabited α] {f : α→AV} [One f] {Hb H : Heap} {r : List (Nat × MObj)}
theorem app_buf {id id2 fr fr2 n m : Nat} {out A : List α} {K : Kont} (o : Owns Hb H ((id,.cells 1 (out.map f) fr)::(id2,.cells 1 (A.map f) fr2)::r)) (hn : n=out.length) (hm : m=A.length) (h0 : 0<A.length) (hb : out.length+A.length≤maxL)
  (hk : ∀ id' H',Owns Hb H' ((id',.cells 1 ((out++A).map f) fr)::(id2,.cells 1 (A.map f) fr2)::r)→K (.buf id' (out++A).length) H') :
  appW 1 (some (.buf id n)) (some (.buf id2 m)) K H:=by
 subst hn hm
 have h1:=o.h0
 have h2:=o.tl.h0;simp only at h1 h2;simp only [appW,h1,srcOf,h2,srcB,app2];refine ⟨⟨trivial,by simp,hb,by simpa using hb,⟨trivial,by simp,h0⟩,fun c hc=>?_⟩,fun id' hn=>?_⟩
 ·obtain ⟨a,_,rfl⟩:=List.mem_map.mp hc;exact One.one a
 ·have:=o.mv hn (.cells 1 ((out++A).map f) fr)
  have e : out.map f++A.map f=(out++A).map f:=by simp
  rw [e]
  have:=hk id' _ this
  simpa using this
theorem cpy_own {id n : Nat} {A C : List α} {K : Kont} (o : Owns Hb H ((id,.cells 1 (A.map f) 0)::r)) (hn : n=A.length) (hl : C.length=A.length) (h0 : 0<A.length)
  (hk : ∀ H',Owns Hb H' ((id,.cells 1 (C.map f) 0)::r)→K (.int .i64 n) H') : cpyW (some (.buf id n)) (some (mL f C)) K H:=by
 subst hn;rw [mL,cpyW_buf];refine ⟨⟨h0,by simp [hl]⟩,st_cells o (by simp [hl]) (by simp [hl]) (fun c hc=>?_) fun H' o=>?_⟩
 ·obtain ⟨a,_,rfl⟩:=List.mem_map.mp hc;exact One.one a
 ·have e : wr (A.map f) 0 (C.map f)=C.map f:=by
   refine List.ext_getElem (by rw [wr_length]; simp [hl]) fun i h1 h2=>?_
   have h2' : i<A.length:=by simp at h2; omega
   have q:=wr_getD (C.map f) (A.map f) 0 i (by simp [hl]);rw [if_pos ⟨Nat.zero_le _,by simp; omega⟩] at q
   have h3 : i<C.length:=by omega
   simpa [List.getD_eq_getElem?_getD,h1,h2,h3] using q
  rw [e] at o;exact hk H' o
end
end Go.AW
namespace Go.Proofs.Shf
open Go.AW Go.Proofs Go.Shf
section
variable (B : Nat) {Hb H0 : Heap} {r : Ob} {id : Nat}
theorem l05Place_own (l : List (List Int)) (x : List Int) (hl : l.length≤1000) (o : Owns Hb H0 ((id,.cells 1 (l.map iL) 0)::r)) : CallH Tryz.prog B 282 [.buf id l.length,iL x] H0 (fun v H'=>v=iI (indexOf l x)∧H'=H0):=by
 refine c282 (by simp) fun _=>?_;unfold s282;refine tt ?_;refine awp_for [0,1] (fun k _=>[(5,some (.int .i64 (k : Int)))]) (fun k _ H=>H=H0∧∀ i,i<k→l.getD i default≠x) l.length () ⟨rfl,by simp⟩ rfl ?_
 rintro k _ H hk ⟨rfl,hall⟩;refine tt ?_;apply bk <;> intro h1
 ·have h1:=of_decide h1
  have w1:=wsucc (k:=k) (by omega);refine tt ?_;refine ⟨h1,rd_cells o (by simp; omega) ?_⟩;rw [map_getD _ h1];refine tt ?_;refine (l01Same_ok ..).go fun _=>tt ?_;apply bk <;> intro h2
  ·refine tt ?_
   have h2p:=dd h2;exact pure_ret (by rw [indexOf_hit h1 hall h2p]) (.refl _)
  ·refine tw w1 ?_
   have h2p:=dd h2;exact for_next () (by omega) ⟨rfl,lt_succ_all hall h2p⟩ rfl
 ·refine tt ?_
  have h1:=of_ndecide h1;exact pure_ret (by rw [indexOf_miss fun i hi=>hall i (by omega)]) (.refl _)
theorem slIndex_own (l : List Int) (n : Int) (hl : l.length≤1000) (o : Owns Hb H0 ((id,.cells 1 (l.map iI) 0)::r)) : CallH Tryz.prog B 219 [.buf id l.length,iI n] H0 (fun v H'=>v=iI (indexOf l n)∧H'=H0):=by
 refine c219 (by simp) fun _=>?_;unfold s219;refine tt ?_;refine awp_for [0,1,7] (fun k _=>[(8,some (.int .i64 (k : Int)))]) (fun k _ H=>H=H0∧∀ i,i<k→l.getD i default≠n) l.length () ⟨rfl,by simp⟩ rfl ?_
 rintro k _ H hk ⟨rfl,hall⟩;refine tt ?_;apply bk <;> intro h1
 ·have h1:=of_decide h1
  have w1:=wsucc (k:=k) (by omega);refine tt ?_;refine ⟨h1,rd_cells o (by simp; omega) ?_⟩;rw [map_getD _ h1];refine tt ?_;apply bk <;> intro h2
  ·refine tt ?_;exact pure_ret (by rw [indexOf_hit h1 hall (of_decide h2).symm]) (.refl _)
  ·refine tw w1 ?_;exact for_next () h1 ⟨rfl,lt_succ_all hall fun e=>of_ndecide h2 e.symm⟩ rfl
 ·refine tt ?_
  have h1:=of_ndecide h1;exact pure_ret (by rw [indexOf_miss fun i hi=>hall i (by omega)]) (.refl _)
theorem index_own (l : List Int) (n : Int) (hl : l.length≤1000) (o : Owns Hb H0 ((id,.cells 1 (l.map iI) 0)::r)) : CallH Tryz.prog B 134 [.buf id l.length,iI n] H0 (fun v H'=>v=iI (indexOf l n)∧H'=H0):=by
 refine c134 (by simp) fun _=>?_;unfold s134;refine tt ?_;refine (slIndex_own B l n hl o).mono ?_
 rintro v H ⟨rfl,rfl⟩
 have hb:=indexOf_bd l n
 have w : IntKind.i64.wrap (indexOf l n)=indexOf l n:=wrap_i64 (by omega) (by omega);refine tw w ?_;exact pure_ret rfl (.refl _)
theorem has_own (l : List Int) (m : Nat) (n : Int) (hm : m≤l.length) (hl : l.length≤1000) (o : Owns Hb H0 ((id,.cells 1 (l.map iI) 0)::r)) : CallH Tryz.prog B 230 [.buf id m,iI n] H0 (fun v H'=>v=.bool (dec (n∈l.take m))∧H'=H0):=by
 refine c230 (by simp) fun _=>?_;unfold s230;refine tt ?_;refine awp_for [1,7,8] (fun k _=>[(9,some (.int .i64 (k : Int)))]) (fun k _ H=>H=H0∧∀ i,i<k→l.getD i default≠n) m () ⟨rfl,by simp⟩ rfl ?_
 rintro k _ H hk ⟨rfl,hall⟩;refine tt ?_
 have hmem : n∈l.take m↔∃ i,i<m∧l.getD i default=n:=by
  rw [mem_getD,List.length_take,Nat.min_eq_left hm];exact exists_congr fun i=>and_congr_right fun hi=>by rw [List.getD_eq_getElem?_getD,List.getElem?_take,if_pos hi,← List.getD_eq_getElem?_getD]
 apply bk <;> intro h1
 ·have h1:=of_decide h1
  have w1:=wsucc (k:=k) (by omega);refine tt ?_;refine ⟨h1,rd_cells o (by simp; omega) ?_⟩;rw [map_getD _ (by omega)];refine tt ?_;apply bk <;> intro h2
  ·refine tt ?_;exact pure_ret (by rw [dec_t (hmem.mpr ⟨k,h1,of_decide h2⟩)]) (.refl _)
  ·refine tw w1 ?_;exact for_next () h1 ⟨rfl,lt_succ_all hall fun e=>of_ndecide h2 e⟩ rfl
 ·refine tt ?_
  have h1:=of_ndecide h1;exact pure_ret (by rw [dec_f]; rintro q; obtain ⟨i,hi,e⟩:=hmem.mp q; exact hall i (by omega) e) (.refl _)
theorem clone_bufO (l : List Int) (h0 : 0<l.length) (hl : l.length≤1000) (o : Owns Hb H0 ((id,.cells 1 (l.map iI) 0)::r)) : CallH Tryz.prog B 221 [.buf id l.length] H0 (fun v H'=>v=iL l∧Owns Hb H' ((id,.cells 1 (l.map iI) 0)::r)):=by
 refine c221 (by simp) fun _=>?_;unfold s221;refine tt ?_;refine new_list iI o fun id2 H o=>tt ?_;refine app_buf o rfl rfl h0 (by simp only [maxL,List.length_nil]; omega) fun id2 H o=>tt ?_;refine fz_own o rfl fun H o=>tt ?_;exact ⟨_,.refl _,rfl,o⟩
end
@[go_sem] def fuE (k : FU) : AV:=.agg k.cells
instance : AggN 12 fuE:=⟨by omega,fun _=>rfl,fun _=>rfl,fun a c hc=>by
 simp only [fuE,AV.cells,FU.cells,List.mem_cons,List.not_mem_nil,or_false] at hc
 rcases hc with rfl | rfl | rfl | rfl | rfl | rfl | rfl | rfl | rfl | rfl | rfl | rfl <;> rfl⟩
@[go_sem] theorem idxE_fu (l : List FU) (k : IntKind) (i : Int) {d : Option Nat} {F : Env→Heap→Prop} {σ : Env} {H : Heap} :
  pE d F σ H (idxE 12 (some (mL fuE l)) (some (.int k i)))=((0≤i∧i.toNat<l.length)∧putK d F σ (.ptr (ix l i).cells) H):=idxE_mLN (f:=fuE) l k i
abbrev stO (S : Cat) (X Y Z : AV) : MObj:=.cells 14 [iI S.objs,iL S.frm,iL S.to,iL S.idn,iLL S.comp,iI S.objs,iL S.frm,iL S.to,iL S.idn,iLL S.comp,X,Y,iI 1,Z] 0
section
variable (B : Nat) {S : Cat} (hS : S.Is) {Hb : Heap} {r : Ob} {id : Nat} {X Y Z : AV}
include hS
theorem l10Fits_own {A : List Int} (ia : IdA S A) {f : Nat} (hf : f<A.length) (h0 : A.getD f default=f) {H0 : Heap} (o : Owns Hb H0 ((id,stO S X Y Z)::r)) :
  CallH Tryz.prog B 309 [.ref id 0,iL A,iI f] H0 (fun v H'=>v=.bool true∧H'=H0):=by
 refine c309p (by simp) fun _=>?_;unfold s309p
 have hl:=ia.len
 have hm:=hS.1.m
 have hcl:=hS.1.cl
 have rf:=hS.1.row f (by omega);refine tt ?_;refine awp_for [0,1,2] (G:=Unit) (fun k _=>[(7,some (.int .i64 (k : Int)))]) (fun k _ H=>H=H0) A.length () rfl rfl ?_
 rintro k _ H hk rfl;refine tt ?_;apply bk <;> intro h1
 ·have h1p : k<A.length:=of_decide h1
  have w1:=wsucc (k:=k) (by omega)
  have rk:=hS.1.row k (by omega)
  have t1:=th_ran hS (a:=f) (b:=k) (by omega) (by omega)
  have t2:=th_ran hS (a:=k) (b:=f) (by omega) (by omega);refine tt ?_;refine ⟨h1p, ?_⟩
  by_cases e : A.getD k default<0
  ·rw [decide_eq_true e];refine tw w1 ?_;exact for_next () h1p rfl rfl
  rw [decide_eq_false e]
  have ek:=ia.known h1p (by omega);refine tt ?_;refine rd_cells o (by simp) ?_;refine tt ?_;refine ⟨by omega,by omega, ?_⟩;refine cut_at (fun σ H'=>σ=[(0,some (.ref id 0)),(1,some (iL A)),(2,some (iI (f : Int))),(7,some (iI (k : Int)))]∧H'=H) ?_ ?_
  ·refine tt ?_
   by_cases e1 : 0≤(S.comp.getD f default).getD k default
   rotate_left
   ·rw [decide_eq_false e1];refine tt ?_;exact wkW_done ⟨rfl,rfl⟩
   obtain ⟨t,ht⟩ : ∃ t : Nat,(S.comp.getD f default).getD k default=t:=⟨_,(Int.toNat_of_nonneg e1).symm⟩
   have htl : t<A.length:=by omega
   rw [decide_eq_true e1,ht];refine tt ?_;refine ⟨htl, ?_⟩
   by_cases e2 : 0≤A.getD t default
   rotate_left
   ·rw [decide_eq_false e2];refine tt ?_;exact wkW_done ⟨rfl,rfl⟩
   have et:=ia.known htl e2;rw [decide_eq_true e2];refine tt ?_;refine rd_cells o (by simp) ?_;try simp only [go_sem,↓reduceIte,reduceEqDiff,reduceAdd,reduceMul,reduceLeDiff,reduceLT,h0,ek,et]
   refine ⟨hf,by omega,h1p,by omega,htl, ?_⟩;try simp only [go_sem,↓reduceIte,reduceEqDiff,reduceAdd,reduceMul,reduceLeDiff,reduceLT,h0,ek,et,ht,dT5]
   exact wkW_done ⟨rfl,rfl⟩
  ·rintro σ H' ⟨rfl,rfl⟩;refine tt ?_;refine rd_cells o (by simp) ?_;refine tt ?_;refine ⟨by omega,by omega, ?_⟩
   by_cases e1 : 0≤(S.comp.getD k default).getD f default
   rotate_left
   ·rw [decide_eq_false e1];refine tw w1 ?_;exact for_next () h1p rfl rfl
   obtain ⟨t,ht⟩ : ∃ t : Nat,(S.comp.getD k default).getD f default=t:=⟨_,(Int.toNat_of_nonneg e1).symm⟩
   have htl : t<A.length:=by omega
   rw [decide_eq_true e1,ht];refine tt ?_;refine ⟨htl, ?_⟩
   by_cases e2 : 0≤A.getD t default
   rotate_left
   ·rw [decide_eq_false e2];refine tw w1 ?_;exact for_next () h1p rfl rfl
   have et:=ia.known htl e2;rw [decide_eq_true e2];refine tt ?_;refine rd_cells o (by simp) ?_;try simp only [go_sem,↓reduceIte,reduceEqDiff,reduceAdd,reduceMul,reduceLeDiff,reduceLT,h0,ek,et]
   refine ⟨h1p,by omega,hf,by omega,htl, ?_⟩;try simp only [go_sem,↓reduceIte,reduceEqDiff,reduceAdd,reduceMul,reduceLeDiff,reduceLT,h0,ek,et,ht,dT5,w1]
   exact for_next () h1p rfl rfl
 ·refine tt ?_;refine awp_for [0,1,2] (G:=Unit) (fun k _=>[(9,some (.int .i64 (k : Int)))]) (fun k _ H'=>H'=H) A.length () rfl rfl ?_
  rintro g _ H' hg rfl;refine tt ?_;apply bk <;> intro h2
  ·have h2p : g<A.length:=of_decide h2
   have w2:=wsucc (k:=g) (by omega)
   have rg:=hS.1.row g (by omega);refine tt ?_;refine awp_for [0,1,2,9] (G:=Unit) (fun k _=>[(10,some (.int .i64 (k : Int)))]) (fun k _ H=>H=H') A.length () rfl rfl ?_
   rintro h _ H hh rfl;refine tt ?_;apply bk <;> intro h3
   ·have h3p : h<A.length:=of_decide h3
    have w3:=wsucc (k:=h) (by omega);refine tt ?_;refine ⟨h2p, ?_⟩
    by_cases e1 : 0≤A.getD g default
    rotate_left
    ·rw [decide_eq_false e1];refine tw w3 ?_;exact for_next () h3p rfl rfl
    have eg:=ia.known h2p e1;rw [decide_eq_true e1];refine tt ?_;refine ⟨h3p, ?_⟩
    by_cases e2 : 0≤A.getD h default
    rotate_left
    ·rw [decide_eq_false e2];refine tw w3 ?_;exact for_next () h3p rfl rfl
    have eh:=ia.known h3p e2;rw [decide_eq_true e2];refine tt ?_;refine rd_cells o (by simp) ?_;refine tt ?_;refine ⟨by omega,by omega, ?_⟩
    by_cases e3 : (S.comp.getD g default).getD h default=f
    rotate_left
    ·rw [decide_eq_false e3];refine tw w3 ?_;exact for_next () h3p rfl rfl
    rw [decide_eq_true e3];refine tt ?_;refine rd_cells o (by simp) ?_;try simp only [go_sem,↓reduceIte,reduceEqDiff,reduceAdd,reduceMul,reduceLeDiff,reduceLT,h0,eg,eh]
    refine ⟨h2p,by omega,h3p,by omega,hf, ?_⟩;try simp only [go_sem,↓reduceIte,reduceEqDiff,reduceAdd,reduceMul,reduceLeDiff,reduceLT,h0,eg,eh,e3,dT5,w3]
    exact for_next () h3p rfl rfl
   ·refine tw w2 ?_;exact for_next () h2p rfl rfl
  ·refine tt ?_;exact pure_ret rfl (.refl _)
theorem l10Arrows_own (C : List Int) (hC : C.length=S.frm.length) : ∀ (m : Nat) (A : List Int),IdA S A→negs A=m→∀ {H0 : Heap} {z : Nat},Owns Hb H0 ((id,stO S (iL C) (iL C) (.buf z 0))::(z,.cells 12 (flat (([] : List FU).map fuE)) 0)::r) →
  CallH Tryz.prog B 284 [.ref id 0,iL (idL S.objs.toNat),iL A] H0 (fun _ H'=>∃ z',Owns Hb H' ((id,stO S (iL C) (iL C) (.buf z' 1))::(z',.cells 12 (flat (([idF S] : List FU).map fuE)) 0)::r)):=by
 intro m
 induction m using Nat.strongRecOn with | _ m ih=>?_
 intro A ia hm0 H0 z o;refine c284p (by simp) fun _=>?_;unfold s284p
 have hl:=ia.len
 have hm:=hS.1.m
 have hob:=hS.1.o
 have htl:=hS.1.tol;refine tt ?_;refine awp_for [0,1,2] (G:=Unit) (fun k _=>[(6,some (.int .i64 (k : Int)))]) (fun k _ H'=>H'=H0∧∀ i,i<k→0≤A.getD i default) A.length () ⟨rfl,fun i hi=>by omega⟩ rfl ?_
 rintro k _ H hk ⟨rfl,hall⟩;refine tt ?_
 by_cases e0 : k<A.length
 rotate_left
 ·have ek : k=A.length:=by omega
  have eA:=idA_full ia (ek ▸ hall);rw [decide_eq_false e0];refine tt ?_;rw [decide_eq_true (by omega)];refine tt ?_;refine rd_cells o (by simp) ?_;refine tt ?_;refine rd_celln o (by simp) ?_;refine tt ?_;refine rd_celln o (by simp) ?_;refine tt ?_;refine ⟨_,(l06Make_ok B S S (idL S.objs.toNat) A).run,tt ?_⟩;refine app_ownN (f:=fuE) (⟨S,S,idL S.objs.toNat,A⟩ : FU) o.swap rfl rfl (by simp [maxL]) fun z H o=>tt ?_;refine sw o.swap fun H o=>tt ?_;rw [eA] at o;exact ⟨_,.refl _,z,o⟩
 rw [decide_eq_true e0];refine tt ?_;refine ⟨e0, ?_⟩
 by_cases e1 : 0≤A.getD k default
 ·have w1:=wsucc (k:=k) (by omega);rw [decide_eq_true e1];refine tw w1 ?_;exact for_next () e0 ⟨rfl,lt_succ_all hall e1⟩ rfl
 rw [decide_eq_false e1];refine tt ?_;rw [decide_eq_false (by omega)]
 have hxr:=hS.1.frm _ (mem_getD.mpr ⟨k,(by omega : k<S.frm.length),rfl⟩)
 have hyr:=hS.1.to _ (mem_getD.mpr ⟨k,(by omega : k<S.to.length),rfl⟩)
 have hx:=idL_ix (n:=S.objs.toNat) (i:=S.frm.getD k default) (by omega)
 have hy:=idL_ix (n:=S.objs.toNat) (i:=S.to.getD k default) (by omega)
 have hil:=idL_len S.objs.toNat;refine tt ?_;refine rd_celln o (by simp) ?_;refine tt ?_;refine rd_cells o (by simp) ?_;refine tt ?_;refine ⟨by omega,⟨hxr.1,by omega⟩,tt ?_⟩;refine rd_cells o (by simp) ?_;refine tt ?_;refine ⟨by omega,⟨hyr.1,by omega⟩, ?_⟩;rw [hx,hy];refine ⟨_,(l02Hom_ok B S hS.1 _ _).run, ?_⟩
 have hle:=fun j hj h=>hom_le (c:=S) (f:=k) (k:=j) (by omega) hj h
 have hst:=fun h=>hom_stop (c:=S) (f:=k) (by omega) h
 have hlen:=homC_len (c:=S) (S.frm.getD k default) (S.to.getD k default)
 have hmem : ∀ j,j<(homC S (S.frm.getD k default) (S.to.getD k default)).length→0≤(homC S (S.frm.getD k default) (S.to.getD k default)).getD j default:=fun j hj=>by
  rw [← hom_homC] at hj ⊢; exact (hom_at hj).r.1
 rw [hom_homC] at hle hst
 generalize homC S (S.frm.getD k default) (S.to.getD k default)=L at *;refine tt ?_
 refine awp_for [0,1,2,6,7] (G:=Nat × List FU) (fun j g=>[(8,some (.int .i64 (j : Int)))])
  (fun j g H=>(g.2=[]∧(∀ i,i<j→L.getD i default<(k : Int))∨g.2=[idF S])∧Owns Hb H ((id,stO S (iL C) (iL C) (.buf g.1 g.2.length))::(g.1,.cells 12 (flat (g.2.map fuE)) 0)::r)) L.length (z,[]) ⟨.inl ⟨rfl,fun i hi=>by omega⟩,o⟩ rfl ?_
 clear o
 rintro j ⟨z,out⟩ H hj ⟨hout,o⟩;dsimp only at hout o;refine tt ?_
 by_cases e2 : j<L.length
 rotate_left
 ·rw [decide_eq_false e2]
  rcases hout with ⟨_,h⟩ | rfl
  ·exact (hst fun i hi=>h i (by omega)).elim
  refine tt ?_;exact ⟨_,.refl _,z,o⟩
 rw [decide_eq_true e2];refine tt ?_;refine rd_cells o (by simp) ?_;refine tt ?_;refine rd_cells o (by simp) ?_;refine tt ?_
 rcases hout with ⟨rfl,hsm⟩ | rfl
 rotate_left
 ·rw [decide_eq_false (by simp)];refine tt ?_;exact ⟨_,.refl _,z,o⟩
 rw [decide_eq_true (by simp)]
 have w2:=wsucc (k:=j) (by omega)
 have hbk:=hle j e2 hsm
 have hb0:=hmem j e2
 obtain ⟨b,hb⟩ : ∃ b : Nat,L.getD j default=b:=⟨_,(Int.toNat_of_nonneg hb0).symm⟩;refine tt ?_;refine ⟨e2,_,(l01Has_ok B A _).run, ?_⟩;rw [hb] at hbk ⊢
 by_cases e3 : b<k
 ·have hbA : (b : Int)∈A:=mem_getD.mpr ⟨b,by omega,ia.known (by omega) (hall b e3)⟩;rw [dec_t hbA];refine tw w2 ?_;exact for_next (z,[]) e2 ⟨.inl ⟨rfl,lt_succ_all hsm (by omega)⟩,o⟩ rfl
 have ebk : b=k:=by omega
 subst ebk;rw [dec_f (ia.not_mem e0 (by omega))];refine tt ?_;refine rd_cells o (by simp) ?_;refine tt ?_;refine ⟨by omega, ?_⟩;refine rd_cells o (by simp) ?_;refine tt ?_;refine ⟨e2,⟨by omega,by omega⟩, ?_⟩;try simp only [go_sem,↓reduceIte,reduceEqDiff,reduceAdd,reduceMul,reduceLeDiff,reduceLT,hb,dT5]
 refine (l01Own_own B A Hb H _ o).own fun id2 A2 H o q=>?_;subst q;refine tt ?_;refine ⟨e2,e0, ?_⟩;refine set_own (f:=iI) (b : Int) o (by rw [hb]) e0 fun H o=>tt ?_;refine fz_own (f:=iI) o (by simp) fun H o=>?_
 have hset : (A2.set b (b : Int)).getD b default=b:=by rw [getD_setI e0,if_pos rfl]
 have hneg:=negs_set (A:=A2) (i:=b) (v:=b) e0 (by omega) (by omega);refine tt ?_;refine (l10Fits_own B hS (ia.set e0) (by simpa using e0) hset o).mono ?_
 rintro v H ⟨rfl,rfl⟩;refine tt ?_;refine (ih (negs (A2.set b (b : Int))) (by omega) _ (ia.set e0) rfl o).mono ?_;clear o
 rintro v H ⟨z,o⟩;refine tw w2 ?_;exact for_next (z,[idF S]) e2 ⟨.inr rfl,o⟩ rfl
end
abbrev seO (S : Cat) (ido ida : Nat) (F : AV) : MObj:=.cells 6 [.ptr S.cells,.ptr S.cells,.buf ido S.objs.toNat,.buf ida S.frm.length,.bool true,F] 0
section
variable (B : Nat) {S : Cat} (hS : S.Is) {Hb : Heap} {r : Ob} {id ido ida : Nat} {F : AV} {O : List Int}
include hS
theorem distinct_own {A : List Int} (pa : ParA S A) {H0 : Heap} (o : Owns Hb H0 ((id,seO S ido ida F)::(ida,.cells 1 (A.map iI) 0)::r)) :
  CallH Tryz.prog B 332 [.ref id 0] H0 (fun v H'=>v=.bool (dec (DistA A))∧Owns Hb H' ((id,seO S ido ida F)::(ida,.cells 1 (A.map iI) 0)::r)):=by
 refine c332 (by simp) fun _=>?_;unfold s332
 have hm:=hS.1.m
 have hl:=pa.len;refine tt ?_;refine rd_cells o (by simp) ?_;refine tt ?_;refine (arrows_ok B S).go fun _=>tt ?_;refine ⟨⟨by omega,by simp only [maxL]; omega⟩,mks_list AV.bool false rfl o fun i3 H o=>?_⟩;refine tt ?_;refine rd_cells o.tl (by simp) ?_;refine tt ?_
 refine awp_for [3,15,16] (G:=Unit) (fun k _=>[(17,some (.int .i64 (k : Int)))])
  (fun k _ H=>DistK A k∧Owns Hb H ((i3,.cells 1 ((markK A S.frm.length k).map AV.bool) 0)::(id,seO S ido ida F)::(ida,.cells 1 (A.map iI) 0)::r)) S.frm.length () ⟨fun i j hi=>by omega,by rw [markK_zero]; exact o⟩ rfl ?_
 clear o
 rintro k _ H hk ⟨hd,o⟩
 have hml:=markK_len A S.frm.length k;refine tt ?_;apply bk <;> intro h1
 ·have h1p : k<S.frm.length:=of_decide h1
  have w1:=wsucc (k:=k) (by omega);refine tt ?_;refine ⟨h1p,rd_cells o.tl.tl (by simp; omega) ?_⟩;rw [map_getD _ (by omega)];refine tt ?_
  by_cases e : 0≤A.getD k default
  ·have ha:=(pa.known (by omega) e).r
   obtain ⟨v,hv⟩ : ∃ v : Nat,A.getD k default=v:=⟨_,(Int.toNat_of_nonneg e).symm⟩
   have hvn : v<S.frm.length:=by omega
   have hat:=markK_at (A:=A) (k:=k) hvn;rw [decide_eq_true e,hv];refine tt ?_;refine ⟨by omega,rd_cells o (by simp; omega) ?_⟩;rw [map_getD _ (by omega),hat]
   by_cases q : ∃ i,i<k∧A.getD i default=(v : Int)
   ·rw [dec_t q];refine tt ?_
    obtain ⟨i,hi,ei⟩:=q;exact ⟨_,.refl _,by rw [dec_f (not_dist (by omega) hi e (by rw [hv]; exact ei))],o.tl⟩
   ·rw [dec_f q];refine td ?_;refine ⟨by omega, ?_⟩;refine set_own (f:=AV.bool) true o rfl (by omega) fun H o=>?_;refine tw w1 ?_;exact for_next () h1p ⟨hd.pos (by rw [hv]; exact q),by rw [markK_pos hvn hv]; exact o⟩ rfl
  ·rw [decide_eq_false e];refine tt ?_;rw [decide_eq_false e];refine tw w1 ?_;exact for_next () h1p ⟨hd.neg (by omega),by rw [markK_neg (by omega)]; exact o⟩ rfl
 ·have h1p : k=S.frm.length:=by have:=of_ndecide h1; omega
  subst h1p;rw [← hl] at hd;refine tt ?_;exact ⟨_,.refl _,by rw [dec_t (dist_full hd)],o.tl⟩
theorem need_own (x y : Int) {H0 : Heap} (o : Owns Hb H0 ((id,seO S ido ida F)::r)) :
  CallH Tryz.prog B 333 [.ref id 0,iI x,iI y] H0 (fun v H'=>v=iI (homC S x y).length∧H'=H0):=by
 refine c333 (by simp) fun _=>?_;unfold s333;refine tt ?_;refine rd_cells o (by simp) ?_;refine tt ?_;refine rd_cells o (by simp) ?_;refine tt ?_;refine (hom_ok B S hS.1 x y).go fun _=>?_;rw [hom_homC];refine tt ?_;exact pure_ret rfl (.refl _)
theorem placed_own {O : List Int} {x : Nat} (hx : x<S.objs.toNat) (hOl : O.length=S.objs.toNat) (hO : ∀ i,i≤x→O.getD i default=i) {H0 : Heap} (o : Owns Hb H0 ((id,seO S ido ida F)::(ido,.cells 1 (O.map iI) 0)::r)) :
  CallH Tryz.prog B 322 [.ref id 0,iI x] H0 (fun v H'=>v=.bool true∧H'=H0):=by
 refine c322p (by simp) fun _=>?_;unfold s322p
 have hm:=hS.1.m
 have hob:=hS.1.o
 have htl:=hS.1.tol;refine tt ?_;refine rd_cells o (by simp) ?_;refine tt ?_;refine awp_for [0,1,15] (G:=Unit) (fun k _=>[(16,some (.int .i64 (k : Int)))]) (fun k _ H=>H=H0) S.frm.length () rfl rfl ?_
 rintro k _ H hk rfl;refine tt ?_;apply bk <;> intro h1
 ·have h1p : k<S.frm.length:=of_decide h1
  have w1:=wsucc (k:=k) (by omega)
  have hfr:=hS.1.frm _ (mem_getD.mpr ⟨k,(by omega : k<S.frm.length),rfl⟩)
  have htr:=hS.1.to _ (mem_getD.mpr ⟨k,(by omega : k<S.to.length),rfl⟩)
  obtain ⟨f,hf⟩ : ∃ f : Nat,S.frm.getD k default=f:=⟨_,(Int.toNat_of_nonneg hfr.1).symm⟩
  obtain ⟨t,ht⟩ : ∃ t : Nat,S.to.getD k default=t:=⟨_,(Int.toNat_of_nonneg htr.1).symm⟩;refine tt ?_;refine rd_cells o (by simp) ?_;refine tt ?_;refine ⟨h1p,rd_cells o (by simp) ?_⟩;refine tt ?_;refine ⟨by omega, ?_⟩;rw [hf,ht];refine tt ?_
  by_cases e1 : x<f
  ·rw [decide_eq_true e1];refine tw w1 ?_;exact for_next () h1p rfl rfl
  rw [decide_eq_false e1];refine tt ?_
  by_cases e2 : x<t
  ·rw [decide_eq_true e2];refine tw w1 ?_;exact for_next () h1p rfl rfl
  rw [decide_eq_false e2];refine tt ?_
  by_cases e3 : f=x
  ·rw [decide_eq_true e3];refine tt ?_
   focus
    refine rd_cells o (by simp) ?_;refine tt ?_;refine rd_cells o (by simp) ?_;refine tt ?_;refine ⟨by omega,rd_cells o.tl (by simp; omega) ?_⟩;rw [map_getD _ (by omega),hO f (by omega)];refine tt ?_;refine rd_cells o (by simp) ?_;refine tt ?_;refine ⟨by omega,rd_cells o.tl (by simp; omega) ?_⟩;rw [map_getD _ (by omega),hO t (by omega)];refine ⟨_,(hom_ok B S hS.1 f t).run, ?_⟩;rw [hom_homC];refine tt ?_;refine (need_own B hS f t o).mono ?_
    rintro v H2 ⟨rfl,rfl⟩;refine ⟨.refl _,tt ?_⟩;rw [decide_eq_false (by omega)];refine tw w1 ?_;exact for_next () h1p rfl rfl
  rw [decide_eq_false e3];refine tt ?_
  by_cases e4 : t=x
  ·rw [decide_eq_true e4];refine tt ?_
   focus
    refine rd_cells o (by simp) ?_;refine tt ?_;refine rd_cells o (by simp) ?_;refine tt ?_;refine ⟨by omega,rd_cells o.tl (by simp; omega) ?_⟩;rw [map_getD _ (by omega),hO f (by omega)];refine tt ?_;refine rd_cells o (by simp) ?_;refine tt ?_;refine ⟨by omega,rd_cells o.tl (by simp; omega) ?_⟩;rw [map_getD _ (by omega),hO t (by omega)];refine ⟨_,(hom_ok B S hS.1 f t).run, ?_⟩;rw [hom_homC];refine tt ?_;refine (need_own B hS f t o).mono ?_
    rintro v H2 ⟨rfl,rfl⟩;refine ⟨.refl _,tt ?_⟩;rw [decide_eq_false (by omega)];refine tw w1 ?_;exact for_next () h1p rfl rfl
  rw [decide_eq_false e4];refine tw w1 ?_;exact for_next () h1p rfl rfl
 ·refine tt ?_;exact pure_ret rfl (.refl _)
end
end Go.Proofs.Shf
