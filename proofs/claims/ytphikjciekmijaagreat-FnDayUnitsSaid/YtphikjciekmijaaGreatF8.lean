/- A part of a proof. -/
import Derived.Test.YtphikjciekmijaaGreatF7
set_option linter.unusedVariables false
set_option linter.unusedSimpArgs false
set_option linter.unusedSectionVars false
set_option maxRecDepth 100000
open Nat (reduceEqDiff reduceAdd reduceMul reduceLeDiff reduceLT)
namespace Go.Proofs.Shf
open Go.AW Go.Proofs Go.Shf
theorem l02Then_t (B : Nat) {c : Cat} (hc : c.Shape) {a b : Int} (ha : c.ArR a) (hb : c.ArR b) : Pur Tryz.prog B 98 [.agg c.cells,iI a,iI b] (iI (ix (ix c.comp a) b)):=by
 refine ⟨fun H0=>c98.go fun _=>?_⟩
 have ci:=hc.coI ha
 have cj : (ix c.comp a).length=c.frm.length:=hc.coJ ha
 have cj2 : 0≤b∧b.toNat<(ix c.comp a).length:=⟨hb.1,by rw [cj]; exact hb.2⟩;refine tt ?_;refine ⟨ci,cj2, ?_⟩;exact pure_ret rfl (.refl _)
theorem iThen_t (B : Nat) {c : Cat} (hc : c.Shape) {a b : Int} (ha : c.ArR a) (hb : c.ArR b) : Pur Tryz.prog B 91 [.ptr c.cells,iI a,iI b] (iI (ix (ix c.comp a) b)):=by
 refine ⟨fun H0=>c91.go fun _=>?_⟩
 have ci:=hc.coI ha
 have cj : (ix c.comp a).length=c.frm.length:=hc.coJ ha
 have cj2 : 0≤b∧b.toNat<(ix c.comp a).length:=⟨hb.1,by rw [cj]; exact hb.2⟩;refine tt ?_;refine ⟨ci,cj2, ?_⟩;exact pure_ret rfl (.refl _)
theorem homC_len {d : Cat} (hd : d.Shape) (x y : Int) : (homC d x y).length≤40:=by
 have h5:=hd.m
 have h6 : (homK d x y d.frm.length).length≤d.frm.length:=homK_len _ _ _;rw [homK_full] at h6; omega
theorem set_getD_selfT (A : List Int) (i : Nat) : A.set i (A.getD i default)=A:=by
 apply List.ext_getElem?
 intro j
 by_cases e : i=j
 ·subst e
  by_cases h : i<A.length
  ·simp [List.getD_eq_getElem?_getD,h]
  ·rw [List.getElem?_eq_none (by simp; omega),List.getElem?_eq_none (by omega)]
 ·rw [List.getElem?_set_ne e]
theorem classes_ok (B : Nat) (l : List Int) (hl : l.length≤100000) : Pur Tryz.prog B 265 [iL l] (iL (classL l)):=by
 refine ⟨fun H0=>c265p.go fun _=>?_⟩
 have o : Owns H0 H0 []:=.nil _;refine tt ?_;refine new_list iI o fun id3 H o=>tt ?_;refine new_list iI o fun id4 H o=>tt ?_
 refine awp_for [0] (G:=(Nat × List Int) × (Nat × List Int)) (fun k g=>[(3,some (.buf g.1.1 g.1.2.length)),(4,some (.buf g.2.1 g.2.2.length)),(5,some (.int .i64 (k : Int)))])
  (fun k g H=>(g.1.2=classL (l.take k)∧g.2.2=seenL (l.take k))∧Owns H0 H [(g.2.1,.cells 1 (g.2.2.map iI) 0),(g.1.1,.cells 1 (g.1.2.map iI) 0)]) l.length ((id3,[]),(id4,[])) ⟨⟨rfl,rfl⟩,o⟩ rfl ?_
 clear o
 rintro k ⟨⟨id3,out⟩,⟨id4,seen⟩⟩ H hk ⟨⟨hout,hseen⟩,o⟩;dsimp only at o hout hseen
 have hol : out.length=k:=by rw [hout,classL_len,List.length_take]; omega
 have hsl : seen.length≤k:=by rw [hseen]; exact Nat.le_trans (seenL_len _ _ rfl) (by rw [List.length_take]; omega)
 refine tt ?_;apply bk <;> intro h1
 ·refine tt ?_
  have h1p:=dd h1
  have w1:=wsucc (k:=k) (by omega)
  have hs1:=seenL_snoc (l.take k) (l.getD k default)
  have ho1:=classL_snoc (l.take k) (l.getD k default);rw [← take_one l h1p,← hseen] at hs1;rw [← take_one l h1p,← hout] at ho1;refine ⟨h1p,call_lent 0 rfl o rfl (.int _ _) (l01Index_ok ..).run ?_⟩
  have hb:=indexOf_bd seen (l.getD k default)
  have hm:=indexOf_mem seen (l.getD k default);refine tt ?_;apply bk <;> intro h2
  ·refine tt ?_
   have h2p:=dd h2
   have hni : l.getD k default ∉ seen:=fun h=>by have:=hm.mpr h; omega
   rw [if_neg hni] at hs1;rw [hs1,indexOf_newT hni] at ho1;refine ⟨h1p, ?_⟩;refine app_own (l.getD k default) o rfl rfl (by simp only [maxL]; omega) fun id4 H o=>tt ?_;refine app_own ((seen.length : Nat) : Int) o.swap rfl rfl (by simp only [maxL]; omega) fun id3 H o=>?_;refine tw w1 ?_;exact for_next ((_,_),(_,_)) (by omega) ⟨⟨ho1.symm,hs1.symm⟩,o.swap⟩ rfl
  ·refine tt ?_
   have h2p:=dd h2
   have hi : l.getD k default∈seen:=hm.mp (by omega);rw [if_pos hi] at hs1;rw [hs1] at ho1;refine app_own (indexOf seen (l.getD k default)) o.swap rfl rfl (by simp only [maxL]; omega) fun id3 H o=>?_;refine tw w1 ?_;exact for_next ((_,_),(_,_)) (by omega) ⟨⟨ho1.symm,hs1.symm⟩,o.swap⟩ rfl
 ·refine tt ?_
  have h1p:=dd h1
  obtain rfl : k=l.length:=by omega
  refine fz_own o.swap rfl fun H o=>tt ?_;exact pure_ret (by rw [hout,List.take_length]) o.sub
theorem join_pok (B : Nat) (n : Nat) (hn : n≤100000) (ps : List (List Int)) (hp : ∀ q,q∈ps→2≤q.length∧(0≤q.getD 0 default∧(q.getD 0 default).toNat<n)∧(0≤q.getD 1 default∧(q.getD 1 default).toNat<n)) :
  Pur Tryz.prog B 203 [iI n,iLL ps] (iL (joinL n ps)):=by
 refine ⟨fun H0=>c203p.go fun ⟨_,hf,_⟩=>?_⟩
 have hl:=fine_mL_le hf;simp only [maxL] at hl
 have o : Owns H0 H0 []:=.nil _;refine tt ?_;refine new_list iI o fun id H o=>tt ?_;refine awp_for [0,1] (G:=Nat × List Int) (fun k g=>[(5,some (.buf g.1 g.2.length)),(6,some (.int .i64 (k : Int)))]) (fun k g H=>g.2=(List.range k).map Int.ofNat∧Owns H0 H [(g.1,.cells 1 (g.2.map iI) 0)]) n (id,[]) ⟨rfl,o⟩ rfl ?_;clear o
 rintro k ⟨id,A⟩ H hk ⟨hA,o⟩;dsimp only at hA o
 have hAl : A.length=k:=by rw [hA]; simp
 refine tt ?_;apply bk <;> intro h1
 ·refine tt ?_
  have h1p:=dd h1
  have w1:=wsucc (k:=k) (by omega);refine app_own (k : Int) o rfl rfl (by simp only [maxL]; omega) fun id H o=>?_;refine tw w1 ?_;exact for_next (_,_) (by omega) ⟨by rw [hA,List.range_succ]; simp,o⟩ rfl
 ·refine tt ?_
  have h1p:=dd h1
  obtain rfl : k=n:=by omega
  refine awp_for [1,5] (fun q _=>[(7,some (.int .i64 (q : Int)))]) (fun q A H=>A=labs k (ps.take q)∧Owns H0 H [(id,.cells 1 (A.map iI) 0)]) ps.length A ⟨hA,o⟩ rfl ?_;clear o
  rintro q A2 H hq ⟨hA2,o⟩
  have hl2 : A2.length=k:=by rw [hA2,labs_len]
  refine tt ?_;apply bk <;> intro h2
  ·refine tt ?_
   have h2p:=dd h2
   have w2:=wsucc (k:=q) (by omega)
   have hqq:=hp _ (mem_getD.mpr ⟨q,h2p,rfl⟩)
   have e0 : ix (ps.getD q default) 0=(ps.getD q default).getD 0 default:=rfl
   have e1 : ix (ps.getD q default) 1=(ps.getD q default).getD 1 default:=rfl
   have hstep:=labs_succ k ps h2p;rw [← hA2,e0,e1] at hstep;refine ⟨h2p,⟨by omega,Nat.lt_of_lt_of_le (by decide) hqq.1⟩,⟨by rw [e0]; omega,by rw [e0]; omega⟩,rd_own o (by rw [e0]; omega) ?_⟩;refine tt ?_;refine ⟨h2p,⟨by omega,Nat.lt_of_lt_of_le (by decide) hqq.1⟩,⟨by rw [e1]; omega,by rw [e1]; omega⟩,rd_own o (by rw [e1]; omega) ?_⟩;refine tt ?_;rw [e0,e1]
   have ea : A2.getD ((ps.getD q default).getD 0 default).toNat default=ix A2 ((ps.getD q default).getD 0 default):=rfl
   have eb : A2.getD ((ps.getD q default).getD 1 default).toNat default=ix A2 ((ps.getD q default).getD 1 default):=rfl;rw [ea,eb]
   generalize ix A2 ((ps.getD q default).getD 0 default)=va at hstep ⊢
   generalize ix A2 ((ps.getD q default).getD 1 default)=vb at hstep ⊢;refine awp_for [1,5,7,8,9] (fun i _=>[(10,some (.int .i64 (i : Int)))]) (fun i A H=>A=relabTo A2 va vb i∧Owns H0 H [(id,.cells 1 (A.map iI) 0)]) k A2 ⟨(relabTo_zero _ _ _).symm,o⟩ rfl ?_;clear o
   rintro i A3 H hi ⟨hA3,o⟩
   have hl3 : A3.length=k:=by rw [hA3,relabTo_len _ _ _ (by omega)]; exact hl2
   rw [hAl];refine tt ?_;apply bk <;> intro h3
   ·refine tw h3 ?_
    have h3p:=dd h3
    have w3:=wsucc (k:=i) (by omega)
    have hg:=relabTo_get A2 va vb (i:=i) (by omega)
    have hs:=relabTo_succ A2 va vb (i:=i) (by omega);rw [← hA3] at hg hs;apply bk <;> intro h4
    ·refine tt ?_
     have h4p:=dd h4;refine ⟨h3p,rd_own o (by omega) ?_⟩;refine tt ?_;apply bk <;> intro h5
     ·refine tt ?_
      have h5p:=dd h5;refine ⟨h3p,set_own _ o rfl (by omega) fun H o=>?_⟩;refine tw w3 ?_;exact for_next _ (by omega) ⟨by rw [hs,if_pos (by rw [← hg]; exact h5p)],o⟩ rfl
     ·refine tw w3 ?_
      have h5p:=dd h5;refine for_next A3 (by omega) ⟨?_,o⟩ rfl;rw [hs,if_neg (by rw [← hg]; exact h5p),← hg,set_getD_selfT]
    ·refine tw w2 ?_
     have h4p:=dd h4;refine for_next A3 (by omega) ⟨?_,o⟩ rfl;subst h4p
     have : ∀ i,relabTo A2 va va i=A2:=fun i=>by rw [relabTo,relab_same,List.take_append_drop]
     rw [hA3,this,hstep,relab_same]
   ·try simp only [go_sem,↓reduceIte,reduceEqDiff,reduceAdd,reduceMul,reduceLeDiff,reduceLT,h3,w2]
    have h3p:=dd h3;refine for_next A3 (by omega) ⟨?_,o⟩ rfl
    have hik : i=A2.length:=by omega
    rw [hA3,hik,relabTo_all,hstep]
  ·refine tt ?_
   have h2p:=dd h2
   obtain rfl : q=ps.length:=by omega
   rw [List.take_length] at hA2;rw [hAl];refine fz_own o hl2.symm fun H o=>tt ?_;refine (classes_ok B A2 (by omega)).go fun _=>tt ?_;exact pure_ret (by rw [joinL,hA2]) o.sub
theorem l01Pairs_own (B : Nat) (p : List Int) (H0 H : Heap) (l : List (Nat × MObj)) (o : Owns H0 H l) : CallH Tryz.prog B 283 [iL p] H (OwnK iL H0 l (·=pairsOf p)):=by
 refine c283p.go fun ⟨hf,_⟩=>?_
 have hl:=fine_mL_le hf;simp only [maxL] at hl;refine tt ?_;refine new_list iL o fun id H o=>tt ?_
 refine awp_for [0] (G:=Nat × List (List Int)) (fun k g=>[(3,some (.buf g.1 g.2.length)),(4,some (.int .i64 (k : Int)))])
  (fun k g H=>g.2=(List.range k).map (fun i : Nat=>[indexOf p (p.getD i default),(i : Int)])∧Owns H0 H ((g.1,.cells 1 (g.2.map iL) 0)::l)) p.length (id,[]) ⟨rfl,o⟩ rfl ?_
 clear o
 rintro k ⟨id,out⟩ H hk ⟨hout,o⟩;dsimp only at hout o
 have hol : out.length=k:=by rw [hout]; simp
 refine tt ?_;apply bk <;> intro h1
 ·refine tt ?_
  have h1p:=dd h1
  have w1:=wsucc (k:=k) (by omega);refine ⟨h1p,(l01Index_ok ..).go fun _=>?_⟩;refine tt ?_;refine app_own [indexOf p (p.getD k default),(k : Int)] o rfl rfl (by simp only [maxL]; omega) fun id H o=>?_;refine tw w1 ?_;exact for_next (_,_) (by omega) ⟨by rw [hout,List.range_succ]; simp,o⟩ rfl
 ·refine tt ?_
  have h1p:=dd h1
  obtain rfl : k=p.length:=by omega
  exact own_ret o rfl (by rw [hout]; rfl)
end Go.Proofs.Shf
namespace Go.Shf
open Go.AW
def constF (c : Cat) (n : Int) : SF:=⟨c,List.replicate c.objs.toNat n,List.replicate c.frm.length ((List.range n.toNat).map Int.ofNat)⟩
theorem rep_succ {α : Type} (k : Nat) (a : α) : List.replicate (k+1) a=List.replicate k a++[a]:=List.replicate_succ'
end Go.Shf
namespace Go.Proofs.Shf
open Go.AW Go.Proofs Go.Shf
abbrev z7 : List AV:=[.int .i64 0,.nilsl,.nilsl,.nilsl,.nilsl,.nilsl,.nilsl]
theorem l19ConstG_ok (B : Nat) (c : Cat) (hob : 0≤c.objs∧c.objs≤4096) (hm : c.frm.length≤4096) (n : Int) (hn : 0≤n∧n≤100) : Pur Tryz.prog B 250 [.agg c.cells,iI n] (.agg (constF c n).cells):=by
 refine ⟨fun H0=>c250p.go fun hfi=>?_⟩
 have o : Owns H0 H0 []:=.nil _;refine tt ?_;refine nb o fun id4 H o=>tt ?_;refine (l02Own_ok B c).go fun _=>tt ?_;refine nb o fun id5 H o=>tt ?_;refine sw o fun H o=>?_
 let st : AV→AV→MObj:=fun x5 x6=>.cells 7 [iI c.objs,iL c.frm,iL c.to,iL c.idn,iLL c.comp,x5,x6] 0
 refine tt ?_;refine awp_for [1,2,4,5] (G:=AV) (fun k X=>[(6,some (.int .i64 (k : Int)))]) (fun k X H=>LsO iI H0 H ((id5,st X .nilsl)::[(id4,.cells 7 z7 0)]) X (List.replicate k n)) c.objs.toNat .nilsl (.inl ⟨rfl,rfl,o⟩) rfl ?_;clear o
 rintro k X H hk hX;refine tt ?_;apply bk <;> intro h1
 ·have h1p:=of_decide h1
  have w:=wsucc (k:=k) (by omega);refine tt ?_;refine rd_get hX.obj (by simp [st]) ?_;refine tt ?_;refine hX.app n rfl (by simp only [List.length_replicate,maxL]; omega) fun idn H o=>?_;rw [← rep_succ] at o ⊢;refine tt ?_;refine sw o.swap fun H o=>?_;refine tw w ?_;exact for_next _ (by omega) (.inr ⟨idn,rfl,o.swap⟩) rfl
 ·have h1p:=of_ndecide h1
  obtain rfl : k=c.objs.toNat:=by omega
  obtain ⟨p5,o,h5⟩:=hX.split
  have o : Owns H0 H ((id5,st X .nilsl)::(p5++[(id4,.cells 7 z7 0)])):=o.perm List.perm_middle;clear hX;refine tt ?_;refine awp_for [1,2,4,5] (G:=AV) (fun a Y=>[(7,some (.int .i64 (a : Int)))]) (fun a Y H=>LsO iL H0 H ((id5,st X Y)::(p5++[(id4,.cells 7 z7 0)])) Y (List.replicate a ((List.range n.toNat).map Int.ofNat))) c.frm.length .nilsl (.inl ⟨rfl,rfl,o⟩) rfl ?_;clear o
  rintro a Y H ha hY
  replace hY : LsO iL H0 H ((id5,st X Y)::(p5++[(id4,.cells 7 z7 0)])) Y (List.replicate a ((List.range n.toNat).map Int.ofNat)):=hY;refine tt ?_;apply bk <;> intro h2
  ·have h2p:=of_decide h2
   have w2:=wsucc (k:=a) (by omega)
   obtain ⟨q,o,hq⟩:=hY.split;clear hY;refine tt ?_;refine new_list iI o fun id8 H o=>tt ?_
   refine awp_for [1,2,4,5,7] (G:=Nat × List Int) (fun e g=>[(8,some (.buf g.1 g.2.length)),(9,some (.int .i64 (e : Int)))])
    (fun e g H=>g.2=(List.range e).map Int.ofNat∧Owns H0 H ((g.1,.cells 1 (g.2.map iI) 0)::(q++((id5,st X Y)::(p5++[(id4,.cells 7 z7 0)]))))) n.toNat (id8,[]) ⟨rfl,o⟩ rfl ?_
   clear o
   rintro e ⟨id8,row⟩ H he ⟨hrow,o⟩;dsimp only at hrow o
   have hrl : row.length=e:=by rw [hrow]; simp
   refine tt ?_;apply bk <;> intro h3
   ·have h3p:=of_decide h3
    have w3:=wsucc (k:=e) (by omega);refine tt ?_;refine app_own (e : Int) o rfl rfl (by simp only [maxL]; omega) fun id8 H o=>?_;refine tw w3 ?_;exact for_next (_,_) (by omega) ⟨by rw [hrow,List.range_succ]; simp,o⟩ rfl
   ·have h3p:=of_ndecide h3
    obtain rfl : e=n.toNat:=by omega
    refine tt ?_;refine fz_own o rfl fun H o=>?_
    have hY:=LsO.mk o hq;clear o;refine tt ?_;refine rd_get hY.obj (by simp [st]) ?_;refine tt ?_;refine hY.app row rfl (by simp only [List.length_replicate,maxL]; omega) fun idn H o=>?_;rw [hrow,← rep_succ] at o ⊢;refine tt ?_;refine sw o.swap fun H o=>?_;refine tw w2 ?_;exact for_next _ (by omega) (.inr ⟨idn,rfl,o.swap⟩) rfl
  ·have h2p:=of_ndecide h2
   obtain rfl : a=c.frm.length:=by omega
   refine tt ?_;refine wk_ls 6 hY rfl fun H o=>?_;simp only [List.set_cons_zero,List.set_cons_succ] at o
   have hX:=LsO.mk (o.perm List.perm_middle.symm) h5;clear o;refine wk_ls 5 hX rfl fun H o=>wkW_done ?_;simp only [List.set_cons_zero,List.set_cons_succ] at o;refine tt ?_;refine rd_celln o (by simp) ?_;refine tt ?_;refine sw o.swap fun H o=>tt ?_
   have hr:=o.rc 7 0 (by simp);simp only [List.drop_zero] at hr;rw [hr];exact pure_ret rfl o.sub
theorem l19Constant_ok (B : Nat) (c : Cat) (hc : c.Shape) (n : Int) (hn : 0≤n∧n≤100) : Pur Tryz.prog B 250 [.agg c.cells,iI n] (.agg (constF c n).cells) :=
 l19ConstG_ok B c (by have:=hc.o; omega) (by have:=hc.m; omega) n hn
def FreeR (c : Cat) (os : List Int) (r : AV) : Prop:=r=.agg (freeQ c os).cells∧(freeQ c os).Pre c 120
theorem l19FreeQ_ok (B : Nat) (c : Cat) (hc : c.Is) (os : List Int) (hos : os.length≤3) : Rets B 208 [.agg c.cells,iL os] (FreeR c os):=by
 intro H0;refine c208p.go fun _=>?_
 have hm:=hc.1.m
 have hob:=hc.1.o
 have htl:=hc.1.tol
 have o : Owns H0 H0 []:=.nil _;refine tt ?_;refine nb o fun id4 H o=>tt ?_;refine ⟨⟨by omega,by simp only [maxL]; omega⟩, ?_⟩;rw [rep_one];refine newBuf_own o fun idL H o=>tt ?_
 refine awp_for [1,2,4,5] (G:=List AV × List (List (List Int)) × List (Nat × MObj)) (fun k _=>[(6,some (.int .i64 (k : Int)))])
  (fun k g H=>Owns H0 H ((idL,.cells 1 g.1 0)::(g.2.2++[(id4,.cells 7 z7 0)]))∧LsR iL g.1 g.2.1 g.2.2∧FreeX c os k 0 g.2.1) os.length (List.replicate c.objs.toNat .nilsl,List.replicate c.objs.toNat [],[]) ⟨o,LsR.rep iL _,.zero hob.1⟩ rfl ?_
 clear o
 rintro k ⟨Xs,LL,ob⟩ H hk ⟨o,hR,hI⟩;dsimp only at o hR hI;refine tt ?_;apply bk <;> intro h1
 ·have h1p:=of_decide h1
  have w1:=wsucc (k:=k) (by omega);refine tt ?_
  refine awp_for [1,2,4,5,6] (G:=List AV × List (List (List Int)) × List (Nat × MObj)) (fun h _=>[(7,some (.int .i64 (h : Int)))])
   (fun h g H=>Owns H0 H ((idL,.cells 1 g.1 0)::(g.2.2++[(id4,.cells 7 z7 0)]))∧LsR iL g.1 g.2.1 g.2.2∧FreeX c os k h g.2.1) c.frm.length (Xs,LL,ob) ⟨o,hR,hI⟩ rfl ?_
  clear o hR hI Xs LL ob
  rintro h ⟨Xs,LL,ob⟩ H hh ⟨o,hR,hI⟩;dsimp only at o hR hI;refine tt ?_;apply bk <;> intro h2
  ·have h2p:=of_decide h2
   have w2:=wsucc (k:=h) (by omega)
   have hto:=hc.1.toObj (f:=(h : Int)) (by simpa using h2p);rw [ix_nat] at hto
   have hXl:=hR.len
   have hLl:=hI.len
   have hbd:=hI.bd (c.to.getD h default).toNat
   have hkm : k*c.frm.length≤2*40:=Nat.mul_le_mul (by omega) hm;refine tt ?_;refine ⟨h2p,h1p, ?_⟩;apply bk <;> intro h3
   ·have h3p : c.frm.getD h default=os.getD k default:=of_decide h3;refine tt ?_;refine ⟨by omega,by omega,⟨hto.1,by omega⟩,rd_get o.h0 (by omega) ?_⟩;refine tt ?_;refine rows_app o hR (by omega) [(k : Int),(h : Int)] rfl (by show (LL.getD _ default).length+1≤maxL; simp only [maxL]; omega) fun X' o' H hX1 hR o=>?_;try simp only [go_sem,↓reduceIte,reduceEqDiff,reduceAdd,reduceMul,reduceLeDiff,reduceLT,AV.cells_one hX1]
    refine ⟨⟨hto.1,by omega⟩,st_cells o (by omega) rfl (by simp only [memcons,memnil]; exact ⟨hX1,trivial⟩) fun H o=>?_⟩;simp only [wr_cons,wr_nil] at o;refine tw w2 ?_;exact for_next (_,_,_) (by omega) ⟨o,hR,hI.hit hc.1 h1p h2p h3p⟩ rfl
   ·refine tw w2 ?_;exact for_next (_,_,_) (by omega) ⟨o,hR,hI.skip (of_ndecide h3)⟩ rfl
  ·have h2p:=of_ndecide h2
   obtain rfl : h=c.frm.length:=by omega
   refine tw w1 ?_;exact for_next (_,_,_) (by omega) ⟨o,hR,hI.next⟩ rfl
 ·have h1p:=of_ndecide h1
  obtain rfl : k=os.length:=by omega
  have hLl:=hI.len;refine tt ?_;refine wk_rows hR [] H o fun H o=>wkW_done ?_;rw [List.nil_append] at o;clear hR;refine tt ?_;refine fz_own (f:=iLL) o (by omega) fun H o=>tt ?_;refine (l02Own_ok B c).go fun _=>tt ?_;refine nb o fun id8 H o=>tt ?_;refine sw o fun H o=>?_
  let st : AV→AV→MObj:=fun x5 x6=>.cells 7 [iI c.objs,iL c.frm,iL c.to,iL c.idn,iLL c.comp,x5,x6] 0
  refine tt ?_
  have hpre:=free_pre hc hI.toFreeI (N:=120) (by have:=Nat.mul_le_mul hos hm; omega)
  have hof:=hI.of
  have hfull:=hI.full;clear hI;refine awp_for [2,4,5,8] (G:=AV) (fun k X=>[(9,some (.int .i64 (k : Int)))]) (fun k X H=>LsO iI H0 H ((id8,st X .nilsl)::[(id4,.cells 7 z7 0)]) X ((LL.take k).map fun l=>(l.length : Int))) LL.length .nilsl (.inl ⟨rfl,rfl,o⟩) rfl ?_;clear o
  rintro k X H hk hX;refine tt ?_;apply bk <;> intro h4
  ·have h4p:=of_decide h4
   have w:=wsucc (k:=k) (by omega);refine tt ?_;refine rd_get hX.obj (by simp [st]) ?_;refine tt ?_;refine ⟨h4p, ?_⟩;refine hX.app ((LL.getD k default).length : Int) rfl (by simp only [List.length_map,List.length_take,maxL]; omega) fun idn H o=>?_
   have e5 : ((LL.take k).map fun l=>(l.length : Int))++[((LL.getD k default).length : Int)]=(LL.take (k+1)).map fun l=>(l.length : Int):=by rw [take_one LL h4p]; simp
   rw [e5] at o ⊢;refine tt ?_;refine sw o.swap fun H o=>?_;refine tw w ?_;exact for_next _ (by omega) (.inr ⟨idn,rfl,o.swap⟩) rfl
  ·have h4p:=of_ndecide h4
   obtain rfl : k=LL.length:=by omega
   rw [List.take_length] at hX
   obtain ⟨p5,o,hp5⟩:=hX.split
   have o : Owns H0 H ((id8,st X .nilsl)::(p5++[(id4,.cells 7 z7 0)])):=o.perm List.perm_middle;clear hX;refine tt ?_;refine awp_for [2,4,5,8] (G:=AV) (fun a Y=>[(10,some (.int .i64 (a : Int)))]) (fun a Y H=>LsO iL H0 H ((id8,st X Y)::(p5++[(id4,.cells 7 z7 0)])) Y ((List.range a).map (freeAct c LL))) c.frm.length .nilsl (.inl ⟨rfl,rfl,o⟩) rfl ?_;clear o
   rintro a Y H ha hY
   replace hY : LsO iL H0 H ((id8,st X Y)::(p5++[(id4,.cells 7 z7 0)])) Y ((List.range a).map (freeAct c LL)):=hY;refine tt ?_;apply bk <;> intro h5
   ·have h5p:=of_decide h5
    have w2:=wsucc (k:=a) (by omega)
    have hfr:=hc.1.frmObj (f:=(a : Int)) (by simpa using h5p)
    have hto:=hc.1.toObj (f:=(a : Int)) (by simpa using h5p);rw [ix_nat] at hfr hto
    obtain ⟨q,o,hq⟩:=hY.split;clear hY;refine tt ?_;refine new_list iI o fun id11 H o=>tt ?_;refine ⟨h5p,⟨hfr.1,by omega⟩,by omega,⟨hto.1,by omega⟩, ?_⟩
    have eF : ix LL (c.frm.getD a default)=LL.getD (c.frm.getD a default).toNat default:=rfl
    have eT : ix LL (c.to.getD a default)=LL.getD (c.to.getD a default).toNat default:=rfl
    have hact : freeAct c LL a=(LL.getD (c.frm.getD a default).toNat default).map fun q=>indexOf (LL.getD (c.to.getD a default).toNat default) [ix q 0,(ix c.comp (ix q 1)).getD a default]:=rfl
    have hofF:=hof (c.frm.getD a default).toNat (by omega);rw [eF,eT]
    generalize hF : LL.getD (c.frm.getD a default).toNat default=F at *
    generalize hT : LL.getD (c.to.getD a default).toNat default=T at *
    have hFl : F.length≤200:=by
     have:=hpre.sz (F.length : Int) (List.mem_map.mpr ⟨F,by rw [← hF]; exact mem_getD.mpr ⟨_,by omega,rfl⟩,rfl⟩);omega
    refine awp_for [2,4,5,8,10,12,13] (G:=Nat × List Int) (fun e g=>[(11,some (.buf g.1 g.2.length)),(14,some (.int .i64 (e : Int)))])
     (fun e g H=>g.2=(F.take e).map (fun q=>indexOf T [ix q 0,(ix c.comp (ix q 1)).getD a default])∧Owns H0 H ((g.1,.cells 1 (g.2.map iI) 0)::(q++((id8,st X Y)::(p5++[(id4,.cells 7 z7 0)]))))) F.length (id11,[]) ⟨by simp,o⟩ rfl ?_
    clear o
    rintro e ⟨id11,row⟩ H he ⟨hrow,o⟩;dsimp only at hrow o
    have hrl : row.length=e:=by rw [hrow,List.length_map,List.length_take]; omega
    refine tt ?_;apply bk <;> intro h6
    ·have h6p:=of_decide h6
     have w3:=wsucc (k:=e) (by omega)
     obtain ⟨i,j,eq,hi,hj,_,_⟩:=hofF (F.getD e default) (mem_getD.mpr ⟨e,h6p,rfl⟩)
     have e0 : ix (F.getD e default) 0=(i : Int):=by rw [eq]; rfl
     have e1 : ix (F.getD e default) 1=(j : Int):=by rw [eq]; rfl
     have el : (F.getD e default).length=2:=by rw [eq]; rfl
     have hcl:=hc.1.cl
     have hrw:=hc.1.row' (a:=(j : Int)) (by simpa using hj);refine tt ?_;refine ⟨h6p,⟨by omega,by rw [el]; decide⟩,h6p,⟨by omega,by rw [el]; decide⟩, ?_⟩;rw [e0,e1];refine ⟨_,(l02Then_ok B c (j : Int) (a : Int) ⟨by omega,by rw [Int.toNat_natCast,hcl]; exact hj⟩ ⟨by omega,by rw [hrw]; simpa using h5p⟩).run,tt ?_⟩;refine ⟨_,(l05Place_ok B T [(i : Int),(ix c.comp (j : Int)).getD a default]).run,tt ?_⟩;refine app_own (indexOf T [(i : Int),(ix c.comp (j : Int)).getD a default]) o rfl rfl (by simp only [maxL]; omega) fun id11 H o=>?_;refine tw w3 ?_;refine for_next (_,_) (by omega) ⟨?_,o⟩ rfl;rw [take_one F h6p,List.map_append,← hrow,List.map_cons,List.map_nil,e0,e1]
    ·have h6p:=of_ndecide h6
     obtain rfl : e=F.length:=by omega
     rw [List.take_length,← hact] at hrow;refine tt ?_;refine fz_own o rfl fun H o=>?_
     have hY:=LsO.mk o hq;clear o;refine tt ?_;refine rd_get hY.obj (by simp [st]) ?_;refine tt ?_
     have e7 : (List.range a).map (freeAct c LL)++[row]=(List.range (a+1)).map (freeAct c LL):=by rw [map_range_succ,hrow]
     refine hY.app row rfl (by simp only [List.length_map,List.length_range,maxL]; omega) fun idn H o=>tt ?_;refine sw o.swap fun H o=>?_
     have hY : LsO iL H0 H ((id8,st X (.buf idn ((List.range a).map (freeAct c LL)++[row]).length))::(p5++[(id4,.cells 7 z7 0)])) (.buf idn ((List.range a).map (freeAct c LL)++[row]).length) ((List.range a).map (freeAct c LL)++[row]):=.inr ⟨idn,rfl,o.swap⟩
     generalize (AV.buf idn ((List.range a).map (freeAct c LL)++[row]).length)=Y' at hY;rw [e7] at hY;refine tw w2 ?_;exact for_next Y' (by omega) hY rfl
   ·have h5p:=of_ndecide h5
    obtain rfl : a=c.frm.length:=by omega
    refine tt ?_;refine wk_ls 6 hY rfl fun H o=>?_;simp only [List.set_cons_zero,List.set_cons_succ] at o
    have hX:=LsO.mk (o.perm List.perm_middle.symm) hp5;clear o;refine wk_ls 5 hX rfl fun H o=>wkW_done ?_;simp only [List.set_cons_zero,List.set_cons_succ] at o;refine tt ?_;refine rd_celln o (by simp) ?_;refine tt ?_;refine sw o.swap fun H o=>tt ?_
    have hr:=o.rc 7 0 (by simp);simp only [List.drop_zero] at hr;rw [hr];exact rets_ret ⟨by rw [freeQ,← hfull]; rfl,by rw [freeQ,← hfull]; exact hpre⟩ o.sub
def AnyF (r : AV) : Prop:=∃ f : SF,r=.agg f.cells
def PairsOk (sz : List Int) (PP : List (List (List Int))) : Prop:=PP.length=sz.length∧∀ x : Nat,x<sz.length→∀ q,q∈PP.getD x default→2≤q.length∧(0≤q.getD 0 default∧q.getD 0 default<sz.getD x default)∧(0≤q.getD 1 default∧q.getD 1 default<sz.getD x default)
def GlueR (f : SF) (r : AV) : Prop:=∃ (CC : List (List Int)) (g : SF),r=.agg g.cells∧ClsC f.sizes CC∧QuoOk f CC g
theorem l19GlueQ_ok (B : Nat) (f : SF) (c : Cat) (hc : c.Is) (hf : f.Pre c 120) (PP : List (List (List Int))) (hP : PairsOk f.sizes PP) : Rets B 249 [.agg f.cells,iLLL PP] (GlueR f):=by
 intro H0;refine c249p.go fun _=>?_
 obtain ⟨rfl,hsl,hal,hsz,hact⟩:=hf
 have hm:=hc.1.m
 have hob:=hc.1.o
 have htl:=hc.1.tol
 have o : Owns H0 H0 []:=.nil _
 have hz0 : ∀ x,x<f.sizes.length→0≤f.sizes.getD x default∧f.sizes.getD x default≤120:=fun x hx=>hsz _ (mem_getD.mpr ⟨x,hx,rfl⟩);refine tt ?_;refine nb o fun id4 H o=>tt ?_;refine new_list iL o fun id5 H o=>tt ?_
 refine awp_for [1,2,4] (G:=Nat × List (List Int)) (fun k g=>[(5,some (.buf g.1 g.2.length)),(6,some (.int .i64 (k : Int)))])
  (fun k g H=>g.2=(List.range k).map (clsAt f.sizes PP)∧Owns H0 H [(g.1,.cells 1 (g.2.map iL) 0),(id4,.cells 7 z7 0)]) f.sizes.length (id5,[]) ⟨rfl,o⟩ rfl ?_
 clear o
 rintro k ⟨id5,CC⟩ H hk ⟨hCC,o⟩
 replace hCC : CC=(List.range k).map (clsAt f.sizes PP):=hCC
 replace o : Owns H0 H [(id5,.cells 1 (CC.map iL) 0),(id4,.cells 7 z7 0)]:=o
 have hCl : CC.length=k:=by rw [hCC]; simp
 refine tt ?_;apply bk <;> intro h1
 ·have h1p:=of_decide h1
  have w1:=wsucc (k:=k) (by omega)
  have hzk:=hz0 k h1p
  obtain ⟨n,hn⟩ : ∃ n : Nat,f.sizes.getD k default=n:=⟨_,(Int.toNat_of_nonneg hzk.1).symm⟩
  have hPk:=hP.2 k h1p
  have hcl : clsAt f.sizes PP k=joinL n (PP.getD k default):=by rw [clsAt,hn,Int.toNat_natCast]
  rw [hn] at hPk hzk;refine tt ?_;refine ⟨h1p,by rw [hP.1]; exact h1p, ?_⟩;rw [hn];refine ⟨_,(join_pok B n (by omega) (PP.getD k default) fun q hq=>?_).run, ?_⟩
  ·have:=hPk q hq; omega
  refine tt ?_;refine app_own (joinL n (PP.getD k default)) o rfl rfl (by simp only [maxL]; omega) fun id5 H o=>?_;refine tw w1 ?_;exact for_next (_,_) (by omega) ⟨by rw [hCC,map_range_succ,hcl],o⟩ rfl
 ·have h1p:=of_ndecide h1
  obtain rfl : k=f.sizes.length:=by omega
  have hK : ClsC f.sizes CC:=by rw [hCC]; exact clsC_join (fun y hy=>(hsz y hy).1) PP
  clear hCC;refine tt ?_;rw [hCl];refine tt ?_
  refine awp_while [2,4,5] (G:=Bool × List (List Int)) (fun g=>[(7,some (.bool g.1))]) (fun m g H=>(m=pot g.2+(if g.1=true then 1 else 0)∧ClsC f.sizes g.2∧(g.1=false→Cg f g.2 f.acts.length))∧Owns H0 H [(id5,.cells 1 (g.2.map iL) 0),(id4,.cells 7 z7 0)])
   (pot CC+1) (true,CC) ⟨⟨by simp,hK,fun h=>absurd h (by simp)⟩,o⟩ rfl ?_
  clear o hK hCl CC
  rintro m ⟨more,CC⟩ H ⟨⟨hmm,hK,hG⟩,o⟩
  replace hG : more=false→Cg f CC f.acts.length:=hG
  replace hmm : m=pot CC+(if more=true then 1 else 0):=hmm
  replace hK : ClsC f.sizes CC:=hK
  replace o : Owns H0 H [(id5,.cells 1 (CC.map iL) 0),(id4,.cells 7 z7 0)]:=o
  cases more;rotate_left 1
  ·refine tt ?_
   obtain ⟨P0,hP0⟩ : ∃ P0,P0=pot CC:=⟨_,rfl⟩;rw [← hP0] at hmm
   refine awp_for [2,4,5] (G:=Bool × List (List Int)) (fun a g=>[(7,some (.bool g.1)),(8,some (.int .i64 (a : Int)))])
    (fun a g H=>(pot g.2≤P0∧(g.1=true→pot g.2<P0)∧ClsC f.sizes g.2∧(g.1=false→Cg f g.2 a))∧Owns H0 H [(id5,.cells 1 (g.2.map iL) 0),(id4,.cells 7 z7 0)]) f.acts.length (false,CC) ⟨⟨by simp [hP0],by simp,hK,fun _ a h=>absurd h (Nat.not_lt_zero a)⟩,o⟩ rfl ?_
   clear o hK hG hP0 CC
   rintro a ⟨more,CC⟩ H ha ⟨⟨hp1,hp2,hK,hG⟩,o⟩
   replace hG : more=false→Cg f CC a:=hG
   replace hp1 : pot CC≤P0:=hp1
   replace hp2 : more=true→pot CC<P0:=hp2
   replace hK : ClsC f.sizes CC:=hK
   replace o : Owns H0 H [(id5,.cells 1 (CC.map iL) 0),(id4,.cells 7 z7 0)]:=o;refine tt ?_;apply bk <;> intro h2
   ·have h2p:=of_decide h2
    have w2:=wsucc (k:=a) (by omega)
    have ham : a<f.shape.frm.length:=by omega
    have hfr:=hc.1.frmObj (f:=(a : Int)) (by simpa using ham)
    have hto:=hc.1.toObj (f:=(a : Int)) (by simpa using ham)
    have hac:=hact a ham;rw [ix_nat] at hfr hto
    obtain ⟨x,hx⟩ : ∃ x : Nat,f.shape.frm.getD a default=x:=⟨_,(Int.toNat_of_nonneg hfr.1).symm⟩
    obtain ⟨y,hy⟩ : ∃ y : Nat,f.shape.to.getD a default=y:=⟨_,(Int.toNat_of_nonneg hto.1).symm⟩;rw [hx,hy,ix_nat,ix_nat] at hac;rw [hx] at hfr;rw [hy] at hto
    have hxl : x<f.sizes.length:=by omega
    have hyl : y<f.sizes.length:=by omega
    have hzx:=hz0 x hxl
    have hzy:=hz0 y hyl
    obtain ⟨n,hn⟩ : ∃ n : Nat,f.sizes.getD x default=n:=⟨_,(Int.toNat_of_nonneg hzx.1).symm⟩
    obtain ⟨ny,hny⟩ : ∃ n : Nat,f.sizes.getD y default=n:=⟨_,(Int.toNat_of_nonneg hzy.1).symm⟩;rw [hn] at hac hzx;rw [hny] at hac hzy
    have hlen : (f.acts.getD a default).length=n:=by omega
    refine tt ?_;refine ⟨ham,by omega, ?_⟩;rw [hx,hy];refine tt ?_
    refine awp_for [2,4,5,8,9,10] (G:=Bool × List (List Int)) (fun d g=>[(7,some (.bool g.1)),(11,some (.int .i64 (d : Int)))])
     (fun d g H=>(pot g.2≤P0∧(g.1=true→pot g.2<P0)∧ClsC f.sizes g.2∧(g.1=false→Cg f g.2 a∧CgA f g.2 a d))∧Owns H0 H [(id5,.cells 1 (g.2.map iL) 0),(id4,.cells 7 z7 0)]) n (more,CC) ⟨⟨hp1,hp2,hK,fun q=>⟨hG q,fun d h=>absurd h (Nat.not_lt_zero d)⟩⟩,o⟩ rfl ?_
    clear o hp1 hp2 hK hG
    rintro d ⟨more,CC⟩ H hd ⟨⟨hp1,hp2,hK,hG⟩,o⟩
    replace hG : more=false→Cg f CC a∧CgA f CC a d:=hG
    replace hp1 : pot CC≤P0:=hp1
    replace hp2 : more=true→pot CC<P0:=hp2
    replace hK : ClsC f.sizes CC:=hK
    replace o : Owns H0 H [(id5,.cells 1 (CC.map iL) 0),(id4,.cells 7 z7 0)]:=o
    have hkx:=hK.row x hxl
    have hkl:=hK.len;rw [hn] at hkx;refine tt ?_;refine ⟨hxl,rd_own o (by omega) ?_⟩
    have ecl : (CC.getD x default).length=n:=by omega
    refine tw ecl ?_;apply bk <;> intro h3
    ·have h3p:=of_decide h3
     have w3:=wsucc (k:=d) (by omega);refine tt ?_
     refine awp_for [2,4,5,8,9,10,11] (G:=Bool × List (List Int)) (fun e g=>[(7,some (.bool g.1)),(12,some (.int .i64 (e : Int)))])
      (fun e g H=>(pot g.2≤P0∧(g.1=true→pot g.2<P0)∧ClsC f.sizes g.2∧(g.1=false→Cg f g.2 a∧CgA f g.2 a d∧CgD f g.2 a d e))∧Owns H0 H [(id5,.cells 1 (g.2.map iL) 0),(id4,.cells 7 z7 0)]) d (more,CC) ⟨⟨hp1,hp2,hK,fun q=>⟨(hG q).1,(hG q).2,fun e h=>absurd h (Nat.not_lt_zero e)⟩⟩,o⟩ rfl ?_
     clear o hp1 hp2 hK hG hkx hkl ecl
     rintro e ⟨more,CC⟩ H he ⟨⟨hp1,hp2,hK,hG⟩,o⟩
     replace hG : more=false→Cg f CC a∧CgA f CC a d∧CgD f CC a d e:=hG
     replace hp1 : pot CC≤P0:=hp1
     replace hp2 : more=true→pot CC<P0:=hp2
     replace hK : ClsC f.sizes CC:=hK
     replace o : Owns H0 H [(id5,.cells 1 (CC.map iL) 0),(id4,.cells 7 z7 0)]:=o
     have hkx:=hK.row x hxl
     have hky:=hK.row y hyl
     have hkl:=hK.len;rw [hn] at hkx;rw [hny] at hky;refine tt ?_;apply bk <;> intro h4
     ·have h4p:=of_decide h4
      have w4:=wsucc (k:=e) (by omega)
      have hu:=hac.2 _ (mem_getD.mpr ⟨d,by omega,rfl⟩)
      have hv:=hac.2 _ (mem_getD.mpr ⟨e,by omega,rfl⟩);refine tt ?_;refine ⟨h2p,by omega,h2p,by omega, ?_⟩
      generalize hu' : (f.acts.getD a default).getD d default=u at hu ⊢
      generalize hv' : (f.acts.getD a default).getD e default=v at hv ⊢;refine tt ?_;refine ⟨hxl,rd_own o (by omega) ?_⟩;refine tt ?_;refine ⟨by omega,hxl,rd_own o (by omega) ?_⟩;refine tt ?_;refine ⟨by omega, ?_⟩;apply bk <;> intro h5
      ·refine tw h5 ?_
       have hlx : (CC.getD y default).length=ny:=by omega
       refine ⟨hyl,rd_own o (by omega) ?_⟩;refine tt ?_;refine ⟨⟨hu.1,by omega⟩,hyl,rd_own o (by omega) ?_⟩;refine tt ?_;refine ⟨⟨hv.1,by omega⟩, ?_⟩;apply bk <;> intro h6
       ·refine tt ?_
        have h6p:=dd h6
        have h6p : ix (CC.getD y default) u≠ix (CC.getD y default) v:=h6p
        have hul : 0≤u∧u.toNat<(CC.getD y default).length:=⟨hu.1,by omega⟩
        have hvl : 0≤v∧v.toNat<(CC.getD y default).length:=⟨hv.1,by omega⟩
        have hpo:=pairsOf_ok hul hvl;rw [hlx] at hpo
        have hgl:=joinL_glued (n:=ny) (ps:=pairsOf (CC.getD y default)++[[u,v]]) fun q hq=>⟨(hpo q hq).2.1.2,(hpo q hq).2.2.2⟩
        have hless:=glued_less (by rw [joinL_len,hlx]) hul hvl h6p hgl
        have hset:=hK.set hyl (m:=joinL ny (pairsOf (CC.getD y default)++[[u,v]])) (by rw [joinL_len,hny]) (fun w hw=>by rw [hny]; exact joinL_ran hw) (joinL_cont _ _)
        have hpot:=pot_set CC y _ (by omega) hless;refine ⟨hyl,hyl,rd_own o (by omega) ?_⟩;rw [hny];refine tt ?_;refine (l01Pairs_own B (CC.getD y default) _ _ _ o).own fun idp A H o hA=>?_;subst hA
        have hpl : (pairsOf (CC.getD y default)).length=ny:=by rw [pairsOf,List.length_map,List.length_range,hlx]
        refine tt ?_;refine app_own [u,v] o rfl rfl (by simp only [maxL]; omega) fun idp H o=>tt ?_;refine call_fz 1 rfl o rfl fun H o=>?_;refine (join_pok B ny (by omega) (pairsOf (CC.getD y default)++[[u,v]]) hpo).go fun _=>tt ?_;refine ⟨hyl,set_own (f:=iL) (joinL ny (pairsOf (CC.getD y default)++[[u,v]])) o rfl (by omega) fun H o=>?_⟩;refine tw w4 ?_;exact for_next (true,_) (by omega) ⟨⟨Nat.le_trans (Nat.le_of_lt hpot) hp1,fun _=>Nat.lt_of_lt_of_le hpot hp1,hset,fun h=>absurd h (by simp)⟩,o⟩ rfl
       ·refine tw w4 ?_
        have h6p:=dd h6
        have hat : CgAt f CC a d e:=fun _=>by rw [hy,ix_nat,hu',hv']; exact h6p
        exact for_next (more,CC) (by omega) ⟨⟨hp1,hp2,hK,fun q=>⟨(hG q).1,(hG q).2.1,lt_succ_all (hG q).2.2 hat⟩⟩,o⟩ rfl
      ·try simp only [go_sem,↓reduceIte,reduceEqDiff,reduceAdd,reduceMul,reduceLeDiff,reduceLT,h5,w4]
       have h5p:=dd h5
       have hat : CgAt f CC a d e:=fun q=>by rw [hx,ix_nat] at q; exact absurd q h5p
       exact for_next (more,CC) (by omega) ⟨⟨hp1,hp2,hK,fun q=>⟨(hG q).1,(hG q).2.1,lt_succ_all (hG q).2.2 hat⟩⟩,o⟩ rfl
     ·have h4p:=of_ndecide h4
      obtain rfl : e=d:=by omega
      refine tw w3 ?_;exact for_next (more,CC) (by omega) ⟨⟨hp1,hp2,hK,fun q=>⟨(hG q).1,lt_succ_all (hG q).2.1 (hG q).2.2⟩⟩,o⟩ rfl
    ·have h3p:=of_ndecide h3
     obtain rfl : d=n:=by omega
     refine tw w2 ?_;exact for_next (more,CC) (by omega) ⟨⟨hp1,hp2,hK,fun q=>lt_succ_all (hG q).1 (by rw [hlen]; exact (hG q).2)⟩,o⟩ rfl
   ·have h2p:=of_ndecide h2
    obtain rfl : a=f.acts.length:=by omega
    refine tt ?_
    cases more
    ·exact while_next (pot CC) (false,CC) (by simp at hmm; omega) ⟨⟨by simp,hK,hG⟩,o⟩ rfl
    ·have:=hp2 rfl;exact while_next (pot CC+1) (true,CC) (by simp at hmm; omega) ⟨⟨by simp,hK,fun h=>absurd h (by simp)⟩,o⟩ rfl
  ·clear hmm
   have hCg:=hG rfl
   have hkl:=hK.len
   have hcx : ∀ x,x<f.sizes.length→(CC.getD x default).length≤120:=fun x hx=>by have:=hK.row x hx; have:=hz0 x hx; omega
   have hmx : ∀ x,x<f.sizes.length→(0≤mxL (CC.getD x default)∧mxL (CC.getD x default)≤f.sizes.getD x default)∧∀ v,v∈CC.getD x default→v<mxL (CC.getD x default) :=
    fun x hx=>mxL_bd (hz0 x hx).1 (hK.ran x hx)
   refine tt ?_;refine fz_own o hkl.symm fun H o=>tt ?_;refine (l02Own_ok B f.shape).go fun _=>tt ?_;refine nb o fun id8 H o=>tt ?_;refine sw o fun H o=>?_
   let st : AV→AV→MObj:=fun x5 x6=>.cells 7 [iI f.shape.objs,iL f.shape.frm,iL f.shape.to,iL f.shape.idn,iLL f.shape.comp,x5,x6] 0
   refine tt ?_;refine awp_for [2,4,5,15] (G:=AV) (fun k X=>[(16,some (.int .i64 (k : Int)))]) (fun k X H=>LsO iI H0 H ((id8,st X .nilsl)::[(id4,.cells 7 z7 0)]) X ((CC.take k).map mxL)) CC.length .nilsl (.inl ⟨rfl,rfl,o⟩) rfl ?_;clear o
   rintro k X H hk hX;refine tt ?_;apply bk <;> intro h1
   ·have h1p:=of_decide h1
    have w1:=wsucc (k:=k) (by omega)
    obtain ⟨p,o,hp⟩:=hX.split;clear hX
    have hck:=hcx k (by omega)
    have hrk:=hK.ran k (by omega)
    have hzk:=hz0 k (by omega);refine tt ?_;refine awp_for [2,4,5,15,16] (G:=Unit) (fun e _=>[(17,some (.int .i64 (mxL ((CC.getD k default).take e)))),(18,some (.int .i64 (e : Int)))]) (fun e _ H=>Owns H0 H (p++((id8,st X .nilsl)::[(id4,.cells 7 z7 0)]))) (CC.getD k default).length () o rfl ?_;clear o
    rintro e _ H he o;refine tt ?_;refine ⟨h1p, ?_⟩;apply bk <;> intro h2
    ·have h2p:=of_decide h2
     have w2:=wsucc (k:=e) (by omega)
     have hv:=hrk _ (mem_getD.mpr ⟨e,h2p,rfl⟩)
     have w3 : IntKind.i64.wrap ((CC.getD k default).getD e default+1)=(CC.getD k default).getD e default+1:=wrap_i64 (by omega) (by omega)
     have hms:=mxL_succ (CC.getD k default) h2p;refine tt ?_;refine ⟨h1p,h2p, ?_⟩;rw [w3,← hms];refine tw w2 ?_;exact for_next () (by omega) o rfl
    ·have h2p:=of_ndecide h2
     obtain rfl : e=(CC.getD k default).length:=by omega
     rw [List.take_length]
     have hX:=LsO.mk o hp;clear o;refine tt ?_;refine rd_get hX.obj (by simp [st]) ?_;refine tt ?_
     have e7 : (CC.take k).map mxL++[mxL (CC.getD k default)]=(CC.take (k+1)).map mxL:=by rw [take_one CC h1p]; simp
     refine hX.app (mxL (CC.getD k default)) rfl (by simp only [List.length_map,List.length_take,maxL]; omega) fun idn H o=>?_;rw [e7] at o ⊢;refine tt ?_;refine sw o.swap fun H o=>?_;refine tw w1 ?_;exact for_next _ (by omega) (.inr ⟨idn,rfl,o.swap⟩) rfl
   ·have h1p:=of_ndecide h1
    obtain rfl : k=CC.length:=by omega
    rw [List.take_length] at hX
    obtain ⟨p5,o,hp5⟩:=hX.split
    have o : Owns H0 H ((id8,st X .nilsl)::(p5++[(id4,.cells 7 z7 0)])):=o.perm List.perm_middle;clear hX;refine tt ?_;refine awp_for [2,4,5,15] (G:=AV × List (List Int)) (fun a Y=>[(19,some (.int .i64 (a : Int)))]) (fun a Y H=>(Y.2.length=a∧∀ i : Nat,i<a→RowTo f CC i (Y.2.getD i default) (f.acts.getD i default).length)∧LsO iL H0 H ((id8,st X Y.1)::(p5++[(id4,.cells 7 z7 0)])) Y.1 Y.2) f.acts.length (.nilsl,[]) ⟨⟨rfl,fun i h=>absurd h (Nat.not_lt_zero i)⟩,.inl ⟨rfl,rfl,o⟩⟩ rfl ?_;clear o
    rintro a ⟨Y,RR⟩ H ha ⟨⟨hRR,hRow⟩,hY⟩
    replace hRow : ∀ i : Nat,i<a→RowTo f CC i (RR.getD i default) (f.acts.getD i default).length:=hRow
    replace hRR : RR.length=a:=hRR
    replace hY : LsO iL H0 H ((id8,st X Y)::(p5++[(id4,.cells 7 z7 0)])) Y RR:=hY;refine tt ?_;apply bk <;> intro h2
    ·have h2p:=of_decide h2
     have w2:=wsucc (k:=a) (by omega)
     have ham : a<f.shape.frm.length:=by omega
     have hfr:=hc.1.frmObj (f:=(a : Int)) (by simpa using ham)
     have hto:=hc.1.toObj (f:=(a : Int)) (by simpa using ham)
     have hac:=hact a ham;rw [ix_nat] at hfr hto
     obtain ⟨x,hx⟩ : ∃ x : Nat,f.shape.frm.getD a default=x:=⟨_,(Int.toNat_of_nonneg hfr.1).symm⟩
     obtain ⟨y,hy⟩ : ∃ y : Nat,f.shape.to.getD a default=y:=⟨_,(Int.toNat_of_nonneg hto.1).symm⟩;rw [hx,hy,ix_nat,ix_nat] at hac;rw [hx] at hfr;rw [hy] at hto
     have hxl : x<f.sizes.length:=by omega
     have hyl : y<f.sizes.length:=by omega
     have hzx:=hz0 x hxl
     have hkx:=hK.row x hxl
     have hky:=hK.row y hyl
     have hmxx:=hmx x hxl;refine tt ?_;refine ⟨ham,by omega, ?_⟩;rw [hx,hy];refine tt ?_
     obtain ⟨idX,rfl,rfl⟩:=hp5.sub (i:=x) (by rw [List.length_map]; omega);refine rd_get hY.obj (by simp [st]) ?_;refine tt ?_;refine ⟨by rw [List.length_map]; omega,rd_inner (f:=iI) (hY.get (x:=(idX,.cells 1 ((CC.map mxL).map iI) 0)) (by simp)) (by rw [List.length_map]; omega) ?_⟩;rw [map_getD mxL (show x<CC.length by omega)]
     obtain ⟨n,hn⟩ : ∃ n : Nat,mxL (CC.getD x default)=n:=⟨_,(Int.toNat_of_nonneg hmxx.1.1).symm⟩;rw [hn] at hmxx ⊢
     obtain ⟨q,o,hq⟩:=hY.split;clear hY;refine tt ?_;refine ⟨⟨by omega,by simp only [maxL]; omega⟩,mks_list iI 0 rfl o fun id22 H o=>?_⟩;refine tt ?_
     have hrep : (List.replicate n (0 : Int)).length=n:=List.length_replicate
     refine awp_for [2,4,5,15,19,20,21,22] (G:=List Int) (fun e _=>[(23,some (.int .i64 (e : Int)))])
      (fun e A H=>(A.length=n∧RowTo f CC a A e)∧Owns H0 H ((id22,.cells 1 (A.map iI) 0)::(q++((id8,st (.buf idX (CC.map mxL).length) Y)::([(idX,.cells 1 ((CC.map mxL).map iI) 0)]++[(id4,.cells 7 z7 0)]))))) (CC.getD x default).length (List.replicate n 0) ⟨⟨hrep,by rw [hx,ix_nat,hn,hrep],fun e h=>absurd h (Nat.not_lt_zero e)⟩,o⟩ rfl ?_
     clear o
     rintro e A H he ⟨⟨hA,hAr⟩,o⟩;refine tt ?_;refine ⟨by omega, ?_⟩;apply bk <;> intro h3
     ·have h3p:=of_decide h3
      have w3:=wsucc (k:=e) (by omega)
      have hcv:=hmxx.2 _ (mem_getD.mpr ⟨e,h3p,rfl⟩)
      have hcr:=hK.ran x hxl _ (mem_getD.mpr ⟨e,h3p,rfl⟩)
      have hav:=hac.2 _ (mem_getD.mpr ⟨e,by omega,rfl⟩);refine tt ?_;refine ⟨by omega,h3p,by omega,h2p,by omega,⟨hav.1,by omega⟩,⟨hcr.1,by omega⟩, ?_⟩
      have hset:=hAr.set (hCg a h2p) (by omega) (fun e' he'=>by rw [hx,ix_nat]; exact (hK.ran x hxl _ (mem_getD.mpr ⟨e',by omega,rfl⟩)).1) (by rw [hx,ix_nat]; omega);rw [hx,hy,ix_nat,ix_nat] at hset;refine set_own (f:=iI) _ o rfl (by omega) fun H o=>?_;refine tw w3 ?_;exact for_next (A.set _ _) (by omega) ⟨⟨by rw [List.length_set]; exact hA,hset⟩,o⟩ rfl
     ·have h3p:=of_ndecide h3
      obtain rfl : e=(CC.getD x default).length:=by omega
      have hAe : RowTo f CC a A (f.acts.getD a default).length:=by rw [show (f.acts.getD a default).length=(CC.getD x default).length by omega]; exact hAr
      refine tt ?_;refine fz_own o hA.symm fun H o=>?_
      have hY:=LsO.mk o hq;clear o;refine tt ?_;refine rd_get hY.obj (by simp [st]) ?_;refine tt ?_;refine hY.app A rfl (by simp only [maxL]; omega) fun idn H o=>tt ?_;refine sw o.swap fun H o=>?_;refine tw w2 ?_;exact for_next (.buf idn (RR++[A]).length,RR++[A]) (by omega) ⟨⟨by show (RR++[A]).length=_; simp [hRR],rows_snoc (P:=fun i r=>RowTo f CC i r (f.acts.getD i default).length) hRR hRow hAe⟩,.inr ⟨idn,rfl,o.swap⟩⟩ rfl
    ·have h2p:=of_ndecide h2
     obtain rfl : a=f.acts.length:=by omega
     refine tt ?_;refine wk_ls 6 hY rfl fun H o=>?_;simp only [List.set_cons_zero,List.set_cons_succ] at o
     have hX:=LsO.mk (o.perm List.perm_middle.symm) hp5;clear o;refine wk_ls 5 hX rfl fun H o=>wkW_done ?_;simp only [List.set_cons_zero,List.set_cons_succ] at o;refine tt ?_;refine rd_celln o (by simp) ?_;refine tt ?_;refine sw o.swap fun H o=>tt ?_
     have hr:=o.rc 7 0 (by simp);simp only [List.drop_zero] at hr;rw [hr];exact rets_ret ⟨CC,⟨f.shape,CC.map mxL,RR⟩,rfl,hK,rfl,rfl,hRR,hRow⟩ o.sub
end Go.Proofs.Shf
namespace Go.Shf
open Go.AW
theorem repl_getD {α : Type} [Inhabited α] (n : Nat) (a : α) {i : Nat} (h : i<n) : (List.replicate n a).getD i default=a:=by
 rw [List.getD_eq_getElem?_getD,List.getElem?_replicate,if_pos h]; rfl
section
variable {c : Cat} {n : Nat}
theorem constF_size (hc : c.Shape) {x : Int} (hx : 0≤x∧x<c.objs) : ix (constF c n).sizes x=n:=repl_getD _ _ (by have:=hc.o; omega)
theorem constF_act {a : Int} (ha : a.toNat<c.frm.length) : ix (constF c n).acts a=(List.range n).map Int.ofNat:=repl_getD _ _ ha
theorem num_getD {i : Nat} (hi : i<n) : ((List.range n).map Int.ofNat).getD i default=i:=by rw [map_getD _ (by simpa using hi)]; simp [List.getD_eq_getElem?_getD,hi]
theorem constF_sh (hc : c.Is) (hn : n≤16) : (constF c n).Shape where
 is:=hc
 sl:=by have:=hc.1.o; simp only [constF,List.length_replicate]; omega
 al:=by simp [constF]
 sz y hy:=by
  have:=List.eq_of_mem_replicate hy;omega
 act a ha:=by
  have ha2 : a<c.frm.length:=by simpa [constF] using ha
  have e1 : (constF c n).acts.getD a default=(List.range n).map Int.ofNat:=by
   have:=constF_act (c:=c) (n:=n) (a:=(a : Int)) (by simpa using ha2)
   rwa [ix_nat] at this
  have hf:=hc.1.frmObj (f:=(a : Int)) (by simpa using ha2)
  have ht:=hc.1.toObj (f:=(a : Int)) (by simpa using ha2);rw [ix_nat] at hf ht;rw [e1];refine ⟨?_,fun y hy=>?_⟩
  ·rw [show (constF c n).shape=c from rfl,constF_size hc.1 hf]; simp
  ·rw [show (constF c n).shape=c from rfl,constF_size hc.1 ht]
   obtain ⟨i,hi,rfl⟩:=List.mem_map.mp hy;rw [List.mem_range] at hi;simp only [Int.ofNat_eq_natCast]; omega
theorem constF_is (hc : c.Is) (hn : n≤16) : (constF c n).Is:=by
 refine ⟨constF_sh hc hn,fun x hx e he=>?_,fun a b ha hb hab e he=>?_⟩
 ·have hx2 : x<c.idn.length:=hx
  have hi:=hc.1.idn _ (mem_getD.mpr ⟨x,hx2,rfl⟩)
  have e1 : ix (constF c n).acts ((constF c n).shape.idn.getD x default)=(List.range n).map Int.ofNat:=constF_act (by show (c.idn.getD x default).toNat<_; omega);rw [e1] at he ⊢;exact num_getD (by simpa using he)
 ·have ha2 : a<c.frm.length:=ha
  have hb2 : b<c.frm.length:=hb
  have hy:=hc.1.yes a b ha2 hb2 hab
  have e1 : (constF c n).acts.getD a default=(List.range n).map Int.ofNat:=by
   have:=constF_act (c:=c) (n:=n) (a:=(a : Int)) (by simpa using ha2)
   rwa [ix_nat] at this
  have e2 : (constF c n).acts.getD b default=(List.range n).map Int.ofNat:=by
   have:=constF_act (c:=c) (n:=n) (a:=(b : Int)) (by simpa using hb2)
   rwa [ix_nat] at this
  have e3 : ix (constF c n).acts (((constF c n).shape.comp.getD a default).getD b default)=(List.range n).map Int.ofNat:=constF_act (by show ((c.comp.getD a default).getD b default).toNat<_; omega);rw [e1] at he ⊢
  have he2 : e<n:=by simpa using he
  rw [e3,e2,num_getD he2,ix_nat,num_getD he2]
end
end Go.Shf
namespace Go.Proofs.Shf
open Go.AW Go.Proofs Go.Shf
theorem rep_nil {α : Type} (n x : Nat) : (List.replicate n ([] : List α)).getD x default=[]:=by
 rw [List.getD_eq_getElem?_getD,List.getElem?_replicate]
 split <;> rfl
theorem PairsOk.add {sz : List Int} {PP : List (List (List Int))} (h : PairsOk sz PP) {x : Nat} (hx : x<sz.length) {a b : Int} (ha : 0≤a∧a<sz.getD x default) (hb : 0≤b∧b<sz.getD x default) :
  PairsOk sz (PP.set x (PP.getD x default++[[a,b]])):=by
 refine ⟨by rw [List.length_set]; exact h.1,fun y hy q hq=>?_⟩;rw [getD_setD _ _ (by rw [h.1]; exact hx)] at hq
 by_cases e : y=x
 ·rw [if_pos e] at hq;subst e
  rcases List.mem_append.mp hq with hq | hq
  ·exact h.2 y hy q hq
  ·rw [List.mem_singleton] at hq;subst hq;exact ⟨by simp,ha,hb⟩
 ·rw [if_neg e] at hq; exact h.2 y hy q hq
def SomeR (c : Cat) (size : Int) (r : AV) : Prop:=∃ f : SF,r=.agg f.cells∧f.shape=c∧f.acts.length≤40∧(size≤16→f.Is∧∀ y,y∈f.sizes→y≤max size 2)
theorem l19SomeQ_ok (B : Nat) (c : Cat) (hc : c.Is) (size : Int) (hsize : 0≤size∧size≤1000) : Rd B 164 [.agg c.cells,iI size] (SomeR c size):=by
 intro id s H0 H hs o;refine c164p.go fun _=>?_
 have hm:=hc.1.m
 have hob:=hc.1.o;refine tt ?_;refine nb o fun id6 H o=>tt ?_;refine awp_for [0,2,4,6] (G:=Src) (fun k _=>[(7,some (.int .i64 (k : Int)))]) (fun k s H=>s.Ok∧Owns H0 H [(id,s.obj),(id6,.cells 7 z7 0)]) 6 s ⟨hs,o.swap⟩ rfl ?_;clear o hs
 rintro k s H hk ⟨hs,o⟩;refine tt ?_;apply bk <;> intro h1
 ·have h1p:=of_decide h1
  have w1:=wsucc (k:=k) (by omega);refine tt ?_;refine new_list iI o fun id8 H o=>tt ?_;refine (l01Next_ok B 4).go hs o.swap fun r s H _ ⟨v,e,v0,v1,_⟩ hs o=>?_;subst e
  have hv:=v1 (by omega)
  obtain ⟨n,rfl⟩ : ∃ n : Nat,v=n:=⟨_,(Int.toNat_of_nonneg v0).symm⟩;clear v0 v1;refine tt ?_
  refine awp_while [0,2,4,6,7] (G:=Src × (Nat × List Int) × Nat) (fun g=>[(8,some (.buf g.2.1.1 g.2.1.2.length)),(9,some (.int .i64 (g.2.2 : Int)))])
   (fun m g H=>m=g.2.2∧g.1.Ok∧g.2.1.2.length+g.2.2≤3∧Owns H0 H [(id,g.1.obj),(g.2.1.1,.cells 1 (g.2.1.2.map iI) 0),(id6,.cells 7 z7 0)]) n (s,(id8,[]),n) ⟨rfl,hs,by simp; omega,o⟩ rfl ?_
  clear o hs
  rintro m ⟨s,⟨id8,os⟩,n⟩ H ⟨hmn,hs,hos,o⟩;dsimp only at hmn hs hos o;refine tt ?_;apply bk <;> intro h2
  focus
   refine tw h2 ?_;apply bk <;> intro h3
   focus
    have h2p:=of_decide h2
    have w2 : IntKind.i64.wrap ((n : Int) - 1)=((n - 1 : Nat) : Int):=by rw [wrap_i64 (by omega) (by omega)]; omega
    refine tw h3 ?_;refine (l01Next_ok B c.objs).go hs o fun r s H _ ⟨v,e,_⟩ hs o=>?_;subst e;refine tt ?_;refine app_own v o.swap rfl rfl (by simp only [maxL]; omega) fun id8 H o=>?_;refine tw w2 ?_;exact while_next (n - 1) (s,(id8,os++[v]),n - 1) (by omega) ⟨rfl,hs,by simp; omega,o.swap⟩ rfl
   refine tw h3 ?_
  rotate_left 1
  focus
   refine tw h2 ?_
  all_goals
   refine fz_own o.swap rfl fun H o=>tt ?_;refine (l19FreeQ_ok B c hc os (by omega)).go fun r _ ⟨e,hf⟩=>?_
   obtain ⟨f,hfq⟩ : ∃ f,f=freeQ c os:=⟨_,rfl⟩;rw [← hfq] at e hf;subst e;refine tt ?_;refine nb o fun id10 H o=>tt ?_;refine sw o fun H o=>tt ?_;refine ⟨⟨by omega,by simp only [maxL]; omega⟩, ?_⟩;rw [rep_one];refine newBuf_own o fun id11 H o=>tt ?_;refine (l01Next_ok B 4).go hs (o.pull [_,_]) fun r s H _ ⟨v,e,v0,v1,_⟩ hs o=>?_;subst e
   have hv:=v1 (by omega)
   obtain ⟨n,rfl⟩ : ∃ n : Nat,v=n:=⟨_,(Int.toNat_of_nonneg v0).symm⟩;clear v0 v1;refine tt ?_
   have hsl:=hf.sl
   have hzf : ∀ x,x<f.sizes.length→0≤f.sizes.getD x default∧f.sizes.getD x default≤120:=fun x hx=>hf.sz _ (mem_getD.mpr ⟨x,hx,rfl⟩)
   refine awp_while [0,2,4,6,7,10,11] (G:=Src × (List AV × List (List (List Int)) × Ob) × Nat) (fun g=>[(12,some (.int .i64 (g.2.2 : Int)))])
    (fun m g H=>m=g.2.2∧g.1.Ok∧LsR iL g.2.1.1 g.2.1.2.1 g.2.1.2.2∧PairsOk f.sizes g.2.1.2.1∧(∀ x,(g.2.1.2.1.getD x default).length+g.2.2≤3) ∧
     Owns H0 H ((id,g.1.obj)::(id11,.cells 1 g.2.1.1 0)::(g.2.1.2.2++[(id10,MObj.cells 7 f.cells 0),(id6,MObj.cells 7 z7 0)]))) n (s,(List.replicate c.objs.toNat .nilsl,List.replicate c.objs.toNat [],[]),n)
    ⟨rfl,hs,LsR.rep iL _,⟨by rw [List.length_replicate]; omega,fun x hx q hq=>by rw [show (List.replicate c.objs.toNat ([] : List (List Int))).getD x default=[] from rep_nil _ _] at hq; simp at hq⟩,fun x=>by
     rw [show (List.replicate c.objs.toNat ([] : List (List Int))).getD x default=[] from rep_nil _ _]; simp; omega,o⟩ rfl ?_
   clear o hs
   rintro m ⟨s,⟨Xs,PP,ob⟩,n⟩ H ⟨hmn,hs,hR,hPP,hPl,o⟩;dsimp only at hmn hs hR hPP hPl o
   have hXl:=hR.len
   have hPPl:=hPP.1
   have hn3 : n≤3:=by have:=hPl 0; omega
   refine tt ?_;apply bk <;> intro k2
   focus
    refine tw k2 ?_;apply bk <;> intro k3
    focus
     have k2p:=of_decide k2
     have k3p:=of_decide k3
     have w2 : IntKind.i64.wrap ((n : Int) - 1)=((n - 1 : Nat) : Int):=by rw [wrap_i64 (by omega) (by omega)]; omega
     refine tw k3 ?_;refine (l01Next_ok B c.objs).go hs o fun r s H _ ⟨x,e,x0,x1,_⟩ hs o=>?_;subst e
     have hx1:=x1 (by omega)
     obtain ⟨x,rfl⟩ : ∃ n : Nat,x=n:=⟨_,(Int.toNat_of_nonneg x0).symm⟩;clear x0 x1
     have hxl : x<f.sizes.length:=by omega
     have hzx:=hzf x hxl
     have hg10 : H.get id10=some (.cells 7 f.cells 0):=o.get (id10,_) (by simp);refine tt ?_;refine rd_get hg10 (by simp [SF.cells]) ?_;refine tt ?_;refine ⟨hxl, ?_⟩;apply bk <;> intro k4
     ·have k4p:=of_decide k4;refine tt ?_;refine ⟨by omega,⟨_,_,o.tl.h0⟩,rd_get o.tl.h0 (by omega) ?_⟩;refine tt ?_;refine ⟨⟨_,_,hg10⟩,rd_get hg10 (by simp [SF.cells]) ?_⟩;refine tt ?_;refine ⟨hxl,⟨_,_,hg10⟩,rd_get hg10 (by simp [SF.cells]) ?_⟩;refine tt ?_;refine ⟨hxl, ?_⟩;refine (l01Next_ok B _).goZ hs o fun r s H _ ⟨a,e,a0,a1,_⟩ hs o hz=>⟨hz, ?_⟩;subst e
      have ha1:=a1 (by omega);refine tt ?_;refine (l01Next_ok B _).goZ hs o fun r s H _ ⟨b,e,b0,b1,_⟩ hs o hz=>⟨hz, ?_⟩;subst e
      have hb1:=b1 (by omega);refine tt ?_
      have o : Owns H0 H ((id11,.cells 1 Xs 0)::(ob++[(id,s.obj),(id10,.cells 7 f.cells 0),(id6,.cells 7 z7 0)])):=o.pm;refine rows_app o hR (by omega) [a,b] rfl (by show (PP.getD _ default).length+1≤maxL; have:=hPl x; simp only [maxL]; omega) fun X' o' H hX1 hR o=>?_;try simp only [go_sem,↓reduceIte,reduceEqDiff,reduceAdd,reduceMul,reduceLeDiff,reduceLT,AV.cells_one hX1]
      refine ⟨by omega,st_cells o (by omega) rfl (by simp only [memcons,memnil]; exact ⟨hX1,trivial⟩) fun H o=>?_⟩;simp only [wr_cons,wr_nil] at o;refine tw w2 ?_;refine while_next (n - 1) (s,(Xs.set x X',PP.set x (PP.getD x default++[[a,b]]),o'),n - 1) (by omega) ⟨rfl,hs,hR,hPP.add hxl ⟨a0,ha1⟩ ⟨b0,hb1⟩,fun y=>?_,(by simp only [SF.cells] at o; exact o.pm)⟩ rfl
      show ((PP.set x (PP.getD x default++[[a,b]])).getD y default).length+(n - 1)≤3
      rw [getD_setD _ _ (by omega)]
      have:=hPl y
      split
      ·rename_i e; subst e; rw [List.length_append,List.length_singleton]; omega
      ·omega
     ·refine tw w2 ?_;exact while_next (n - 1) (s,(Xs,PP,ob),n - 1) (by omega) ⟨rfl,hs,hR,hPP,fun x=>by have:=hPl x; show (PP.getD x default).length+(n - 1)≤3; omega,o⟩ rfl
    refine tw k3 ?_
   rotate_left 1
   focus
    refine tw k2 ?_
   all_goals
    have o : Owns H0 H ((id11,.cells 1 Xs 0)::(ob++[(id,s.obj),(id10,.cells 7 f.cells 0),(id6,.cells 7 z7 0)])):=o.pm;refine wk_rows hR [] H o fun H o=>wkW_done ?_;rw [List.nil_append] at o
    have o : Owns H0 H ((id11,.cells 1 (PP.map iLL) 0)::[(id,s.obj),(id10,.cells 7 f.cells 0),(id6,.cells 7 z7 0)]):=o;refine tt ?_;refine fz_own (f:=iLL) o (by omega) fun H o=>tt ?_;refine rd_celln o.tl (by simp [SF.cells]) ?_;refine tt ?_;refine (l19GlueQ_ok B f c hc hf PP hPP).go fun r hfn ⟨CC,f2,e,hCl,hQ⟩=>?_;subst e
    have hfl:=fine_mL_le (hfn.agg (c:=iL f2.sizes) (by simp [SF.cells]));simp only [maxL] at hfl;clear hfn;refine tt ?_;refine st_cells o.swap (by simp [SF.cells]) (by (try simp only [go_sem]); (try simp)) (by first | (simp only [go_sem]; done) | ((try simp only [go_sem]); simp [AV.one,one_mL])) fun H o=>?_;simp only [wr_cons,wr_nil,List.set_cons_zero,List.set_cons_succ] at o;refine tt ?_;refine awp_for [0,2,4,6,7,10] (G:=Bool) (fun k b=>[(14,some (.bool b)),(15,some (.int .i64 (k : Int)))]) (fun k b H=>(b=true→∀ i : Nat,i<k→f2.sizes.getD i default≤size)∧Owns H0 H [(id10,MObj.cells 7 f2.cells 0),(id,s.obj),(id6,MObj.cells 7 z7 0)]) f2.sizes.length true ⟨fun _ i h=>absurd h (Nat.not_lt_zero i),o⟩ rfl ?_;clear o
    rintro q sm H hq ⟨hsm,o⟩
    replace o : Owns H0 H [(id10,.cells 7 f2.cells 0),(id,s.obj),(id6,.cells 7 z7 0)]:=o;refine tt ?_;refine rd_cells o (by simp [SF.cells]) ?_;refine tt ?_;apply bk <;> intro j1
    ·have j1p:=of_decide j1
     have w3:=wsucc (k:=q) (by omega);refine tt ?_
     cases sm
     ·refine tw w3 ?_;exact for_next false (by omega) ⟨fun h=>absurd h (by simp),o⟩ rfl
     ·refine tt ?_;refine rd_cells o (by simp [SF.cells]) ?_;refine tt ?_;refine ⟨j1p, ?_⟩;refine tw w3 ?_;exact for_next _ (by omega) ⟨fun h=>lt_succ_all (hsm rfl) (by simpa using h),o⟩ rfl
    ·have j1p:=of_ndecide j1;refine tt ?_
     cases sm
     ·refine tw w1 ?_;exact for_next s (by omega) ⟨hs,o.tl⟩ rfl
     ·refine tt ?_;refine rd_celln o (by simp [SF.cells]) ?_;refine tt ?_;refine sw (o.pull [_,_]) fun H o=>tt ?_
      have hr:=o.rc 7 0 (by simp);simp only [List.drop_zero] at hr;rw [hr]
      have hle : ∀ y,y∈f2.sizes→y≤size:=fun y hy=>by
       obtain ⟨i,hi,rfl⟩:=mem_getD.mp hy;exact hsm rfl i (by omega)
      have hal:=hQ.al
      have hfa:=hf.al;exact src_ret ⟨f2,rfl,hQ.sh.trans hf.sh,by omega,fun h16=>⟨QuoOk.is (os:=os) hc (by rw [← hfq]; exact hCl.toClsOk) (fun x hx=>hCl.ct x (by rw [← hCl.len]; exact hx)) (by rw [← hfq]; exact hQ) fun y hy=>by have:=hle y hy; omega,fun y hy=>by have:=hle y hy; omega⟩⟩ hs (o.pull [_,_])
 ·have h1p:=of_ndecide h1;refine tt ?_
  have hw : IntKind.i64.wrap ((if false=true then if 2 > size then 2 else size else if 2<size then 2 else size)+1)=min size 2+1:=by
   rw [if_neg (by decide)]
   split <;> rw [wrap_i64 (by omega) (by omega)] <;> omega
  rw [hw];refine (l01Next_ok B _).go hs o fun r s H _ ⟨v,e,v0,v1,_⟩ hs o=>?_;subst e
  have hv:=v1 (by omega);refine tt ?_;refine ⟨_,(l19Constant_ok B c hc.1 v ⟨v0,by omega⟩).run,tt ?_⟩;refine sw o.swap fun H o=>tt ?_
  have hr:=o.rc 7 0 (by simp);simp only [List.drop_zero] at hr;rw [hr]
  obtain ⟨w,rfl⟩ : ∃ w : Nat,v=w:=⟨_,(Int.toNat_of_nonneg v0).symm⟩
  exact src_ret ⟨constF c w,rfl,rfl,by simp [constF]; omega,fun h16=>⟨constF_is hc (by omega),fun y hy=>by
   simp only [constF,List.mem_replicate,List.mem_map] at hy; omega⟩⟩ hs o.swap
theorem good_shape {N : Nat} {c : Cat} (h : c.Good N) (h8 : c.objs≤8) (h40 : c.frm.length≤40) : c.Shape:=h.2.shape h.1 h8 h40
end Go.Proofs.Shf
namespace Go.Shf
open Go.AW
def zM : List AV:=[.int .i64 0,.nilsl,.nilsl,.nilsl,.nilsl,.int .i64 0,.nilsl,.nilsl]
def moB (c : Cat) (u : Int) (X Y : AV) : List AV:=[iI c.objs,iL c.frm,iL c.to,iL c.idn,iLL c.comp,iI u,X,Y]
def MoX (p : Ob) (X : AV) : Prop:=∃ (c : Cat) (u : Int) (O As : List (List Int)) (d : Nat) (Xs : List AV) (ob : Ob),X=.agg (moB c u (iLL O) (.buf d Xs.length))∧p=(d,.cells 1 Xs 0)::ob∧LsR iI Xs As ob∧(0<As.length∧0<(As.getD 0 []).length)∧0<O.length
def MkK (H0 : Heap) (l : Ob) (Q : Int→Prop) : Kont:=fun r H'=>∃ (cs : List AV) (k : Int) (p : Ob),r=.tup [.agg cs,iI k]∧cs.length=8∧(∀ c,c∈cs→c.one=true)∧(k=0→MoX p (.agg cs))∧Q k∧Owns H0 H' (p++l)
theorem zM_one : ∀ c,c∈zM→c.one=true:=by
 intro c hc;simp only [zM,List.mem_cons,List.not_mem_nil,or_false] at hc
 rcases hc with rfl | rfl | rfl | rfl | rfl | rfl | rfl | rfl <;> rfl
theorem moB_one {c : Cat} {u : Int} {X Y : AV} (hX : X.one=true) (hY : Y.one=true) : ∀ a,a∈moB c u X Y→a.one=true:=by
 intro a ha;simp only [moB,List.mem_cons,List.not_mem_nil,or_false] at ha
 rcases ha with rfl | rfl | rfl | rfl | rfl | rfl | rfl | rfl
 ·rfl
 ·exact one_mL _ _
 ·exact one_mL _ _
 ·exact one_mL _ _
 ·exact one_mL _ _
 ·rfl
 ·exact hX
 ·exact hY
def idR (n i : Nat) : List Int:=(List.replicate n 0).set i 1
theorem idR_rel {n i j : Nat} (hi : i<n) (hj : j<n) : relE ((List.range n).map (idR n)) i j=if i=j then 1 else 0:=by
 rw [relE,getD_map_range _ _ hi,idR,List.getD_eq_getElem?_getD,List.getElem?_set]
 by_cases e : i=j
 ·subst e; simp [hi]
 ·simp [e,hj]
theorem idR_po {n : Nat} (h : n≤4) : PoR ((List.range n).map (idR n)):=by
 have hl : ((List.range n).map (idR n)).length=n:=by simp
 refine .of (by omega) (fun i hi=>?_) (fun i hi=>?_) fun i hi j hj k hk h1 h2=>?_
 ·rw [hl] at hi ⊢;rw [getD_map_range _ _ hi]; simp [idR]
 ·rw [hl] at hi;rw [idR_rel hi hi,if_pos rfl]
 ·rw [hl] at hi hj hk;rw [idR_rel hi hj] at h1;rw [idR_rel hj hk] at h2;rw [idR_rel hi hk]
  by_cases e1 : i=j
  ·by_cases e2 : j=k
   ·rw [if_pos (e1.trans e2)]
   ·rw [if_neg e2] at h2; omega
  ·rw [if_neg e1] at h1; omega
end Go.Shf
namespace Go.Proofs.Shf
open Go.AW Go.Proofs Go.Shf
theorem mk_bad {H0 H : Heap} {l : Ob} {Q : Int→Prop} {k : Int} (hk : k≠0) (hQ : Q k) (o : Owns H0 H l) : subW (MkK H0 l Q) (.tup [.agg zM,iI k]) H :=
 ⟨H,.refl H,zM,k,[],rfl,rfl,zM_one,fun h=>absurd h hk,hQ,o⟩
theorem mk_ok {H0 H : Heap} {l : Ob} {Q : Int→Prop} {c : Cat} {u : Int} {O As : List (List Int)} {d : Nat} {Xs : List AV} {ob : Ob} (hR : LsR iI Xs As ob) (h0 : 0<As.length∧0<(As.getD 0 []).length) (hO : 0<O.length) (hQ : Q 0) (o : Owns H0 H ((d,.cells 1 Xs 0)::(ob++l))) :
  subW (MkK H0 l Q) (.tup [.agg (moB c u (iLL O) (.buf d Xs.length)),iI 0]) H :=
 ⟨H,.refl H,_,0,(d,.cells 1 Xs 0)::ob,rfl,rfl,moB_one (one_mL _ _) rfl,fun _=>⟨c,u,O,As,d,Xs,ob,rfl,rfl,hR,h0,hO⟩,hQ,o⟩
theorem discrete_own (B : Nat) (T : List (List Int)) (l4 : T.length≤4) {H0 H : Heap} {l : Ob} (o : Owns H0 H l) : CallH Tryz.prog B 257 [iLL T] H (MkK H0 l fun k=>MonO T→k=0):=by
 refine c257p.go fun _=>?_;refine tt ?_;refine nb o fun id2 H o=>?_
 have o : Owns H0 H ((id2,.cells 8 zM 0)::l):=o;refine tt ?_;refine (l35Monoid_ok B T (by omega)).go fun _=>?_
 by_cases hM : MonO T
 rotate_left
 ·rw [dec_f hM];refine tt ?_;refine st_cells o (by simp [zM]) (by (try simp only [go_sem]); (try simp)) (by first | (simp only [go_sem]; done) | ((try simp only [go_sem]); simp [AV.one,one_mL])) fun H o=>?_
  have o : Owns H0 H ((id2,.cells 8 zM 0)::l):=o;refine tt ?_;rw [o.rc 8 0 (by simp [zM])];refine tt ?_;exact mk_bad (k:=1) (by decide) (fun h=>absurd h hM) o.tl
 rw [dec_t hM]
 have hp:=hM.1;refine tt ?_;rw [decide_eq_false (show ¬ (8 : Int)<(T.length : Int) by omega)];refine tt ?_;refine newBuf_own o fun b4 H o=>?_
 have o : Owns H0 H ((b4,.cells 1 (((List.range 0).map (idR T.length)).map iL) 0)::(id2,.cells 8 zM 0)::l):=o;refine tt ?_
 refine awp_for [0,2] (G:=Nat) (fun i b=>[(4,some (.buf b i)),(5,some (.int .i64 (i : Int)))])
  (fun i b H=>Owns H0 H ((b,.cells 1 (((List.range i).map (idR T.length)).map iL) 0)::(id2,.cells 8 zM 0)::l)) T.length b4 o rfl ?_
 clear o
 rintro i b4 H hi o;refine tt ?_;apply bk <;> intro h1
 rotate_left
 ·have h1p:=of_ndecide h1
  obtain rfl : i=T.length:=by omega
  refine tt ?_;refine fz_own (f:=iL) o (by simp) fun H o=>tt ?_;refine (l03PosetX_ok B _ (idR_po l4)).go fun r _ e=>?_;subst e;refine tt ?_;refine (l01Own2_ok B T).go fun _=>tt ?_;refine (l01Own2_own B T H0 H _ o).mono ?_;clear o
  rintro r H ⟨d,Xs,ob,rfl,hR,o⟩
  have o : Owns H0 H ((id2,.cells 8 zM 0)::(d,.cells 1 Xs 0)::(ob++l)):=o.pm;refine tt ?_;refine st_cells o (by simp [zM]) (by (try simp only [go_sem]); (try simp)) (by first | (simp only [go_sem]; done) | ((try simp only [go_sem]); simp [AV.one,one_mL])) fun H o=>?_
  have o : Owns H0 H ((id2,.cells 8 (moB (orC ((List.range T.length).map (idR T.length))) 0 (iLL T) (.buf d Xs.length)) 0)::(d,.cells 1 Xs 0)::(ob++l)):=o;refine tt ?_;rw [o.rc 8 0 (by simp [moB])];refine tt ?_;exact mk_ok hR ⟨hp,by have:=hM.2.1.row hp; simp only [List.getD_eq_getElem?_getD] at this ⊢; simp [hp] at this ⊢; omega⟩ hp (fun _=>rfl) o.tl
 have h1p:=of_decide h1
 have w1:=wsucc (k:=i) (by omega);refine tt ?_;refine ⟨by simp only [maxL]; omega,mks_list iI 0 rfl o fun id6 H o=>?_⟩
 have o : Owns H0 H ((id6,.cells 1 ((List.replicate T.length (0 : Int)).map iI) 0)::(b4,.cells 1 (((List.range i).map (idR T.length)).map iL) 0)::(id2,.cells 8 zM 0)::l):=by
  have e : ((T.length : Int)).toNat=T.length:=by simp
  first | exact o | (rw [e] at o; exact o)
 refine tt ?_;refine ⟨by omega,set_own (f:=iI) (1 : Int) o rfl (by simp; omega) fun H o=>?_⟩
 have o : Owns H0 H ((id6,.cells 1 ((idR T.length i).map iI) 0)::(b4,.cells 1 (((List.range i).map (idR T.length)).map iL) 0)::(id2,.cells 8 zM 0)::l):=o;refine tt ?_;refine fz_own (f:=iI) o (by simp [idR]) fun H o=>tt ?_;refine app_own (f:=iL) (idR T.length i) o rfl (by simp) (by simp only [List.length_map,List.length_range,maxL]; omega) fun b5 H o=>?_;rw [← map_range_succ] at o;simp only [List.length_append,List.length_map,List.length_range,List.length_singleton];refine tw w1 ?_;exact for_next b5 (by omega) o rfl
end Go.Proofs.Shf
