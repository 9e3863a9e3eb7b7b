/- Contracts of functions over abstract values, part 1. -/
import Derived.Test.YtnpimpkmgmnhhaaGreatA4
import Derived.Test.YtnpimpkmgmnhhaaGreatC
set_option linter.unusedVariables false
set_option linter.unusedSimpArgs false
set_option linter.unusedSectionVars false
set_option maxRecDepth 100000
open Nat (reduceEqDiff reduceAdd reduceMul reduceLeDiff reduceLT)
namespace Go.Proofs.Shf
open Go.AW
theorem pC {l r : Ob} (h : ∀ x,@List.count _ (@instBEqOfDecidableEq _ (Classical.typeDecidableEq _)) x l=@List.count _ (@instBEqOfDecidableEq _ (Classical.typeDecidableEq _)) x r) : l.Perm r:=by
 letI : DecidableEq (Nat × MObj):=Classical.typeDecidableEq _
 exact List.perm_iff_count.mpr h
end Go.Proofs.Shf
namespace Go.AW
theorem tt {P Q : Prop} (h : Q) (e : P=Q:=by (try simp only [go_sem,↓reduceIte,Nat.reduceEqDiff,Nat.reduceAdd,Nat.reduceMul,Nat.reduceLeDiff,Nat.reduceLT]); exact rfl) : P:=Eq.mpr e h
theorem tw {A P Q : Prop} (w : A) (h : Q) (e : A→P=Q:=by intro w; (try simp only [go_sem,↓reduceIte,Nat.reduceEqDiff,Nat.reduceAdd,Nat.reduceMul,Nat.reduceLeDiff,Nat.reduceLT,w]); exact rfl) : P:=Eq.mpr (e w) h
theorem ta {P Q : Prop} (h : Q) (e : P=Q:=by (try simp only [go_sem,↓reduceIte,Nat.reduceEqDiff,Nat.reduceAdd,Nat.reduceMul,Nat.reduceLeDiff,Nat.reduceLT, *]); exact rfl) : P:=Eq.mpr e h
theorem dTr {p : Decidable True} : @decide True p=true:=@decide_eq_true True p trivial
theorem td {P Q : Prop} (h : Q) (e : P=Q:=by (try simp only [go_sem,↓reduceIte,Nat.reduceEqDiff,Nat.reduceAdd,Nat.reduceMul,Nat.reduceLeDiff,Nat.reduceLT,dTr]); exact rfl) : P:=Eq.mpr e h
theorem bk {σ : Env} {H : Heap} {c : Bool} {P Q : Env→Heap→Prop} (h1 : c=true→P σ H) (h2 : c=false→Q σ H) : Br c (At P σ H) (At Q σ H):=⟨fun e=>At.mk (h1 e),fun e=>At.mk (h2 e)⟩
theorem bn {σ : Env} {H : Heap} {c : Bool} {P Q : Env→Heap→Prop} (h1 : c=false→P σ H) (h2 : c=true→Q σ H) : Bn c (At P σ H) (At Q σ H):=⟨fun e=>At.mk (h1 e),fun e=>At.mk (h2 e)⟩
theorem dd {P Q : Prop} (h : P) (e : P=Q:=by (try simp only [bnt,bnf,decide_eq_true_eq,decide_eq_false_iff_not,dect,decf,Int.not_lt,Int.not_le,Nat.not_lt,Decidable.not_not,ne_eq,Bool.true_eq_false,Bool.false_eq_true]); exact rfl) : Q:=Eq.mp e h
theorem Owns.pm {H0 H : Heap} {l l' : Ob} (o : Owns H0 H l) (e : ∀ x,@List.count _ (@instBEqOfDecidableEq _ (Classical.typeDecidableEq _)) x l=@List.count _ (@instBEqOfDecidableEq _ (Classical.typeDecidableEq _)) x l':=by intro x; (try dsimp only); simp only [List.append_eq,List.count_append,List.count_cons,List.count_nil,List.map_nil,List.length_nil,List.length_append,List.length_cons,List.length_set,Nat.zero_add,List.nil_append,iI,iL]; omega) : Owns H0 H l':=o.perm (Go.Proofs.Shf.pC e)
theorem sw {H0 H : Heap} {l : Ob} {K : Kont} {id sz off n : Nat} {cs vs cs' : List AV} (o : Owns H0 H ((id,.cells sz cs 0)::l)) (hk : ∀ H',Owns H0 H' ((id,.cells sz cs' 0)::l)→K nv H')
 (e : wr cs off vs=cs':=by simp only [wr_cons,wr_nil,List.set_cons_zero,List.set_cons_succ]; exact rfl) (h1 : off+n≤cs.length:=by simp) (h2 : vs.length=n:=by (try simp only [go_sem]); (try simp))
 (h3 : ∀ c,c∈vs→c.one=true:=by first | (simp only [go_sem]; done) | ((try simp only [go_sem]); simp [AV.one,one_mL])) : st1 (H.get id) id off n vs K H:=st_cells o h1 h2 h3 fun H' o=>hk H' (e ▸ o)
theorem nb {A : Prop} {H0 H : Heap} {l : Ob} {K : Kont} {sz : Nat} {cs : List AV} (o : Owns H0 H l) (hk : ∀ id H',Owns H0 H' ((id,.cells sz cs 0)::l)→K (.ref id 0) H') (h : A:=by first | trivial | simp [maxL]) : A∧newRef sz cs K H:=⟨h,newRef_own o hk⟩
end Go.AW
namespace Go.Proofs.Shf
open Go.AW Go.Proofs
theorem inRange_ok (B : Nat) (n lo hi : Int) : Pur Tryz.prog B 83 [.int .i64 n,.int .i64 lo,.int .i64 hi] (.bool (dec (lo≤n∧n≤hi))):=by
 refine ⟨fun H=>c83 (by simp) fun _=>?_⟩;unfold s83;refine ta ?_;apply bk <;> intro h1
 all_goals (try simp only [go_sem,↓reduceIte,reduceEqDiff,reduceAdd,reduceMul,reduceLeDiff,reduceLT, *])
 ·exact pure_ret (by rw [← decide_dec]; simp at h1; simp [h1]) (.refl _)
 ·exact pure_ret (by rw [← decide_dec]; simp at h1; simp; omega) (.refl _)
theorem l01In_ok (B : Nat) (n lo hi : Int) : Pur Tryz.prog B 200 [.int .i64 n,.int .i64 lo,.int .i64 hi] (.bool (dec (lo≤n∧n≤hi))):=by
 refine ⟨fun H=>c200 (by simp) fun _=>?_⟩;unfold s200;refine ta ?_;apply bk <;> intro h1
 all_goals (try simp only [go_sem,↓reduceIte,reduceEqDiff,reduceAdd,reduceMul,reduceLeDiff,reduceLT, *])
 ·exact pure_ret (by rw [← decide_dec]; simp at h1; simp [h1]) (.refl _)
 ·exact pure_ret (by rw [← decide_dec]; simp at h1; simp; omega) (.refl _)
theorem within_ok (B : Nat) (l : List Int) (n : Int) (hn : -9223372036854775808<n∧n≤9223372036854775807): Pur Tryz.prog B 134 [iL l,.int .i64 n] (.bool (dec (∀ y,y∈l→0≤y∧y<n))):=by
 refine ⟨fun H0=>c134 (by simp) fun ⟨hf,_⟩=>?_⟩
 have hl:=fine_mL_le hf;simp only [maxL] at hl
 have w : IntKind.i64.wrap (n - 1)=n - 1:=wrap_i64 (by omega) (by omega);unfold s134;refine ta ?_;refine awp_for [1,7,8] (fun k _=>[(9,some (.int .i64 (k : Int)))]) (fun k _ H=>H=H0∧∀ i,i<k→0≤l.getD i default∧l.getD i default<n) l.length () ⟨rfl,by simp⟩ rfl ?_
 rintro k _ H hk ⟨rfl,hall⟩;refine ta ?_;apply bk <;> intro h1
 ·have h1:=of_decide h1
  have w1:=wsucc (k:=k) (by omega);refine ta ?_;refine (inRange_ok ..).go fun _=>?_;refine ta ?_;apply bk <;> intro h2
  ·refine ta ?_
   have h2p:=dd h2;refine pure_ret ?_ (.refl _);rw [dec_f]; intro h
   have:=h _ (mem_getD.mpr ⟨k,h1,rfl⟩);omega
  ·refine ta ?_
   have h2p:=dd h2;exact for_next () (by omega) ⟨rfl,lt_succ_all hall (by omega)⟩ rfl
 ·refine ta ?_
  have h1:=of_ndecide h1;exact pure_ret (by rw [dec_t]; exact all_getD.mpr fun i hi=>hall i (by omega)) (.refl _)
theorem l01Map_ok (B : Nat) (l : List Int) (n : Int) : Pur Tryz.prog B 156 [.int .i64 n,iL l] (.bool (dec (∀ y,y∈l→0≤y∧y<n))):=by
 refine ⟨fun H0=>c156 (by simp) fun ⟨_,hf,_⟩=>?_⟩
 have hl:=fine_mL_le hf;simp only [maxL] at hl;unfold s156;refine ta ?_;refine awp_for [0,1] (fun k _=>[(5,some (.int .i64 (k : Int)))]) (fun k _ H=>H=H0∧∀ i,i<k→0≤l.getD i default∧l.getD i default<n) l.length () ⟨rfl,by simp⟩ rfl ?_
 rintro k _ H hk ⟨rfl,hall⟩;refine ta ?_;apply bk <;> intro h1
 ·have h1:=of_decide h1
  have w1:=wsucc (k:=k) (by omega);refine ta ?_
  have hn : l.getD k default<0∨n≤l.getD k default→¬ ∀ y,y∈l→0≤y∧y<n:=fun hc h=>by
   have:=h _ (mem_getD.mpr ⟨k,h1,rfl⟩); omega
  apply bn <;> intro h2
  ·refine ta ?_;apply bk <;> intro h3
   ·refine ta ?_
    have h3p:=dd h3;exact pure_ret (by rw [dec_f (hn (.inr h3p))]) (.refl _)
   ·refine ta ?_
    have h2p:=dd h2
    have h3p:=dd h3;exact for_next () (by omega) ⟨rfl,lt_succ_all hall (by omega)⟩ rfl
  ·refine ta ?_
   have h2p:=dd h2;exact pure_ret (by rw [dec_f (hn (.inl h2p))]) (.refl _)
 ·refine ta ?_
  have h1:=of_ndecide h1;exact pure_ret (by rw [dec_t]; exact all_getD.mpr fun i hi=>hall i (by omega)) (.refl _)
theorem l01Index_ok (B : Nat) (l : List Int) (n : Int) : Pur Tryz.prog B 269 [iL l,.int .i64 n] (.int .i64 (indexOf l n)):=by
 refine ⟨fun H0=>c269 (by simp) fun ⟨hf,_⟩=>?_⟩
 have hl:=fine_mL_le hf;simp only [maxL] at hl;unfold s269;refine ta ?_;refine awp_for [0,1] (fun k _=>[(5,some (.int .i64 (k : Int)))]) (fun k _ H=>H=H0∧∀ i,i<k→l.getD i default≠n) l.length () ⟨rfl,by simp⟩ rfl ?_
 rintro k _ H hk ⟨rfl,hall⟩;refine ta ?_;apply bk <;> intro h1
 ·have h1:=of_decide h1
  have w1:=wsucc (k:=k) (by omega);refine ta ?_;apply bk <;> intro h2
  ·refine ta ?_;exact pure_ret (by rw [indexOf_hit h1 hall (of_decide h2)]) (.refl _)
  ·refine ta ?_;exact for_next () h1 ⟨rfl,lt_succ_all hall (of_ndecide h2)⟩ rfl
 ·refine ta ?_
  have h1:=of_ndecide h1;exact pure_ret (by rw [indexOf_miss fun i hi=>hall i (by omega)]) (.refl _)
theorem clone_ok (B : Nat) (l : List Int) : Pur Tryz.prog B 162 [iL l] (iL l):=by
 refine ⟨fun H0=>c162 (by simp) fun ⟨hf,_⟩=>?_⟩
 have hl:=fine_mL_le hf;unfold s162;refine ta ?_;refine new_list iI (.nil _) fun id H o=>?_;refine ta ?_;refine app_list o rfl (by simpa using hl) fun id H o=>?_;refine ta ?_;refine fz_own o rfl fun H o=>?_;refine ta ?_;exact pure_ret (by simp) o.sub
theorem l01Own_ok (B : Nat) (l : List Int) : Pur Tryz.prog B 118 [iL l] (iL l):=by
 refine ⟨fun H0=>c118 (by simp) fun ⟨hf,_⟩=>?_⟩
 have hl:=fine_mL_le hf;unfold s118;refine ta ?_;refine new_list iI (.nil _) fun id H o=>?_;refine ta ?_;refine app_list o rfl (by simpa using hl) fun id H o=>?_;refine ta ?_;refine fz_own o rfl fun H o=>?_;refine ta ?_;exact pure_ret (by simp) o.sub
end Go.Proofs.Shf
namespace Go.Proofs.Shf
open Go.AW Go.Proofs Go.Shf
theorem compare_ok (B : Nat) (a b : List Int) : Pur Tryz.prog B 210 [iL a,iL b] (.int .i64 (cmp a b)):=by
 refine ⟨fun H0=>c210 (by simp) fun ⟨hf,hg,_⟩=>?_⟩
 have hl:=fine_mL_le hf
 have hl2:=fine_mL_le hg;simp only [maxL] at hl hl2;unfold s210;refine tt ?_;refine awp_for [0,1,7] (fun k _=>[(8,some (.int .i64 (k : Int)))]) (fun k _ H=>H=H0∧k≤b.length∧cmp a b=cmp (a.drop k) (b.drop k)) a.length () ⟨rfl,by simp,by simp⟩ rfl ?_
 rintro k _ H hk ⟨rfl,hkb,hc⟩;refine tt ?_;apply bk <;> intro h1
 ·have h1:=of_decide h1
  have w1:=wsucc (k:=k) (by omega)
  have da:=drop_cons a h1;rw [da] at hc;refine tt ?_;apply bk <;> intro h2
  ·refine tt ?_
   have h2:=of_decide h2;refine pure_ret ?_ (.refl _);rw [hc,List.drop_of_length_le (show b.length≤k by omega)]; rfl
  ·have h2:=of_ndecide h2
   have h3 : k<b.length:=by omega
   have db:=drop_cons b h3;rw [db] at hc;refine tt ?_;refine ⟨h1,h3,tt ?_⟩;apply bk <;> intro h4
   ·have h4p : a.getD k default≠b.getD k default:=by simpa using h4
    refine tt ?_;refine ⟨h1,h3,tt ?_⟩;apply bk <;> intro h5
    ·refine tt ?_
     have h5:=of_decide h5;refine pure_ret ?_ (.refl _);rw [hc,cmp,if_neg h4p,if_pos h5]
    ·refine tt ?_
     have h5:=of_ndecide h5;refine pure_ret ?_ (.refl _);rw [hc,cmp,if_neg h4p,if_neg h5]
   ·have h4p : a.getD k default=b.getD k default:=by simpa using h4
    refine tw w1 ?_;refine for_next () (by omega) ⟨rfl,by omega, ?_⟩ rfl;rw [hc,cmp,if_pos h4p]
 ·refine tt ?_
  have h1:=of_ndecide h1;rw [List.drop_of_length_le (by omega)] at hc;apply bk <;> intro h2
  ·refine tt ?_
   have h2:=of_decide h2;refine pure_ret ?_ (.refl _);rw [hc,drop_cons b (by omega)]; rfl
  ·refine tt ?_
   have h2:=of_ndecide h2;refine pure_ret ?_ (.refl _);rw [hc,List.drop_of_length_le (by omega)]; rfl
theorem same_ok (B : Nat) (a b : List Int) : Pur Tryz.prog B 163 [iL a,iL b] (.bool (dec (a=b))):=by
 refine ⟨fun H0=>c163 (by simp) fun _=>?_⟩;unfold s163;refine ta ?_;refine (compare_ok ..).go fun _=>?_;refine ta ?_;exact pure_ret (by rw [decide_dec,dec_congr cmp_zero]) (.refl _)
theorem l01Same_ok (B : Nat) (a b : List Int) : Pur Tryz.prog B 157 [iL a,iL b] (.bool (dec (a=b))):=by
 refine ⟨fun H0=>c157 (by simp) fun ⟨hf,hg,_⟩=>?_⟩
 have hl:=fine_mL_le hf
 have hl2:=fine_mL_le hg;simp only [maxL] at hl hl2;unfold s157;refine tt ?_;apply bk <;> intro h0
 ·refine tt ?_
  have h0p : a.length≠b.length:=by simpa using h0
  exact pure_ret (by rw [dec_f]; rintro rfl; exact h0p rfl) (.refl _)
 have h0p : a.length=b.length:=by simpa using h0
 refine tt ?_;refine awp_for [0,1] (fun k _=>[(5,some (.int .i64 (k : Int)))]) (fun k _ H=>H=H0∧∀ i,i<k→a.getD i default=b.getD i default) a.length () ⟨rfl,by simp⟩ rfl ?_
 rintro k _ H hk ⟨rfl,hall⟩;refine tt ?_;apply bk <;> intro h1
 ·have h1:=of_decide h1
  have w1:=wsucc (k:=k) (by omega);refine tt ?_;refine ⟨h1,by omega,tt ?_⟩;apply bk <;> intro h2
  ·refine tt ?_
   have h2p : a.getD k default≠b.getD k default:=by simpa using h2
   exact pure_ret (by rw [dec_f]; rintro rfl; exact h2p rfl) (.refl _)
  ·refine tw w1 ?_
   have h2p : a.getD k default=b.getD k default:=by simpa using h2
   exact for_next () (by omega) ⟨rfl,lt_succ_all hall h2p⟩ rfl
 ·refine tt ?_
  have h1:=of_ndecide h1;refine pure_ret ?_ (.refl _);rw [dec_t];refine List.ext_getElem h0p fun i hi hj=>?_
  have:=hall i (by omega)
  simpa [List.getD_eq_getElem?_getD,hi,hj] using this
theorem l05Place_ok (B : Nat) (l : List (List Int)) (x : List Int) : Pur Tryz.prog B 158 [iLL l,iL x] (.int .i64 (indexOf l x)):=by
 refine ⟨fun H0=>c158 (by simp) fun ⟨hf,_⟩=>?_⟩
 have hl:=fine_mL_le hf;simp only [maxL] at hl;unfold s158;refine tt ?_;refine awp_for [0,1] (fun k _=>[(5,some (.int .i64 (k : Int)))]) (fun k _ H=>H=H0∧∀ i,i<k→l.getD i default≠x) l.length () ⟨rfl,by simp⟩ rfl ?_
 rintro k _ H hk ⟨rfl,hall⟩;refine tt ?_;apply bk <;> intro h1
 ·have h1:=of_decide h1
  have w1:=wsucc (k:=k) (by omega);refine tt ?_;refine ⟨h1,(l01Same_ok ..).go fun _=>?_⟩;refine tt ?_;apply bk <;> intro h2
  ·refine tt ?_
   have h2p:=dd h2;exact pure_ret (by rw [indexOf_hit h1 hall h2p]) (.refl _)
  ·refine tw w1 ?_
   have h2p:=dd h2;exact for_next () (by omega) ⟨rfl,lt_succ_all hall h2p⟩ rfl
 ·refine tt ?_
  have h1:=of_ndecide h1;exact pure_ret (by rw [indexOf_miss fun i hi=>hall i (by omega)]) (.refl _)
theorem l01Less_ok (B : Nat) (a b : List Int) : Pur Tryz.prog B 268 [iL a,iL b] (.bool (dec (cmp a b<0))):=by
 refine ⟨fun H0=>c268 (by simp) fun ⟨hf,hg,_⟩=>?_⟩
 have hl:=fine_mL_le hf
 have hl2:=fine_mL_le hg;simp only [maxL] at hl hl2;unfold s268;refine tt ?_;refine awp_for [0,1] (fun k _=>[(5,some (.int .i64 (k : Int)))]) (fun k _ H=>H=H0∧k≤b.length∧cmp a b=cmp (a.drop k) (b.drop k)) a.length () ⟨rfl,by simp,by simp⟩ rfl ?_
 rintro k _ H hk ⟨rfl,hkb,hc⟩;refine tt ?_;apply bk <;> intro h1
 ·have h1p:=of_decide h1
  have w1:=wsucc (k:=k) (by omega);refine tw h1 ?_;apply bk <;> intro h2
  ·have h2:=of_decide h2;refine tt ?_;refine ⟨h1p,h2, ?_⟩;rw [drop_cons a h1p,drop_cons b h2] at hc;refine tt ?_;apply bk <;> intro h4
   ·have h4p : a.getD k default≠b.getD k default:=by simpa using h4
    refine tt ?_;refine ⟨h1p,h2, ?_⟩;refine pure_ret ?_ (.refl _);rw [hc,cmp,if_neg h4p,decide_dec]
    congr 1
    refine dec_congr ?_
    split <;> omega
   ·have h4p : a.getD k default=b.getD k default:=by simpa using h4
    refine tw w1 ?_;refine for_next () (by omega) ⟨rfl,by omega, ?_⟩ rfl;rw [hc,cmp,if_pos h4p]
  ·have h2:=of_ndecide h2;refine tt ?_;refine pure_ret ?_ (.refl _);rw [hc,drop_cons a h1p,List.drop_of_length_le (show b.length≤k by omega),decide_dec]
   congr 1
   refine dec_congr ?_;simp only [cmp]; omega
 ·have h1p:=of_ndecide h1;refine tw h1 ?_;refine pure_ret ?_ (.refl _);rw [hc,List.drop_of_length_le (show a.length≤k by omega),decide_dec]
  congr 1
  refine dec_congr ?_
  by_cases h : a.length<b.length
  ·rw [drop_cons b (by omega)]; simp only [cmp]; omega
  ·rw [List.drop_of_length_le (by omega)]; simp only [cmp]; omega
theorem clones_ok (B : Nat) (l : List (List Int)) : Pur Tryz.prog B 209 [mL (mL iI) l] (mL (mL iI) l):=by
 refine ⟨fun H0=>c209 (by simp) fun ⟨hf,_⟩=>?_⟩
 have hl:=fine_mL_le hf;simp only [maxL] at hl;unfold s209;refine tt ?_;refine ⟨⟨by omega,by simp [maxL] <;> omega⟩,new_list (mL iI) (.nil _) fun id H o=>?_⟩
 refine tt ?_;refine tt ?_;refine awp_for [9,10] (G:=Nat × List (List Int)) (fun k g=>[(3,some (.buf g.1 g.2.length)),(11,some (.int .i64 (k : Int)))]) (fun k g H=>g.2=(l.take k)∧Owns H0 H [(g.1,.cells 1 (g.2.map (mL iI)) 0)]) l.length (id,[]) ⟨by simp,o⟩ rfl ?_
 rintro k ⟨id,out⟩ H hk ⟨hout,o⟩;dsimp only at hout;refine tt ?_;apply bk <;> intro h1
 ·have h1:=of_decide h1
  have w1:=wsucc (k:=k) (by omega);refine tt ?_;refine ⟨h1,(clone_ok ..).go fun _=>?_⟩;refine tt ?_;refine app_own (l.getD k default) o rfl rfl (by rw [hout]; simp [maxL] <;> omega) fun id H o=>?_
  refine tw w1 ?_;exact for_next (_,_) (by omega) ⟨by rw [hout,take_succ' l h1],o⟩ rfl
 ·refine tt ?_
  have h1:=of_ndecide h1;refine fz_own o rfl fun H o=>tt ?_;exact pure_ret (by rw [hout,List.take_of_length_le (by omega)]) o.sub
theorem l01Own2_ok (B : Nat) (l : List (List Int)) : Pur Tryz.prog B 208 [mL (mL iI) l] (mL (mL iI) l):=by
 refine ⟨fun H0=>c208 (by simp) fun ⟨hf,_⟩=>?_⟩
 have hl:=fine_mL_le hf;simp only [maxL] at hl;unfold s208;refine tt ?_;refine new_list (mL iI) (.nil _) fun id H o=>tt ?_;refine awp_for [0] (G:=Nat × List (List Int)) (fun k g=>[(3,some (.buf g.1 g.2.length)),(4,some (.int .i64 (k : Int)))]) (fun k g H=>g.2=(l.take k)∧Owns H0 H [(g.1,.cells 1 (g.2.map (mL iI)) 0)]) l.length (id,[]) ⟨by simp,o⟩ rfl ?_
 rintro k ⟨id,out⟩ H hk ⟨hout,o⟩;dsimp only at hout;refine tt ?_;apply bk <;> intro h1
 ·have h1:=of_decide h1
  have w1:=wsucc (k:=k) (by omega);refine tt ?_;refine ⟨h1,(l01Own_ok ..).go fun _=>?_⟩;refine tt ?_;refine app_own (l.getD k default) o rfl rfl (by rw [hout]; simp [maxL] <;> omega) fun id H o=>?_
  refine tw w1 ?_;exact for_next (_,_) (by omega) ⟨by rw [hout,take_succ' l h1],o⟩ rfl
 ·refine tt ?_
  have h1:=of_ndecide h1;refine fz_own o rfl fun H o=>tt ?_;exact pure_ret (by rw [hout,List.take_of_length_le (by omega)]) o.sub
theorem l01Then_ok (B : Nat) (f q : List Int) (hv : ∀ y,y∈f→0≤y∧y.toNat<q.length) : Pur Tryz.prog B 80 [iL f,iL q] (iL (f.map fun y=>ix q y)):=by
 refine ⟨fun H0=>c80 (by simp) fun ⟨hf,_⟩=>?_⟩
 have hl:=fine_mL_le hf;simp only [maxL] at hl;unfold s80;refine tt ?_;refine new_list iI (.nil _) fun id H o=>tt ?_;refine awp_for [0,1] (G:=Nat × List (Int)) (fun k g=>[(5,some (.buf g.1 g.2.length)),(6,some (.int .i64 (k : Int)))]) (fun k g H=>g.2=((f.take k).map fun y=>ix q y)∧Owns H0 H [(g.1,.cells 1 (g.2.map iI) 0)]) f.length (id,[]) ⟨by simp,o⟩ rfl ?_
 rintro k ⟨id,out⟩ H hk ⟨hout,o⟩;dsimp only at hout;refine tt ?_;apply bk <;> intro h1
 ·have h1:=of_decide h1
  have w1:=wsucc (k:=k) (by omega);refine tt ?_;refine ⟨h1,hv _ (mem_getD.mpr ⟨k,h1,rfl⟩), ?_⟩;refine app_own (ix q (f.getD k default)) o rfl rfl (by rw [hout]; simp [maxL] <;> omega) fun id H o=>?_
  refine tw w1 ?_;exact for_next (_,_) (by omega) ⟨by rw [hout,take_map_succ f _ h1],o⟩ rfl
 ·refine tt ?_
  have h1:=of_ndecide h1;refine fz_own o rfl fun H o=>tt ?_;exact pure_ret (by rw [hout,List.take_of_length_le (by omega)]) o.sub
theorem then_ok (B : Nat) (f q : List Int) (hv : ∀ y,y∈f→0≤y∧y.toNat<q.length) : Pur Tryz.prog B 74 [iL f,iL q] (iL (f.map fun y=>ix q y)):=by
 refine ⟨fun H0=>c74 (by simp) fun ⟨hf,_⟩=>?_⟩
 have hl:=fine_mL_le hf;simp only [maxL] at hl;unfold s74;refine tt ?_;refine ⟨by simp [maxL] <;> omega, ?_⟩
 refine mks_own iI (.nil _) fun id H o=>tt ?_;refine awp_for [1,5,11,12] (fun k _=>[(13,some (.int .i64 (k : Int)))]) (fun k _ H=>Owns H0 H [(id,.cells 1 (((f.take k).map fun y=>ix q y).map iI++List.replicate (f.length - k) (.int .i64 0)) 0)]) f.length () o rfl ?_
 rintro k _ H hk o
 have hlen : ((f.take k).map fun y=>ix q y).length=k:=by simp; omega
 refine tt ?_;apply bk <;> intro h1
 ·have h1:=of_decide h1
  have w1:=wsucc (k:=k) (by omega)
  have hsub : f.length - k=(f.length - (k+1))+1:=by omega
  rw [hsub] at o;refine tt ?_
  have hx:=hv _ (mem_getD.mpr ⟨k,h1,rfl⟩);refine ⟨h1,hx,by omega, ?_⟩;refine st_own (ix q (f.getD k default)) o rfl (by omega) fun H o=>?_;refine tw w1 ?_;exact for_next () (by omega) (by rw [take_map_succ f _ h1]; exact o) rfl
 ·refine tt ?_
  have h1:=of_ndecide h1
  have hsub : f.length - k=0:=by omega
  rw [hsub] at o;refine fz_made o (by omega) fun H o=>tt ?_;exact pure_ret (by rw [List.take_of_length_le (by omega)]) o.sub
theorem l02Own_ok (B : Nat) (c : Cat) : Pur Tryz.prog B 159 [.agg c.cells] (.agg c.cells):=by
 refine ⟨fun H0=>c159 (by simp) fun hf=>?_⟩;unfold s159;refine tt ?_;refine ⟨by simp [maxL],fun i1 n1=>?_⟩;refine tt ?_;refine ⟨_,(l01Own_ok ..).run,tt ?_⟩;refine ⟨_,(l01Own_ok ..).run,tt ?_⟩;refine ⟨_,(l01Own_ok ..).run,tt ?_⟩;refine ⟨_,(l01Own2_ok ..).run,tt ?_⟩;refine pure_ret rfl ?_
 repeat (first | exact .refl _ | refine sub_set ?_ n1)
theorem catCopy_ok (B : Nat) (c : Cat) : Pur Tryz.prog B 161 [.ptr c.cells] (.agg c.cells):=by
 refine ⟨fun H0=>c161 (by simp) fun hf=>?_⟩;unfold s161;refine tt ?_;refine ⟨by simp [maxL],fun i1 n1=>?_⟩;refine tt ?_;refine ⟨_,(clone_ok ..).run,tt ?_⟩;refine ⟨_,(clone_ok ..).run,tt ?_⟩;refine ⟨_,(clone_ok ..).run,tt ?_⟩;refine ⟨_,(clones_ok ..).run,tt ?_⟩;refine pure_ret rfl ?_
 repeat (first | exact .refl _ | refine sub_set ?_ n1)
theorem ends_ok (B : Nat) (c : Cat) (f : Int) (h1 : 0≤f∧f.toNat<c.frm.length) (h2 : f.toNat<c.to.length) : Pur Tryz.prog B 139 [.ptr c.cells,.int .i64 f] (.agg [.int .i64 (ix c.frm f),.int .i64 (ix c.to f)]):=by
 refine ⟨fun H0=>c139 (by simp) fun hf=>?_⟩;unfold s139;refine tt ?_;refine fun i1 n1=>tt ?_;refine ⟨h1,⟨h1.1,h2⟩,tt ?_⟩;refine pure_ret rfl ?_
 repeat (first | exact .refl _ | refine sub_set ?_ n1)
theorem arrows_ok (B : Nat) (c : Cat) : Pur Tryz.prog B 98 [.ptr c.cells] (.int .i64 c.frm.length):=by
 refine ⟨fun H0=>c98 (by simp) fun hf=>?_⟩;unfold s98;refine tt ?_;exact pure_ret rfl (.refl _)
theorem catThen_ok (B : Nat) (c : Cat) (f g : Int) (h1 : 0≤f∧f.toNat<c.comp.length) (h2 : 0≤g∧g.toNat<(ix c.comp f).length) :
  Pur Tryz.prog B 104 [.ptr c.cells,.int .i64 f,.int .i64 g] (.int .i64 (ix (ix c.comp f) g)):=by
 refine ⟨fun H0=>c104 (by simp) fun hf=>?_⟩;unfold s104;refine tt ?_;exact ⟨h1,h2,pure_ret rfl (.refl _)⟩
theorem l02Ends_ok (B : Nat) (l : List Int) (m : Nat) (n : Int) : Pur Tryz.prog B 201 [iL l,.int .i64 (m : Int),.int .i64 n] (.bool (dec (l.length=m∧∀ y,y∈l→0≤y∧y<n))):=by
 refine ⟨fun H0=>c201 (by simp) fun hf=>?_⟩;unfold s201;refine tt ?_;apply bk <;> intro h1
 ·refine tw h1 ?_
  have h1p : l.length=m:=of_decide h1;refine (l01Map_ok ..).go fun _=>tt ?_;exact pure_ret (by congr 1; exact dec_congr ⟨fun h=>⟨h1p,h⟩,fun h=>h.2⟩) (.refl _)
 ·refine tw h1 ?_
  have h1p : ¬ l.length=m:=of_ndecide h1;exact pure_ret (by rw [dec_f (fun h=>h1p h.1)]) (.refl _)
structure CellOk (c : Cat) (f g : Nat) : Prop where
 non : c.to.getD f default≠c.frm.getD g default→(c.comp.getD f default).getD g default=-1
 yes : c.to.getD f default=c.frm.getD g default →
  (0≤(c.comp.getD f default).getD g default∧(c.comp.getD f default).getD g default<c.frm.length) ∧
  ix c.frm ((c.comp.getD f default).getD g default)=c.frm.getD f default∧ix c.to ((c.comp.getD f default).getD g default)=c.to.getD g default
structure RowOk (c : Cat) (f : Nat) : Prop where
 row : (c.comp.getD f default).length=c.frm.length
 cell : ∀ g,g<c.frm.length→CellOk c f g
theorem IsShape_ok (B : Nat) (c : Cat) : Pur Tryz.prog B 142 [.agg c.cells] (.bool (dec c.Shape)):=by
 refine ⟨fun H0=>c142 (by simp) fun ⟨hf,_⟩=>?_⟩
 have hl:=fine_mL_le (hf.agg (c:=iL c.frm) (by simp [Cat.cells]))
 have hl2:=fine_mL_le (hf.agg (c:=iL c.idn) (by simp [Cat.cells]));simp only [maxL] at hl hl2;unfold s142;refine tt ?_;refine (l01In_ok ..).go fun _=>tt ?_;apply bn <;> intro h1
 rotate_left
 ·refine tw h1 ?_
  have h1p:=dd h1;exact pure_ret (by rw [dec_f]; intro s; exact h1p s.o) (.refl _)
 refine tw h1 ?_
 have h1p:=dd h1;apply bn <;> intro h2
 rotate_left
 ·refine tw h2 ?_
  have h2p:=dd h2;exact pure_ret (by rw [dec_f]; intro s; have:=s.m; omega) (.refl _)
 refine tw h2 ?_
 have h2p:=dd h2
 have h2q : c.frm.length≤40:=by omega
 refine (l02Ends_ok ..).go fun _=>tt ?_;apply bn <;> intro h3
 rotate_left
 ·refine tw h3 ?_
  have h3p:=dd h3;exact pure_ret (by rw [dec_f]; intro s; exact h3p s.frm) (.refl _)
 refine tw h3 ?_
 have h3p:=dd h3;refine (l02Ends_ok ..).go fun _=>tt ?_;apply bn <;> intro h4
 rotate_left
 ·refine tw h4 ?_
  have h4p:=dd h4;exact pure_ret (by rw [dec_f]; intro s; exact h4p ⟨s.tol,s.to⟩) (.refl _)
 refine tw h4 ?_
 have h4p:=dd h4;apply bk <;> intro h5
 ·refine tw h5 ?_
  have h5p:=dd h5;exact pure_ret (by rw [dec_f]; intro s; exact h5p s.cl) (.refl _)
 refine tw h5 ?_
 have h5p:=dd h5;apply bn <;> intro h6
 rotate_left
 ·refine tw h6 ?_
  have h6p:=dd h6;exact pure_ret (by rw [dec_f]; intro s; exact h6p s.il) (.refl _)
 refine tw h6 ?_
 have h6p:=dd h6;refine (l01Map_ok ..).go fun _=>tt ?_;apply bk <;> intro h7
 ·refine tw h7 ?_
  have h7p:=dd h7;exact pure_ret (by rw [dec_f]; intro s; exact h7p s.idn) (.refl _)
 refine tw h7 ?_
 have h7p:=dd h7;refine awp_for [1,3] (fun k _=>[(4,some (.int .i64 (k : Int)))]) (fun k _ H=>H=H0∧∀ i,i<k→ix c.frm (c.idn.getD i default)=i∧ix c.to (c.idn.getD i default)=i) c.idn.length () ⟨rfl,by simp⟩ rfl ?_
 rintro k _ H hk ⟨rfl,hall⟩;refine tt ?_;apply bk <;> intro g1
 ·have g1p:=dd g1
  have w1:=wsucc (k:=k) (by omega)
  have hk1 : k<c.idn.length:=by omega
  have hx:=h7p _ (mem_getD.mpr ⟨k,hk1,rfl⟩);refine tt ?_;refine ⟨hk1,⟨hx.1,by omega⟩, ?_⟩;apply bn <;> intro g2
  rotate_left
  ·refine tw g2 ?_
   have g2p:=dd g2;exact pure_ret (by rw [dec_f]; intro s; exact g2p (s.ide k hk1).1) (.refl _)
  refine tw g2 ?_
  have g2p:=dd g2;refine ⟨hk1,⟨hx.1,by omega⟩, ?_⟩;apply bk <;> intro g3
  ·refine tw g3 ?_
   have g3p:=dd g3;exact pure_ret (by rw [dec_f]; intro s; exact g3p (s.ide k hk1).2) (.refl _)
  try simp only [go_sem,↓reduceIte,reduceEqDiff,reduceAdd,reduceMul,reduceLeDiff,reduceLT,g3,w1]
  have g3p:=dd g3;exact for_next () hk1 ⟨rfl,lt_succ_all hall ⟨g2p,g3p⟩⟩ rfl
 have g1p:=dd g1
 have hkk : k=c.idn.length:=by omega
 subst hkk;refine tt ?_;refine awp_for [1,3] (fun k _=>[(5,some (.int .i64 (k : Int)))]) (fun k _ H'=>H'=H∧∀ f,f<k→RowOk c f) c.frm.length () ⟨rfl,by simp⟩ rfl ?_
 rintro f _ H' hfm ⟨rfl,hrow⟩;refine tt ?_;apply bk <;> intro g2
 rotate_left
 ·refine tw g2 ?_
  have g2p:=dd g2
  have hff : f=c.frm.length:=by omega
  subst hff;refine pure_ret ?_ (.refl _);rw [dec_t];exact ⟨h1p,by omega,h3p,h4p.1,h4p.2,h5p,h6p,h7p,hall,fun f hf=>(hrow f hf).row,fun f g hf hg=>((hrow f hf).cell g hg).non,fun f g hf hg=>((hrow f hf).cell g hg).yes⟩
 have g2p:=dd g2
 have wf:=wsucc (k:=f) (by omega)
 have hfc : f<c.comp.length:=by omega
 have hft : f<c.to.length:=by omega
 refine tt ?_;refine ⟨hfc, ?_⟩;apply bk <;> intro g3
 ·refine tw g3 ?_
  have g3p:=dd g3;exact pure_ret (by rw [dec_f]; intro s; exact g3p (s.row f g2p)) (.refl _)
 refine tw g3 ?_
 have g3p:=dd g3;refine awp_for [1,3,5] (fun k _=>[(6,some (.int .i64 (k : Int)))]) (fun k _ H=>H=H'∧∀ g,g<k→CellOk c f g) c.frm.length () ⟨rfl,by simp⟩ rfl ?_
 rintro g _ H hgm ⟨rfl,hcell⟩;refine tt ?_;apply bk <;> intro g4
 rotate_left
 ·try simp only [go_sem,↓reduceIte,reduceEqDiff,reduceAdd,reduceMul,reduceLeDiff,reduceLT,g4,wf]
  have g4p:=dd g4
  have hff : g=c.frm.length:=by omega
  subst hff;exact for_next () g2p ⟨rfl,lt_succ_all hrow ⟨g3p,hcell⟩⟩ rfl
 have g4p:=dd g4
 have wg:=wsucc (k:=g) (by omega)
 have hgr : g<(c.comp.getD f default).length:=by omega
 refine tt ?_;refine ⟨hfc,hgr,hft,g4p, ?_⟩;apply bk <;> intro g5
 ·have g5p:=dd g5;refine tt ?_;apply bk <;> intro g6
  ·refine tt ?_
   have g6p:=dd g6;exact pure_ret (by rw [dec_f]; intro s; exact g6p (s.non f g g2p g4p g5p)) (.refl _)
  ·have g6p:=dd g6;refine tw wg ?_;exact for_next () g4p ⟨rfl,lt_succ_all hcell ⟨fun _=>g6p,fun e=>absurd e g5p⟩⟩ rfl
 have g5p:=dd g5
 have hbad : ¬ ((0≤(c.comp.getD f default).getD g default∧(c.comp.getD f default).getD g default<c.frm.length) ∧
  ix c.frm ((c.comp.getD f default).getD g default)=c.frm.getD f default∧ix c.to ((c.comp.getD f default).getD g default)=c.to.getD g default)→dec c.Shape=false :=
  fun h=>dec_f fun s=>h (s.yes f g g2p g4p g5p)
 refine tt ?_;apply bn <;> intro g6
 rotate_left
 ·refine tw g6 ?_
  have g6p:=dd g6;exact pure_ret (by rw [hbad]; intro h; omega) (.refl _)
 refine tw g6 ?_
 have g6p:=dd g6;apply bn <;> intro g7
 rotate_left
 ·refine tw g7 ?_
  have g7p:=dd g7;exact pure_ret (by rw [hbad]; intro h; omega) (.refl _)
 refine tw g7 ?_
 have g7p:=dd g7;refine ⟨⟨g6p,by omega⟩,g2p, ?_⟩;apply bn <;> intro g8
 rotate_left
 ·refine tw g8 ?_
  have g8p:=dd g8;exact pure_ret (by rw [hbad]; intro h; exact g8p h.2.1) (.refl _)
 refine tw g8 ?_
 have g8p:=dd g8;refine ⟨⟨g6p,by omega⟩,by omega, ?_⟩;apply bk <;> intro g9
 ·refine tw g9 ?_
  have g9p:=dd g9;exact pure_ret (by rw [hbad]; intro h; exact g9p h.2.2) (.refl _)
 try simp only [go_sem,↓reduceIte,reduceEqDiff,reduceAdd,reduceMul,reduceLeDiff,reduceLT,g9,wg]
 have g9p:=dd g9;exact for_next () g4p ⟨rfl,lt_succ_all hcell ⟨fun h=>absurd g5p h,fun _=>⟨⟨g6p,by omega⟩,g8p,g9p⟩⟩⟩ rfl
theorem isShape_ok (B : Nat) (c : Cat) : Pur Tryz.prog B 146 [.ptr c.cells] (.bool (dec c.Shape)):=by
 refine ⟨fun H0=>c146 (by simp) fun ⟨hf,_⟩=>?_⟩
 have hl:=fine_mL_le (hf.ptr (c:=iL c.frm) (by simp [Cat.cells]))
 have hl2:=fine_mL_le (hf.ptr (c:=iL c.idn) (by simp [Cat.cells]))
 have hl3:=fine_mL_le (hf.ptr (c:=iLL c.comp) (by simp [Cat.cells]));simp only [maxL] at hl hl2 hl3;unfold s146;refine tt ?_;refine (arrows_ok B c).go fun _=>tt ?_;refine ⟨_,(inRange_ok ..).run,tt ?_⟩;apply bn <;> intro h1
 rotate_left
 ·refine tw h1 ?_
  have h1p:=dd h1;exact pure_ret (by rw [dec_f]; intro s; exact h1p s.o) (.refl _)
 refine tw h1 ?_
 have h1p:=dd h1;apply bn <;> intro h2
 rotate_left
 ·refine tw h2 ?_
  have h2p:=dd h2;exact pure_ret (by rw [dec_f]; intro s; have:=s.m; omega) (.refl _)
 refine tw h2 ?_
 have h2p:=dd h2
 have h2q : c.frm.length≤40:=by omega
 apply bn <;> intro h3
 rotate_left
 ·refine tw h3 ?_
  have h3p:=dd h3;exact pure_ret (by rw [dec_f]; intro s; exact h3p s.tol) (.refl _)
 refine tw h3 ?_
 have h3p:=dd h3;refine ⟨_,(within_ok B c.frm c.objs (by omega)).run,tt ?_⟩;apply bn <;> intro h4
 rotate_left
 ·refine tw h4 ?_
  have h4p:=dd h4;exact pure_ret (by rw [dec_f]; intro s; exact h4p s.frm) (.refl _)
 refine tw h4 ?_
 have h4p:=dd h4;refine ⟨_,(within_ok B c.to c.objs (by omega)).run,tt ?_⟩;apply bk <;> intro h5
 ·refine tw h5 ?_
  have h5p:=dd h5;exact pure_ret (by rw [dec_f]; intro s; exact h5p s.to) (.refl _)
 refine tw h5 ?_
 have h5p:=dd h5;apply bn <;> intro h6
 rotate_left
 ·refine tw h6 ?_
  have h6p:=dd h6;exact pure_ret (by rw [dec_f]; intro s; exact h6p s.il) (.refl _)
 refine tw h6 ?_
 have h6p:=dd h6;refine ⟨_,(within_ok B c.idn c.frm.length (by omega)).run,tt ?_⟩;apply bn <;> intro h7
 rotate_left
 ·refine tw h7 ?_
  have h7p:=dd h7;exact pure_ret (by rw [dec_f]; intro s; exact h7p s.idn) (.refl _)
 refine tw h7 ?_
 have h7p:=dd h7;apply bk <;> intro h8
 ·refine tw h8 ?_
  have h8p:=dd h8;exact pure_ret (by rw [dec_f]; intro s; exact h8p s.cl) (.refl _)
 refine tw h8 ?_
 have h8p:=dd h8;refine awp_for [0,3,86,87] (fun k _=>[(88,some (.int .i64 (k : Int)))]) (fun k _ H=>H=H0∧∀ i,i<k→ix c.frm (c.idn.getD i default)=i∧ix c.to (c.idn.getD i default)=i) c.idn.length () ⟨rfl,by simp⟩ rfl ?_
 rintro k _ H hk ⟨rfl,hall⟩;refine tt ?_;apply bk <;> intro g1
 ·have g1p:=dd g1
  have w1:=wsucc (k:=k) (by omega)
  have hx:=h7p _ (mem_getD.mpr ⟨k,g1p,rfl⟩);refine tt ?_;refine ⟨g1p,(ends_ok B c (c.idn.getD k default) ⟨hx.1,by omega⟩ (by omega)).go fun _=>?_⟩;refine tt ?_;apply bk <;> intro g2
  ·refine tw g2 ?_
   have g2p:=dd g2;exact pure_ret (by rw [dec_f]; intro s; exact g2p (s.ide k g1p)) (.refl _)
  try simp only [go_sem,↓reduceIte,reduceEqDiff,reduceAdd,reduceMul,reduceLeDiff,reduceLT,g2,w1]
  have g2p:=dd g2;exact for_next () g1p ⟨rfl,lt_succ_all hall g2p⟩ rfl
 have g1p:=dd g1
 have hkk : k=c.idn.length:=by omega
 subst hkk;refine tt ?_;refine awp_for [0,3,104,105] (fun k _=>[(106,some (.int .i64 (k : Int)))]) (fun k _ H'=>H'=H∧∀ f,f<k→RowOk c f) c.comp.length () ⟨rfl,by simp⟩ rfl ?_
 rintro f _ H' hfm ⟨rfl,hrow⟩;refine tt ?_;apply bk <;> intro g2
 rotate_left
 ·refine tw g2 ?_
  have g2p:=dd g2
  have hff : f=c.frm.length:=by omega
  subst hff;refine pure_ret ?_ (.refl _);rw [dec_t];exact ⟨h1p,by omega,h4p,h3p,h5p,h8p,h6p,h7p,hall,fun f hf=>(hrow f hf).row,fun f g hf hg=>((hrow f hf).cell g hg).non,fun f g hf hg=>((hrow f hf).cell g hg).yes⟩
 have g2p:=dd g2
 have wf:=wsucc (k:=f) (by omega)
 have hff : f<c.frm.length:=by omega
 have hft : f<c.to.length:=by omega
 refine tt ?_;refine ⟨g2p, ?_⟩;apply bk <;> intro g3
 ·refine tw g3 ?_
  have g3p:=dd g3;exact pure_ret (by rw [dec_f]; intro s; exact g3p (s.row f hff)) (.refl _)
 refine tw g3 ?_
 have g3p:=dd g3;refine awp_for [0,3,6,104,105,106,115,116] (fun k _=>[(117,some (.int .i64 (k : Int)))]) (fun k _ H=>H=H'∧∀ g,g<k→CellOk c f g) (c.comp.getD f default).length () ⟨rfl,by simp⟩ rfl ?_
 rintro g _ H hgm ⟨rfl,hcell⟩;refine tt ?_;apply bk <;> intro g4
 rotate_left
 ·try simp only [go_sem,↓reduceIte,reduceEqDiff,reduceAdd,reduceMul,reduceLeDiff,reduceLT,g4,wf]
  have g4p:=dd g4
  have hge : g=c.frm.length:=by omega
  subst hge;exact for_next () g2p ⟨rfl,lt_succ_all hrow ⟨g3p,hcell⟩⟩ rfl
 have g4p:=dd g4
 have wg:=wsucc (k:=g) (by omega)
 have hgf : g<c.frm.length:=by omega
 refine tt ?_;refine ⟨g4p,hft,hgf, ?_⟩;apply bk <;> intro g5
 ·have g5p:=dd g5;refine tt ?_;apply bk <;> intro g6
  ·refine tt ?_
   have g6p:=dd g6;exact pure_ret (by rw [dec_f]; intro s; exact g6p (s.non f g hff hgf g5p)) (.refl _)
  ·have g6p:=dd g6;refine tw wg ?_;exact for_next () g4p ⟨rfl,lt_succ_all hcell ⟨fun _=>g6p,fun e=>absurd e g5p⟩⟩ rfl
 have g5p:=dd g5
 have hbad : ¬ ((0≤(c.comp.getD f default).getD g default∧(c.comp.getD f default).getD g default<c.frm.length) ∧
  ix c.frm ((c.comp.getD f default).getD g default)=c.frm.getD f default∧ix c.to ((c.comp.getD f default).getD g default)=c.to.getD g default)→dec c.Shape=false :=
  fun h=>dec_f fun s=>h (s.yes f g hff hgf g5p)
 have wn : IntKind.i64.wrap ((c.frm.length : Int) - 1)=(c.frm.length : Int) - 1:=wrap_i64 (by omega) (by omega);refine tw wn ?_;refine ⟨_,(inRange_ok ..).run,tt ?_⟩;apply bn <;> intro g6
 rotate_left
 ·refine tw g6 ?_
  have g6p:=dd g6;exact pure_ret (by rw [hbad]; intro h; omega) (.refl _)
 refine tw g6 ?_
 have g6p:=dd g6;refine ⟨_,(ends_ok B c _ ⟨g6p.1,by omega⟩ (by omega)).run,hff,by omega,tt ?_⟩;apply bk <;> intro g7
 ·refine tw g7 ?_
  have g7p:=dd g7;exact pure_ret (by rw [hbad]; intro h; exact g7p h.2) (.refl _)
 try simp only [go_sem,↓reduceIte,reduceEqDiff,reduceAdd,reduceMul,reduceLeDiff,reduceLT,g7,wg]
 have g7p:=dd g7;exact for_next () g4p ⟨rfl,lt_succ_all hcell ⟨fun h=>absurd g5p h,fun _=>⟨⟨g6p.1,by omega⟩,g7p⟩⟩⟩ rfl
theorem l02Fault_ok (B : Nat) (c : Cat) (s : c.Shape) (H0 : Heap) : CallH Tryz.prog B 143 [.agg c.cells] H0 (faultK c.Laws H0):=by
 refine c143 (by simp) fun ⟨hf,_⟩=>?_
 have hm:=s.m
 have hcl:=s.cl
 have htl:=s.tol;unfold s143;refine tt ?_;refine awp_for [1,6] (fun k _=>[(7,some (.int .i64 (k : Int)))]) (fun k _ H=>H=H0∧∀ f,f<k→c.IdAt f) c.frm.length () ⟨rfl,by simp⟩ rfl ?_
 rintro f _ H hfm ⟨rfl,hid⟩;refine tt ?_;apply bk <;> intro g1
 ·have g1p:=dd g1
  have wf:=wsucc (k:=f) (by omega)
  have a1:=s.frm' g1p
  have a2:=s.id' a1.2
  have a3:=s.row' a2.2
  have b1:=s.to' g1p
  have b2:=s.id' b1.2
  have b3:=s.row f g1p;refine tt ?_;refine ⟨g1p,a1,⟨a2.1,by omega⟩,by omega, ?_⟩;apply bn <;> intro g2
  rotate_left
  ·refine tw g2 ?_
   have g2p:=dd g2;exact fault_ret (by constructor; (intro h; cases h); intro l; exact absurd (l.idl f g1p).1 g2p) (.refl _)
  refine tw g2 ?_
  have g2p:=dd g2;refine ⟨by omega,by omega,b1,⟨b2.1,by omega⟩, ?_⟩;apply bk <;> intro g3
  ·refine tw g3 ?_
   have g3p:=dd g3;exact fault_ret (by constructor; (intro h; cases h); intro l; exact absurd (l.idl f g1p).2 g3p) (.refl _)
  try simp only [go_sem,↓reduceIte,reduceEqDiff,reduceAdd,reduceMul,reduceLeDiff,reduceLT,g3,wf]
  have g3p:=dd g3;exact for_next () g1p ⟨rfl,lt_succ_all hid ⟨g2p,g3p⟩⟩ rfl
 have g1p:=dd g1
 have hff : f=c.frm.length:=by omega
 subst hff;refine tt ?_;refine awp_for [1,6] (fun k _=>[(8,some (.int .i64 (k : Int)))]) (fun k _ H'=>H'=H∧∀ f,f<k→∀ g,g<c.frm.length→∀ h,h<c.frm.length→c.AssocAt f g h) c.frm.length () ⟨rfl,by simp⟩ rfl ?_
 rintro f _ H' hfm ⟨rfl,hF⟩;refine tt ?_;apply bk <;> intro g1
 rotate_left
 ·refine tt ?_
  have g1p:=dd g1;exact fault_ret (by simp only [true_iff]; exact ⟨hid,fun f g h hf hg hh=>hF f (by omega) g hg h hh⟩) (.refl _)
 have g1p:=dd g1
 have wf:=wsucc (k:=f) (by omega)
 have rf:=s.row f g1p;refine tt ?_;refine awp_for [1,6,8] (fun k _=>[(9,some (.int .i64 (k : Int)))]) (fun k _ H=>H=H'∧∀ g,g<k→∀ h,h<c.frm.length→c.AssocAt f g h) c.frm.length () ⟨rfl,by simp⟩ rfl ?_
 rintro g _ H hgm ⟨rfl,hG⟩;refine tt ?_;apply bk <;> intro g2
 rotate_left
 ·refine tw wf ?_
  have g2p:=dd g2;exact for_next () g1p ⟨rfl,lt_succ_all hF fun g hg=>hG g (by omega)⟩ rfl
 have g2p:=dd g2
 have wg:=wsucc (k:=g) (by omega)
 have rg:=s.row g g2p;refine tt ?_;refine ⟨by omega,g2p, ?_⟩;apply bk <;> intro g3
 ·refine tw wg ?_
  have g3p:=dd g3;exact for_next () g2p ⟨rfl,lt_succ_all hG fun h hh e=>absurd e g3p⟩ rfl
 have g3p:=dd g3;refine tt ?_;refine awp_for [1,6,8,9] (fun k _=>[(10,some (.int .i64 (k : Int)))]) (fun k _ H'=>H'=H∧∀ h,h<k→c.AssocAt f g h) c.frm.length () ⟨rfl,by simp⟩ rfl ?_
 rintro h _ H' hhm ⟨rfl,hA⟩;refine tt ?_;apply bk <;> intro g4
 rotate_left
 ·refine tw wg ?_
  have g4p:=dd g4;exact for_next () g2p ⟨rfl,lt_succ_all hG fun h hh=>hA h (by omega)⟩ rfl
 have g4p:=dd g4
 have wh:=wsucc (k:=h) (by omega);refine tt ?_;refine ⟨by omega,g4p, ?_⟩;apply bk <;> intro g5
 ·refine tw g5 ?_
  have g5p:=dd g5
  have c1:=(s.pos g1p g2p).mpr g3p
  have c2:=s.lt g1p g2p
  have c3:=s.row' c2
  have d1:=(s.pos g2p g4p).mpr g5p
  have d2:=s.lt g2p g4p;refine ⟨by omega,by omega,⟨c1,by omega⟩,by omega,by omega,by omega,by omega,⟨d1,by omega⟩, ?_⟩;apply bk <;> intro g6
  ·refine tw g6 ?_
   have g6p:=dd g6;exact fault_ret (by constructor; (intro h; cases h); intro l; exact absurd (l.assoc f g h g1p g2p g4p g3p g5p) g6p) (.refl _)
  ·try simp only [go_sem,↓reduceIte,reduceEqDiff,reduceAdd,reduceMul,reduceLeDiff,reduceLT,g6,wh]
   have g6p:=dd g6;exact for_next () g4p ⟨rfl,lt_succ_all hA fun _ _=>g6p⟩ rfl
 ·try simp only [go_sem,↓reduceIte,reduceEqDiff,reduceAdd,reduceMul,reduceLeDiff,reduceLT,g5,wh]
  have g5p:=dd g5;exact for_next () g4p ⟨rfl,lt_succ_all hA fun _ e=>absurd e g5p⟩ rfl
theorem l02Is_ok (B : Nat) (c : Cat) : Pur Tryz.prog B 63 [.agg c.cells] (.bool (dec c.Is)):=by
 refine ⟨fun H0=>c63 (by simp) fun hf=>?_⟩;unfold s63;refine tt ?_;refine (IsShape_ok B c).go fun _=>tt ?_;apply bk <;> intro h1
 ·refine tt ?_
  have h1p:=dd h1;exact pure_ret (by rw [dec_f]; intro s; exact h1p s.1) (.refl _)
 have h1p:=dd h1;refine tt ?_;refine (l02Fault_ok B c h1p H0).mono' ?_
 rintro _ _ _ ⟨rfl,k,a,b,d,rfl,hk⟩;refine tt ?_;exact pure_ret (by rw [decide_dec]; congr 1; exact dec_congr ⟨fun h=>⟨h1p,hk.mp h⟩,fun h=>hk.mpr h.2⟩) (.refl _)
theorem ix_nat2 {α : Type} [Inhabited α] (l : List α) (k : Nat) : ix l (k : Int)=l.getD k default:=ix_nat l k
theorem fault_ok (B : Nat) (c : Cat) (s : c.Shape) (H0 : Heap) : CallH Tryz.prog B 147 [.ptr c.cells] H0 (faultK c.Laws H0):=by
 refine c147 (by simp) fun ⟨hf,_⟩=>?_
 have hm:=s.m
 have hcl:=s.cl
 have htl:=s.tol;unfold s147;refine tt ?_;refine (arrows_ok B c).go fun _=>tt ?_;refine awp_for [0,6] (fun k _=>[(7,some (.int .i64 (k : Int)))]) (fun k _ H=>H=H0∧∀ f,f<k→c.IdAt f) c.frm.length () ⟨rfl,by simp⟩ rfl ?_
 rintro f _ H hfm ⟨rfl,hid⟩;refine tt ?_;apply bk <;> intro g1
 ·have g1p:=dd g1
  have wf:=wsucc (k:=f) (by omega)
  have a1:=s.frm' g1p
  have a2:=s.id' a1.2
  have a3:=s.row' a2.2
  have b1:=s.to' g1p
  have b2:=s.id' b1.2
  have b3:=s.row f g1p;refine tt ?_;refine ⟨g1p,a1,_,(catThen_ok B c _ _ ⟨a2.1,by omega⟩ ⟨by omega,by omega⟩).run,tt ?_⟩;apply bn <;> intro g2
  rotate_left
  ·refine tw g2 ?_
   have g2p:=dd g2;exact fault_ret (by constructor; (intro h; cases h); intro l; exact absurd (l.idl f g1p).1 g2p) (.refl _)
  refine tw g2 ?_
  have g2p:=dd g2;refine ⟨by omega,b1,_,(catThen_ok B c f _ ⟨by omega,by omega⟩ ⟨b2.1,by rw [ix_nat2]; omega⟩).run,tt ?_⟩;apply bk <;> intro g3
  ·refine tw g3 ?_
   have g3p:=dd g3;exact fault_ret (by constructor; (intro h; cases h); intro l; exact absurd (l.idl f g1p).2 g3p) (.refl _)
  try simp only [go_sem,↓reduceIte,reduceEqDiff,reduceAdd,reduceMul,reduceLeDiff,reduceLT,g3,wf]
  have g3p:=dd g3;exact for_next () g1p ⟨rfl,lt_succ_all hid ⟨g2p,g3p⟩⟩ rfl
 have g1p:=dd g1
 have hff : f=c.frm.length:=by omega
 subst hff;refine tt ?_;refine awp_for [0,6] (fun k _=>[(8,some (.int .i64 (k : Int)))]) (fun k _ H'=>H'=H∧∀ f,f<k→∀ g,g<c.frm.length→∀ h,h<c.frm.length→c.AssocAt f g h) c.frm.length () ⟨rfl,by simp⟩ rfl ?_
 rintro f _ H' hfm ⟨rfl,hF⟩;refine tt ?_;apply bk <;> intro g1
 rotate_left
 ·refine tt ?_
  have g1p:=dd g1;exact fault_ret (by simp only [true_iff]; exact ⟨hid,fun f g h hf hg hh=>hF f (by omega) g hg h hh⟩) (.refl _)
 have g1p:=dd g1
 have wf:=wsucc (k:=f) (by omega)
 have rf:=s.row f g1p;refine tt ?_;refine awp_for [0,6,8] (fun k _=>[(9,some (.int .i64 (k : Int)))]) (fun k _ H=>H=H'∧∀ g,g<k→∀ h,h<c.frm.length→c.AssocAt f g h) c.frm.length () ⟨rfl,by simp⟩ rfl ?_
 rintro g _ H hgm ⟨rfl,hG⟩;refine tt ?_;apply bk <;> intro g2
 rotate_left
 ·refine tw wf ?_
  have g2p:=dd g2;exact for_next () g1p ⟨rfl,lt_succ_all hF fun g hg=>hG g (by omega)⟩ rfl
 have g2p:=dd g2
 have wg:=wsucc (k:=g) (by omega)
 have rg:=s.row g g2p;refine tt ?_;refine (catThen_ok B c f g ⟨by omega,by omega⟩ ⟨by omega,by rw [ix_nat2]; omega⟩).go fun _=>tt ?_;apply bk <;> intro g3
 ·refine tw wg ?_
  have g3p:=dd g3;exact for_next () g2p ⟨rfl,lt_succ_all hG fun h hh e=>by have:=(s.pos g1p g2p).mpr e; omega⟩ rfl
 have g3p:=dd g3
 have g3q:=(s.pos g1p g2p).mp g3p;refine tt ?_;refine awp_for [0,6,8,9] (fun k _=>[(10,some (.int .i64 (k : Int)))]) (fun k _ H'=>H'=H∧∀ h,h<k→c.AssocAt f g h) c.frm.length () ⟨rfl,by simp⟩ rfl ?_
 rintro h _ H' hhm ⟨rfl,hA⟩;refine tt ?_;apply bk <;> intro g4
 rotate_left
 ·refine tw wg ?_
  have g4p:=dd g4;exact for_next () g2p ⟨rfl,lt_succ_all hG fun h hh=>hA h (by omega)⟩ rfl
 have g4p:=dd g4
 have wh:=wsucc (k:=h) (by omega);refine tt ?_;refine (catThen_ok B c g h ⟨by omega,by omega⟩ ⟨by omega,by rw [ix_nat2]; omega⟩).go fun _=>tt ?_;apply bk <;> intro g5
 ·refine tw g5 ?_
  have g5p:=dd g5
  have g5q:=(s.pos g2p g4p).mp g5p
  have c2:=s.lt g1p g2p
  have c3:=s.row' c2
  have d2:=s.lt g2p g4p;refine (catThen_ok B c f g ⟨by omega,by omega⟩ ⟨by omega,by rw [ix_nat2]; omega⟩).go fun _=>tt ?_;refine (catThen_ok B c _ h ⟨g3p,by omega⟩ ⟨by omega,by omega⟩).go fun _=>tt ?_;refine (catThen_ok B c g h ⟨by omega,by omega⟩ ⟨by omega,by rw [ix_nat2]; omega⟩).go fun _=>tt ?_;refine (catThen_ok B c f _ ⟨by omega,by omega⟩ ⟨g5p,by rw [ix_nat2]; omega⟩).go fun _=>tt ?_;apply bk <;> intro g6
  ·refine tw g6 ?_
   have g6p:=dd g6;exact fault_ret (by constructor; (intro h; cases h); intro l; exact absurd (l.assoc f g h g1p g2p g4p g3q g5q) g6p) (.refl _)
  ·try simp only [go_sem,↓reduceIte,reduceEqDiff,reduceAdd,reduceMul,reduceLeDiff,reduceLT,g6,wh]
   have g6p:=dd g6;exact for_next () g4p ⟨rfl,lt_succ_all hA fun _ _=>g6p⟩ rfl
 ·try simp only [go_sem,↓reduceIte,reduceEqDiff,reduceAdd,reduceMul,reduceLeDiff,reduceLT,g5,wh]
  have g5p:=dd g5;exact for_next () g4p ⟨rfl,lt_succ_all hA fun _ e=>by have:=(s.pos g2p g4p).mpr e; omega⟩ rfl
theorem isCategory_ok (B : Nat) (c : Cat) : Pur Tryz.prog B 67 [.ptr c.cells] (.bool (dec c.Is)):=by
 refine ⟨fun H0=>c67 (by simp) fun hf=>?_⟩;unfold s67;refine tt ?_;refine (isShape_ok B c).go fun _=>tt ?_;apply bk <;> intro h1
 ·refine tt ?_
  have h1p:=dd h1;exact pure_ret (by rw [dec_f]; intro s; exact h1p s.1) (.refl _)
 have h1p:=dd h1;refine tt ?_;refine (fault_ok B c h1p H0).mono' ?_
 rintro _ _ _ ⟨rfl,k,a,b,d,rfl,hk⟩;refine tt ?_;exact pure_ret (by rw [decide_dec]; congr 1; exact dec_congr ⟨fun h=>⟨h1p,hk.mp h⟩,fun h=>hk.mpr h.2⟩) (.refl _)
def OwnK {α : Type} (f : α→AV) (H0 : Heap) (l : List (Nat × MObj)) (Q : List α→Prop) : Kont:=fun r H'=>∃ id A,r=.buf id A.length∧Owns H0 H' ((id,.cells 1 (A.map f) 0)::l)∧Q A
theorem own_ret {α : Type} {f : α→AV} {H0 H : Heap} {l : List (Nat × MObj)} {Q : List α→Prop} {id n : Nat} {A : List α} (o : Owns H0 H ((id,.cells 1 (A.map f) 0)::l)) (hn : n=A.length) (hq : Q A) :
  subW (OwnK f H0 l Q) (.buf id n) H:=⟨H,.refl H,id,A,by rw [hn],o,hq⟩
end Go.Proofs.Shf
namespace Go.AW
open Go.Proofs Go.Shf Go.Proofs.Shf
theorem CallH.own {P : Program} {α : Type} {f : α→AV} {B : Nat} {fn : FuncId} {args : List AV} {H0 H : Heap} {l : List (Nat × MObj)} {Q : List α→Prop} {K : Kont} (h : CallH P B fn args H (OwnK f H0 l Q))
  (hk : ∀ id A H',Owns H0 H' ((id,.cells 1 (A.map f) 0)::l)→Q A→K (.buf id A.length) H') : CallH P B fn args H K :=
 h.mono fun r H' ⟨id,A,e,o,q⟩=>by subst e; exact hk id A H' o q
end Go.AW
namespace Go.Proofs.Shf
open Go.AW Go.Proofs Go.Shf
theorem l01Own_own (B : Nat) (l : List Int) (H0 H : Heap) (r : List (Nat × MObj)) (o : Owns H0 H r) : CallH Tryz.prog B 118 [iL l] H (OwnK iI H0 r (·=l)):=by
 refine c118p (by simp) fun ⟨hf,_⟩=>?_
 have hl:=fine_mL_le hf;unfold s118p;refine tt ?_;refine new_list iI o fun id H o=>tt ?_;refine app_list (f:=iI) o rfl (by simpa using hl) fun id H o=>tt ?_;exact own_ret o rfl rfl
theorem clone_own (B : Nat) (l : List Int) (H0 H : Heap) (r : List (Nat × MObj)) (o : Owns H0 H r) : CallH Tryz.prog B 162 [iL l] H (OwnK iI H0 r (·=l)):=by
 refine c162p (by simp) fun ⟨hf,_⟩=>?_
 have hl:=fine_mL_le hf;unfold s162p;refine tt ?_;refine new_list iI o fun id H o=>tt ?_;refine app_list (f:=iI) o rfl (by simpa using hl) fun id H o=>tt ?_;exact own_ret o rfl rfl
end Go.Proofs.Shf
namespace Go.AW
open Go.Proofs Go.Shf Go.Proofs.Shf
theorem Owns.rc {H0 H : Heap} {l : List (Nat × MObj)} {id sz fr : Nat} {cs : List AV} (o : Owns H0 H ((id,.cells sz cs fr)::l)) (n off : Nat) (h : off+n≤cs.length) : rc1 (some n) off (H.get id)=some (.agg ((cs.drop off).take n)):=by
 have h0:=o.h0;simp only at h0;rw [h0,rc1_n,if_pos h]
end Go.AW
namespace Go.Proofs.Shf
open Go.AW Go.Proofs Go.Shf
end Go.Proofs.Shf
