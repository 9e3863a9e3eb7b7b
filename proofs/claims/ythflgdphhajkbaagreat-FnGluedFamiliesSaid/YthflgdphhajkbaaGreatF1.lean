/- Contracts of functions over abstract values, part 1. -/
import Derived.Test.YthflgdphhajkbaaGreatA4
import Derived.Test.YthflgdphhajkbaaGreatD
import Derived.Test.YthflgdphhajkbaaGreatE
set_option linter.unusedVariables false
set_option linter.unusedSimpArgs false
set_option linter.unusedSectionVars false
open Nat (reduceEqDiff reduceAdd reduceMul reduceLeDiff reduceLT)
namespace Go.Proofs.Shf
open Go.AW
theorem pC {l r : Ob} (h : ∀ x,@List.count _ (@instBEqOfDecidableEq _ (Classical.typeDecidableEq _)) x l=@List.count _ (@instBEqOfDecidableEq _ (Classical.typeDecidableEq _)) x r) : l.Perm r:=by
 letI : DecidableEq (Nat × MObj):=Classical.typeDecidableEq _
 exact List.perm_iff_count.mpr h
end Go.Proofs.Shf
namespace Go.AW
theorem tt {P Q : Prop} (h : Q) (e : P=Q:=by (try simp only [go_sem,↓reduceIte,Nat.reduceEqDiff,Nat.reduceAdd,Nat.reduceMul,Nat.reduceLeDiff,Nat.reduceLT]); exact rfl) : P:=Eq.mpr e h
theorem tw {A P Q : Prop} (w : A) (h : Q) (e : A→P=Q:=by intro w; (try simp only [go_sem,↓reduceIte,Nat.reduceEqDiff,Nat.reduceAdd,Nat.reduceMul,Nat.reduceLeDiff,Nat.reduceLT,w]); exact rfl) : P:=Eq.mpr (e w) h
theorem ta {P Q : Prop} (h : Q) (e : P=Q:=by (try simp only [go_sem,↓reduceIte,Nat.reduceEqDiff,Nat.reduceAdd,Nat.reduceMul,Nat.reduceLeDiff,Nat.reduceLT, *]); exact rfl) : P:=Eq.mpr e h
theorem dTr {p : Decidable True} : @decide True p=true:=@decide_eq_true True p trivial
theorem td {P Q : Prop} (h : Q) (e : P=Q:=by (try simp only [go_sem,↓reduceIte,Nat.reduceEqDiff,Nat.reduceAdd,Nat.reduceMul,Nat.reduceLeDiff,Nat.reduceLT,dTr]); exact rfl) : P:=Eq.mpr e h
theorem bk {σ : Env} {H : Heap} {c : Bool} {P Q : Env→Heap→Prop} (h1 : c=true→P σ H) (h2 : c=false→Q σ H) : Br c (At P σ H) (At Q σ H):=⟨fun e=>At.mk (h1 e),fun e=>At.mk (h2 e)⟩
theorem bn {σ : Env} {H : Heap} {c : Bool} {P Q : Env→Heap→Prop} (h1 : c=false→P σ H) (h2 : c=true→Q σ H) : Bn c (At P σ H) (At Q σ H):=⟨fun e=>At.mk (h1 e),fun e=>At.mk (h2 e)⟩
theorem dd {P Q : Prop} (h : P) (e : P=Q:=by (try simp only [bnt,bnf,decide_eq_true_eq,decide_eq_false_iff_not,dect,decf,Int.not_lt,Int.not_le,Nat.not_lt,Decidable.not_not,ne_eq,Bool.true_eq_false,Bool.false_eq_true]); exact rfl) : Q:=Eq.mp e h
theorem Owns.pm {H0 H : Heap} {l l' : Ob} (o : Owns H0 H l) (e : ∀ x,@List.count _ (@instBEqOfDecidableEq _ (Classical.typeDecidableEq _)) x l=@List.count _ (@instBEqOfDecidableEq _ (Classical.typeDecidableEq _)) x l':=by intro x; (try dsimp only); simp only [List.append_eq,List.count_append,List.count_cons,List.count_nil,List.map_nil,List.length_nil,List.length_append,List.length_cons,List.length_set,Nat.zero_add,List.nil_append,iI,iL]; omega) : Owns H0 H l':=o.perm (Go.Proofs.Shf.pC e)
theorem sw {H0 H : Heap} {l : Ob} {K : Kont} {id sz off n : Nat} {cs vs cs' : List AV} (o : Owns H0 H ((id,.cells sz cs 0)::l)) (hk : ∀ H',Owns H0 H' ((id,.cells sz cs' 0)::l)→K nv H')
 (e : wr cs off vs=cs':=by simp only [wr_cons,wr_nil,List.set_cons_zero,List.set_cons_succ]; exact rfl) (h1 : off+n≤cs.length:=by simp) (h2 : vs.length=n:=by (try simp only [go_sem]); (try simp))
 (h3 : ∀ c,c∈vs→c.one=true:=by first | (simp only [go_sem]; done) | ((try simp only [go_sem]); simp [AV.one,one_mL])) : st1 (H.get id) id off n vs K H:=st_cells o h1 h2 h3 fun H' o=>hk H' (e ▸ o)
theorem nb {A : Prop} {H0 H : Heap} {l : Ob} {K : Kont} {sz : Nat} {cs : List AV} (o : Owns H0 H l) (hk : ∀ id H',Owns H0 H' ((id,.cells sz cs 0)::l)→K (.ref id 0) H') (h : A:=by first | trivial | simp [maxL]) : A∧newRef sz cs K H:=⟨h,newRef_own o hk⟩
end Go.AW
namespace Go.Proofs.Shf
open Go.AW Go.Proofs
theorem inRange_ok (B : Nat) (n lo hi : Int) : Pur Tryz.prog B 164 [.int .i64 n,.int .i64 lo,.int .i64 hi] (.bool (dec (lo≤n∧n≤hi))):=by
 refine ⟨fun H=>c164.go fun _=>?_⟩;refine ta ?_;apply bk <;> intro h1
 all_goals (try simp only [go_sem,↓reduceIte,reduceEqDiff,reduceAdd,reduceMul,reduceLeDiff,reduceLT, *])
 ·exact pure_ret (by rw [← decide_dec]; simp at h1; simp [h1]) (.refl _)
 ·exact pure_ret (by rw [← decide_dec]; simp at h1; simp; omega) (.refl _)
theorem l01In_ok (B : Nat) (n lo hi : Int) : Pur Tryz.prog B 225 [.int .i64 n,.int .i64 lo,.int .i64 hi] (.bool (dec (lo≤n∧n≤hi))):=by
 refine ⟨fun H=>c225.go fun _=>?_⟩;refine ta ?_;apply bk <;> intro h1
 all_goals (try simp only [go_sem,↓reduceIte,reduceEqDiff,reduceAdd,reduceMul,reduceLeDiff,reduceLT, *])
 ·exact pure_ret (by rw [← decide_dec]; simp at h1; simp [h1]) (.refl _)
 ·exact pure_ret (by rw [← decide_dec]; simp at h1; simp; omega) (.refl _)
theorem within_ok (B : Nat) (l : List Int) (n : Int) (hn : -9223372036854775808<n∧n≤9223372036854775807): Pur Tryz.prog B 212 [iL l,.int .i64 n] (.bool (dec (∀ y,y∈l→0≤y∧y<n))):=by
 refine ⟨fun H0=>c212.go fun ⟨hf,_⟩=>?_⟩
 have hl:=fine_mL_le hf;simp only [maxL] at hl
 have w : IntKind.i64.wrap (n - 1)=n - 1:=wrap_i64 (by omega) (by omega);refine ta ?_;refine awp_for [1,7,8] (fun k _=>[(9,some (.int .i64 (k : Int)))]) (fun k _ H=>H=H0∧∀ i,i<k→0≤l.getD i default∧l.getD i default<n) l.length () ⟨rfl,by simp⟩ rfl ?_
 rintro k _ H hk ⟨rfl,hall⟩;refine ta ?_;apply bk <;> intro h1
 ·have h1:=of_decide h1
  have w1:=wsucc (k:=k) (by omega);refine ta ?_;refine (inRange_ok ..).go fun _=>?_;refine ta ?_;apply bk <;> intro h2
  ·refine ta ?_
   have h2p:=dd h2;refine pure_ret ?_ (.refl _);rw [dec_f]; intro h
   have:=h _ (mem_getD.mpr ⟨k,h1,rfl⟩);omega
  ·refine ta ?_
   have h2p:=dd h2;exact for_next () (by omega) ⟨rfl,lt_succ_all hall (by omega)⟩ rfl
 ·refine ta ?_
  have h1:=of_ndecide h1;exact pure_ret (by rw [dec_t]; exact all_getD.mpr fun i hi=>hall i (by omega)) (.refl _)
theorem l01Map_ok (B : Nat) (l : List Int) (n : Int) : Pur Tryz.prog B 227 [.int .i64 n,iL l] (.bool (dec (∀ y,y∈l→0≤y∧y<n))):=by
 refine ⟨fun H0=>c227.go fun ⟨_,hf,_⟩=>?_⟩
 have hl:=fine_mL_le hf;simp only [maxL] at hl;refine ta ?_;refine awp_for [0,1] (fun k _=>[(5,some (.int .i64 (k : Int)))]) (fun k _ H=>H=H0∧∀ i,i<k→0≤l.getD i default∧l.getD i default<n) l.length () ⟨rfl,by simp⟩ rfl ?_
 rintro k _ H hk ⟨rfl,hall⟩;refine ta ?_;apply bk <;> intro h1
 ·have h1:=of_decide h1
  have w1:=wsucc (k:=k) (by omega);refine ta ?_
  have hn : l.getD k default<0∨n≤l.getD k default→¬ ∀ y,y∈l→0≤y∧y<n:=fun hc h=>by
   have:=h _ (mem_getD.mpr ⟨k,h1,rfl⟩); omega
  apply bn <;> intro h2
  ·refine ta ?_;apply bk <;> intro h3
   ·refine ta ?_
    have h3p:=dd h3;exact pure_ret (by rw [dec_f (hn (.inr h3p))]) (.refl _)
   ·refine ta ?_
    have h2p:=dd h2
    have h3p:=dd h3;exact for_next () (by omega) ⟨rfl,lt_succ_all hall (by omega)⟩ rfl
  ·refine ta ?_
   have h2p:=dd h2;exact pure_ret (by rw [dec_f (hn (.inl h2p))]) (.refl _)
 ·refine ta ?_
  have h1:=of_ndecide h1;exact pure_ret (by rw [dec_t]; exact all_getD.mpr fun i hi=>hall i (by omega)) (.refl _)
theorem has_ok (B : Nat) (l : List Int) (n : Int) : Pur Tryz.prog B 230 [iL l,.int .i64 n] (.bool (dec (n∈l))):=by
 refine ⟨fun H0=>c230.go fun ⟨hf,_⟩=>?_⟩
 have hl:=fine_mL_le hf;simp only [maxL] at hl;refine ta ?_;refine awp_for [1,7,8] (fun k _=>[(9,some (.int .i64 (k : Int)))]) (fun k _ H=>H=H0∧∀ i,i<k→l.getD i default≠n) l.length () ⟨rfl,by simp⟩ rfl ?_
 rintro k _ H hk ⟨rfl,hall⟩;refine ta ?_;apply bk <;> intro h1
 ·have h1:=of_decide h1
  have w1:=wsucc (k:=k) (by omega);refine ta ?_;apply bk <;> intro h2
  ·refine ta ?_;exact pure_ret (by rw [dec_t]; exact mem_getD.mpr ⟨k,h1,of_decide h2⟩) (.refl _)
  ·refine ta ?_;exact for_next () h1 ⟨rfl,lt_succ_all hall (of_ndecide h2)⟩ rfl
 ·refine ta ?_
  have h1:=of_ndecide h1;exact pure_ret (by rw [dec_f]; intro h; obtain ⟨i,hi,e⟩:=mem_getD.mp h; exact hall i (by omega) e) (.refl _)
theorem l01Has_ok (B : Nat) (l : List Int) (n : Int) : Pur Tryz.prog B 140 [iL l,.int .i64 n] (.bool (dec (n∈l))):=by
 refine ⟨fun H0=>c140.go fun ⟨hf,_⟩=>?_⟩
 have hl:=fine_mL_le hf;simp only [maxL] at hl;refine ta ?_;refine awp_for [0,1] (fun k _=>[(5,some (.int .i64 (k : Int)))]) (fun k _ H=>H=H0∧∀ i,i<k→l.getD i default≠n) l.length () ⟨rfl,by simp⟩ rfl ?_
 rintro k _ H hk ⟨rfl,hall⟩;refine ta ?_;apply bk <;> intro h1
 ·have h1:=of_decide h1
  have w1:=wsucc (k:=k) (by omega);refine ta ?_;apply bk <;> intro h2
  ·refine ta ?_;exact pure_ret (by rw [dec_t]; exact mem_getD.mpr ⟨k,h1,of_decide h2⟩) (.refl _)
  ·refine ta ?_;exact for_next () h1 ⟨rfl,lt_succ_all hall (of_ndecide h2)⟩ rfl
 ·refine ta ?_
  have h1:=of_ndecide h1;exact pure_ret (by rw [dec_f]; intro h; obtain ⟨i,hi,e⟩:=mem_getD.mp h; exact hall i (by omega) e) (.refl _)
theorem l01Index_ok (B : Nat) (l : List Int) (n : Int) : Pur Tryz.prog B 63 [iL l,.int .i64 n] (.int .i64 (indexOf l n)):=by
 refine ⟨fun H0=>c63.go fun ⟨hf,_⟩=>?_⟩
 have hl:=fine_mL_le hf;simp only [maxL] at hl;refine ta ?_;refine awp_for [0,1] (fun k _=>[(5,some (.int .i64 (k : Int)))]) (fun k _ H=>H=H0∧∀ i,i<k→l.getD i default≠n) l.length () ⟨rfl,by simp⟩ rfl ?_
 rintro k _ H hk ⟨rfl,hall⟩;refine ta ?_;apply bk <;> intro h1
 ·have h1:=of_decide h1
  have w1:=wsucc (k:=k) (by omega);refine ta ?_;apply bk <;> intro h2
  ·refine ta ?_;exact pure_ret (by rw [indexOf_hit h1 hall (of_decide h2)]) (.refl _)
  ·refine ta ?_;exact for_next () h1 ⟨rfl,lt_succ_all hall (of_ndecide h2)⟩ rfl
 ·refine ta ?_
  have h1:=of_ndecide h1;exact pure_ret (by rw [indexOf_miss fun i hi=>hall i (by omega)]) (.refl _)
theorem slIndex_ok (B : Nat) (l : List Int) (n : Int) : Pur Tryz.prog B 219 [iL l,.int .i64 n] (.int .i64 (indexOf l n)):=by
 refine ⟨fun H0=>c219.go fun ⟨hf,_⟩=>?_⟩
 have hl:=fine_mL_le hf;simp only [maxL] at hl;refine ta ?_;refine awp_for [0,1,7] (fun k _=>[(8,some (.int .i64 (k : Int)))]) (fun k _ H=>H=H0∧∀ i,i<k→l.getD i default≠n) l.length () ⟨rfl,by simp⟩ rfl ?_
 rintro k _ H hk ⟨rfl,hall⟩;refine ta ?_;apply bk <;> intro h1
 ·have h1:=of_decide h1
  have w1:=wsucc (k:=k) (by omega);refine ta ?_;apply bk <;> intro h2
  ·refine ta ?_;exact pure_ret (by rw [indexOf_hit h1 hall (of_decide h2).symm]) (.refl _)
  ·refine ta ?_;exact for_next () h1 ⟨rfl,lt_succ_all hall fun e=>of_ndecide h2 e.symm⟩ rfl
 ·refine ta ?_
  have h1:=of_ndecide h1;exact pure_ret (by rw [indexOf_miss fun i hi=>hall i (by omega)]) (.refl _)
theorem index_ok (B : Nat) (l : List Int) (n : Int) : Pur Tryz.prog B 134 [iL l,.int .i64 n] (.int .i64 (indexOf l n)):=by
 refine ⟨fun H0=>c134.go fun ⟨hf,_⟩=>?_⟩;refine ta ?_;refine (slIndex_ok ..).go fun _=>?_
 have hl:=fine_mL_le hf;simp only [maxL] at hl
 have hb:=indexOf_bd l n
 have w : IntKind.i64.wrap (indexOf l n)=indexOf l n:=wrap_i64 (by omega) (by omega);refine ta ?_;exact pure_ret rfl (.refl _)
theorem clone_ok (B : Nat) (l : List Int) : Pur Tryz.prog B 221 [iL l] (iL l):=by
 refine ⟨fun H0=>c221.go fun ⟨hf,_⟩=>?_⟩
 have hl:=fine_mL_le hf;refine ta ?_;refine new_list iI (.nil _) fun id H o=>?_;refine ta ?_;refine app_list o rfl (by simpa using hl) fun id H o=>?_;refine ta ?_;refine fz_own o rfl fun H o=>?_;refine ta ?_;exact pure_ret (by simp) o.sub
theorem l01Own_ok (B : Nat) (l : List Int) : Pur Tryz.prog B 84 [iL l] (iL l):=by
 refine ⟨fun H0=>c84.go fun ⟨hf,_⟩=>?_⟩
 have hl:=fine_mL_le hf;refine ta ?_;refine new_list iI (.nil _) fun id H o=>?_;refine ta ?_;refine app_list o rfl (by simpa using hl) fun id H o=>?_;refine ta ?_;refine fz_own o rfl fun H o=>?_;refine ta ?_;exact pure_ret (by simp) o.sub
end Go.Proofs.Shf
namespace Go.Proofs.Shf
open Go.AW Go.Proofs Go.Shf
theorem rising_ok (B : Nat) (l : List Int) : Pur Tryz.prog B 245 [iL l] (.bool (dec (Rising l))):=by
 refine ⟨fun H0=>c245.go fun ⟨hf,_⟩=>?_⟩
 have hl:=fine_mL_le hf;simp only [maxL] at hl;refine ta ?_;refine awp_for [0] (fun k _=>[(3,some (.int .i64 ((k+1 : Nat) : Int)))]) (fun k _ H=>H=H0∧∀ i,i<k→i+1<l.length∧l.getD i default<l.getD (i+1) default) l.length () ⟨rfl,by simp⟩ rfl ?_
 rintro k _ H hk ⟨rfl,hall⟩;refine ta ?_;apply bk <;> intro h1
 ·have h1:=of_decide h1
  have w1:=wsucc (k:=k+1) (by omega)
  have w2:=wpred (k:=k+1) (by omega) (by omega);rw [Nat.add_sub_cancel] at w2;try simp only [go_sem,↓reduceIte,reduceEqDiff,reduceAdd,reduceMul,reduceLeDiff,reduceLT,w1,w2]
  refine ⟨by omega,by omega, ?_⟩;refine ta ?_;apply bk <;> intro h2
  ·refine ta ?_
   have h2p:=dd h2;refine pure_ret ?_ (.refl _);rw [dec_f]; intro h
   have:=h (k+1) (by omega) h1;simp only [Nat.add_sub_cancel] at this;omega
  ·try simp only [go_sem,↓reduceIte,reduceEqDiff,reduceAdd,reduceMul,reduceLeDiff,reduceLT,w1,w2]
   have h2p:=dd h2;exact for_next () (by omega) ⟨rfl,lt_succ_all hall ⟨h1,by omega⟩⟩ rfl
 ·refine ta ?_
  have h1:=of_ndecide h1;refine pure_ret ?_ (.refl _);rw [dec_t]; intro i h0 hi
  obtain ⟨j,rfl⟩ : ∃ j,i=j+1:=⟨i - 1,by omega⟩;exact (hall j (by omega)).2
theorem l02Rises_ok (B : Nat) (l : List Int) : Pur Tryz.prog B 239 [iL l] (.bool (dec (Rising l))):=by
 refine ⟨fun H0=>c239.go fun ⟨hf,_⟩=>?_⟩
 have hl:=fine_mL_le hf;simp only [maxL] at hl;refine ta ?_;refine awp_for [0] (fun k _=>[(3,some (.int .i64 ((k+1 : Nat) : Int)))]) (fun k _ H=>H=H0∧∀ i,i<k→i+1<l.length∧l.getD i default<l.getD (i+1) default) l.length () ⟨rfl,by simp⟩ rfl ?_
 rintro k _ H hk ⟨rfl,hall⟩;refine ta ?_;apply bk <;> intro h1
 ·have h1:=of_decide h1
  have w1:=wsucc (k:=k+1) (by omega)
  have w2:=wpred (k:=k+1) (by omega) (by omega);rw [Nat.add_sub_cancel] at w2;try simp only [go_sem,↓reduceIte,reduceEqDiff,reduceAdd,reduceMul,reduceLeDiff,reduceLT,w1,w2]
  refine ⟨by omega,by omega, ?_⟩;refine ta ?_;apply bk <;> intro h2
  ·refine ta ?_
   have h2p:=dd h2;refine pure_ret ?_ (.refl _);rw [dec_f]; intro h
   have:=h (k+1) (by omega) h1;simp only [Nat.add_sub_cancel] at this;omega
  ·try simp only [go_sem,↓reduceIte,reduceEqDiff,reduceAdd,reduceMul,reduceLeDiff,reduceLT,w1,w2]
   have h2p:=dd h2;exact for_next () (by omega) ⟨rfl,lt_succ_all hall ⟨h1,by omega⟩⟩ rfl
 ·refine ta ?_
  have h1:=of_ndecide h1;refine pure_ret ?_ (.refl _);rw [dec_t]; intro i h0 hi
  obtain ⟨j,rfl⟩ : ∃ j,i=j+1:=⟨i - 1,by omega⟩;exact (hall j (by omega)).2
theorem compare_ok (B : Nat) (a b : List Int) : Pur Tryz.prog B 247 [iL a,iL b] (.int .i64 (cmp a b)):=by
 refine ⟨fun H0=>c247.go fun ⟨hf,hg,_⟩=>?_⟩
 have hl:=fine_mL_le hf
 have hl2:=fine_mL_le hg;simp only [maxL] at hl hl2;refine tt ?_;refine awp_for [0,1,7] (fun k _=>[(8,some (.int .i64 (k : Int)))]) (fun k _ H=>H=H0∧k≤b.length∧cmp a b=cmp (a.drop k) (b.drop k)) a.length () ⟨rfl,by simp,by simp⟩ rfl ?_
 rintro k _ H hk ⟨rfl,hkb,hc⟩;refine tt ?_;apply bk <;> intro h1
 ·have h1:=of_decide h1
  have w1:=wsucc (k:=k) (by omega)
  have da:=drop_cons a h1;rw [da] at hc;refine tt ?_;apply bk <;> intro h2
  ·refine tt ?_
   have h2:=of_decide h2;refine pure_ret ?_ (.refl _);rw [hc,List.drop_of_length_le (show b.length≤k by omega)]; rfl
  ·have h2:=of_ndecide h2
   have h3 : k<b.length:=by omega
   have db:=drop_cons b h3;rw [db] at hc;refine tt ?_;refine ⟨h1,h3,tt ?_⟩;apply bk <;> intro h4
   ·have h4p : a.getD k default≠b.getD k default:=by simpa using h4
    refine tt ?_;refine ⟨h1,h3,tt ?_⟩;apply bk <;> intro h5
    ·refine tt ?_
     have h5:=of_decide h5;refine pure_ret ?_ (.refl _);rw [hc,cmp,if_neg h4p,if_pos h5]
    ·refine tt ?_
     have h5:=of_ndecide h5;refine pure_ret ?_ (.refl _);rw [hc,cmp,if_neg h4p,if_neg h5]
   ·have h4p : a.getD k default=b.getD k default:=by simpa using h4
    refine tw w1 ?_;refine for_next () (by omega) ⟨rfl,by omega, ?_⟩ rfl;rw [hc,cmp,if_pos h4p]
 ·refine tt ?_
  have h1:=of_ndecide h1;rw [List.drop_of_length_le (by omega)] at hc;apply bk <;> intro h2
  ·refine tt ?_
   have h2:=of_decide h2;refine pure_ret ?_ (.refl _);rw [hc,drop_cons b (by omega)]; rfl
  ·refine tt ?_
   have h2:=of_ndecide h2;refine pure_ret ?_ (.refl _);rw [hc,List.drop_of_length_le (by omega)]; rfl
theorem same_ok (B : Nat) (a b : List Int) : Pur Tryz.prog B 167 [iL a,iL b] (.bool (dec (a=b))):=by
 refine ⟨fun H0=>c167.go fun _=>?_⟩;refine ta ?_;refine (compare_ok ..).go fun _=>?_;refine ta ?_;exact pure_ret (by rw [decide_dec,dec_congr cmp_zero]) (.refl _)
theorem l01Same_ok (B : Nat) (a b : List Int) : Pur Tryz.prog B 170 [iL a,iL b] (.bool (dec (a=b))):=by
 refine ⟨fun H0=>c170.go fun ⟨hf,hg,_⟩=>?_⟩
 have hl:=fine_mL_le hf
 have hl2:=fine_mL_le hg;simp only [maxL] at hl hl2;refine tt ?_;apply bk <;> intro h0
 ·refine tt ?_
  have h0p : a.length≠b.length:=by simpa using h0
  exact pure_ret (by rw [dec_f]; rintro rfl; exact h0p rfl) (.refl _)
 have h0p : a.length=b.length:=by simpa using h0
 refine tt ?_;refine awp_for [0,1] (fun k _=>[(5,some (.int .i64 (k : Int)))]) (fun k _ H=>H=H0∧∀ i,i<k→a.getD i default=b.getD i default) a.length () ⟨rfl,by simp⟩ rfl ?_
 rintro k _ H hk ⟨rfl,hall⟩;refine tt ?_;apply bk <;> intro h1
 ·have h1:=of_decide h1
  have w1:=wsucc (k:=k) (by omega);refine tt ?_;refine ⟨h1,by omega,tt ?_⟩;apply bk <;> intro h2
  ·refine tt ?_
   have h2p : a.getD k default≠b.getD k default:=by simpa using h2
   exact pure_ret (by rw [dec_f]; rintro rfl; exact h2p rfl) (.refl _)
  ·refine tw w1 ?_
   have h2p : a.getD k default=b.getD k default:=by simpa using h2
   exact for_next () (by omega) ⟨rfl,lt_succ_all hall h2p⟩ rfl
 ·refine tt ?_
  have h1:=of_ndecide h1;refine pure_ret ?_ (.refl _);rw [dec_t];refine List.ext_getElem h0p fun i hi hj=>?_
  have:=hall i (by omega)
  simpa [List.getD_eq_getElem?_getD,hi,hj] using this
theorem l01Same2_ok (B : Nat) (a b : List (List Int)) : Pur Tryz.prog B 259 [iLL a,iLL b] (.bool (dec (a=b))):=by
 refine ⟨fun H0=>c259.go fun ⟨hf,hg,_⟩=>?_⟩
 have hl:=fine_mL_le hf
 have hl2:=fine_mL_le hg;simp only [maxL] at hl hl2;refine tt ?_;apply bk <;> intro h0
 ·refine tt ?_
  have h0p : a.length≠b.length:=by simpa using h0
  exact pure_ret (by rw [dec_f]; rintro rfl; exact h0p rfl) (.refl _)
 have h0p : a.length=b.length:=by simpa using h0
 refine tt ?_;refine awp_for [0,1] (fun k _=>[(5,some (.int .i64 (k : Int)))]) (fun k _ H=>H=H0∧∀ i,i<k→a.getD i default=b.getD i default) a.length () ⟨rfl,by simp⟩ rfl ?_
 rintro k _ H hk ⟨rfl,hall⟩;refine tt ?_;apply bk <;> intro h1
 ·have h1:=of_decide h1
  have w1:=wsucc (k:=k) (by omega);refine tt ?_;refine ⟨h1,by omega,_,(l01Same_ok ..).run,tt ?_⟩;apply bk <;> intro h2
  ·refine tt ?_
   have h2p:=dd h2;exact pure_ret (by rw [dec_f]; rintro rfl; exact h2p rfl) (.refl _)
  ·refine tw w1 ?_
   have h2p:=dd h2;exact for_next () (by omega) ⟨rfl,lt_succ_all hall h2p⟩ rfl
 ·refine tt ?_
  have h1:=of_ndecide h1;refine pure_ret ?_ (.refl _);rw [dec_t];refine List.ext_getElem h0p fun i hi hj=>?_
  have:=hall i (by omega)
  simpa [List.getD_eq_getElem?_getD,hi,hj] using this
theorem l09Find_ok (B : Nat) (l : List (List Int)) (x : List Int) : Pur Tryz.prog B 184 [iLL l,iL x] (.int .i64 (indexOf l x)):=by
 refine ⟨fun H0=>c184.go fun ⟨hf,_⟩=>?_⟩
 have hl:=fine_mL_le hf;simp only [maxL] at hl;refine tt ?_;refine awp_for [0,1] (fun k _=>[(5,some (.int .i64 (k : Int)))]) (fun k _ H=>H=H0∧∀ i,i<k→l.getD i default≠x) l.length () ⟨rfl,by simp⟩ rfl ?_
 rintro k _ H hk ⟨rfl,hall⟩;refine tt ?_;apply bk <;> intro h1
 ·have h1:=of_decide h1
  have w1:=wsucc (k:=k) (by omega);refine tt ?_;refine ⟨h1,(l01Same_ok ..).go fun _=>?_⟩;refine tt ?_;apply bk <;> intro h2
  ·refine tt ?_
   have h2p:=dd h2;exact pure_ret (by rw [indexOf_hit h1 hall h2p]) (.refl _)
  ·refine tw w1 ?_
   have h2p:=dd h2;exact for_next () (by omega) ⟨rfl,lt_succ_all hall h2p⟩ rfl
 ·refine tt ?_
  have h1:=of_ndecide h1;exact pure_ret (by rw [indexOf_miss fun i hi=>hall i (by omega)]) (.refl _)
theorem l05Place_ok (B : Nat) (l : List (List Int)) (x : List Int) : Pur Tryz.prog B 282 [iLL l,iL x] (.int .i64 (indexOf l x)):=by
 refine ⟨fun H0=>c282.go fun ⟨hf,_⟩=>?_⟩
 have hl:=fine_mL_le hf;simp only [maxL] at hl;refine tt ?_;refine awp_for [0,1] (fun k _=>[(5,some (.int .i64 (k : Int)))]) (fun k _ H=>H=H0∧∀ i,i<k→l.getD i default≠x) l.length () ⟨rfl,by simp⟩ rfl ?_
 rintro k _ H hk ⟨rfl,hall⟩;refine tt ?_;apply bk <;> intro h1
 ·have h1:=of_decide h1
  have w1:=wsucc (k:=k) (by omega);refine tt ?_;refine ⟨h1,(l01Same_ok ..).go fun _=>?_⟩;refine tt ?_;apply bk <;> intro h2
  ·refine tt ?_
   have h2p:=dd h2;exact pure_ret (by rw [indexOf_hit h1 hall h2p]) (.refl _)
  ·refine tw w1 ?_
   have h2p:=dd h2;exact for_next () (by omega) ⟨rfl,lt_succ_all hall h2p⟩ rfl
 ·refine tt ?_
  have h1:=of_ndecide h1;exact pure_ret (by rw [indexOf_miss fun i hi=>hall i (by omega)]) (.refl _)
theorem l01Less_ok (B : Nat) (a b : List Int) : Pur Tryz.prog B 199 [iL a,iL b] (.bool (dec (cmp a b<0))):=by
 refine ⟨fun H0=>c199.go fun ⟨hf,hg,_⟩=>?_⟩
 have hl:=fine_mL_le hf
 have hl2:=fine_mL_le hg;simp only [maxL] at hl hl2;refine tt ?_;refine awp_for [0,1] (fun k _=>[(5,some (.int .i64 (k : Int)))]) (fun k _ H=>H=H0∧k≤b.length∧cmp a b=cmp (a.drop k) (b.drop k)) a.length () ⟨rfl,by simp,by simp⟩ rfl ?_
 rintro k _ H hk ⟨rfl,hkb,hc⟩;refine tt ?_;apply bk <;> intro h1
 ·have h1p:=of_decide h1
  have w1:=wsucc (k:=k) (by omega);refine tw h1 ?_;apply bk <;> intro h2
  ·have h2:=of_decide h2;refine tt ?_;refine ⟨h1p,h2, ?_⟩;rw [drop_cons a h1p,drop_cons b h2] at hc;refine tt ?_;apply bk <;> intro h4
   ·have h4p : a.getD k default≠b.getD k default:=by simpa using h4
    refine tt ?_;refine ⟨h1p,h2, ?_⟩;refine pure_ret ?_ (.refl _);rw [hc,cmp,if_neg h4p,decide_dec]
    congr 1
    refine dec_congr ?_
    split <;> omega
   ·have h4p : a.getD k default=b.getD k default:=by simpa using h4
    refine tw w1 ?_;refine for_next () (by omega) ⟨rfl,by omega, ?_⟩ rfl;rw [hc,cmp,if_pos h4p]
  ·have h2:=of_ndecide h2;refine tt ?_;refine pure_ret ?_ (.refl _);rw [hc,drop_cons a h1p,List.drop_of_length_le (show b.length≤k by omega),decide_dec]
   congr 1
   refine dec_congr ?_;simp only [cmp]; omega
 ·have h1p:=of_ndecide h1;refine tw h1 ?_;refine pure_ret ?_ (.refl _);rw [hc,List.drop_of_length_le (show a.length≤k by omega),decide_dec]
  congr 1
  refine dec_congr ?_
  by_cases h : a.length<b.length
  ·rw [drop_cons b (by omega)]; simp only [cmp]; omega
  ·rw [List.drop_of_length_le (by omega)]; simp only [cmp]; omega
theorem clones_ok (B : Nat) (l : List (List Int)) : Pur Tryz.prog B 179 [mL (mL iI) l] (mL (mL iI) l):=by
 refine ⟨fun H0=>c179.go fun ⟨hf,_⟩=>?_⟩
 have hl:=fine_mL_le hf;simp only [maxL] at hl;refine tt ?_;refine ⟨⟨by omega,by simp [maxL] <;> omega⟩,new_list (mL iI) (.nil _) fun id H o=>?_⟩
 refine tt ?_;refine tt ?_;refine awp_for [9,10] (G:=Nat × List (List Int)) (fun k g=>[(3,some (.buf g.1 g.2.length)),(11,some (.int .i64 (k : Int)))]) (fun k g H=>g.2=(l.take k)∧Owns H0 H [(g.1,.cells 1 (g.2.map (mL iI)) 0)]) l.length (id,[]) ⟨by simp,o⟩ rfl ?_
 rintro k ⟨id,out⟩ H hk ⟨hout,o⟩;dsimp only at hout;refine tt ?_;apply bk <;> intro h1
 ·have h1:=of_decide h1
  have w1:=wsucc (k:=k) (by omega);refine tt ?_;refine ⟨h1,(clone_ok ..).go fun _=>?_⟩;refine tt ?_;refine app_own (l.getD k default) o rfl rfl (by rw [hout]; simp [maxL] <;> omega) fun id H o=>?_
  refine tw w1 ?_;exact for_next (_,_) (by omega) ⟨by rw [hout,take_succ' l h1],o⟩ rfl
 ·refine tt ?_
  have h1:=of_ndecide h1;refine fz_own o rfl fun H o=>tt ?_;exact pure_ret (by rw [hout,List.take_of_length_le (by omega)]) o.sub
theorem l01Own2_ok (B : Nat) (l : List (List Int)) : Pur Tryz.prog B 183 [mL (mL iI) l] (mL (mL iI) l):=by
 refine ⟨fun H0=>c183.go fun ⟨hf,_⟩=>?_⟩
 have hl:=fine_mL_le hf;simp only [maxL] at hl;refine tt ?_;refine new_list (mL iI) (.nil _) fun id H o=>tt ?_;refine awp_for [0] (G:=Nat × List (List Int)) (fun k g=>[(3,some (.buf g.1 g.2.length)),(4,some (.int .i64 (k : Int)))]) (fun k g H=>g.2=(l.take k)∧Owns H0 H [(g.1,.cells 1 (g.2.map (mL iI)) 0)]) l.length (id,[]) ⟨by simp,o⟩ rfl ?_
 rintro k ⟨id,out⟩ H hk ⟨hout,o⟩;dsimp only at hout;refine tt ?_;apply bk <;> intro h1
 ·have h1:=of_decide h1
  have w1:=wsucc (k:=k) (by omega);refine tt ?_;refine ⟨h1,(l01Own_ok ..).go fun _=>?_⟩;refine tt ?_;refine app_own (l.getD k default) o rfl rfl (by rw [hout]; simp [maxL] <;> omega) fun id H o=>?_
  refine tw w1 ?_;exact for_next (_,_) (by omega) ⟨by rw [hout,take_succ' l h1],o⟩ rfl
 ·refine tt ?_
  have h1:=of_ndecide h1;refine fz_own o rfl fun H o=>tt ?_;exact pure_ret (by rw [hout,List.take_of_length_le (by omega)]) o.sub
theorem outOf_ok (B : Nat) (c : Cat) (x : Int) : Pur Tryz.prog B 246 [.ptr c.cells,.int .i64 x] (iL (outs c x)):=by
 refine ⟨fun H0=>c246.go fun ⟨hf,_⟩=>?_⟩
 have hl:=fine_mL_le (hf.ptr (c:=iL c.frm) (by simp [Cat.cells]));simp only [maxL] at hl;refine tt ?_;refine new_list iI (.nil _) fun id H o=>tt ?_;refine awp_for [1,12,13] (G:=Nat × List (Int)) (fun k g=>[(5,some (.buf g.1 g.2.length)),(14,some (.int .i64 (k : Int)))]) (fun k g H=>g.2=(((List.range k).filter fun i=>c.frm.getD i default=x).map Int.ofNat)∧Owns H0 H [(g.1,.cells 1 (g.2.map iI) 0)]) c.frm.length (id,[]) ⟨by simp,o⟩ rfl ?_
 rintro k ⟨id,out⟩ H hk ⟨hout,o⟩;dsimp only at hout;refine tt ?_;apply bk <;> intro h1
 ·have h1:=of_decide h1
  have w1:=wsucc (k:=k) (by omega);refine tt ?_;refine ⟨h1,tt ?_⟩
  have hlen : out.length≤k:=by rw [hout,List.length_map]; exact Nat.le_trans (List.length_filter_le _ _) (by simp)
  apply bk <;> intro h2
  ·refine tt ?_
   have h2p : c.frm.getD k default=x:=of_decide h2;refine app_own (k : Int) o rfl rfl (by simp only [maxL]; omega) fun id H o=>?_;refine tw w1 ?_;exact for_next (_,_) (by omega) ⟨by rw [hout,range_succ_filter,if_pos h2,List.map_append]; rfl,o⟩ rfl
  ·refine tw w1 ?_
   have h2p : ¬ c.frm.getD k default=x:=of_ndecide h2;exact for_next (_,_) (by omega) ⟨by rw [hout,range_succ_filter,if_neg (Bool.eq_false_iff.mp h2),List.map_append]; simp,o⟩ rfl
 ·refine tt ?_
  have h1:=of_ndecide h1;refine fz_own o rfl fun H o=>tt ?_;exact pure_ret (by rw [hout,show k=c.frm.length by omega]; rfl) o.sub
theorem l25Out_ok (B : Nat) (c : Cat) (x : Int) : Pur Tryz.prog B 181 [.agg c.cells,.int .i64 x] (iL (outs c x)):=by
 refine ⟨fun H0=>c181.go fun ⟨hf,_⟩=>?_⟩
 have hl:=fine_mL_le (hf.agg (c:=iL c.frm) (by simp [Cat.cells]));simp only [maxL] at hl;refine tt ?_;refine new_list iI (.nil _) fun id H o=>tt ?_;refine awp_for [1,2] (G:=Nat × List (Int)) (fun k g=>[(5,some (.buf g.1 g.2.length)),(6,some (.int .i64 (k : Int)))]) (fun k g H=>g.2=(((List.range k).filter fun i=>c.frm.getD i default=x).map Int.ofNat)∧Owns H0 H [(g.1,.cells 1 (g.2.map iI) 0)]) c.frm.length (id,[]) ⟨by simp,o⟩ rfl ?_
 rintro k ⟨id,out⟩ H hk ⟨hout,o⟩;dsimp only at hout;refine tt ?_;apply bk <;> intro h1
 ·have h1:=of_decide h1
  have w1:=wsucc (k:=k) (by omega);refine tt ?_;refine ⟨h1,tt ?_⟩
  have hlen : out.length≤k:=by rw [hout,List.length_map]; exact Nat.le_trans (List.length_filter_le _ _) (by simp)
  apply bk <;> intro h2
  ·refine tt ?_
   have h2p : c.frm.getD k default=x:=of_decide h2;refine app_own (k : Int) o rfl rfl (by simp only [maxL]; omega) fun id H o=>?_;refine tw w1 ?_;exact for_next (_,_) (by omega) ⟨by rw [hout,range_succ_filter,if_pos h2,List.map_append]; rfl,o⟩ rfl
  ·refine tw w1 ?_
   have h2p : ¬ c.frm.getD k default=x:=of_ndecide h2;exact for_next (_,_) (by omega) ⟨by rw [hout,range_succ_filter,if_neg (Bool.eq_false_iff.mp h2),List.map_append]; simp,o⟩ rfl
 ·refine tt ?_
  have h1:=of_ndecide h1;refine fz_own o rfl fun H o=>tt ?_;exact pure_ret (by rw [hout,show k=c.frm.length by omega]; rfl) o.sub
theorem l23Count_ok (B : Nat) (n : Nat) (hn : n≤1048576) : Pur Tryz.prog B 160 [.int .i64 (n : Int)] (iL ((List.range n).map Int.ofNat)):=by
 refine ⟨fun H0=>c160.go fun ⟨_,_⟩=>?_⟩;refine tt ?_;refine new_list iI (.nil _) fun id H o=>tt ?_;refine awp_for [0] (G:=Nat × List (Int)) (fun k g=>[(3,some (.buf g.1 g.2.length)),(4,some (.int .i64 (k : Int)))]) (fun k g H=>g.2=((List.range k).map Int.ofNat)∧Owns H0 H [(g.1,.cells 1 (g.2.map iI) 0)]) n (id,[]) ⟨by simp,o⟩ rfl ?_
 rintro k ⟨id,out⟩ H hk ⟨hout,o⟩;dsimp only at hout;refine tt ?_;apply bk <;> intro h1
 ·have h1:=of_decide h1
  have w1:=wsucc (k:=k) (by omega);refine tt ?_;refine app_own (k : Int) o rfl rfl (by rw [hout]; simp [maxL] <;> omega) fun id H o=>?_
  refine tw w1 ?_;exact for_next (_,_) (by omega) ⟨by rw [hout,List.range_succ]; simp,o⟩ rfl
 ·refine tt ?_
  have h1:=of_ndecide h1;refine fz_own o rfl fun H o=>tt ?_;exact pure_ret (by rw [hout,show k=n by omega]) o.sub
theorem l22Repeat_ok (B : Nat) (x : Int) (n : Nat) (hn : n≤1048576) : Pur Tryz.prog B 242 [.int .i64 x,.int .i64 (n : Int)] (iL (List.replicate n x)):=by
 refine ⟨fun H0=>c242.go fun ⟨_,_⟩=>?_⟩;refine tt ?_;refine new_list iI (.nil _) fun id H o=>tt ?_;refine awp_for [0,1] (G:=Nat × List (Int)) (fun k g=>[(5,some (.buf g.1 g.2.length)),(6,some (.int .i64 (k : Int)))]) (fun k g H=>g.2=(List.replicate k x)∧Owns H0 H [(g.1,.cells 1 (g.2.map iI) 0)]) n (id,[]) ⟨by simp,o⟩ rfl ?_
 rintro k ⟨id,out⟩ H hk ⟨hout,o⟩;dsimp only at hout;refine tt ?_;apply bk <;> intro h1
 ·have h1:=of_decide h1
  have w1:=wsucc (k:=k) (by omega);refine tt ?_;refine app_own x o rfl rfl (by rw [hout,List.length_replicate]; simp only [maxL]; omega) fun id H o=>?_;refine tw w1 ?_;exact for_next (_,_) (by omega) ⟨by rw [hout,List.replicate_succ'],o⟩ rfl
 ·refine tt ?_
  have h1:=of_ndecide h1;refine fz_own o rfl fun H o=>tt ?_;exact pure_ret (by rw [hout,show k=n by omega]) o.sub
theorem marked_ok (B : Nat) (l : List Bool) : Pur Tryz.prog B 345 [bL l] (iL (((List.range l.length).filter fun i=>l.getD i default).map Int.ofNat)):=by
 refine ⟨fun H0=>c345.go fun ⟨hf,_⟩=>?_⟩
 have hl:=fine_mL_le hf;simp only [maxL] at hl;refine tt ?_;refine new_list iI (.nil _) fun id H o=>tt ?_;refine awp_for [7,8] (G:=Nat × List (Int)) (fun k g=>[(3,some (.buf g.1 g.2.length)),(9,some (.int .i64 (k : Int)))]) (fun k g H=>g.2=(((List.range k).filter fun i=>l.getD i default).map Int.ofNat)∧Owns H0 H [(g.1,.cells 1 (g.2.map iI) 0)]) l.length (id,[]) ⟨by simp,o⟩ rfl ?_
 rintro k ⟨id,out⟩ H hk ⟨hout,o⟩;dsimp only at hout;refine tt ?_;apply bk <;> intro h1
 ·have h1:=of_decide h1
  have w1:=wsucc (k:=k) (by omega);refine tt ?_;refine ⟨h1,tt ?_⟩
  have hlen : out.length≤k:=by rw [hout,List.length_map]; exact Nat.le_trans (List.length_filter_le _ _) (by simp)
  apply bk <;> intro h2
  ·refine tt ?_;refine app_own (k : Int) o rfl rfl (by simp only [maxL]; omega) fun id H o=>?_;refine tw w1 ?_;exact for_next (_,_) (by omega) ⟨by rw [hout,range_succ_filter,if_pos h2,List.map_append]; rfl,o⟩ rfl
  ·refine tw w1 ?_;exact for_next (_,_) (by omega) ⟨by rw [hout,range_succ_filter,if_neg (Bool.eq_false_iff.mp h2),List.map_append]; simp,o⟩ rfl
 ·refine tt ?_
  have h1:=of_ndecide h1;refine fz_own o rfl fun H o=>tt ?_;exact pure_ret (by rw [hout,show k=l.length by omega]) o.sub
theorem then_ok (B : Nat) (f q : List Int) (hv : ∀ y,y∈f→0≤y∧y.toNat<q.length) : Pur Tryz.prog B 151 [iL f,iL q] (iL (f.map fun y=>ix q y)):=by
 refine ⟨fun H0=>c151.go fun ⟨hf,_⟩=>?_⟩
 have hl:=fine_mL_le hf;simp only [maxL] at hl;refine tt ?_;refine ⟨by simp [maxL] <;> omega, ?_⟩
 refine mks_own iI (.nil _) fun id H o=>tt ?_;refine awp_for [1,5,11,12] (fun k _=>[(13,some (.int .i64 (k : Int)))]) (fun k _ H=>Owns H0 H [(id,.cells 1 (((f.take k).map fun y=>ix q y).map iI++List.replicate (f.length - k) (.int .i64 0)) 0)]) f.length () o rfl ?_
 rintro k _ H hk o
 have hlen : ((f.take k).map fun y=>ix q y).length=k:=by simp; omega
 refine tt ?_;apply bk <;> intro h1
 ·have h1:=of_decide h1
  have w1:=wsucc (k:=k) (by omega)
  have hsub : f.length - k=(f.length - (k+1))+1:=by omega
  rw [hsub] at o;refine tt ?_
  have hx:=hv _ (mem_getD.mpr ⟨k,h1,rfl⟩);refine ⟨h1,hx,by omega, ?_⟩;refine st_own (ix q (f.getD k default)) o rfl (by omega) fun H o=>?_;refine tw w1 ?_;exact for_next () (by omega) (by rw [take_map_succ f _ h1]; exact o) rfl
 ·refine tt ?_
  have h1:=of_ndecide h1
  have hsub : f.length - k=0:=by omega
  rw [hsub] at o;refine fz_made o (by omega) fun H o=>tt ?_;exact pure_ret (by rw [List.take_of_length_le (by omega)]) o.sub
theorem l02Own_ok (B : Nat) (c : Cat) : Pur Tryz.prog B 144 [.agg c.cells] (.agg c.cells):=by
 refine ⟨fun H0=>c144.go fun hf=>?_⟩;refine tt ?_;refine ⟨by simp [maxL],fun i1 n1=>?_⟩;refine tt ?_;refine ⟨_,(l01Own_ok ..).run,tt ?_⟩;refine ⟨_,(l01Own_ok ..).run,tt ?_⟩;refine ⟨_,(l01Own_ok ..).run,tt ?_⟩;refine ⟨_,(l01Own2_ok ..).run,tt ?_⟩;refine pure_ret rfl ?_
 repeat (first | exact .refl _ | refine sub_set ?_ n1)
theorem catCopy_ok (B : Nat) (c : Cat) : Pur Tryz.prog B 220 [.ptr c.cells] (.agg c.cells):=by
 refine ⟨fun H0=>c220.go fun hf=>?_⟩;refine tt ?_;refine ⟨by simp [maxL],fun i1 n1=>?_⟩;refine tt ?_;refine ⟨_,(clone_ok ..).run,tt ?_⟩;refine ⟨_,(clone_ok ..).run,tt ?_⟩;refine ⟨_,(clone_ok ..).run,tt ?_⟩;refine ⟨_,(clones_ok ..).run,tt ?_⟩;refine pure_ret rfl ?_
 repeat (first | exact .refl _ | refine sub_set ?_ n1)
theorem ends_ok (B : Nat) (c : Cat) (f : Int) (h1 : 0≤f∧f.toNat<c.frm.length) (h2 : f.toNat<c.to.length) : Pur Tryz.prog B 213 [.ptr c.cells,.int .i64 f] (.agg [.int .i64 (ix c.frm f),.int .i64 (ix c.to f)]):=by
 refine ⟨fun H0=>c213.go fun hf=>?_⟩;refine tt ?_;refine fun i1 n1=>tt ?_;refine ⟨h1,⟨h1.1,h2⟩,tt ?_⟩;refine pure_ret rfl ?_
 repeat (first | exact .refl _ | refine sub_set ?_ n1)
theorem arrows_ok (B : Nat) (c : Cat) : Pur Tryz.prog B 211 [.ptr c.cells] (.int .i64 c.frm.length):=by
 refine ⟨fun H0=>c211.go fun hf=>?_⟩;refine tt ?_;exact pure_ret rfl (.refl _)
theorem catThen_ok (B : Nat) (c : Cat) (f g : Int) (h1 : 0≤f∧f.toNat<c.comp.length) (h2 : 0≤g∧g.toNat<(ix c.comp f).length) :
  Pur Tryz.prog B 132 [.ptr c.cells,.int .i64 f,.int .i64 g] (.int .i64 (ix (ix c.comp f) g)):=by
 refine ⟨fun H0=>c132.go fun hf=>?_⟩;refine tt ?_;exact ⟨h1,h2,pure_ret rfl (.refl _)⟩
theorem l02Then_ok (B : Nat) (c : Cat) (f g : Int) (h1 : 0≤f∧f.toNat<c.comp.length) (h2 : 0≤g∧g.toNat<(ix c.comp f).length) :
  Pur Tryz.prog B 65 [.agg c.cells,.int .i64 f,.int .i64 g] (.int .i64 (ix (ix c.comp f) g)):=by
 refine ⟨fun H0=>c65.go fun hf=>?_⟩;refine tt ?_;exact ⟨h1,h2,pure_ret rfl (.refl _)⟩
theorem l02Ends_ok (B : Nat) (l : List Int) (m : Nat) (n : Int) : Pur Tryz.prog B 226 [iL l,.int .i64 (m : Int),.int .i64 n] (.bool (dec (l.length=m∧∀ y,y∈l→0≤y∧y<n))):=by
 refine ⟨fun H0=>c226.go fun hf=>?_⟩;refine tt ?_;apply bk <;> intro h1
 ·refine tw h1 ?_
  have h1p : l.length=m:=of_decide h1;refine (l01Map_ok ..).go fun _=>tt ?_;exact pure_ret (by congr 1; exact dec_congr ⟨fun h=>⟨h1p,h⟩,fun h=>h.2⟩) (.refl _)
 ·refine tw h1 ?_
  have h1p : ¬ l.length=m:=of_ndecide h1;exact pure_ret (by rw [dec_f (fun h=>h1p h.1)]) (.refl _)
theorem isMapOf_ok (B : Nat) (l : List Int) (m n : Int) (hn : -9223372036854775808<n∧n≤9223372036854775807) : Pur Tryz.prog B 286 [iL l,.int .i64 m,.int .i64 n] (.bool (dec ((l.length : Int)=m∧∀ y,y∈l→0≤y∧y<n))):=by
 refine ⟨fun H0=>c286.go fun hf=>?_⟩;refine tt ?_;apply bk <;> intro h1
 ·refine tw h1 ?_
  have h1p : (l.length : Int)=m:=of_decide h1;refine (within_ok B l n hn).go fun _=>tt ?_;exact pure_ret (by congr 1; exact dec_congr ⟨fun h=>⟨h1p,h⟩,fun h=>h.2⟩) (.refl _)
 ·refine tw h1 ?_
  have h1p : ¬ (l.length : Int)=m:=of_ndecide h1;exact pure_ret (by rw [dec_f (fun h=>h1p h.1)]) (.refl _)
theorem thenParts_ok (B : Nat) (s t : List (List Int)) (hl2 : s.length≤t.length) (hv : ∀ x,x<s.length→∀ y,y∈s.getD x default→0≤y∧y.toNat<(t.getD x default).length) : Pur Tryz.prog B 119 [iLL s,iLL t] (iLL ((List.range s.length).map fun x=>(s.getD x default).map fun y=>ix (t.getD x default) y)):=by
 refine ⟨fun H0=>c119.go fun ⟨hf,_⟩=>?_⟩
 have hl:=fine_mL_le hf;simp only [maxL] at hl;refine tt ?_;refine new_list iL (.nil _) fun id H o=>tt ?_;refine awp_for [0,1,9] (G:=Nat × List (List Int)) (fun k g=>[(5,some (.buf g.1 g.2.length)),(10,some (.int .i64 (k : Int)))]) (fun k g H=>g.2=((List.range k).map fun x=>(s.getD x default).map fun y=>ix (t.getD x default) y)∧Owns H0 H [(g.1,.cells 1 (g.2.map iL) 0)]) s.length (id,[]) ⟨by simp,o⟩ rfl ?_
 rintro k ⟨id,out⟩ H hk ⟨hout,o⟩;dsimp only at hout;refine tt ?_;apply bk <;> intro h1
 ·have h1:=of_decide h1
  have w1:=wsucc (k:=k) (by omega);refine tt ?_;refine ⟨h1,(by omega),_,(then_ok B _ _ (hv k h1)).run,tt ?_⟩;refine app_own ((s.getD k default).map fun y=>ix (t.getD k default) y) o rfl rfl (by rw [hout]; simp [maxL] <;> omega) fun id H o=>?_
  refine tw w1 ?_;exact for_next (_,_) (by omega) ⟨by rw [hout,List.range_succ]; simp [-List.getD_eq_getElem?_getD],o⟩ rfl
 ·refine tt ?_
  have h1:=of_ndecide h1;refine fz_own o rfl fun H o=>tt ?_;exact pure_ret (by rw [hout,show k=s.length by omega]) o.sub
structure CellOk (c : Cat) (f g : Nat) : Prop where
 non : c.to.getD f default≠c.frm.getD g default→(c.comp.getD f default).getD g default=-1
 yes : c.to.getD f default=c.frm.getD g default →
  (0≤(c.comp.getD f default).getD g default∧(c.comp.getD f default).getD g default<c.frm.length) ∧
  ix c.frm ((c.comp.getD f default).getD g default)=c.frm.getD f default∧ix c.to ((c.comp.getD f default).getD g default)=c.to.getD g default
structure RowOk (c : Cat) (f : Nat) : Prop where
 row : (c.comp.getD f default).length=c.frm.length
 cell : ∀ g,g<c.frm.length→CellOk c f g
theorem IsShape_ok (B : Nat) (c : Cat) : Pur Tryz.prog B 137 [.agg c.cells] (.bool (dec c.Shape)):=by
 refine ⟨fun H0=>c137.go fun ⟨hf,_⟩=>?_⟩
 have hl:=fine_mL_le (hf.agg (c:=iL c.frm) (by simp [Cat.cells]))
 have hl2:=fine_mL_le (hf.agg (c:=iL c.idn) (by simp [Cat.cells]));simp only [maxL] at hl hl2;refine tt ?_;refine (l01In_ok ..).go fun _=>tt ?_;apply bn <;> intro h1
 rotate_left
 ·refine tw h1 ?_
  have h1p:=dd h1;exact pure_ret (by rw [dec_f]; intro s; exact h1p s.o) (.refl _)
 refine tw h1 ?_
 have h1p:=dd h1;apply bn <;> intro h2
 rotate_left
 ·refine tw h2 ?_
  have h2p:=dd h2;exact pure_ret (by rw [dec_f]; intro s; have:=s.m; omega) (.refl _)
 refine tw h2 ?_
 have h2p:=dd h2
 have h2q : c.frm.length≤40:=by omega
 refine (l02Ends_ok ..).go fun _=>tt ?_;apply bn <;> intro h3
 rotate_left
 ·refine tw h3 ?_
  have h3p:=dd h3;exact pure_ret (by rw [dec_f]; intro s; exact h3p s.frm) (.refl _)
 refine tw h3 ?_
 have h3p:=dd h3;refine (l02Ends_ok ..).go fun _=>tt ?_;apply bn <;> intro h4
 rotate_left
 ·refine tw h4 ?_
  have h4p:=dd h4;exact pure_ret (by rw [dec_f]; intro s; exact h4p ⟨s.tol,s.to⟩) (.refl _)
 refine tw h4 ?_
 have h4p:=dd h4;apply bk <;> intro h5
 ·refine tw h5 ?_
  have h5p:=dd h5;exact pure_ret (by rw [dec_f]; intro s; exact h5p s.cl) (.refl _)
 refine tw h5 ?_
 have h5p:=dd h5;apply bn <;> intro h6
 rotate_left
 ·refine tw h6 ?_
  have h6p:=dd h6;exact pure_ret (by rw [dec_f]; intro s; exact h6p s.il) (.refl _)
 refine tw h6 ?_
 have h6p:=dd h6;refine (l01Map_ok ..).go fun _=>tt ?_;apply bk <;> intro h7
 ·refine tw h7 ?_
  have h7p:=dd h7;exact pure_ret (by rw [dec_f]; intro s; exact h7p s.idn) (.refl _)
 refine tw h7 ?_
 have h7p:=dd h7;refine awp_for [1,3] (fun k _=>[(4,some (.int .i64 (k : Int)))]) (fun k _ H=>H=H0∧∀ i,i<k→ix c.frm (c.idn.getD i default)=i∧ix c.to (c.idn.getD i default)=i) c.idn.length () ⟨rfl,by simp⟩ rfl ?_
 rintro k _ H hk ⟨rfl,hall⟩;refine tt ?_;apply bk <;> intro g1
 ·have g1p:=dd g1
  have w1:=wsucc (k:=k) (by omega)
  have hk1 : k<c.idn.length:=by omega
  have hx:=h7p _ (mem_getD.mpr ⟨k,hk1,rfl⟩);refine tt ?_;refine ⟨hk1,⟨hx.1,by omega⟩, ?_⟩;apply bn <;> intro g2
  rotate_left
  ·refine tw g2 ?_
   have g2p:=dd g2;exact pure_ret (by rw [dec_f]; intro s; exact g2p (s.ide k hk1).1) (.refl _)
  refine tw g2 ?_
  have g2p:=dd g2;refine ⟨hk1,⟨hx.1,by omega⟩, ?_⟩;apply bk <;> intro g3
  ·refine tw g3 ?_
   have g3p:=dd g3;exact pure_ret (by rw [dec_f]; intro s; exact g3p (s.ide k hk1).2) (.refl _)
  try simp only [go_sem,↓reduceIte,reduceEqDiff,reduceAdd,reduceMul,reduceLeDiff,reduceLT,g3,w1]
  have g3p:=dd g3;exact for_next () hk1 ⟨rfl,lt_succ_all hall ⟨g2p,g3p⟩⟩ rfl
 have g1p:=dd g1
 have hkk : k=c.idn.length:=by omega
 subst hkk;refine tt ?_;refine awp_for [1,3] (fun k _=>[(5,some (.int .i64 (k : Int)))]) (fun k _ H'=>H'=H∧∀ f,f<k→RowOk c f) c.frm.length () ⟨rfl,by simp⟩ rfl ?_
 rintro f _ H' hfm ⟨rfl,hrow⟩;refine tt ?_;apply bk <;> intro g2
 rotate_left
 ·refine tw g2 ?_
  have g2p:=dd g2
  have hff : f=c.frm.length:=by omega
  subst hff;refine pure_ret ?_ (.refl _);rw [dec_t];exact ⟨h1p,by omega,h3p,h4p.1,h4p.2,h5p,h6p,h7p,hall,fun f hf=>(hrow f hf).row,fun f g hf hg=>((hrow f hf).cell g hg).non,fun f g hf hg=>((hrow f hf).cell g hg).yes⟩
 have g2p:=dd g2
 have wf:=wsucc (k:=f) (by omega)
 have hfc : f<c.comp.length:=by omega
 have hft : f<c.to.length:=by omega
 refine tt ?_;refine ⟨hfc, ?_⟩;apply bk <;> intro g3
 ·refine tw g3 ?_
  have g3p:=dd g3;exact pure_ret (by rw [dec_f]; intro s; exact g3p (s.row f g2p)) (.refl _)
 refine tw g3 ?_
 have g3p:=dd g3;refine awp_for [1,3,5] (fun k _=>[(6,some (.int .i64 (k : Int)))]) (fun k _ H=>H=H'∧∀ g,g<k→CellOk c f g) c.frm.length () ⟨rfl,by simp⟩ rfl ?_
 rintro g _ H hgm ⟨rfl,hcell⟩;refine tt ?_;apply bk <;> intro g4
 rotate_left
 ·try simp only [go_sem,↓reduceIte,reduceEqDiff,reduceAdd,reduceMul,reduceLeDiff,reduceLT,g4,wf]
  have g4p:=dd g4
  have hff : g=c.frm.length:=by omega
  subst hff;exact for_next () g2p ⟨rfl,lt_succ_all hrow ⟨g3p,hcell⟩⟩ rfl
 have g4p:=dd g4
 have wg:=wsucc (k:=g) (by omega)
 have hgr : g<(c.comp.getD f default).length:=by omega
 refine tt ?_;refine ⟨hfc,hgr,hft,g4p, ?_⟩;apply bk <;> intro g5
 ·have g5p:=dd g5;refine tt ?_;apply bk <;> intro g6
  ·refine tt ?_
   have g6p:=dd g6;exact pure_ret (by rw [dec_f]; intro s; exact g6p (s.non f g g2p g4p g5p)) (.refl _)
  ·have g6p:=dd g6;refine tw wg ?_;exact for_next () g4p ⟨rfl,lt_succ_all hcell ⟨fun _=>g6p,fun e=>absurd e g5p⟩⟩ rfl
 have g5p:=dd g5
 have hbad : ¬ ((0≤(c.comp.getD f default).getD g default∧(c.comp.getD f default).getD g default<c.frm.length) ∧
  ix c.frm ((c.comp.getD f default).getD g default)=c.frm.getD f default∧ix c.to ((c.comp.getD f default).getD g default)=c.to.getD g default)→dec c.Shape=false :=
  fun h=>dec_f fun s=>h (s.yes f g g2p g4p g5p)
 refine tt ?_;apply bn <;> intro g6
 rotate_left
 ·refine tw g6 ?_
  have g6p:=dd g6;exact pure_ret (by rw [hbad]; intro h; omega) (.refl _)
 refine tw g6 ?_
 have g6p:=dd g6;apply bn <;> intro g7
 rotate_left
 ·refine tw g7 ?_
  have g7p:=dd g7;exact pure_ret (by rw [hbad]; intro h; omega) (.refl _)
 refine tw g7 ?_
 have g7p:=dd g7;refine ⟨⟨g6p,by omega⟩,g2p, ?_⟩;apply bn <;> intro g8
 rotate_left
 ·refine tw g8 ?_
  have g8p:=dd g8;exact pure_ret (by rw [hbad]; intro h; exact g8p h.2.1) (.refl _)
 refine tw g8 ?_
 have g8p:=dd g8;refine ⟨⟨g6p,by omega⟩,by omega, ?_⟩;apply bk <;> intro g9
 ·refine tw g9 ?_
  have g9p:=dd g9;exact pure_ret (by rw [hbad]; intro h; exact g9p h.2.2) (.refl _)
 try simp only [go_sem,↓reduceIte,reduceEqDiff,reduceAdd,reduceMul,reduceLeDiff,reduceLT,g9,wg]
 have g9p:=dd g9;exact for_next () g4p ⟨rfl,lt_succ_all hcell ⟨fun h=>absurd g5p h,fun _=>⟨⟨g6p,by omega⟩,g8p,g9p⟩⟩⟩ rfl
theorem isShape_ok (B : Nat) (c : Cat) : Pur Tryz.prog B 127 [.ptr c.cells] (.bool (dec c.Shape)):=by
 refine ⟨fun H0=>c127.go fun ⟨hf,_⟩=>?_⟩
 have hl:=fine_mL_le (hf.ptr (c:=iL c.frm) (by simp [Cat.cells]))
 have hl2:=fine_mL_le (hf.ptr (c:=iL c.idn) (by simp [Cat.cells]))
 have hl3:=fine_mL_le (hf.ptr (c:=iLL c.comp) (by simp [Cat.cells]));simp only [maxL] at hl hl2 hl3;refine tt ?_;refine (arrows_ok B c).go fun _=>tt ?_;refine ⟨_,(inRange_ok ..).run,tt ?_⟩;apply bn <;> intro h1
 rotate_left
 ·refine tw h1 ?_
  have h1p:=dd h1;exact pure_ret (by rw [dec_f]; intro s; exact h1p s.o) (.refl _)
 refine tw h1 ?_
 have h1p:=dd h1;apply bn <;> intro h2
 rotate_left
 ·refine tw h2 ?_
  have h2p:=dd h2;exact pure_ret (by rw [dec_f]; intro s; have:=s.m; omega) (.refl _)
 refine tw h2 ?_
 have h2p:=dd h2
 have h2q : c.frm.length≤40:=by omega
 apply bn <;> intro h3
 rotate_left
 ·refine tw h3 ?_
  have h3p:=dd h3;exact pure_ret (by rw [dec_f]; intro s; exact h3p s.tol) (.refl _)
 refine tw h3 ?_
 have h3p:=dd h3;refine ⟨_,(within_ok B c.frm c.objs (by omega)).run,tt ?_⟩;apply bn <;> intro h4
 rotate_left
 ·refine tw h4 ?_
  have h4p:=dd h4;exact pure_ret (by rw [dec_f]; intro s; exact h4p s.frm) (.refl _)
 refine tw h4 ?_
 have h4p:=dd h4;refine ⟨_,(within_ok B c.to c.objs (by omega)).run,tt ?_⟩;apply bk <;> intro h5
 ·refine tw h5 ?_
  have h5p:=dd h5;exact pure_ret (by rw [dec_f]; intro s; exact h5p s.to) (.refl _)
 refine tw h5 ?_
 have h5p:=dd h5;apply bn <;> intro h6
 rotate_left
 ·refine tw h6 ?_
  have h6p:=dd h6;exact pure_ret (by rw [dec_f]; intro s; exact h6p s.il) (.refl _)
 refine tw h6 ?_
 have h6p:=dd h6;refine ⟨_,(within_ok B c.idn c.frm.length (by omega)).run,tt ?_⟩;apply bn <;> intro h7
 rotate_left
 ·refine tw h7 ?_
  have h7p:=dd h7;exact pure_ret (by rw [dec_f]; intro s; exact h7p s.idn) (.refl _)
 refine tw h7 ?_
 have h7p:=dd h7;apply bk <;> intro h8
 ·refine tw h8 ?_
  have h8p:=dd h8;exact pure_ret (by rw [dec_f]; intro s; exact h8p s.cl) (.refl _)
 refine tw h8 ?_
 have h8p:=dd h8;refine awp_for [0,3,86,87] (fun k _=>[(88,some (.int .i64 (k : Int)))]) (fun k _ H=>H=H0∧∀ i,i<k→ix c.frm (c.idn.getD i default)=i∧ix c.to (c.idn.getD i default)=i) c.idn.length () ⟨rfl,by simp⟩ rfl ?_
 rintro k _ H hk ⟨rfl,hall⟩;refine tt ?_;apply bk <;> intro g1
 ·have g1p:=dd g1
  have w1:=wsucc (k:=k) (by omega)
  have hx:=h7p _ (mem_getD.mpr ⟨k,g1p,rfl⟩);refine tt ?_;refine ⟨g1p,(ends_ok B c (c.idn.getD k default) ⟨hx.1,by omega⟩ (by omega)).go fun _=>?_⟩;refine tt ?_;apply bk <;> intro g2
  ·refine tw g2 ?_
   have g2p:=dd g2;exact pure_ret (by rw [dec_f]; intro s; exact g2p (s.ide k g1p)) (.refl _)
  try simp only [go_sem,↓reduceIte,reduceEqDiff,reduceAdd,reduceMul,reduceLeDiff,reduceLT,g2,w1]
  have g2p:=dd g2;exact for_next () g1p ⟨rfl,lt_succ_all hall g2p⟩ rfl
 have g1p:=dd g1
 have hkk : k=c.idn.length:=by omega
 subst hkk;refine tt ?_;refine awp_for [0,3,104,105] (fun k _=>[(106,some (.int .i64 (k : Int)))]) (fun k _ H'=>H'=H∧∀ f,f<k→RowOk c f) c.comp.length () ⟨rfl,by simp⟩ rfl ?_
 rintro f _ H' hfm ⟨rfl,hrow⟩;refine tt ?_;apply bk <;> intro g2
 rotate_left
 ·refine tw g2 ?_
  have g2p:=dd g2
  have hff : f=c.frm.length:=by omega
  subst hff;refine pure_ret ?_ (.refl _);rw [dec_t];exact ⟨h1p,by omega,h4p,h3p,h5p,h8p,h6p,h7p,hall,fun f hf=>(hrow f hf).row,fun f g hf hg=>((hrow f hf).cell g hg).non,fun f g hf hg=>((hrow f hf).cell g hg).yes⟩
 have g2p:=dd g2
 have wf:=wsucc (k:=f) (by omega)
 have hff : f<c.frm.length:=by omega
 have hft : f<c.to.length:=by omega
 refine tt ?_;refine ⟨g2p, ?_⟩;apply bk <;> intro g3
 ·refine tw g3 ?_
  have g3p:=dd g3;exact pure_ret (by rw [dec_f]; intro s; exact g3p (s.row f hff)) (.refl _)
 refine tw g3 ?_
 have g3p:=dd g3;refine awp_for [0,3,6,104,105,106,115,116] (fun k _=>[(117,some (.int .i64 (k : Int)))]) (fun k _ H=>H=H'∧∀ g,g<k→CellOk c f g) (c.comp.getD f default).length () ⟨rfl,by simp⟩ rfl ?_
 rintro g _ H hgm ⟨rfl,hcell⟩;refine tt ?_;apply bk <;> intro g4
 rotate_left
 ·try simp only [go_sem,↓reduceIte,reduceEqDiff,reduceAdd,reduceMul,reduceLeDiff,reduceLT,g4,wf]
  have g4p:=dd g4
  have hge : g=c.frm.length:=by omega
  subst hge;exact for_next () g2p ⟨rfl,lt_succ_all hrow ⟨g3p,hcell⟩⟩ rfl
 have g4p:=dd g4
 have wg:=wsucc (k:=g) (by omega)
 have hgf : g<c.frm.length:=by omega
 refine tt ?_;refine ⟨g4p,hft,hgf, ?_⟩;apply bk <;> intro g5
 ·have g5p:=dd g5;refine tt ?_;apply bk <;> intro g6
  ·refine tt ?_
   have g6p:=dd g6;exact pure_ret (by rw [dec_f]; intro s; exact g6p (s.non f g hff hgf g5p)) (.refl _)
  ·have g6p:=dd g6;refine tw wg ?_;exact for_next () g4p ⟨rfl,lt_succ_all hcell ⟨fun _=>g6p,fun e=>absurd e g5p⟩⟩ rfl
 have g5p:=dd g5
 have hbad : ¬ ((0≤(c.comp.getD f default).getD g default∧(c.comp.getD f default).getD g default<c.frm.length) ∧
  ix c.frm ((c.comp.getD f default).getD g default)=c.frm.getD f default∧ix c.to ((c.comp.getD f default).getD g default)=c.to.getD g default)→dec c.Shape=false :=
  fun h=>dec_f fun s=>h (s.yes f g hff hgf g5p)
 have wn : IntKind.i64.wrap ((c.frm.length : Int) - 1)=(c.frm.length : Int) - 1:=wrap_i64 (by omega) (by omega);refine tw wn ?_;refine ⟨_,(inRange_ok ..).run,tt ?_⟩;apply bn <;> intro g6
 rotate_left
 ·refine tw g6 ?_
  have g6p:=dd g6;exact pure_ret (by rw [hbad]; intro h; omega) (.refl _)
 refine tw g6 ?_
 have g6p:=dd g6;refine ⟨_,(ends_ok B c _ ⟨g6p.1,by omega⟩ (by omega)).run,hff,by omega,tt ?_⟩;apply bk <;> intro g7
 ·refine tw g7 ?_
  have g7p:=dd g7;exact pure_ret (by rw [hbad]; intro h; exact g7p h.2) (.refl _)
 try simp only [go_sem,↓reduceIte,reduceEqDiff,reduceAdd,reduceMul,reduceLeDiff,reduceLT,g7,wg]
 have g7p:=dd g7;exact for_next () g4p ⟨rfl,lt_succ_all hcell ⟨fun h=>absurd g5p h,fun _=>⟨⟨g6p.1,by omega⟩,g7p⟩⟩⟩ rfl
theorem l02Fault_ok (B : Nat) (c : Cat) (s : c.Shape) (H0 : Heap) : CallH Tryz.prog B 138 [.agg c.cells] H0 (faultK c.Laws H0):=by
 refine c138.go fun ⟨hf,_⟩=>?_
 have hm:=s.m
 have hcl:=s.cl
 have htl:=s.tol;refine tt ?_;refine awp_for [1,6] (fun k _=>[(7,some (.int .i64 (k : Int)))]) (fun k _ H=>H=H0∧∀ f,f<k→c.IdAt f) c.frm.length () ⟨rfl,by simp⟩ rfl ?_
 rintro f _ H hfm ⟨rfl,hid⟩;refine tt ?_;apply bk <;> intro g1
 ·have g1p:=dd g1
  have wf:=wsucc (k:=f) (by omega)
  have a1:=s.frm' g1p
  have a2:=s.id' a1.2
  have a3:=s.row' a2.2
  have b1:=s.to' g1p
  have b2:=s.id' b1.2
  have b3:=s.row f g1p;refine tt ?_;refine ⟨g1p,a1,⟨a2.1,by omega⟩,by omega, ?_⟩;apply bn <;> intro g2
  rotate_left
  ·refine tw g2 ?_
   have g2p:=dd g2;exact fault_ret (by constructor; (intro h; cases h); intro l; exact absurd (l.idl f g1p).1 g2p) (.refl _)
  refine tw g2 ?_
  have g2p:=dd g2;refine ⟨by omega,by omega,b1,⟨b2.1,by omega⟩, ?_⟩;apply bk <;> intro g3
  ·refine tw g3 ?_
   have g3p:=dd g3;exact fault_ret (by constructor; (intro h; cases h); intro l; exact absurd (l.idl f g1p).2 g3p) (.refl _)
  try simp only [go_sem,↓reduceIte,reduceEqDiff,reduceAdd,reduceMul,reduceLeDiff,reduceLT,g3,wf]
  have g3p:=dd g3;exact for_next () g1p ⟨rfl,lt_succ_all hid ⟨g2p,g3p⟩⟩ rfl
 have g1p:=dd g1
 have hff : f=c.frm.length:=by omega
 subst hff;refine tt ?_;refine awp_for [1,6] (fun k _=>[(8,some (.int .i64 (k : Int)))]) (fun k _ H'=>H'=H∧∀ f,f<k→∀ g,g<c.frm.length→∀ h,h<c.frm.length→c.AssocAt f g h) c.frm.length () ⟨rfl,by simp⟩ rfl ?_
 rintro f _ H' hfm ⟨rfl,hF⟩;refine tt ?_;apply bk <;> intro g1
 rotate_left
 ·refine tt ?_
  have g1p:=dd g1;exact fault_ret (by simp only [true_iff]; exact ⟨hid,fun f g h hf hg hh=>hF f (by omega) g hg h hh⟩) (.refl _)
 have g1p:=dd g1
 have wf:=wsucc (k:=f) (by omega)
 have rf:=s.row f g1p;refine tt ?_;refine awp_for [1,6,8] (fun k _=>[(9,some (.int .i64 (k : Int)))]) (fun k _ H=>H=H'∧∀ g,g<k→∀ h,h<c.frm.length→c.AssocAt f g h) c.frm.length () ⟨rfl,by simp⟩ rfl ?_
 rintro g _ H hgm ⟨rfl,hG⟩;refine tt ?_;apply bk <;> intro g2
 rotate_left
 ·refine tw wf ?_
  have g2p:=dd g2;exact for_next () g1p ⟨rfl,lt_succ_all hF fun g hg=>hG g (by omega)⟩ rfl
 have g2p:=dd g2
 have wg:=wsucc (k:=g) (by omega)
 have rg:=s.row g g2p;refine tt ?_;refine ⟨by omega,g2p, ?_⟩;apply bk <;> intro g3
 ·refine tw wg ?_
  have g3p:=dd g3;exact for_next () g2p ⟨rfl,lt_succ_all hG fun h hh e=>absurd e g3p⟩ rfl
 have g3p:=dd g3;refine tt ?_;refine awp_for [1,6,8,9] (fun k _=>[(10,some (.int .i64 (k : Int)))]) (fun k _ H'=>H'=H∧∀ h,h<k→c.AssocAt f g h) c.frm.length () ⟨rfl,by simp⟩ rfl ?_
 rintro h _ H' hhm ⟨rfl,hA⟩;refine tt ?_;apply bk <;> intro g4
 rotate_left
 ·refine tw wg ?_
  have g4p:=dd g4;exact for_next () g2p ⟨rfl,lt_succ_all hG fun h hh=>hA h (by omega)⟩ rfl
 have g4p:=dd g4
 have wh:=wsucc (k:=h) (by omega);refine tt ?_;refine ⟨by omega,g4p, ?_⟩;apply bk <;> intro g5
 ·refine tw g5 ?_
  have g5p:=dd g5
  have c1:=(s.pos g1p g2p).mpr g3p
  have c2:=s.lt g1p g2p
  have c3:=s.row' c2
  have d1:=(s.pos g2p g4p).mpr g5p
  have d2:=s.lt g2p g4p;refine ⟨by omega,by omega,⟨c1,by omega⟩,by omega,by omega,by omega,by omega,⟨d1,by omega⟩, ?_⟩;apply bk <;> intro g6
  ·refine tw g6 ?_
   have g6p:=dd g6;exact fault_ret (by constructor; (intro h; cases h); intro l; exact absurd (l.assoc f g h g1p g2p g4p g3p g5p) g6p) (.refl _)
  ·try simp only [go_sem,↓reduceIte,reduceEqDiff,reduceAdd,reduceMul,reduceLeDiff,reduceLT,g6,wh]
   have g6p:=dd g6;exact for_next () g4p ⟨rfl,lt_succ_all hA fun _ _=>g6p⟩ rfl
 ·try simp only [go_sem,↓reduceIte,reduceEqDiff,reduceAdd,reduceMul,reduceLeDiff,reduceLT,g5,wh]
  have g5p:=dd g5;exact for_next () g4p ⟨rfl,lt_succ_all hA fun _ e=>absurd e g5p⟩ rfl
theorem l02Is_ok (B : Nat) (c : Cat) : Pur Tryz.prog B 59 [.agg c.cells] (.bool (dec c.Is)):=by
 refine ⟨fun H0=>c59.go fun hf=>?_⟩;refine tt ?_;refine (IsShape_ok B c).go fun _=>tt ?_;apply bk <;> intro h1
 ·refine tt ?_
  have h1p:=dd h1;exact pure_ret (by rw [dec_f]; intro s; exact h1p s.1) (.refl _)
 have h1p:=dd h1;refine tt ?_;refine (l02Fault_ok B c h1p H0).mono' ?_
 rintro _ _ _ ⟨rfl,k,a,b,d,rfl,hk⟩;refine tt ?_;exact pure_ret (by rw [decide_dec]; congr 1; exact dec_congr ⟨fun h=>⟨h1p,hk.mp h⟩,fun h=>hk.mpr h.2⟩) (.refl _)
theorem ix_nat2 {α : Type} [Inhabited α] (l : List α) (k : Nat) : ix l (k : Int)=l.getD k default:=ix_nat l k
theorem fault_ok (B : Nat) (c : Cat) (s : c.Shape) (H0 : Heap) : CallH Tryz.prog B 128 [.ptr c.cells] H0 (faultK c.Laws H0):=by
 refine c128.go fun ⟨hf,_⟩=>?_
 have hm:=s.m
 have hcl:=s.cl
 have htl:=s.tol;refine tt ?_;refine (arrows_ok B c).go fun _=>tt ?_;refine awp_for [0,6] (fun k _=>[(7,some (.int .i64 (k : Int)))]) (fun k _ H=>H=H0∧∀ f,f<k→c.IdAt f) c.frm.length () ⟨rfl,by simp⟩ rfl ?_
 rintro f _ H hfm ⟨rfl,hid⟩;refine tt ?_;apply bk <;> intro g1
 ·have g1p:=dd g1
  have wf:=wsucc (k:=f) (by omega)
  have a1:=s.frm' g1p
  have a2:=s.id' a1.2
  have a3:=s.row' a2.2
  have b1:=s.to' g1p
  have b2:=s.id' b1.2
  have b3:=s.row f g1p;refine tt ?_;refine ⟨g1p,a1,_,(catThen_ok B c _ _ ⟨a2.1,by omega⟩ ⟨by omega,by omega⟩).run,tt ?_⟩;apply bn <;> intro g2
  rotate_left
  ·refine tw g2 ?_
   have g2p:=dd g2;exact fault_ret (by constructor; (intro h; cases h); intro l; exact absurd (l.idl f g1p).1 g2p) (.refl _)
  refine tw g2 ?_
  have g2p:=dd g2;refine ⟨by omega,b1,_,(catThen_ok B c f _ ⟨by omega,by omega⟩ ⟨b2.1,by rw [ix_nat2]; omega⟩).run,tt ?_⟩;apply bk <;> intro g3
  ·refine tw g3 ?_
   have g3p:=dd g3;exact fault_ret (by constructor; (intro h; cases h); intro l; exact absurd (l.idl f g1p).2 g3p) (.refl _)
  try simp only [go_sem,↓reduceIte,reduceEqDiff,reduceAdd,reduceMul,reduceLeDiff,reduceLT,g3,wf]
  have g3p:=dd g3;exact for_next () g1p ⟨rfl,lt_succ_all hid ⟨g2p,g3p⟩⟩ rfl
 have g1p:=dd g1
 have hff : f=c.frm.length:=by omega
 subst hff;refine tt ?_;refine awp_for [0,6] (fun k _=>[(8,some (.int .i64 (k : Int)))]) (fun k _ H'=>H'=H∧∀ f,f<k→∀ g,g<c.frm.length→∀ h,h<c.frm.length→c.AssocAt f g h) c.frm.length () ⟨rfl,by simp⟩ rfl ?_
 rintro f _ H' hfm ⟨rfl,hF⟩;refine tt ?_;apply bk <;> intro g1
 rotate_left
 ·refine tt ?_
  have g1p:=dd g1;exact fault_ret (by simp only [true_iff]; exact ⟨hid,fun f g h hf hg hh=>hF f (by omega) g hg h hh⟩) (.refl _)
 have g1p:=dd g1
 have wf:=wsucc (k:=f) (by omega)
 have rf:=s.row f g1p;refine tt ?_;refine awp_for [0,6,8] (fun k _=>[(9,some (.int .i64 (k : Int)))]) (fun k _ H=>H=H'∧∀ g,g<k→∀ h,h<c.frm.length→c.AssocAt f g h) c.frm.length () ⟨rfl,by simp⟩ rfl ?_
 rintro g _ H hgm ⟨rfl,hG⟩;refine tt ?_;apply bk <;> intro g2
 rotate_left
 ·refine tw wf ?_
  have g2p:=dd g2;exact for_next () g1p ⟨rfl,lt_succ_all hF fun g hg=>hG g (by omega)⟩ rfl
 have g2p:=dd g2
 have wg:=wsucc (k:=g) (by omega)
 have rg:=s.row g g2p;refine tt ?_;refine (catThen_ok B c f g ⟨by omega,by omega⟩ ⟨by omega,by rw [ix_nat2]; omega⟩).go fun _=>tt ?_;apply bk <;> intro g3
 ·refine tw wg ?_
  have g3p:=dd g3;exact for_next () g2p ⟨rfl,lt_succ_all hG fun h hh e=>by have:=(s.pos g1p g2p).mpr e; omega⟩ rfl
 have g3p:=dd g3
 have g3q:=(s.pos g1p g2p).mp g3p;refine tt ?_;refine awp_for [0,6,8,9] (fun k _=>[(10,some (.int .i64 (k : Int)))]) (fun k _ H'=>H'=H∧∀ h,h<k→c.AssocAt f g h) c.frm.length () ⟨rfl,by simp⟩ rfl ?_
 rintro h _ H' hhm ⟨rfl,hA⟩;refine tt ?_;apply bk <;> intro g4
 rotate_left
 ·refine tw wg ?_
  have g4p:=dd g4;exact for_next () g2p ⟨rfl,lt_succ_all hG fun h hh=>hA h (by omega)⟩ rfl
 have g4p:=dd g4
 have wh:=wsucc (k:=h) (by omega);refine tt ?_;refine (catThen_ok B c g h ⟨by omega,by omega⟩ ⟨by omega,by rw [ix_nat2]; omega⟩).go fun _=>tt ?_;apply bk <;> intro g5
 ·refine tw g5 ?_
  have g5p:=dd g5
  have g5q:=(s.pos g2p g4p).mp g5p
  have c2:=s.lt g1p g2p
  have c3:=s.row' c2
  have d2:=s.lt g2p g4p;refine (catThen_ok B c f g ⟨by omega,by omega⟩ ⟨by omega,by rw [ix_nat2]; omega⟩).go fun _=>tt ?_;refine (catThen_ok B c _ h ⟨g3p,by omega⟩ ⟨by omega,by omega⟩).go fun _=>tt ?_;refine (catThen_ok B c g h ⟨by omega,by omega⟩ ⟨by omega,by rw [ix_nat2]; omega⟩).go fun _=>tt ?_;refine (catThen_ok B c f _ ⟨by omega,by omega⟩ ⟨g5p,by rw [ix_nat2]; omega⟩).go fun _=>tt ?_;apply bk <;> intro g6
  ·refine tw g6 ?_
   have g6p:=dd g6;exact fault_ret (by constructor; (intro h; cases h); intro l; exact absurd (l.assoc f g h g1p g2p g4p g3q g5q) g6p) (.refl _)
  ·try simp only [go_sem,↓reduceIte,reduceEqDiff,reduceAdd,reduceMul,reduceLeDiff,reduceLT,g6,wh]
   have g6p:=dd g6;exact for_next () g4p ⟨rfl,lt_succ_all hA fun _ _=>g6p⟩ rfl
 ·try simp only [go_sem,↓reduceIte,reduceEqDiff,reduceAdd,reduceMul,reduceLeDiff,reduceLT,g5,wh]
  have g5p:=dd g5;exact for_next () g4p ⟨rfl,lt_succ_all hA fun _ e=>by have:=(s.pos g2p g4p).mpr e; omega⟩ rfl
theorem isCategory_ok (B : Nat) (c : Cat) : Pur Tryz.prog B 57 [.ptr c.cells] (.bool (dec c.Is)):=by
 refine ⟨fun H0=>c57.go fun hf=>?_⟩;refine tt ?_;refine (isShape_ok B c).go fun _=>tt ?_;apply bk <;> intro h1
 ·refine tt ?_
  have h1p:=dd h1;exact pure_ret (by rw [dec_f]; intro s; exact h1p s.1) (.refl _)
 have h1p:=dd h1;refine tt ?_;refine (fault_ok B c h1p H0).mono' ?_
 rintro _ _ _ ⟨rfl,k,a,b,d,rfl,hk⟩;refine tt ?_;exact pure_ret (by rw [decide_dec]; congr 1; exact dec_congr ⟨fun h=>⟨h1p,hk.mp h⟩,fun h=>hk.mpr h.2⟩) (.refl _)
theorem l25Sieve_ok (B : Nat) (c : Cat) (s : c.Shape) (x : Int) (l : List Int) : Pur Tryz.prog B 158 [.agg c.cells,.int .i64 x,iL l] (.bool (dec (c.Sieve x l))):=by
 refine ⟨fun H0=>c158.go fun ⟨_,_,hf,_⟩=>?_⟩
 have hl:=fine_mL_le hf;simp only [maxL] at hl
 have hm:=s.m
 have hcl:=s.cl
 have htl:=s.tol;refine tt ?_;refine (l02Rises_ok ..).go fun _=>tt ?_;apply bn <;> intro h1
 rotate_left
 ·refine tw h1 ?_
  have h1p:=dd h1;exact pure_ret (by rw [dec_f]; intro s; exact h1p s.ris) (.refl _)
 refine tw h1 ?_
 have h1p:=dd h1;refine (l01Map_ok ..).go fun _=>tt ?_;apply bk <;> intro h2
 ·refine tw h2 ?_
  have h2p:=dd h2;exact pure_ret (by rw [dec_f]; intro s; exact h2p s.ran) (.refl _)
 refine tw h2 ?_
 have h2p:=dd h2
 refine awp_for [1,2,3] (fun k _=>[(7,some (.int .i64 (k : Int)))]) (fun k _ H=>H=H0∧∀ i,i<k→ix c.frm (l.getD i default)=x ∧
  ∀ b : Nat,b<c.frm.length→ix c.to (l.getD i default)=c.frm.getD b default→(ix c.comp (l.getD i default)).getD b default∈l) l.length () ⟨rfl,by simp⟩ rfl ?_
 rintro k _ H hk ⟨rfl,hall⟩;refine tt ?_;apply bk <;> intro g1
 rotate_left
 ·refine tt ?_
  have g1p:=dd g1;refine pure_ret ?_ (.refl _);rw [dec_t]
  have:=all_getD (l:=l) (p:=fun a=>ix c.frm a=x∧∀ b : Nat,b<c.frm.length→ix c.to a=c.frm.getD b default→(ix c.comp a).getD b default∈l) |>.mpr fun i hi=>hall i (by omega);exact ⟨h1p,h2p,fun y hy=>(this y hy).1,fun y hy=>(this y hy).2⟩
 have g1p:=dd g1
 have w1:=wsucc (k:=k) (by omega)
 have hx:=h2p _ (mem_getD.mpr ⟨k,g1p,rfl⟩);refine tt ?_;refine ⟨g1p,⟨hx.1,by omega⟩, ?_⟩;apply bk <;> intro g2
 ·refine tt ?_
  have g2p:=dd g2;exact pure_ret (by rw [dec_f]; intro s; exact g2p (s.src _ (mem_getD.mpr ⟨k,g1p,rfl⟩))) (.refl _)
 have g2p:=dd g2;refine tt ?_
 refine awp_for [1,2,3,7] (fun k _=>[(8,some (.int .i64 (k : Int)))]) (fun b' _ H'=>H'=H ∧
  ∀ b : Nat,b<b'→ix c.to (l.getD k default)=c.frm.getD b default→(ix c.comp (l.getD k default)).getD b default∈l) c.frm.length () ⟨rfl,by simp⟩ rfl ?_
 rintro b _ H' hb ⟨rfl,hall2⟩;refine tt ?_;apply bk <;> intro g3
 rotate_left
 ·refine tw w1 ?_
  have g3p:=dd g3;exact for_next () g1p ⟨rfl,lt_succ_all hall ⟨g2p,fun b hb=>hall2 b (by omega)⟩⟩ rfl
 have g3p:=dd g3
 have wb:=wsucc (k:=b) (by omega)
 have hr:=s.row' (a:=l.getD k default) (by omega);refine tt ?_;refine ⟨g1p,⟨hx.1,by omega⟩,g3p, ?_⟩;apply bk <;> intro g4
 rotate_left
 ·try simp only [go_sem,↓reduceIte,reduceEqDiff,reduceAdd,reduceMul,reduceLeDiff,reduceLT,g4,wb]
  have g4p:=dd g4;exact for_next () g3p ⟨rfl,lt_succ_all hall2 fun e=>absurd e g4p⟩ rfl
 refine tw g4 ?_
 have g4p:=dd g4;refine ⟨g1p,_,(l02Then_ok B c (l.getD k default) b ⟨hx.1,by omega⟩ ⟨by omega,by omega⟩).run,tt ?_⟩;refine ⟨_,(l01Has_ok ..).run,tt ?_⟩;apply bk <;> intro g5
 ·refine tt ?_
  have g5p:=dd g5;exact pure_ret (by rw [dec_f]; intro s; exact g5p (s.cls _ (mem_getD.mpr ⟨k,g1p,rfl⟩) b g3p g4p)) (.refl _)
 ·refine tw wb ?_
  have g5p:=dd g5;exact for_next () g3p ⟨rfl,lt_succ_all hall2 fun _=>g5p⟩ rfl
theorem isSieve_ok (B : Nat) (c : Cat) (s : c.Shape) (x : Int) (l : List Int) : Pur Tryz.prog B 165 [.ptr c.cells,.int .i64 x,iL l] (.bool (dec (c.Sieve x l))):=by
 refine ⟨fun H0=>c165.go fun ⟨_,_,hf,_⟩=>?_⟩
 have hl:=fine_mL_le hf;simp only [maxL] at hl
 have hm:=s.m
 have hcl:=s.cl
 have htl:=s.tol;refine tt ?_;refine (rising_ok ..).go fun _=>tt ?_;apply bn <;> intro h1
 rotate_left
 ·refine tw h1 ?_
  have h1p:=dd h1;exact pure_ret (by rw [dec_f]; intro s; exact h1p s.ris) (.refl _)
 refine tw h1 ?_
 have h1p:=dd h1;refine (arrows_ok B c).go fun _=>tt ?_;refine (within_ok B l c.frm.length (by omega)).go fun _=>tt ?_;apply bk <;> intro h2
 ·refine tw h2 ?_
  have h2p:=dd h2;exact pure_ret (by rw [dec_f]; intro s; exact h2p s.ran) (.refl _)
 refine tw h2 ?_
 have h2p:=dd h2
 refine awp_for [0,1,2,21,22] (fun k _=>[(23,some (.int .i64 (k : Int)))]) (fun k _ H=>H=H0∧∀ i,i<k→ix c.frm (l.getD i default)=x ∧
  ∀ b : Nat,b<c.frm.length→ix c.to (l.getD i default)=c.frm.getD b default→(ix c.comp (l.getD i default)).getD b default∈l) l.length () ⟨rfl,by simp⟩ rfl ?_
 rintro k _ H hk ⟨rfl,hall⟩;refine tt ?_;apply bk <;> intro g1
 rotate_left
 ·refine tt ?_
  have g1p:=dd g1;refine pure_ret ?_ (.refl _);rw [dec_t]
  have:=all_getD (l:=l) (p:=fun a=>ix c.frm a=x∧∀ b : Nat,b<c.frm.length→ix c.to a=c.frm.getD b default→(ix c.comp a).getD b default∈l) |>.mpr fun i hi=>hall i (by omega);exact ⟨h1p,h2p,fun y hy=>(this y hy).1,fun y hy=>(this y hy).2⟩
 have g1p:=dd g1
 have w1:=wsucc (k:=k) (by omega)
 have hx:=h2p _ (mem_getD.mpr ⟨k,g1p,rfl⟩);refine tt ?_;refine ⟨g1p,⟨hx.1,by omega⟩, ?_⟩;apply bk <;> intro g2
 ·refine tt ?_
  have g2p:=dd g2;exact pure_ret (by rw [dec_f]; intro s; exact g2p (s.src _ (mem_getD.mpr ⟨k,g1p,rfl⟩))) (.refl _)
 have g2p:=dd g2;refine tt ?_;refine ⟨⟨hx.1,by omega⟩,(outOf_ok B c _).go fun hfo=>?_⟩
 have hlo:=fine_mL_le hfo;simp only [maxL] at hlo
 generalize ho : outs c (ix c.to (l.getD k default))=ou at *;refine tt ?_
 refine awp_for [0,1,2,8,21,22,23,44,45] (fun k _=>[(46,some (.int .i64 (k : Int)))]) (fun b' _ H'=>H'=H ∧
  ∀ b : Nat,b<b'→ix (ix c.comp (l.getD k default)) (ou.getD b default)∈l) ou.length () ⟨rfl,by simp⟩ rfl ?_
 rintro b _ H' hb ⟨rfl,hall2⟩;refine tt ?_;apply bk <;> intro g3
 rotate_left
 ·refine tw w1 ?_
  have g3p:=dd g3;refine for_next () g1p ⟨rfl,lt_succ_all hall ⟨g2p,fun b hb e=>?_⟩⟩ rfl
  have hmem : (b : Int)∈ou:=by rw [← ho]; exact mem_outs.mpr ⟨by omega,by omega,by rw [ix_nat2]; exact e.symm⟩
  obtain ⟨i,hi,e2⟩:=mem_getD.mp hmem
  have:=hall2 i (by omega);rw [e2,ix_nat2] at this;exact this
 have g3p:=dd g3
 have wb:=wsucc (k:=b) (by omega)
 have hr:=s.row' (a:=l.getD k default) (by omega)
 have hmem : ou.getD b default∈ou:=mem_getD.mpr ⟨b,g3p,rfl⟩;rw [show (ou.getD b default∈ou)=(ou.getD b default∈outs c (ix c.to (l.getD k default))) by rw [ho],mem_outs] at hmem;refine tt ?_;refine ⟨g3p,(catThen_ok B c (l.getD k default) (ou.getD b default) ⟨hx.1,by omega⟩ ⟨hmem.1,by omega⟩).go fun _=>?_⟩;refine tt ?_;refine (has_ok ..).go fun _=>tt ?_;apply bk <;> intro g5
 ·refine tt ?_
  have g5p:=dd g5;refine pure_ret ?_ (.refl _);rw [dec_f]; intro s;exact g5p (s.cls _ (mem_getD.mpr ⟨k,g1p,rfl⟩) _ hmem.2.1 hmem.2.2.symm)
 ·refine tw wb ?_
  have g5p:=dd g5;exact for_next () g3p ⟨rfl,lt_succ_all hall2 g5p⟩ rfl
theorem l25Pull_ok (B : Nat) (c : Cat) (hs : c.Shape) (a : Int) (ha : 0≤a∧a.toNat<c.frm.length) (s : List Int) : Pur Tryz.prog B 331 [.agg c.cells,.int .i64 a,iL s] (iL (pullS c a s)):=by
 refine ⟨fun H0=>c331.go fun ⟨_,_,_⟩=>?_⟩
 have hm:=hs.m
 have hcl:=hs.cl
 have htl:=hs.tol;refine tt ?_;refine new_list iI (.nil _) fun id H o=>tt ?_;refine awp_for [1,2,3] (G:=Nat × List (Int)) (fun k g=>[(7,some (.buf g.1 g.2.length)),(8,some (.int .i64 (k : Int)))]) (fun k g H=>g.2=(nats (pullP c a s) k)∧Owns H0 H [(g.1,.cells 1 (g.2.map iI) 0)]) c.frm.length (id,[]) ⟨by simp,o⟩ rfl ?_
 rintro k ⟨id,out⟩ H hk ⟨hout,o⟩;dsimp only at hout;refine tt ?_;apply bk <;> intro h1
 ·have h1:=of_decide h1
  have w1:=wsucc (k:=k) (by omega);refine tt ?_
  have hr:=hs.row' (a:=a) ha.2
  have hlen : out.length≤k:=by rw [hout]; exact nats_len _ _
  refine ⟨⟨ha.1,by omega⟩,h1, ?_⟩;apply bk <;> intro h2
  ·refine tw h2 ?_
   have h2p:=dd h2;refine ⟨_,(l02Then_ok B c a k ⟨ha.1,by omega⟩ ⟨by omega,by omega⟩).run,tt ?_⟩;refine ⟨_,(l01Has_ok ..).run,tt ?_⟩;apply bk <;> intro h3
   ·refine tt ?_
    have h3p:=dd h3;refine app_own (k : Int) o rfl rfl (by simp only [maxL]; omega) fun id H o=>?_;refine tw w1 ?_;exact for_next (_,_) (by omega) ⟨by rw [hout,nats_t (pullP_t h2p h3p)],o⟩ rfl
   ·refine tw w1 ?_
    have h3p:=dd h3;exact for_next (_,_) (by omega) ⟨by rw [hout,nats_f (pullP_f fun e=>h3p e.2)],o⟩ rfl
  ·try simp only [go_sem,↓reduceIte,reduceEqDiff,reduceAdd,reduceMul,reduceLeDiff,reduceLT,h2,w1]
   have h2p:=dd h2;exact for_next (_,_) (by omega) ⟨by rw [hout,nats_f (pullP_f fun e=>h2p e.1)],o⟩ rfl
 ·refine tt ?_
  have h1:=of_ndecide h1;refine fz_own o rfl fun H o=>tt ?_;exact pure_ret (by rw [hout,show k=c.frm.length by omega]; rfl) o.sub
def pullF (c : Cat) (a : Int) (s : List Int) (y : Int) : Bool:=decide (ix (ix c.comp a) y∈s)
theorem pullF_eq (c : Cat) (a : Int) (s : List Int) : (outs c (ix c.to a)).filter (pullF c a s)=pullS c a s:=by
 refine rising_ext ?_ (nats_rising _ _) fun y=>?_
 ·have:=outs_nats c (ix c.to a) ▸ nats_rising _ _;rw [rising_pw] at this ⊢;exact this.filter _
 ·rw [List.mem_filter,mem_outs,mem_pullS,pullF,decide_eq_true_eq,and_assoc,and_assoc,and_assoc,eq_comm (a:=ix c.to a)]
theorem pull_ok (B : Nat) (c : Cat) (hs : c.Shape) (a : Int) (ha : 0≤a∧a.toNat<c.frm.length) (s : List Int) : Pur Tryz.prog B 335 [.ptr c.cells,.int .i64 a,iL s] (iL (pullS c a s)):=by
 refine ⟨fun H0=>c335.go fun ⟨_,_,_⟩=>?_⟩
 have hm:=hs.m
 have hcl:=hs.cl
 have htl:=hs.tol;refine tt ?_;refine new_list iI (.nil _) fun id H o=>tt ?_;refine ⟨⟨ha.1,by omega⟩,(outOf_ok B c _).go fun hfo=>?_⟩
 have hlo:=fine_mL_le hfo;simp only [maxL] at hlo
 generalize ho : outs c (ix c.to a)=ou at *;refine tt ?_;refine awp_for [0,1,2,19,20] (G:=Nat × List (Int)) (fun k g=>[(7,some (.buf g.1 g.2.length)),(21,some (.int .i64 (k : Int)))]) (fun k g H=>g.2=((ou.take k).filter (pullF c a s))∧Owns H0 H [(g.1,.cells 1 (g.2.map iI) 0)]) ou.length (id,[]) ⟨by simp,o⟩ rfl ?_
 rintro k ⟨id,out⟩ H hk ⟨hout,o⟩;dsimp only at hout;refine tt ?_;apply bk <;> intro h1
 ·have h1:=of_decide h1
  have w1:=wsucc (k:=k) (by omega);refine tt ?_
  have hmem : ou.getD k default∈ou:=mem_getD.mpr ⟨k,h1,rfl⟩;rw [show (ou.getD k default∈ou)=(ou.getD k default∈outs c (ix c.to a)) by rw [ho],mem_outs] at hmem
  have hr:=hs.row' (a:=a) ha.2
  have hlen : out.length≤k:=by rw [hout]; exact filt_len _ _ _
  refine ⟨h1,(catThen_ok B c a (ou.getD k default) ⟨ha.1,by omega⟩ ⟨hmem.1,by omega⟩).go fun _=>?_⟩;refine tt ?_;refine (has_ok ..).go fun _=>tt ?_;apply bk <;> intro h3
  ·refine tt ?_
   have h3p:=dd h3;refine app_own (ou.getD k default) o rfl rfl (by simp only [maxL]; omega) fun id H o=>?_;refine tw w1 ?_;exact for_next (_,_) (by omega) ⟨by rw [hout,filt_t h1 (by simpa [pullF] using h3p)],o⟩ rfl
  ·refine tw w1 ?_
   have h3p:=dd h3;exact for_next (_,_) (by omega) ⟨by rw [hout,filt_f h1 (by simpa [pullF] using h3p)],o⟩ rfl
 ·refine tt ?_
  have h1:=of_ndecide h1;refine fz_own o rfl fun H o=>tt ?_;exact pure_ret (by rw [hout,show k=ou.length by omega,List.take_length,← ho,pullF_eq]) o.sub
theorem l28Images_ok (B : Nat) (f : SF) (s : List Int) (e : Int) (hs : ∀ a,a∈s→0≤a∧a.toNat<f.acts.length) (he0 : 0≤e) (he : ∀ a,a∈s→e.toNat<(ix f.acts a).length) : Pur Tryz.prog B 86 [.agg f.cells,iL s,.int .i64 e] (iL (imgs f s e)):=by
 refine ⟨fun H0=>c86.go fun ⟨_,hf,_⟩=>?_⟩
 have hl:=fine_mL_le hf;simp only [maxL] at hl;refine tt ?_;refine new_list iI (.nil _) fun id H o=>tt ?_;refine awp_for [1,2,3] (G:=Nat × List (Int)) (fun k g=>[(7,some (.buf g.1 g.2.length)),(8,some (.int .i64 (k : Int)))]) (fun k g H=>g.2=((s.take k).map fun a=>ix (ix f.acts a) e)∧Owns H0 H [(g.1,.cells 1 (g.2.map iI) 0)]) s.length (id,[]) ⟨by simp,o⟩ rfl ?_
 rintro k ⟨id,out⟩ H hk ⟨hout,o⟩;dsimp only at hout;refine tt ?_;apply bk <;> intro h1
 ·have h1:=of_decide h1
  have w1:=wsucc (k:=k) (by omega);refine tt ?_;refine ⟨h1,⟨(hs _ (mem_getD.mpr ⟨k,h1,rfl⟩)).1,(hs _ (mem_getD.mpr ⟨k,h1,rfl⟩)).2⟩,⟨he0,he _ (mem_getD.mpr ⟨k,h1,rfl⟩)⟩, ?_⟩;refine app_own (ix (ix f.acts (s.getD k default)) e) o rfl rfl (by rw [hout,List.length_map,List.length_take]; simp only [maxL]; omega) fun id H o=>?_;refine tw w1 ?_;exact for_next (_,_) (by omega) ⟨by rw [hout,take_map_succ s _ h1],o⟩ rfl
 ·refine tt ?_
  have h1:=of_ndecide h1;refine fz_own o rfl fun H o=>tt ?_;exact pure_ret (by rw [hout,show k=s.length by omega,List.take_length]; rfl) o.sub
theorem restricted_ok (B : Nat) (f : SF) (s : List Int) (e : Int) (hs : ∀ a,a∈s→0≤a∧a.toNat<f.acts.length) (he0 : 0≤e) (he : ∀ a,a∈s→e.toNat<(ix f.acts a).length) : Pur Tryz.prog B 168 [.ptr f.cells,iL s,.int .i64 e] (iL (imgs f s e)):=by
 refine ⟨fun H0=>c168.go fun ⟨_,hf,_⟩=>?_⟩
 have hl:=fine_mL_le hf;simp only [maxL] at hl;refine tt ?_;refine new_list iI (.nil _) fun id H o=>tt ?_;refine awp_for [0,2,11,12] (G:=Nat × List (Int)) (fun k g=>[(7,some (.buf g.1 g.2.length)),(13,some (.int .i64 (k : Int)))]) (fun k g H=>g.2=((s.take k).map fun a=>ix (ix f.acts a) e)∧Owns H0 H [(g.1,.cells 1 (g.2.map iI) 0)]) s.length (id,[]) ⟨by simp,o⟩ rfl ?_
 rintro k ⟨id,out⟩ H hk ⟨hout,o⟩;dsimp only at hout;refine tt ?_;apply bk <;> intro h1
 ·have h1:=of_decide h1
  have w1:=wsucc (k:=k) (by omega);refine tt ?_;refine ⟨h1,⟨(hs _ (mem_getD.mpr ⟨k,h1,rfl⟩)).1,(hs _ (mem_getD.mpr ⟨k,h1,rfl⟩)).2⟩,⟨he0,he _ (mem_getD.mpr ⟨k,h1,rfl⟩)⟩, ?_⟩;refine app_own (ix (ix f.acts (s.getD k default)) e) o rfl rfl (by rw [hout,List.length_map,List.length_take]; simp only [maxL]; omega) fun id H o=>?_;refine tw w1 ?_;exact for_next (_,_) (by omega) ⟨by rw [hout,take_map_succ s _ h1],o⟩ rfl
 ·refine tt ?_
  have h1:=of_ndecide h1;refine fz_own o rfl fun H o=>tt ?_;exact pure_ret (by rw [hout,show k=s.length by omega,List.take_length]; rfl) o.sub
theorem amalgamations_ok (B : Nat) (f : SF) (x : Int) (s t : List Int) (hx : 0≤x∧x.toNat<f.sizes.length) (hz : ix f.sizes x≤17) (hs : ∀ a,a∈s→0≤a∧a.toNat<f.acts.length) (he : ∀ a,a∈s→((ix f.acts a).length : Int)=ix f.sizes x) : Pur Tryz.prog B 90 [.ptr f.cells,.int .i64 x,iL s,iL t] (iL (glue f x s t)):=by
 refine ⟨fun H0=>c90.go fun ⟨_,_⟩=>?_⟩;refine tt ?_;refine new_list iI (.nil _) fun id H o=>tt ?_;refine ⟨hx, ?_⟩;refine awp_for [0,2,3,18] (G:=Nat × List (Int)) (fun k g=>[(9,some (.buf g.1 g.2.length)),(19,some (.int .i64 (k : Int)))]) (fun k g H=>g.2=(nats (glueP f s t) k)∧Owns H0 H [(g.1,.cells 1 (g.2.map iI) 0)]) (ix f.sizes x).toNat (id,[]) ⟨by simp,o⟩ rfl ?_
 rintro k ⟨id,out⟩ H hk ⟨hout,o⟩;dsimp only at hout;refine tt ?_;apply bk <;> intro h1
 ·have h1:=of_decide h1
  have w1:=wsucc (k:=k) (by omega);refine tt ?_
  have hlen : out.length≤k:=by rw [hout]; exact nats_len _ _
  refine (restricted_ok B f s k hs (by omega) fun a ha=>by have:=he a ha; omega).go fun _=>tt ?_;refine (same_ok ..).go fun _=>tt ?_;apply bk <;> intro h3
  ·refine tt ?_
   have h3p:=dd h3;refine app_own (k : Int) o rfl rfl (by simp only [maxL]; omega) fun id H o=>?_;refine tw w1 ?_;exact for_next (_,_) (by omega) ⟨by rw [hout,nats_t (by simpa [glueP] using h3p)],o⟩ rfl
  ·refine tw w1 ?_
   have h3p:=dd h3;exact for_next (_,_) (by omega) ⟨by rw [hout,nats_f (by simpa [glueP] using h3p)],o⟩ rfl
 ·refine tt ?_
  have h1:=of_ndecide h1;refine fz_own o rfl fun H o=>tt ?_;exact pure_ret (by rw [hout,show k=(ix f.sizes x).toNat by omega]; rfl) o.sub
theorem l28Glued_ok (B : Nat) (f : SF) (x : Int) (s t : List Int) (hx : 0≤x∧x.toNat<f.sizes.length) (hz : ix f.sizes x≤17) (hs : ∀ a,a∈s→0≤a∧a.toNat<f.acts.length) (he : ∀ a,a∈s→((ix f.acts a).length : Int)=ix f.sizes x) : Pur Tryz.prog B 92 [.agg f.cells,.int .i64 x,iL s,iL t] (iL (glue f x s t)):=by
 refine ⟨fun H0=>c92.go fun ⟨_,_⟩=>?_⟩;refine tt ?_;refine new_list iI (.nil _) fun id H o=>tt ?_;refine awp_for [1,2,3,4] (G:=Nat × List (Int)) (fun k g=>[(9,some (.buf g.1 g.2.length)),(10,some (.int .i64 (k : Int)))]) (fun k g H=>g.2=(nats (glueP f s t) k)∧Owns H0 H [(g.1,.cells 1 (g.2.map iI) 0)]) (ix f.sizes x).toNat (id,[]) ⟨by simp,o⟩ rfl ?_
 rintro k ⟨id,out⟩ H hk ⟨hout,o⟩;dsimp only at hout;refine tt ?_;refine ⟨hx, ?_⟩;apply bk <;> intro h1
 ·have h1:=of_decide h1
  have w1:=wsucc (k:=k) (by omega);refine tt ?_
  have hlen : out.length≤k:=by rw [hout]; exact nats_len _ _
  refine (l28Images_ok B f s k hs (by omega) fun a ha=>by have:=he a ha; omega).go fun _=>tt ?_;refine (l01Same_ok ..).go fun _=>tt ?_;apply bk <;> intro h3
  ·refine tt ?_
   have h3p:=dd h3;refine app_own (k : Int) o rfl rfl (by simp only [maxL]; omega) fun id H o=>?_;refine tw w1 ?_;exact for_next (_,_) (by omega) ⟨by rw [hout,nats_t (by simpa [glueP] using h3p)],o⟩ rfl
  ·refine tw w1 ?_
   have h3p:=dd h3;exact for_next (_,_) (by omega) ⟨by rw [hout,nats_f (by simpa [glueP] using h3p)],o⟩ rfl
 ·refine tt ?_
  have h1:=of_ndecide h1;refine fz_own o rfl fun H o=>tt ?_;exact pure_ret (by rw [hout,show k=(ix f.sizes x).toNat by omega]; rfl) o.sub
theorem l25Close_ok (B : Nat) (c : Cat) (hs : c.Shape) (l : List Int) (hl : ∀ a,a∈l→0≤a∧a.toNat<c.frm.length) : Pur Tryz.prog B 236 [.agg c.cells,iL l] (iL (closeS c l)):=by
 refine ⟨fun H0=>c236.go fun ⟨_,hf,_⟩=>?_⟩
 have hll:=fine_mL_le hf;simp only [maxL] at hll
 have hm:=hs.m
 have hcl:=hs.cl
 have htl:=hs.tol;refine tt ?_;refine ⟨⟨by omega,by simp only [maxL]; omega⟩,mks_list AV.bool false rfl (.nil _) fun id H o=>?_⟩;refine tt ?_;refine awp_for [1,2,5] (fun k _=>[(6,some (.int .i64 (k : Int)))]) (fun k A H=>CloseI c l k 0 A∧Owns H0 H [(id,.cells 1 (A.map AV.bool) 0)]) l.length _ ⟨CloseI.zero c l,o⟩ rfl ?_
 rintro k A H hk ⟨hI,o⟩;refine tt ?_;apply bk <;> intro h1
 ·refine tt ?_
  have h1p:=dd h1
  have w1:=wsucc (k:=k) (by omega)
  have ha:=hl _ (mem_getD.mpr ⟨k,h1p,rfl⟩)
  have hr:=hs.row' (a:=l.getD k default) ha.2;refine awp_for [1,2,5,6] (fun b _=>[(7,some (.int .i64 (b : Int)))]) (fun b A H=>CloseI c l k b A∧Owns H0 H [(id,.cells 1 (A.map AV.bool) 0)]) c.frm.length A ⟨hI,o⟩ rfl ?_
  rintro b A H hb ⟨hI,o⟩;refine tt ?_;apply bk <;> intro h2
  ·refine tt ?_
   have h2p:=dd h2
   have w2:=wsucc (k:=b) (by omega);refine ⟨h1p,⟨ha.1,by omega⟩,h2p, ?_⟩;apply bk <;> intro h3
   ·refine tt ?_
    have h3p:=dd h3
    have hc:=hs.comp ha ⟨Int.natCast_nonneg b,by simpa using h2p⟩ (by simpa [ix] using h3p);simp only [ix_nat] at hc;refine ⟨h1p,_,(l02Then_ok B c (l.getD k default) b ⟨ha.1,by omega⟩ ⟨by omega,by omega⟩).run,tt ?_⟩;refine ⟨⟨hc.1.1,by omega⟩, ?_⟩;refine set_own true o rfl (by rw [hI.1]; omega) fun H o=>?_;refine tw w2 ?_;exact for_next _ (by omega) ⟨hI.set h3p hc.1.1,o⟩ rfl
   ·refine tw w2 ?_
    have h3p:=dd h3;exact for_next _ (by omega) ⟨hI.skip h3p,o⟩ rfl
  ·refine tw w1 ?_
   have h2p:=dd h2
   obtain rfl : b=c.frm.length:=by omega
   exact for_next _ (by omega) ⟨hI.row,o⟩ rfl
 ·refine tt ?_
  have h1p:=dd h1
  have hd:=hI.done (by omega);refine new_list iI o fun id2 H o=>tt ?_;refine awp_for [5] (G:=Nat × List Int) (fun k g=>[(8,some (.buf g.1 g.2.length)),(9,some (.int .i64 (k : Int)))]) (fun k g H=>g.2=nats (fun i=>A.getD i default) k∧Owns H0 H [(g.1,.cells 1 (g.2.map iI) 0),(id,.cells 1 (A.map AV.bool) 0)]) A.length (id2,[]) ⟨rfl,o⟩ rfl ?_
  rintro k ⟨id2,out⟩ H hk ⟨hout,o⟩;dsimp only at hout
  have hlen : out.length≤k:=by rw [hout]; exact nats_len _ _
  have hAl:=hI.1;refine tt ?_;rw [← hAl];apply bk <;> intro h2
  ·refine tt ?_
   have h2p:=dd h2
   have w2:=wsucc (k:=k) (by omega);refine ⟨by omega, ?_⟩;refine rd_own o.swap h2p ?_;refine tt ?_;apply bk <;> intro h3
   ·refine tt ?_;refine app_own (k : Int) o rfl rfl (by simp only [maxL]; omega) fun id2 H o=>?_;refine tw w2 ?_;exact for_next (_,_) (by omega) ⟨by rw [hout,nats_t h3],o⟩ rfl
   ·refine tw w2 ?_;exact for_next (_,_) (by omega) ⟨by rw [hout,nats_f h3],o⟩ rfl
  ·refine tt ?_
   have h2p:=dd h2;refine fz_own o rfl fun H o=>tt ?_;exact pure_ret (by rw [hout,← hd,show k=A.length by omega]) o.sub
theorem sieveOf_ok (B : Nat) (c : Cat) (hs : c.Shape) (l : List Int) (hl : ∀ a,a∈l→0≤a∧a.toNat<c.frm.length) : Pur Tryz.prog B 340 [.ptr c.cells,iL l] (iL (closeS c l)):=by
 refine ⟨fun H0=>c340p.go fun ⟨_,hf,_⟩=>?_⟩
 have hll:=fine_mL_le hf;simp only [maxL] at hll
 have hm:=hs.m
 have hcl:=hs.cl
 have htl:=hs.tol;refine tt ?_;refine (arrows_ok B c).go fun _=>tt ?_;refine ⟨⟨by omega,by simp only [maxL]; omega⟩,mks_list AV.bool false rfl (.nil _) fun id H o=>?_⟩;refine tt ?_;refine awp_for [0,5,13,14] (fun k _=>[(15,some (.int .i64 (k : Int)))]) (fun k A H=>CloseI c l k 0 A∧Owns H0 H [(id,.cells 1 (A.map AV.bool) 0)]) l.length _ ⟨CloseI.zero c l,o⟩ rfl ?_
 rintro k A H hk ⟨hI,o⟩;refine tt ?_;apply bk <;> intro h1
 ·refine tt ?_
  have h1p:=dd h1
  have w1:=wsucc (k:=k) (by omega)
  have ha:=hl _ (mem_getD.mpr ⟨k,h1p,rfl⟩)
  have hr:=hs.row' (a:=l.getD k default) ha.2;refine ⟨h1p,⟨ha.1,by omega⟩,(outOf_ok B c _).go fun hfo=>?_⟩
  have hlo:=fine_mL_le hfo;simp only [maxL] at hlo
  have hI:=hI.out;refine tt ?_;refine awp_for [0,5,7,13,14,15,27,28] (fun b _=>[(29,some (.int .i64 (b : Int)))]) (fun b A H=>CloseO c l k b A∧Owns H0 H [(id,.cells 1 (A.map AV.bool) 0)]) (outs c (ix c.to (l.getD k default))).length A ⟨hI,o⟩ rfl ?_
  rintro b A H hb ⟨hI,o⟩;refine tt ?_;apply bk <;> intro h2
  ·refine tt ?_
   have h2p:=dd h2
   have w2:=wsucc (k:=b) (by omega)
   have hmem : (outs c (ix c.to (l.getD k default))).getD b default∈outs c (ix c.to (l.getD k default)):=mem_getD.mpr ⟨b,h2p,rfl⟩;rw [mem_outs] at hmem
   have hc:=hs.comp ha ⟨hmem.1,hmem.2.1⟩ hmem.2.2.symm;refine ⟨h2p,(catThen_ok B c _ _ ⟨ha.1,by omega⟩ ⟨hmem.1,by omega⟩).go fun _=>?_⟩;refine tt ?_;refine ⟨⟨hc.1.1,by omega⟩, ?_⟩;refine set_own true o rfl (by rw [hI.1]; omega) fun H o=>?_;refine tw w2 ?_;exact for_next _ (by omega) ⟨hI.set h2p hc.1.1,o⟩ rfl
  ·refine tw w1 ?_
   have h2p:=dd h2;exact for_next _ (by omega) ⟨hI.row (by omega),o⟩ rfl
 ·refine tt ?_
  have h1p:=dd h1
  have hd:=hI.done (by omega);rw [← hI.1];refine fz_own o rfl fun H o=>tt ?_;refine (marked_ok B A).go fun _=>tt ?_;exact pure_ret (by rw [← hd]; rfl) o.sub
theorem indexFunc_ok (B : Nat) (l : List (List Int)) (fn : FuncId) (ca : List AV) (p : List Int→Bool) (hp : ∀ t,t∈l→PureF Tryz.prog B fn (iL t::ca) (.bool (p t))) :
  Pur Tryz.prog B 325 [iLL l,.fn (.func fn) ca] (.int .i64 (match l.findIdx? p with | some i=>(i : Int) | none=>-1)):=by
 refine ⟨fun H0=>c325.go fun ⟨hf,_⟩=>?_⟩
 have hll:=fine_mL_le hf;simp only [maxL] at hll;refine tt ?_;refine awp_for [0,1,7] (fun k _=>[(8,some (.int .i64 (k : Int)))]) (fun k _ H=>H=H0∧∀ i,i<k→p (l.getD i default)=false) l.length () ⟨rfl,by simp⟩ rfl ?_
 rintro k _ H hk ⟨rfl,hall⟩;refine tt ?_;apply bk <;> intro h1
 ·refine tt ?_
  have h1p:=dd h1
  have w1:=wsucc (k:=k) (by omega);refine ⟨h1p,(hp _ (mem_getD.mpr ⟨k,h1p,rfl⟩)).go fun _=>?_⟩;refine tt ?_;apply bk <;> intro h2
  ·refine tt ?_;refine pure_ret ?_ (.refl _)
   have : l.findIdx? p=some k:=by
    rw [List.findIdx?_eq_some_iff_getElem];refine ⟨h1p,by simpa [List.getD_eq_getElem?_getD,h1p] using h2,fun j hj=>?_⟩
    have:=hall j hj
    simpa [List.getD_eq_getElem?_getD,show j<l.length by omega] using this
   rw [this]
  ·refine tw w1 ?_;exact for_next () (by omega) ⟨rfl,lt_succ_all hall h2⟩ rfl
 ·refine tt ?_
  have h1p:=dd h1;refine pure_ret ?_ (.refl _)
  have : l.findIdx? p=none:=by
   rw [List.findIdx?_eq_none_iff]
   intro x hx
   obtain ⟨i,hi,rfl⟩:=mem_getD.mp hx;exact hall i (by omega)
  rw [this]
theorem same1_ok (B : Nat) (s t : List Int) : Pur Tryz.prog B 326 [iL t,.ptr [iL s]] (.bool (dec (s=t))):=by
 refine ⟨fun H0=>c326.go fun _=>?_⟩;refine tt ?_;refine (same_ok ..).go fun _=>tt ?_;exact pure_ret rfl (.refl _)
theorem same2_ok (B : Nat) (s t : List Int) : Pur Tryz.prog B 342 [iL t,.ptr [iL s]] (.bool (dec (s=t))):=by
 refine ⟨fun H0=>c342.go fun _=>?_⟩;refine tt ?_;refine (same_ok ..).go fun _=>tt ?_;exact pure_ret rfl (.refl _)
theorem cmp2_ok (B : Nat) (s t : List Int) : Pur Tryz.prog B 344 [iL s,iL t] (.int .i64 (cmp s t)):=by
 refine ⟨fun H0=>c344.go fun _=>?_⟩;refine tt ?_;refine (compare_ok ..).go fun _=>tt ?_;exact pure_ret rfl (.refl _)
theorem findIdx_same {α : Type} [DecidableEq α] (l : List α) (s : α) : (match l.findIdx? fun t=>dec (s=t) with | some i=>(i : Int) | none=>-1)=indexOf l s:=by
 rw [indexOf,List.idxOf?]
 have : (fun t=>dec (s=t))=fun t=>t == s:=by
  funext t; rw [← decide_dec,Bool.eq_iff_iff,decide_eq_true_eq,beq_iff_eq,eq_comm]
 rw [this]; rfl
theorem indexOf_mem {α : Type} [DecidableEq α] [Inhabited α] (l : List α) (s : α) : 0≤indexOf l s↔s∈l:=by
 constructor
 ·intro h;apply Classical.byContradiction; intro hn;rw [indexOf_miss fun i hi e=>hn (mem_getD.mpr ⟨i,hi,e⟩)] at h;omega
 ·intro h;unfold indexOf
  split
  ·omega
  ·rename_i e; rw [List.idxOf?_eq_none_iff] at e; exact absurd h e
theorem containsFunc_ok (B : Nat) (l : List (List Int)) (s : List Int) : Pur Tryz.prog B 341 [iLL l,.fn (.func 342) [.ptr [iL s]]] (.bool (dec (s∈l))):=by
 refine ⟨fun H0=>c341.go fun _=>?_⟩;refine tt ?_;refine (indexFunc_ok B l 342 _ _ fun t _=>(same2_ok B s t).run).go fun _=>?_;rw [findIdx_same];refine tt ?_;refine pure_ret ?_ (.refl _)
 congr 1
 rw [decide_dec]; exact dec_congr (indexOf_mem l s)
def OwnK {α : Type} (f : α→AV) (H0 : Heap) (l : List (Nat × MObj)) (Q : List α→Prop) : Kont:=fun r H'=>∃ id A,r=.buf id A.length∧Owns H0 H' ((id,.cells 1 (A.map f) 0)::l)∧Q A
theorem own_ret {α : Type} {f : α→AV} {H0 H : Heap} {l : List (Nat × MObj)} {Q : List α→Prop} {id n : Nat} {A : List α} (o : Owns H0 H ((id,.cells 1 (A.map f) 0)::l)) (hn : n=A.length) (hq : Q A) :
  subW (OwnK f H0 l Q) (.buf id n) H:=⟨H,.refl H,id,A,by rw [hn],o,hq⟩
end Go.Proofs.Shf
namespace Go.AW
open Go.Proofs Go.Shf Go.Proofs.Shf
theorem CallH.own {P : Program} {α : Type} {f : α→AV} {B : Nat} {fn : FuncId} {args : List AV} {H0 H : Heap} {l : List (Nat × MObj)} {Q : List α→Prop} {K : Kont} (h : CallH P B fn args H (OwnK f H0 l Q))
  (hk : ∀ id A H',Owns H0 H' ((id,.cells 1 (A.map f) 0)::l)→Q A→K (.buf id A.length) H') : CallH P B fn args H K :=
 h.mono fun r H' ⟨id,A,e,o,q⟩=>by subst e; exact hk id A H' o q
end Go.AW
namespace Go.Proofs.Shf
open Go.AW Go.Proofs Go.Shf
theorem l01Own_own (B : Nat) (l : List Int) (H0 H : Heap) (r : List (Nat × MObj)) (o : Owns H0 H r) : CallH Tryz.prog B 84 [iL l] H (OwnK iI H0 r (·=l)):=by
 refine c84p.go fun ⟨hf,_⟩=>?_
 have hl:=fine_mL_le hf;refine tt ?_;refine new_list iI o fun id H o=>tt ?_;refine app_list (f:=iI) o rfl (by simpa using hl) fun id H o=>tt ?_;exact own_ret o rfl rfl
theorem clone_own (B : Nat) (l : List Int) (H0 H : Heap) (r : List (Nat × MObj)) (o : Owns H0 H r) : CallH Tryz.prog B 221 [iL l] H (OwnK iI H0 r (·=l)):=by
 refine c221p.go fun ⟨hf,_⟩=>?_
 have hl:=fine_mL_le hf;refine tt ?_;refine new_list iI o fun id H o=>tt ?_;refine app_list (f:=iI) o rfl (by simpa using hl) fun id H o=>tt ?_;exact own_ret o rfl rfl
theorem l25Grow_own (B : Nat) (c : Cat) (hc : c.Is) (x : Int) : ∀ (n : Nat) (s : List Int),missing c x s=n→c.Sieve x s→∀ (H0 H : Heap) (l : List (Nat × MObj)) (id : Nat) (found : List (List Int)),
  Owns H0 H ((id,.cells 1 (found.map iL) 0)::l)→found.Nodup→(∀ t,t∈found→c.Sieve x t)→found.length≤17 →
  CallH Tryz.prog B 339 [.agg c.cells,iL (outs c x),iL s,.buf id found.length] H (OwnK iL H0 l (GrowQ c x s found)):=by
 intro n
 induction n using Nat.strongRecOn with
 | _ n ih =>
 intro s hn hs H0 H l id found o nd sv le;refine c339p.go fun ⟨_,hfo,hfs,_⟩=>?_
 have hlo:=fine_mL_le hfo
 have hls:=fine_mL_le hfs;simp only [maxL] at hlo hls
 have hsh:=hc.1
 have hm:=hsh.m;refine tt ?_;refine call_lent 0 rfl o rfl (.int _ _) (l05Place_ok ..).run ?_;refine tt ?_
 have hix:=indexOf_mem found s;apply bn <;> intro h0
 rotate_left
 ·refine tw h0 ?_
  have hin:=hix.mp (of_decide h0);exact own_ret o rfl (GrowQ.stop nd sv le (.inl hin))
 refine tw h0 ?_
 have hin : s ∉ found:=fun h=>of_ndecide h0 (hix.mpr h);apply bk <;> intro h1
 ·refine tw h1 ?_
  have h1p:=dd h1;exact own_ret o rfl (GrowQ.stop nd sv le (.inr (by omega)))
 refine tw h1 ?_
 have h1p:=dd h1;refine app_own s o rfl rfl (by simp only [maxL]; omega) fun id H o=>tt ?_;refine awp_for [1,2,4] (G:=Nat × List (List Int)) (fun k g=>[(3,some (.buf g.1 g.2.length)),(9,some (.int .i64 (k : Int)))]) (fun k g H=>GrowL c x s found k g.2∧Owns H0 H ((g.1,.cells 1 (g.2.map iL) 0)::l)) (outs c x).length (id,found++[s]) ⟨.zero nd sv hs hin (by omega),o⟩ rfl ?_
 rintro k ⟨id,out⟩ H hk ⟨hq,o⟩;dsimp only at hq o;refine tt ?_;apply bk <;> intro h2
 rotate_left
 ·refine tt ?_
  have h2p:=dd h2;exact own_ret o rfl (hq.done (by omega))
 refine tt ?_
 have h2p:=dd h2
 have w1:=wsucc (k:=k) (by omega)
 have hmem : (outs c x).getD k default∈outs c x:=mem_getD.mpr ⟨k,h2p,rfl⟩;refine ⟨h2p,(l01Has_ok ..).go fun _=>?_⟩;refine tt ?_;apply bk <;> intro h3
 rotate_left
 ·try simp only [go_sem,↓reduceIte,reduceEqDiff,reduceAdd,reduceMul,reduceLeDiff,reduceLT,h3,w1]
  have h3p:=dd h3;exact for_next (_,_) (by omega) ⟨hq.skip h2p (add_self hc hs h3p),o⟩ rfl
 refine tw h3 ?_
 have h3p:=dd h3;refine ⟨h2p,(l01Own_own B s H0 H _ o).own ?_⟩
 rintro ida A H oa rfl
 have hAl:=hs.len;refine tt ?_;refine app_own ((outs c x).getD k default) oa rfl rfl (by simp only [maxL]; omega) fun ida H oa=>tt ?_;refine call_fz 1 rfl oa rfl fun H o=>?_;simp only [List.set_cons_succ,List.set_cons_zero]
 have hlA : ∀ b,b∈A++[(outs c x).getD k default]→0≤b∧b.toNat<c.frm.length:=by
  intro b hb
  rcases List.mem_append.mp hb with hb | hb
  ·exact (hs.arr hb).1
  ·rw [List.mem_singleton] at hb; subst hb; have:=mem_outs.mp hmem; exact ⟨this.1,this.2.1⟩
 refine (l25Close_ok B c hsh _ hlA).go fun _=>tt ?_;refine (ih _ (hn ▸ missing_lt hc hs hmem h3p) _ rfl (add_sieve hc hs hmem) H0 H l id out o hq.nd hq.sv hq.le).own ?_
 rintro id' out' H o q;refine tw w1 ?_;exact for_next (_,_) (by omega) ⟨hq.step h2p q,o⟩ rfl
theorem l25Sorted_ok (B : Nat) (l : List (List Int)) (H0 : Heap) : CallH Tryz.prog B 308 [iLL l] H0 (fun r H'=>H'=H0∧∃ M,r=iLL M∧M.Perm l∧M.Pairwise fun s t=>cmp s t≤0):=by
 refine c308.go fun ⟨hf,_⟩=>?_
 have hl:=fine_mL_le hf
 have hl2:=hl;simp only [maxL] at hl;refine tt ?_;refine new_list iL (.nil _) fun id H o=>tt ?_;refine app_list (f:=iL) o rfl (by simpa using hl2) fun id H o=>?_;rw [List.nil_append] at *;refine tt ?_;refine awp_for [3] (fun k _=>[(4,some (.int .i64 ((k+1 : Nat) : Int)))]) (fun k A H=>(A.Perm l∧∀ a b,a<b→b≤k→b<l.length→cmp (A.getD a default) (A.getD b default)≤0)∧Owns H0 H [(id,.cells 1 (A.map iL) 0)]) l.length l ⟨⟨.refl _,fun a b h1 h2=>by omega⟩,o⟩ rfl ?_
 rintro k A H hk ⟨⟨hp,hs⟩,o⟩
 have hAl:=hp.length_eq;refine tt ?_;apply bk <;> intro h1
 ·refine tt ?_
  have h1p:=dd h1
  have w1:=wsucc (k:=k+1) (by omega)
  refine awp_while [3,4] (fun (g : Nat × List (List Int))=>[(5,some (.int .i64 (g.1 : Int)))]) (fun m g H=>m=g.1∧SortI l (k+1) g.1 g.2∧Owns H0 H [(id,.cells 1 (g.2.map iL) 0)]) (k+1) (k+1,A)
   ⟨rfl,⟨hp,Nat.le_refl _,by omega,fun a b h2 h3 h4=>hs a b h2 (by omega) (by omega)⟩,o⟩ rfl ?_
  rintro j ⟨j',A⟩ H ⟨hj,hI,o⟩
  obtain rfl : j=j':=hj;dsimp only at hI
  have hIl:=hI.le
  have hIt:=hI.lt
  have hIp:=hI.pm.length_eq;dsimp only at o;refine tt ?_;apply bk <;> intro h2
  ·refine tw h2 ?_
   have h2p:=dd h2
   obtain ⟨j,rfl⟩ : ∃ i,j=i+1:=⟨j - 1,by omega⟩
   have w2:=wpred (k:=j+1) (by omega) (by omega);rw [Nat.add_sub_cancel] at w2;refine ⟨by omega,rd_own o (by omega) ?_⟩;refine tw w2 ?_;refine ⟨by omega,rd_own o (by omega) ?_⟩;refine tt ?_;refine ⟨_,(l01Less_ok ..).run,tt ?_⟩;apply bk <;> intro h3
   ·refine tt ?_
    have h3p:=dd h3;refine ⟨by omega,rd_own o (by omega) ?_⟩;refine tw w2 ?_;refine ⟨by omega,rd_own o (by omega) ?_⟩;refine tt ?_;refine ⟨by omega,set_own (A.getD j default) o rfl (by omega) fun H o=>?_⟩;refine tw w2 ?_;refine ⟨by omega,set_own (A.getD (j+1) default) o rfl (by rw [List.length_set]; omega) fun H o=>?_⟩;refine tw w2 ?_;exact while_next j (j,_) (by omega) ⟨rfl,hI.swap h3p,o⟩ rfl
   ·refine tw w1 ?_
    have h3p:=dd h3;exact for_next A (by omega) ⟨⟨hI.pm,fun a b h4 h5 h6=>hI.stop (.inr ⟨by omega,by simpa using h3p⟩) a b h4 (by omega)⟩,o⟩ rfl
  ·try simp only [go_sem,↓reduceIte,reduceEqDiff,reduceAdd,reduceMul,reduceLeDiff,reduceLT,h2,w1]
   have h2p:=dd h2;exact for_next A (by omega) ⟨⟨hI.pm,fun a b h4 h5 h6=>hI.stop (.inl (by omega)) a b h4 (by omega)⟩,o⟩ rfl
 ·refine tt ?_
  have h1p:=dd h1;rw [← hAl];refine fz_own o rfl fun H o=>tt ?_;exact ⟨_,o.sub,rfl,A,rfl,hp,sorted_getD fun a b h2 h3=>hs a b h2 (by omega) (by omega)⟩
theorem l25All_ok (B : Nat) (c : Cat) (hc : c.Is) (x : Int) (H0 : Heap) : CallH Tryz.prog B 330 [.agg c.cells,.int .i64 x] H0 (fun r H'=>H'=H0∧∃ L,r=.tup [iLL L,.bool (dec (Few c x))]∧(Few c x→L=allS c x)):=by
 refine c330p.go fun _=>?_
 have hs:=hc.1
 have hm:=hs.m;refine tt ?_;refine ⟨_,(l25Out_ok ..).run,tt ?_⟩;refine new_list iL (.nil _) fun id H o=>tt ?_;refine (l25Grow_own B c hc x _ [] rfl (nil_sieve x) H0 H _ id [] o (by simp) (by simp) (by simp)).own ?_
 rintro id L H o q;refine tt ?_;refine fz_own o rfl fun H o=>tt ?_;refine (l25Sorted_ok ..).mono ?_
 rintro r H' ⟨rfl,M,rfl,hp,hso⟩;refine tt ?_
 have ha:=all_of_grow hc q.nd q.sv hp hso (q.all.imp_right fun ⟨h1,h2⟩=>⟨h1,fun t ht=>h2 t ht (by simp)⟩);refine ⟨_,o.sub,rfl,M, ?_,ha.2⟩
 congr 3
 rw [← ha.1,← decide_dec]
 congr 1; rw [Bool.eq_iff_iff]; simp only [decide_eq_true_eq]; omega
theorem l25Lists_ok (B : Nat) (c : Cat) (hc : c.Is) : Pur Tryz.prog B 315 [.agg c.cells] (.tup [iLLL (tabS c),.bool (dec (AllFew c))]):=by
 refine ⟨fun H0=>c315.go fun ⟨_,_⟩=>?_⟩
 have hs:=hc.1
 have hm:=hs.m
 have hob:=hs.o;refine tt ?_;refine new_list iLL (.nil _) fun id H o=>tt ?_;refine awp_for [1] (G:=Nat × List (List (List Int))) (fun k g=>[(4,some (.buf g.1 g.2.length)),(5,some (.int .i64 (k : Int)))]) (fun k g H=>(g.2=((List.range k).map fun x : Nat=>allS c (x : Int))∧∀ x,x<k→Few c x)∧Owns H0 H [(g.1,.cells 1 (g.2.map iLL) 0)]) c.objs.toNat (id,[]) ⟨⟨by simp,by simp⟩,o⟩ rfl ?_
 rintro k ⟨id,out⟩ H hk ⟨hout,o⟩;dsimp only at hout;refine tt ?_;apply bk <;> intro h1
 ·have h1:=of_decide h1
  have w1:=wsucc (k:=k) (by omega);refine tt ?_;refine (l25All_ok B c hc k H).mono ?_
  rintro r H' ⟨rfl,L,rfl,hL⟩;refine tt ?_;apply bk <;> intro h2
  ·refine tt ?_
   have h2p:=dd h2
   have hno : ¬ AllFew c:=fun h=>h2p (h k (by omega));exact pure_ret (by rw [tabS_f hno,dec_f hno]; rfl) o.sub
  ·refine tt ?_
   have h2p:=dd h2;refine app_own (allS c k) o (by rw [hL h2p]) rfl (by simp only [maxL]; rw [hout.1]; simp; omega) fun id H o=>?_;refine tw w1 ?_;exact for_next (_,_) (by omega) ⟨⟨by rw [hout.1,map_range_succ],lt_succ_all hout.2 h2p⟩,o⟩ rfl
 ·refine tt ?_
  have h1:=of_ndecide h1;refine fz_own o rfl fun H o=>tt ?_;exact pure_ret (by have hall : AllFew c:=fun x hx=>hout.2 x (by omega); rw [tabS_t hall,dec_t hall,hout.1,show k=c.objs.toNat by omega]; rfl) o.sub
theorem l25Tops_ok (B : Nat) (c : Cat) (L : List (List (List Int))) : Pur Tryz.prog B 317 [.agg c.cells,iLLL L] (iL (topsOf c L)):=by
 refine ⟨fun H0=>c317.go fun ⟨_,hf,_⟩=>?_⟩
 have hl:=fine_mL_le hf;simp only [maxL] at hl;refine tt ?_;refine new_list iI (.nil _) fun id H o=>tt ?_;refine awp_for [1,2] (G:=Nat × List (Int)) (fun k g=>[(5,some (.buf g.1 g.2.length)),(6,some (.int .i64 (k : Int)))]) (fun k g H=>g.2=((List.range k).map (topOf c L))∧Owns H0 H [(g.1,.cells 1 (g.2.map iI) 0)]) L.length (id,[]) ⟨by simp,o⟩ rfl ?_
 rintro k ⟨id,out⟩ H hk ⟨hout,o⟩;dsimp only at hout;refine tt ?_;apply bk <;> intro h1
 ·have h1:=of_decide h1
  have w1:=wsucc (k:=k) (by omega);refine tt ?_;refine ⟨h1,_,(l25Out_ok ..).run,tt ?_⟩;refine ⟨_,(l05Place_ok ..).run,tt ?_⟩;refine app_own (topOf c L k) o rfl rfl (by rw [hout]; simp [maxL] <;> omega) fun id H o=>?_
  refine tw w1 ?_;exact for_next (_,_) (by omega) ⟨by rw [hout,map_range_succ],o⟩ rfl
 ·refine tt ?_
  have h1:=of_ndecide h1;refine fz_own o rfl fun H o=>tt ?_;exact pure_ret (by rw [hout,show k=L.length by omega]; rfl) o.sub
end Go.Proofs.Shf
namespace Go.AW
open Go.Proofs Go.Shf Go.Proofs.Shf
theorem Owns.rc {H0 H : Heap} {l : List (Nat × MObj)} {id sz fr : Nat} {cs : List AV} (o : Owns H0 H ((id,.cells sz cs fr)::l)) (n off : Nat) (h : off+n≤cs.length) : rc1 (some n) off (H.get id)=some (.agg ((cs.drop off).take n)):=by
 have h0:=o.h0;simp only at h0;rw [h0,rc1_n,if_pos h]
end Go.AW
namespace Go.Proofs.Shf
open Go.AW Go.Proofs Go.Shf
theorem l25Make_ok (B : Nat) (c : Cat) (hs : c.Shape) (L : List (List (List Int))) (hL : (L.length : Int)=c.objs) : Pur Tryz.prog B 316 [.agg c.cells,iLLL L] (.agg (c.cells++[iL (L.map fun l=>(l.length : Int)),iLL (pullsOf c L)])):=by
 refine ⟨fun H0=>c316p.go fun ⟨_,hfL,_⟩=>?_⟩
 have hm:=hs.m
 have hob:=hs.o
 have htl:=hs.tol;refine tt ?_;refine nb (.nil _) fun id4 H o=>tt ?_;refine (l02Own_ok ..).go fun _=>tt ?_;refine nb o fun id5 H o=>tt ?_;refine st_cells o (by simp) rfl (by simp only [memcons,memnil]; exact ⟨rfl,rfl,rfl,rfl,rfl,rfl,rfl,trivial⟩) fun H o=>?_;simp only [wr_cons,wr_nil,List.set_cons_zero,List.set_cons_succ] at o;refine tt ?_
 have hfl:=fine_mL_le hfL;simp only [maxL] at hfl
 refine awp_for [1,2,4,5] (fun k _=>[(6,some (.int .i64 (k : Int)))]) (fun k X H=>LsO iI H0 H ((id5,.cells 7 [iI c.objs,iL c.frm,iL c.to,iL c.idn,iLL c.comp,X,.nilsl] 0) ::
  [(id4,.cells 7 [.int .i64 0,.nilsl,.nilsl,.nilsl,.nilsl,.nilsl,.nilsl] 0)]) X ((L.take k).map fun l=>(l.length : Int))) L.length .nilsl (.inl ⟨rfl,rfl,o⟩) rfl ?_
 rintro k X H hk hX;refine tt ?_;apply bk <;> intro h1
 ·refine tt ?_
  have h1p:=dd h1
  have w1:=wsucc (k:=k) (by omega);refine rd_get hX.obj (by simp) ?_;refine tt ?_;refine ⟨h1p, ?_⟩;refine hX.app ((L.getD k default).length : Int) rfl (by rw [List.length_map,List.length_take]; simp only [maxL]; omega) fun id H o=>tt ?_;refine st_cells o.swap (by simp) rfl (by simp only [memcons,memnil]; exact ⟨rfl,trivial⟩) fun H o=>?_;simp only [wr_cons,wr_nil,List.set_cons_zero,List.set_cons_succ] at o;refine tw w1 ?_;exact for_next _ (by omega) (.inr ⟨id,rfl,by rw [take_map_succ L _ h1p]; exact o.swap⟩) rfl
 ·refine tt ?_
  have h1p:=dd h1
  obtain rfl : k=L.length:=by omega
  rw [List.take_length] at hX;refine wk_ls 5 hX rfl fun H o=>wkW_done ?_;simp only [List.set_cons_zero,List.set_cons_succ] at o;clear hX;refine tt ?_
  refine awp_for [1,2,4,5] (fun k _=>[(7,some (.int .i64 (k : Int)))]) (fun k Y H=>LsO iL H0 H ((id5,.cells 7 [iI c.objs,iL c.frm,iL c.to,iL c.idn,iLL c.comp,iL (L.map fun l=>(l.length : Int)),Y] 0) ::
   [(id4,.cells 7 [.int .i64 0,.nilsl,.nilsl,.nilsl,.nilsl,.nilsl,.nilsl] 0)]) Y ((List.range k).map (rowP c L))) c.frm.length .nilsl (.inl ⟨rfl,rfl,o⟩) rfl ?_
  rintro k Y H hk hY;refine tt ?_;apply bk <;> intro h2
  ·refine tt ?_
   have h2p:=dd h2
   have w1:=wsucc (k:=k) (by omega)
   have hf:=hs.frm' h2p
   have ht:=hs.to' h2p
   have hil:=hs.il
   obtain ⟨p,o,hp⟩:=hY.split;clear hY;refine new_list iI o fun idr H o=>tt ?_
   generalize hLf : L.getD (c.frm.getD k default).toNat default=Lf at *
   have hLL : Lf.length≤maxL:=by
    rw [← hLf]; exact fine_mL_le (fine_mL_ix (i:=c.frm.getD k default) hfL (by omega))
   simp only [maxL] at hLL
   refine awp_for [1,2,4,5,7] (G:=Nat × List Int) (fun j g=>[(8,some (.buf g.1 g.2.length)),(9,some (.int .i64 (j : Int)))])
    (fun j g H=>g.2=((Lf.take j).map fun s=>indexOf (L.getD (c.to.getD k default).toNat default) (pullS c k s))∧Owns H0 H ((g.1,.cells 1 (g.2.map iI) 0)::(p++[(id5,.cells 7 [iI c.objs,iL c.frm,iL c.to,iL c.idn,iLL c.comp,iL (L.map fun l=>(l.length : Int)),Y] 0),(id4,.cells 7 [.int .i64 0,.nilsl,.nilsl,.nilsl,.nilsl,.nilsl,.nilsl] 0)]))) Lf.length (idr,[]) ⟨by simp,o⟩ rfl ?_
   rintro j ⟨idr,row⟩ H hj ⟨hrow,o⟩;dsimp only at hrow
   have hrl : row.length≤j:=by rw [hrow]; simp; omega
   refine tt ?_;refine ⟨h2p,⟨hf.1,by omega⟩, ?_⟩
   have hix : ix L (c.frm.getD k default)=Lf:=by rw [← hLf]; rfl
   rw [hix];refine tt ?_;apply bk <;> intro h3
   ·refine tt ?_
    have h3p:=dd h3
    have w3:=wsucc (k:=j) (by omega);refine ⟨by omega,⟨ht.1,by omega⟩,h2p,⟨hf.1,by omega⟩, ?_⟩;rw [hix];refine ⟨h3p,_,(l25Pull_ok B c hs k ⟨by omega,by simpa using h2p⟩ _).run,tt ?_⟩;refine ⟨_,(l05Place_ok ..).run,tt ?_⟩;refine app_own _ o rfl rfl (by simp only [maxL]; omega) fun idr H o=>?_;refine tw w3 ?_;exact for_next (_,_) (by omega) ⟨by rw [take_map_succ Lf _ h3p,hrow]; rfl,o⟩ rfl
   ·refine tt ?_
    have h3p:=dd h3;refine fz_own o rfl fun H o=>?_
    have hY:=LsO.mk o hp
    have hg:=hY.obj;refine tt ?_;refine rd_get hg (by simp) ?_;refine tt ?_;refine hY.app row rfl (by simp only [maxL]; simp; omega) fun id H o=>tt ?_;refine st_cells o.swap (by simp) rfl (by simp only [memcons,memnil]; exact ⟨rfl,trivial⟩) fun H o=>?_;simp only [wr_cons,wr_nil,List.set_cons_zero,List.set_cons_succ] at o;refine tw w1 ?_;refine for_next _ (by omega) (.inr ⟨id,rfl, ?_⟩) rfl
    have e : row=rowP c L k:=by rw [hrow,show j=Lf.length by omega,List.take_length,rowP,hLf]
    rw [map_range_succ,← e]; exact o.swap
  ·refine tt ?_
   have h2p:=dd h2
   obtain rfl : k=c.frm.length:=by omega
   refine wk_ls 6 hY rfl fun H o=>wkW_done ?_;simp only [List.set_cons_zero,List.set_cons_succ] at o;clear hY;refine tt ?_;refine rd_celln o (by simp) ?_;refine tt ?_;refine st_cells o.swap (by simp) rfl (by simp only [memcons,memnil]; exact ⟨rfl,rfl,rfl,rfl,rfl,rfl,rfl,trivial⟩) fun H o=>?_;simp only [wr_cons,wr_nil,List.set_cons_zero,List.set_cons_succ] at o;refine tt ?_;rw [o.rc 7 0 (by simp)];refine tt ?_;exact pure_ret rfl o.sub
theorem l27Local_ok (B : Nat) (c : Cat) (L : List (List (List Int))) (t : TabOk c L) (M : List (List Bool)) (hM : MarkOk L M) (x s k : Nat) (hx : x<L.length) (hs : s<(L.getD x default).length) (hk : k<(L.getD x default).length) :
  Pur Tryz.prog B 318 [.agg (tabCells c L),bLL M,.int .i64 x,.int .i64 s,.int .i64 k] (.bool (dec (LocP c L M x s k))):=by
 refine ⟨fun H0=>c318.go fun _=>?_⟩
 have hsv:=t.sv hx hs
 have hcl:=hsv.len
 have hm:=t.is.1.m
 have hto:=t.is.1.tol;refine tt ?_;refine ⟨hx,hs, ?_⟩
 generalize hcv : (L.getD x default).getD s default=cv at *;refine tt ?_;refine awp_for [1,4,5,11] (fun i _=>[(12,some (.int .i64 (i : Int)))]) (fun i _ H=>H=H0∧∀ j,j<i→mg M (ix c.to (cv.getD j default)) ((ix (pullsOf c L) (cv.getD j default)).getD k default)=true) cv.length () ⟨rfl,by simp⟩ rfl ?_
 rintro i _ H hi ⟨rfl,hall⟩;refine tt ?_;apply bk <;> intro h1
 ·refine tt ?_
  have h1p:=dd h1
  have w1:=wsucc (k:=i) (by omega)
  have ha:=hsv.arr (mem_getD.mpr ⟨i,h1p,rfl⟩)
  have hkr : k<(ix L (ix c.frm (cv.getD i default))).length:=by rw [ha.2,ix_nat]; exact hk
  have hp:=t.pull ha.1 hkr
  have htt:=t.to ha.1
  have hrow:=hM.row _ htt.2
  have hpl:=pulls_len (c:=c) (L:=L)
  have hpr:=pulls_row (L:=L) ha.1
  have hml:=hM.len;refine ⟨h1p,⟨ha.1.1,by omega⟩,⟨htt.1,by omega⟩,h1p,⟨ha.1.1,by omega⟩,by omega,⟨hp.1.1, ?_⟩, ?_⟩
  ·have:=hp.1.2;simp only [ix] at this hrow ⊢;omega
  apply bk <;> intro h2
  ·refine tt ?_
   have h2p:=dd h2;refine pure_ret ?_ (.refl _);rw [dec_f]
   intro h
   have:=h i (by rw [hcv]; exact h1p);rw [hcv] at this;simp only [mg] at this;rw [this] at h2p; cases h2p
  ·refine tw w1 ?_
   have h2p:=dd h2;exact for_next () (by omega) ⟨rfl,lt_succ_all hall h2p⟩ rfl
 ·refine tt ?_
  have h1p:=dd h1;refine pure_ret ?_ (.refl _);rw [dec_t]
  intro i hi; rw [hcv] at hi ⊢; exact hall i (by omega)
theorem map_snd_get {α : Type} [Inhabited α] (ms : List (Nat × List α)) {x : Nat} (hx : x<ms.length) : (ms.map Prod.snd).getD x default=(ms.getD x default).2:=by
 simp [List.getD_eq_getElem?_getD,hx]
theorem l27Step_ok (B : Nat) (c : Cat) (L : List (List (List Int))) (t : TabOk c L) (ms : List (Nat × List Bool)) (hM : MarkOk L (ms.map Prod.snd)) (id : Nat) (H0 H : Heap) (l : List (Nat × MObj))
  (o : Owns H0 H ((id,.cells 1 (ms.map bufE) 0)::(inner AV.bool ms++l))) :
  CallH Tryz.prog B 296 [.agg (tabCells c L),.buf id ms.length] H (fun r H'=>r=.bool (dec (¬ TopM c L (ms.map Prod.snd)))∧H'=H0):=by
 refine c296p.go fun _=>?_
 have hm:=t.is.1.m
 have hto:=t.is.1.tol
 have hml:=hM.len
 have hmM : (ms.map Prod.snd).length=ms.length:=List.length_map ..
 have htp:=tops_len (c:=c) (L:=L)
 have hpl:=pulls_len (c:=c) (L:=L)
 have hLo:=t.len
 have hob:=t.is.1.o
 have gM : ∀ x : Nat,x<ms.length→((ms.getD x default).2).length=(L.getD x default).length:=fun x hx=>by rw [← map_snd_get ms hx]; exact hM.row x (by omega)
 have mgM : ∀ (x : Nat) (k : Int),x<ms.length→mg (ms.map Prod.snd) x k=ix (ms.getD x default).2 k:=fun x k hx=>by rw [mg,ix_nat,map_snd_get ms hx]
 have stop : ∀ {Hn : Heap} {v : AV},H0.sub Hn→¬ TopM c L (ms.map Prod.snd)→v=.bool true→subW (fun r H'=>r=.bool (dec (¬ TopM c L (ms.map Prod.snd)))∧H'=H0) v Hn:=by
  intro Hn v h1 h2 h3;exact pure_ret (by rw [h3,dec_t h2]) h1
 refine tt ?_;refine awp_for [1,2] (fun x _=>[(5,some (.int .i64 (x : Int)))]) (fun x _ H'=>H'=H∧∀ y,y<x→XOk c L (ms.map Prod.snd) y) ms.length () ⟨rfl,by simp⟩ rfl ?_
 rintro x _ H' hxl ⟨rfl,hall⟩;refine tt ?_;apply bk <;> intro h1
 rotate_left
 ·refine tt ?_
  have h1p:=dd h1;refine pure_ret ?_ o.sub;rw [dec_f]; intro h; exact h fun y hy=>hall y (by omega)
 refine tt ?_
 have h1p:=dd h1
 have w1:=wsucc (k:=x) (by omega)
 have htop:=t.top (x:=x) (by omega)
 have hrow:=gM x h1p
 have hfew:=t.few x (by omega)
 have hgx:=o.inner_get h1p;refine ⟨h1p,rd_own o h1p ?_⟩;refine tt ?_;refine ⟨by omega,⟨htop.1.1,by omega⟩,rd_inner hgx (by omega) ?_⟩;refine tt ?_;apply bk <;> intro h2
 ·refine tw h2 ?_
  have h2p:=dd h2;refine ⟨h1p,rd_own o h1p ?_⟩;refine tt ?_;refine ⟨by omega,⟨htop.1.1,by omega⟩, ?_⟩;rw [hgx,st1_c];refine ⟨⟨by omega,by rw [List.length_map]; omega,rfl,by simp [AV.one]⟩,tt ?_⟩;refine stop ?_ ?_ rfl
  ·exact o.sub_inner h1p _
  ·intro h; have:=(h x (by omega)).1; rw [mgM _ _ h1p,ix] at this; rw [this] at h2p; cases h2p
 refine tw h2 ?_
 have h2p:=dd h2
 have hxt : mg (ms.map Prod.snd) x ((topsOf c L).getD x default)=true:=by rw [mgM _ _ h1p]; exact h2p
 refine awp_for [1,2,5] (fun s _=>[(6,some (.int .i64 (s : Int)))]) (fun s _ H2=>H2=H'∧∀ y,y<s→SOk c L (ms.map Prod.snd) x y) (ms.getD x default).2.length () ⟨rfl,by simp⟩ rfl ?_
 rintro s _ H2 hsl ⟨rfl,hsall⟩;refine tt ?_;refine ⟨h1p,rd_own o h1p ?_⟩;refine tt ?_;apply bk <;> intro h3
 rotate_left
 ·refine tw w1 ?_
  have h3p:=dd h3;exact for_next () h1p ⟨rfl,lt_succ_all hall ⟨hxt,fun y hy=>hsall y (by rw [map_snd_get ms h1p] at hy; omega)⟩⟩ rfl
 refine tt ?_
 have h3p:=dd h3
 have w3:=wsucc (k:=s) (by omega);refine ⟨h1p,rd_own o h1p ?_⟩;refine tt ?_;refine ⟨h3p,rd_inner hgx h3p ?_⟩;refine tt ?_;apply bk <;> intro h4
 ·try simp only [go_sem,↓reduceIte,reduceEqDiff,reduceAdd,reduceMul,reduceLeDiff,reduceLT,h4,w3]
  have h4p:=dd h4;exact for_next () h3p ⟨rfl,lt_succ_all hsall fun e=>by rw [map_snd_get ms h1p,h4p] at e; cases e⟩ rfl
 refine tw h4 ?_
 have h4p:=dd h4;refine awp_for [1,2,5,6] (fun a _=>[(7,some (.int .i64 (a : Int)))]) (fun a _ H3=>H3=H2∧∀ y,y<a→AOk c L (ms.map Prod.snd) x s y) c.frm.length () ⟨rfl,by simp⟩ rfl ?_
 rintro a _ H3 hal ⟨rfl,haall⟩;refine tt ?_;rw [hpl];refine tt ?_;apply bk <;> intro h5
 ·refine tt ?_
  have h5p:=dd h5
  have w5:=wsucc (k:=a) (by omega)
  have haa : 0≤(a : Int)∧(a : Int).toNat<c.frm.length:=⟨by omega,by simpa using h5p⟩;refine ⟨h5p, ?_⟩;apply bk <;> intro h6
  rotate_left
  ·try simp only [go_sem,↓reduceIte,reduceEqDiff,reduceAdd,reduceMul,reduceLeDiff,reduceLT,h6,w5]
   have h6p:=dd h6;exact for_next () h5p ⟨rfl,lt_succ_all haall fun e=>absurd e h6p⟩ rfl
  refine tw h6 ?_
  have h6p:=dd h6
  have hto:=t.to haa;simp only [ix_nat,toNat_nat] at hto
  have hpr:=pulls_row (L:=L) haa;simp only [ix_nat] at hpr
  have hsr : s<(ix L (ix c.frm a)).length:=by rw [ix_nat,h6p,ix_nat,← hrow]; exact h3p
  have hp:=(t.pull haa hsr).1;simp only [ix_nat] at hp
  have hy : (c.to.getD a default).toNat<ms.length:=by omega
  have hgy:=o.inner_get hy
  have hrowy:=gM _ hy
  have hix : ix ms (c.to.getD a default)=ms.getD (c.to.getD a default).toNat default:=rfl
  have hixL : ix L (c.to.getD a default)=L.getD (c.to.getD a default).toNat default:=rfl;simp only [ix_nat] at hsr;rw [hixL] at hp;refine ⟨by omega,⟨hto.1,hy⟩,rd_own o hy ?_⟩;refine tt ?_;refine ⟨by omega,by omega,⟨hp.1,by omega⟩,rd_inner hgy (by omega) ?_⟩;refine tt ?_
  have hmg : mg (ms.map Prod.snd) (c.to.getD a default) (((pullsOf c L).getD a default).getD s default)=(ms.getD (c.to.getD a default).toNat default).2.getD (((pullsOf c L).getD a default).getD s default).toNat default:=by
   have:=mgM (c.to.getD a default).toNat (((pullsOf c L).getD a default).getD s default) hy;rw [Int.toNat_of_nonneg hto.1] at this;rw [this]; rfl
  apply bk <;> intro h7
  ·refine tw h7 ?_
   have h7p:=dd h7;refine ⟨by omega,⟨hto.1,hy⟩,rd_own o hy ?_⟩;refine tt ?_;refine ⟨by omega,by omega,⟨hp.1,by omega⟩, ?_⟩;rw [hgy,st1_c];refine ⟨⟨by omega,by rw [List.length_map]; omega,rfl,by simp [AV.one]⟩,tt ?_⟩;refine stop (o.sub_inner hy _) (fun h=>?_) rfl
   have:=((h x (by omega)).2 s (by rw [map_snd_get ms h1p]; omega) (by rw [map_snd_get ms h1p]; exact h4p)).1 a h5p h6p;rw [hmg,h7p] at this; cases this
  ·try simp only [go_sem,↓reduceIte,reduceEqDiff,reduceAdd,reduceMul,reduceLeDiff,reduceLT,h7,w5]
   have h7p:=dd h7;exact for_next () h5p ⟨rfl,lt_succ_all haall fun _=>by rw [hmg]; exact h7p⟩ rfl
 ·refine tt ?_
  have h5p:=dd h5
  have ha0 : ∀ y,y<c.frm.length→AOk c L (ms.map Prod.snd) x s y:=fun y hy=>haall y (by omega);refine awp_for [1,2,5,6] (fun k _=>[(8,some (.int .i64 (k : Int)))]) (fun k _ H4=>H4=H3∧∀ y,y<k→KOk c L (ms.map Prod.snd) x s y) (ms.getD x default).2.length () ⟨rfl,by simp⟩ rfl ?_
  rintro k _ H4 hkl ⟨rfl,hkall⟩;refine tt ?_;refine ⟨h1p,rd_own o h1p ?_⟩;refine tt ?_;apply bk <;> intro h8
  ·refine tt ?_
   have h8p:=dd h8
   have w8:=wsucc (k:=k) (by omega);refine ⟨h1p,rd_own o h1p ?_⟩;refine tt ?_;refine ⟨h8p,rd_inner hgx h8p ?_⟩;refine tt ?_;apply bk <;> intro h9
   ·refine tw h9 ?_
    have h9p:=dd h9
    refine CallH.lentPure (r:=.bool (dec (LocP c L (ms.map Prod.snd) x s k))) (es:=[.agg (tabCells c L),bLL (ms.map Prod.snd),.int .i64 x,.int .i64 s,.int .i64 k]) (.bool _) rfl (fun i hi=>?_)
     (l27Local_ok B c L t (ms.map Prod.snd) hM x s k (by omega) (by omega) (by omega)).run ?_
    ·obtain rfl | rfl | rfl | rfl | rfl : i=0∨i=1∨i=2∨i=3∨i=4:=by simp only [List.length_cons,List.length_nil] at hi; omega
     ·exact val_arg _
     ·exact lent_nest o rfl
     ·exact val_arg _
     ·exact val_arg _
     ·exact val_arg _
    refine tt ?_;apply bk <;> intro h10
    ·refine tt ?_
     have h10p:=dd h10;refine ⟨h1p,rd_own o h1p ?_⟩;refine tt ?_;refine ⟨h8p, ?_⟩;rw [hgx,st1_c];refine ⟨⟨by omega,by rw [List.length_map]; omega,rfl,by simp [AV.one]⟩,tt ?_⟩;refine stop (o.sub_inner h1p _) (fun h=>?_) rfl
     have:=((h x (by omega)).2 s (by rw [map_snd_get ms h1p]; omega) (by rw [map_snd_get ms h1p]; exact h4p)).2 k (by rw [map_snd_get ms h1p]; omega)
     rcases this with h | h
     ·rw [map_snd_get ms h1p,h9p] at h; cases h
     ·exact h h10p
    ·refine tw w8 ?_
     have h10p:=dd h10;exact for_next () h8p ⟨rfl,lt_succ_all hkall (.inr h10p)⟩ rfl
   ·try simp only [go_sem,↓reduceIte,reduceEqDiff,reduceAdd,reduceMul,reduceLeDiff,reduceLT,h9,w8]
    have h9p:=dd h9;exact for_next () h8p ⟨rfl,lt_succ_all hkall (.inl (by rw [map_snd_get ms h1p]; exact h9p))⟩ rfl
  ·refine tw w3 ?_
   have h8p:=dd h8;exact for_next () h3p ⟨rfl,lt_succ_all hsall fun _=>⟨ha0,fun y hy=>hkall y (by rw [map_snd_get ms h1p] at hy; omega)⟩⟩ rfl
end Go.Proofs.Shf
