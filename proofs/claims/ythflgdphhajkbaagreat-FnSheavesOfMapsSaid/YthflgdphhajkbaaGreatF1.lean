/- Contracts of functions over abstract values, part 1. -/
import Derived.Test.YthflgdphhajkbaaGreatA4
import Derived.Test.YthflgdphhajkbaaGreatD
import Derived.Test.YthflgdphhajkbaaGreatE
set_option linter.unusedVariables false
set_option linter.unusedSimpArgs false
set_option linter.unusedSectionVars false
open Nat (reduceEqDiff reduceAdd reduceMul reduceLeDiff reduceLT)
namespace Go.Proofs.Shf
open Go.AW
theorem pC {l r : Ob} (h : ∀ x,@List.count _ (@instBEqOfDecidableEq _ (Classical.typeDecidableEq _)) x l=@List.count _ (@instBEqOfDecidableEq _ (Classical.typeDecidableEq _)) x r) : l.Perm r:=by
 letI : DecidableEq (Nat × AF):=Classical.typeDecidableEq _
 exact List.perm_iff_count.mpr h
end Go.Proofs.Shf
namespace Go.AW
theorem tt {P Q : Prop} (h : Q) (e : P=Q:=by (try simp only [go_sem,↓reduceIte,Nat.reduceEqDiff,Nat.reduceAdd,Nat.reduceMul,Nat.reduceLeDiff,Nat.reduceLT]); exact rfl) : P:=Eq.mpr e h
theorem tw {A P Q : Prop} (w : A) (h : Q) (e : A→P=Q:=by intro w; (try simp only [go_sem,↓reduceIte,Nat.reduceEqDiff,Nat.reduceAdd,Nat.reduceMul,Nat.reduceLeDiff,Nat.reduceLT,w]); exact rfl) : P:=Eq.mpr (e w) h
theorem ta {P Q : Prop} (h : Q) (e : P=Q:=by (try simp only [go_sem,↓reduceIte,Nat.reduceEqDiff,Nat.reduceAdd,Nat.reduceMul,Nat.reduceLeDiff,Nat.reduceLT, *]); exact rfl) : P:=Eq.mpr e h
theorem dTr {p : Decidable True} : @decide True p=true:=@decide_eq_true True p trivial
theorem td {P Q : Prop} (h : Q) (e : P=Q:=by (try simp only [go_sem,↓reduceIte,Nat.reduceEqDiff,Nat.reduceAdd,Nat.reduceMul,Nat.reduceLeDiff,Nat.reduceLT,dTr]); exact rfl) : P:=Eq.mpr e h
theorem bk {σ : Env} {H : AA} {c : Bool} {P Q : Env→AA→Prop} (h1 : c=true→P σ H) (h2 : c=false→Q σ H) : Br c (At P σ H) (At Q σ H):=⟨fun e=>At.mk (h1 e),fun e=>At.mk (h2 e)⟩
theorem bn {σ : Env} {H : AA} {c : Bool} {P Q : Env→AA→Prop} (h1 : c=false→P σ H) (h2 : c=true→Q σ H) : Bn c (At P σ H) (At Q σ H):=⟨fun e=>At.mk (h1 e),fun e=>At.mk (h2 e)⟩
theorem dd {P Q : Prop} (h : P) (e : P=Q:=by (try simp only [bnt,bnf,decide_eq_true_eq,decide_eq_false_iff_not,dect,yf,Int.not_lt,Int.not_le,Nat.not_lt,Decidable.not_not,ne_eq,Bool.true_eq_false,Bool.false_eq_true]); exact rfl) : Q:=Eq.mp e h
theorem AB.pm {H0 H : AA} {l l' : Ob} (o : AB H0 H l) (e : ∀ x,@List.count _ (@instBEqOfDecidableEq _ (Classical.typeDecidableEq _)) x l=@List.count _ (@instBEqOfDecidableEq _ (Classical.typeDecidableEq _)) x l':=by intro x; (try dsimp only); simp only [List.append_eq,List.count_append,List.count_cons,List.count_nil,List.map_nil,List.length_nil,List.length_append,List.length_cons,List.length_set,Nat.zero_add,List.nil_append,iI,iL]; omega) : AB H0 H l':=o.perm (Go.Proofs.Shf.pC e)
theorem sw {H0 H : AA} {l : Ob} {K : Ap} {id sz off n : Nat} {cs vs cs' : List AV} (o : AB H0 H ((id,.cells sz cs 0)::l)) (hk : ∀ H',AB H0 H' ((id,.cells sz cs' 0)::l)→K nv H')
 (e : wr cs off vs=cs':=by simp only [Fw,Ht,List.set_cons_zero,List.set_cons_succ]; exact rfl) (h1 : off+n≤cs.length:=by simp) (h2 : vs.length=n:=by (try simp only [go_sem]); (try simp))
 (h3 : ∀ c,c∈vs→c.one=true:=by first | (simp only [go_sem]; done) | ((try simp only [go_sem]); simp [AV.one,EJ])) : Oa (H.get id) id off n vs K H:=Aq o h1 h2 h3 fun H' o=>hk H' (e ▸ o)
theorem nb {A : Prop} {H0 H : AA} {l : Ob} {K : Ap} {sz : Nat} {cs : List AV} (o : AB H0 H l) (hk : ∀ id H',AB H0 H' ((id,.cells sz cs 0)::l)→K (.ref id 0) H') (h : A:=by first | trivial | simp [AK]) : A∧HH sz cs K H:=⟨h,Am o hk⟩
end Go.AW
namespace Go.Proofs.Shf
open Go.AW
abbrev PB:=@pU Go.Proofs.Tryz.prog
abbrev CB:=@BG Go.Proofs.Tryz.prog
end Go.Proofs.Shf
namespace Go.AW
theorem ws (k : Nat) (h : k<1125899906842624:=by omega) : IntKind.i64.wrap ((k : Int)+1)=((k+1 : Nat) : Int):=PK h
theorem s1 {H0 H : AA} {l l' : Ob} (o : AB H0 H l) (e : l=l':=by simp only [List.set_cons_zero,List.set_cons_succ];exact rfl) : AB H0 H l':=e▸o
theorem s2 {H0 H : AA} {l l' : Ob} (o : AB H0 H l) (e : l=l':=by simp only [Fw,Ht,List.set_cons_zero,List.set_cons_succ];exact rfl) : AB H0 H l':=e▸o
theorem t2 {A B P Q : Prop} (a : A) (b : B) (h : Q) (e : A→B→P=Q:=by intro a b;(try simp only [go_sem,↓reduceIte,reduceEqDiff,reduceAdd,reduceMul,reduceLeDiff,reduceLT,a,b]);exact rfl) : P:=Eq.mpr (e a b) h
theorem tn {P Q : Prop} (h : Q) (e : P=Q:=by (try simp only [go_sem,↓reduceIte,reduceEqDiff,reduceAdd,reduceMul,reduceLeDiff,reduceLT,Bool.not_false,Bool.not_true]);exact rfl) : P:=Eq.mpr e h
end Go.AW
namespace Go.Proofs.Shf
open Go.AW Go.Proofs
theorem KO (B : Nat) (n lo hi : Int) : PB B 164 [.int .i64 n,.int .i64 lo,.int .i64 hi] (.bool (dec (lo≤n∧n≤hi))):=by
 refine ⟨fun H=>uw.go fun _=>?_⟩;refine ta ?_;apply bk <;> intro h1
 all_goals (try simp only [go_sem,↓reduceIte,reduceEqDiff,reduceAdd,reduceMul,reduceLeDiff,reduceLT, *])
 ·exact A6 (by rw [← BO]; simp at h1; simp [h1]) (.refl _)
 ·exact A6 (by rw [← BO]; simp at h1; simp; omega) (.refl _)
theorem Ub (B : Nat) (n lo hi : Int) : PB B 225 [.int .i64 n,.int .i64 lo,.int .i64 hi] (.bool (dec (lo≤n∧n≤hi))):=by
 refine ⟨fun H=>c225.go fun _=>?_⟩;refine ta ?_;apply bk <;> intro h1
 all_goals (try simp only [go_sem,↓reduceIte,reduceEqDiff,reduceAdd,reduceMul,reduceLeDiff,reduceLT, *])
 ·exact A6 (by rw [← BO]; simp at h1; simp [h1]) (.refl _)
 ·exact A6 (by rw [← BO]; simp at h1; simp; omega) (.refl _)
theorem G1 (B : Nat) (l : List Int) (n : Int) (hn : -9223372036854775808<n∧n≤9223372036854775807): PB B 212 [iL l,.int .i64 n] (.bool (dec (∀ y,y∈l→0≤y∧y<n))):=by
 refine ⟨fun H0=>c212.go fun ⟨hf,_⟩=>?_⟩
 have hl:=AL hf;simp only [AK] at hl
 have w : IntKind.i64.wrap (n - 1)=n - 1:=wrap_i64 (by omega) (by omega);refine ta ?_;refine AD [1,7,8] (fun k _=>[(9,some (.int .i64 (k : Int)))]) (fun k _ H=>H=H0∧∀ i,i<k→0≤l.getD i default∧l.getD i default<n) l.length () ⟨rfl,by simp⟩ rfl ?_
 rintro k _ H hk ⟨rfl,Aj⟩;refine ta ?_;apply bk <;> intro h1
 ·have h1:=A7 h1
  have w1:=ws k;refine ta ?_;refine (KO ..).go fun _=>?_;refine ta ?_;apply bk <;> intro h2
  ·refine ta ?_
   have Ah:=dd h2;refine A6 ?_ (.refl _);rw [Ab]; intro h
   have:=h _ (AE.mpr ⟨k,h1,rfl⟩);omega
  ·refine ta ?_
   have Ah:=dd h2;exact A5 () (by omega) ⟨rfl,AG Aj (by omega)⟩ rfl
 ·refine ta ?_
  have h1:=A9 h1;exact A6 (by rw [Ay]; exact Db.mpr fun i hi=>Aj i (by omega)) (.refl _)
theorem HX (B : Nat) (l : List Int) (n : Int) : PB B 227 [.int .i64 n,iL l] (.bool (dec (∀ y,y∈l→0≤y∧y<n))):=by
 refine ⟨fun H0=>c227.go fun ⟨_,hf,_⟩=>?_⟩
 have hl:=AL hf;simp only [AK] at hl;refine ta ?_;refine AD [0,1] (fun k _=>[(5,some (.int .i64 (k : Int)))]) (fun k _ H=>H=H0∧∀ i,i<k→0≤l.getD i default∧l.getD i default<n) l.length () ⟨rfl,by simp⟩ rfl ?_
 rintro k _ H hk ⟨rfl,Aj⟩;refine ta ?_;apply bk <;> intro h1
 ·have h1:=A7 h1
  have w1:=ws k;refine ta ?_
  have hn : l.getD k default<0∨n≤l.getD k default→¬ ∀ y,y∈l→0≤y∧y<n:=fun hc h=>by
   have:=h _ (AE.mpr ⟨k,h1,rfl⟩); omega
  apply bn <;> intro h2
  ·refine ta ?_;apply bk <;> intro h3
   ·refine ta ?_
    have BB:=dd h3;exact A6 (by rw [Ab (hn (.inr BB))]) (.refl _)
   ·refine ta ?_
    have Ah:=dd h2
    have BB:=dd h3;exact A5 () (by omega) ⟨rfl,AG Aj (by omega)⟩ rfl
  ·refine ta ?_
   have Ah:=dd h2;exact A6 (by rw [Ab (hn (.inl Ah))]) (.refl _)
 ·refine ta ?_
  have h1:=A9 h1;exact A6 (by rw [Ay]; exact Db.mpr fun i hi=>Aj i (by omega)) (.refl _)
theorem Rt (B : Nat) (l : List Int) (n : Int) : PB B 230 [iL l,.int .i64 n] (.bool (dec (n∈l))):=by
 refine ⟨fun H0=>xq.go fun ⟨hf,_⟩=>?_⟩
 have hl:=AL hf;simp only [AK] at hl;refine ta ?_;refine AD [1,7,8] (fun k _=>[(9,some (.int .i64 (k : Int)))]) (fun k _ H=>H=H0∧∀ i,i<k→l.getD i default≠n) l.length () ⟨rfl,by simp⟩ rfl ?_
 rintro k _ H hk ⟨rfl,Aj⟩;refine ta ?_;apply bk <;> intro h1
 ·have h1:=A7 h1
  have w1:=ws k;refine ta ?_;apply bk <;> intro h2
  ·refine ta ?_;exact A6 (by rw [Ay]; exact AE.mpr ⟨k,h1,A7 h2⟩) (.refl _)
  ·refine ta ?_;exact A5 () h1 ⟨rfl,AG Aj (A9 h2)⟩ rfl
 ·refine ta ?_
  have h1:=A9 h1;exact A6 (by rw [Ab]; intro h; obtain ⟨i,hi,e⟩:=AE.mp h; exact Aj i (by omega) e) (.refl _)
theorem Je (B : Nat) (l : List Int) (n : Int) : PB B 140 [iL l,.int .i64 n] (.bool (dec (n∈l))):=by
 refine ⟨fun H0=>c140.go fun ⟨hf,_⟩=>?_⟩
 have hl:=AL hf;simp only [AK] at hl;refine ta ?_;refine AD [0,1] (fun k _=>[(5,some (.int .i64 (k : Int)))]) (fun k _ H=>H=H0∧∀ i,i<k→l.getD i default≠n) l.length () ⟨rfl,by simp⟩ rfl ?_
 rintro k _ H hk ⟨rfl,Aj⟩;refine ta ?_;apply bk <;> intro h1
 ·have h1:=A7 h1
  have w1:=ws k;refine ta ?_;apply bk <;> intro h2
  ·refine ta ?_;exact A6 (by rw [Ay]; exact AE.mpr ⟨k,h1,A7 h2⟩) (.refl _)
  ·refine ta ?_;exact A5 () h1 ⟨rfl,AG Aj (A9 h2)⟩ rfl
 ·refine ta ?_
  have h1:=A9 h1;exact A6 (by rw [Ab]; intro h; obtain ⟨i,hi,e⟩:=AE.mp h; exact Aj i (by omega) e) (.refl _)
theorem FQ (B : Nat) (l : List Int) (n : Int) : PB B 63 [iL l,.int .i64 n] (.int .i64 (indexOf l n)):=by
 refine ⟨fun H0=>c63.go fun ⟨hf,_⟩=>?_⟩
 have hl:=AL hf;simp only [AK] at hl;refine ta ?_;refine AD [0,1] (fun k _=>[(5,some (.int .i64 (k : Int)))]) (fun k _ H=>H=H0∧∀ i,i<k→l.getD i default≠n) l.length () ⟨rfl,by simp⟩ rfl ?_
 rintro k _ H hk ⟨rfl,Aj⟩;refine ta ?_;apply bk <;> intro h1
 ·have h1:=A7 h1
  have w1:=ws k;refine ta ?_;apply bk <;> intro h2
  ·refine ta ?_;exact A6 (by rw [EY h1 Aj (A7 h2)]) (.refl _)
  ·refine ta ?_;exact A5 () h1 ⟨rfl,AG Aj (A9 h2)⟩ rfl
 ·refine ta ?_
  have h1:=A9 h1;exact A6 (by rw [El fun i hi=>Aj i (by omega)]) (.refl _)
theorem Vv (B : Nat) (l : List Int) (n : Int) : PB B 219 [iL l,.int .i64 n] (.int .i64 (indexOf l n)):=by
 refine ⟨fun H0=>c219.go fun ⟨hf,_⟩=>?_⟩
 have hl:=AL hf;simp only [AK] at hl;refine ta ?_;refine AD [0,1,7] (fun k _=>[(8,some (.int .i64 (k : Int)))]) (fun k _ H=>H=H0∧∀ i,i<k→l.getD i default≠n) l.length () ⟨rfl,by simp⟩ rfl ?_
 rintro k _ H hk ⟨rfl,Aj⟩;refine ta ?_;apply bk <;> intro h1
 ·have h1:=A7 h1
  have w1:=ws k;refine ta ?_;apply bk <;> intro h2
  ·refine ta ?_;exact A6 (by rw [EY h1 Aj (A7 h2).symm]) (.refl _)
  ·refine ta ?_;exact A5 () h1 ⟨rfl,AG Aj fun e=>A9 h2 e.symm⟩ rfl
 ·refine ta ?_
  have h1:=A9 h1;exact A6 (by rw [El fun i hi=>Aj i (by omega)]) (.refl _)
theorem P4 (B : Nat) (l : List Int) (n : Int) : PB B 134 [iL l,.int .i64 n] (.int .i64 (indexOf l n)):=by
 refine ⟨fun H0=>c134.go fun ⟨hf,_⟩=>?_⟩;refine ta ?_;refine (Vv ..).go fun _=>?_
 have hl:=AL hf;simp only [AK] at hl
 have hb:=Hp l n
 have w : IntKind.i64.wrap (indexOf l n)=indexOf l n:=wrap_i64 (by omega) (by omega);refine ta ?_;exact A6 rfl (.refl _)
theorem J8 (B : Nat) (l : List Int) : PB B 221 [iL l] (iL l):=by
 refine ⟨fun H0=>c221.go fun ⟨hf,_⟩=>?_⟩
 have hl:=AL hf;refine ta ?_;refine Ae iI (.nil _) fun id H o=>?_;refine ta ?_;refine Eg o rfl (by simpa using hl) fun id H o=>?_;refine ta ?_;refine Ak o rfl fun H o=>?_;refine ta ?_;exact A6 (by simp) o.sub
theorem Dg (B : Nat) (l : List Int) : PB B 84 [iL l] (iL l):=by
 refine ⟨fun H0=>c84.go fun ⟨hf,_⟩=>?_⟩
 have hl:=AL hf;refine ta ?_;refine Ae iI (.nil _) fun id H o=>?_;refine ta ?_;refine Eg o rfl (by simpa using hl) fun id H o=>?_;refine ta ?_;refine Ak o rfl fun H o=>?_;refine ta ?_;exact A6 (by simp) o.sub
end Go.Proofs.Shf
namespace Go.Proofs.Shf
open Go.AW Go.Proofs Go.Shf
theorem Z4 (B : Nat) (l : List Int) : PB B 245 [iL l] (.bool (dec (I7 l))):=by
 refine ⟨fun H0=>c245.go fun ⟨hf,_⟩=>?_⟩
 have hl:=AL hf;simp only [AK] at hl;refine ta ?_;refine AD [0] (fun k _=>[(3,some (.int .i64 ((k+1 : Nat) : Int)))]) (fun k _ H=>H=H0∧∀ i,i<k→i+1<l.length∧l.getD i default<l.getD (i+1) default) l.length () ⟨rfl,by simp⟩ rfl ?_
 rintro k _ H hk ⟨rfl,Aj⟩;refine ta ?_;apply bk <;> intro h1
 ·have h1:=A7 h1
  have w1:=PK (k:=k+1) (by omega)
  have w2:=K2 (k:=k+1) (by omega) (by omega);rw [Nat.add_sub_cancel] at w2;refine t2 w1 w2 ?_
  refine ⟨by omega,by omega, ?_⟩;refine ta ?_;apply bk <;> intro h2
  ·refine ta ?_
   have Ah:=dd h2;refine A6 ?_ (.refl _);rw [Ab]; intro h
   have:=h (k+1) (by omega) h1;simp only [Nat.add_sub_cancel] at this;omega
  ·refine t2 w1 w2 ?_
   have Ah:=dd h2;exact A5 () (by omega) ⟨rfl,AG Aj ⟨h1,by omega⟩⟩ rfl
 ·refine ta ?_
  have h1:=A9 h1;refine A6 ?_ (.refl _);rw [Ay]; intro i h0 hi
  obtain ⟨j,rfl⟩ : ∃ j,i=j+1:=⟨i - 1,by omega⟩;exact (Aj j (by omega)).2
theorem UA (B : Nat) (l : List Int) : PB B 239 [iL l] (.bool (dec (I7 l))):=by
 refine ⟨fun H0=>c239.go fun ⟨hf,_⟩=>?_⟩
 have hl:=AL hf;simp only [AK] at hl;refine ta ?_;refine AD [0] (fun k _=>[(3,some (.int .i64 ((k+1 : Nat) : Int)))]) (fun k _ H=>H=H0∧∀ i,i<k→i+1<l.length∧l.getD i default<l.getD (i+1) default) l.length () ⟨rfl,by simp⟩ rfl ?_
 rintro k _ H hk ⟨rfl,Aj⟩;refine ta ?_;apply bk <;> intro h1
 ·have h1:=A7 h1
  have w1:=PK (k:=k+1) (by omega)
  have w2:=K2 (k:=k+1) (by omega) (by omega);rw [Nat.add_sub_cancel] at w2;refine t2 w1 w2 ?_
  refine ⟨by omega,by omega, ?_⟩;refine ta ?_;apply bk <;> intro h2
  ·refine ta ?_
   have Ah:=dd h2;refine A6 ?_ (.refl _);rw [Ab]; intro h
   have:=h (k+1) (by omega) h1;simp only [Nat.add_sub_cancel] at this;omega
  ·refine t2 w1 w2 ?_
   have Ah:=dd h2;exact A5 () (by omega) ⟨rfl,AG Aj ⟨h1,by omega⟩⟩ rfl
 ·refine ta ?_
  have h1:=A9 h1;refine A6 ?_ (.refl _);rw [Ay]; intro i h0 hi
  obtain ⟨j,rfl⟩ : ∃ j,i=j+1:=⟨i - 1,by omega⟩;exact (Aj j (by omega)).2
theorem KL (B : Nat) (a b : List Int) : PB B 247 [iL a,iL b] (.int .i64 (cmp a b)):=by
 refine ⟨fun H0=>xa.go fun ⟨hf,hg,_⟩=>?_⟩
 have hl:=AL hf
 have Ia:=AL hg;simp only [AK] at hl Ia;refine tt ?_;refine AD [0,1,7] (fun k _=>[(8,some (.int .i64 (k : Int)))]) (fun k _ H=>H=H0∧k≤b.length∧cmp a b=cmp (a.drop k) (b.drop k)) a.length () ⟨rfl,by simp,by simp⟩ rfl ?_
 rintro k _ H hk ⟨rfl,hkb,hc⟩;refine tt ?_;apply bk <;> intro h1
 ·have h1:=A7 h1
  have w1:=ws k
  have da:=drop_cons a h1;rw [da] at hc;refine tt ?_;apply bk <;> intro h2
  ·refine tt ?_
   have h2:=A7 h2;refine A6 ?_ (.refl _);rw [hc,List.drop_of_length_le (show b.length≤k by omega)]; rfl
  ·have h2:=A9 h2
   have h3 : k<b.length:=by omega
   have db:=drop_cons b h3;rw [db] at hc;refine tt ?_;refine ⟨h1,h3,tt ?_⟩;apply bk <;> intro h4
   ·have DC : a.getD k default≠b.getD k default:=by simpa using h4
    refine tt ?_;refine ⟨h1,h3,tt ?_⟩;apply bk <;> intro h5
    ·refine tt ?_
     have h5:=A7 h5;refine A6 ?_ (.refl _);rw [hc,cmp,if_neg DC,if_pos h5]
    ·refine tt ?_
     have h5:=A9 h5;refine A6 ?_ (.refl _);rw [hc,cmp,if_neg DC,if_neg h5]
   ·have DC : a.getD k default=b.getD k default:=by simpa using h4
    refine tw w1 ?_;refine A5 () (by omega) ⟨rfl,by omega, ?_⟩ rfl;rw [hc,cmp,if_pos DC]
 ·refine tt ?_
  have h1:=A9 h1;rw [List.drop_of_length_le (by omega)] at hc;apply bk <;> intro h2
  ·refine tt ?_
   have h2:=A7 h2;refine A6 ?_ (.refl _);rw [hc,drop_cons b (by omega)]; rfl
  ·refine tt ?_
   have h2:=A9 h2;refine A6 ?_ (.refl _);rw [hc,List.drop_of_length_le (by omega)]; rfl
theorem Fu (B : Nat) (a b : List Int) : PB B 167 [iL a,iL b] (.bool (dec (a=b))):=by
 refine ⟨fun H0=>c167.go fun _=>?_⟩;refine ta ?_;refine (KL ..).go fun _=>?_;refine ta ?_;exact A6 (by rw [BO,Bc Cf]) (.refl _)
theorem EN (B : Nat) (a b : List Int) : PB B 170 [iL a,iL b] (.bool (dec (a=b))):=by
 refine ⟨fun H0=>c170.go fun ⟨hf,hg,_⟩=>?_⟩
 have hl:=AL hf
 have Ia:=AL hg;simp only [AK] at hl Ia;refine tt ?_;apply bk <;> intro h0
 ·refine tt ?_
  have Nd : a.length≠b.length:=by simpa using h0
  exact A6 (by rw [Ab]; rintro rfl; exact Nd rfl) (.refl _)
 have Nd : a.length=b.length:=by simpa using h0
 refine tt ?_;refine AD [0,1] (fun k _=>[(5,some (.int .i64 (k : Int)))]) (fun k _ H=>H=H0∧∀ i,i<k→a.getD i default=b.getD i default) a.length () ⟨rfl,by simp⟩ rfl ?_
 rintro k _ H hk ⟨rfl,Aj⟩;refine tt ?_;apply bk <;> intro h1
 ·have h1:=A7 h1
  have w1:=ws k;refine tt ?_;refine ⟨h1,by omega,tt ?_⟩;apply bk <;> intro h2
  ·refine tt ?_
   have Ah : a.getD k default≠b.getD k default:=by simpa using h2
   exact A6 (by rw [Ab]; rintro rfl; exact Ah rfl) (.refl _)
  ·refine tw w1 ?_
   have Ah : a.getD k default=b.getD k default:=by simpa using h2
   exact A5 () (by omega) ⟨rfl,AG Aj Ah⟩ rfl
 ·refine tt ?_
  have h1:=A9 h1;refine A6 ?_ (.refl _);rw [Ay];refine List.ext_getElem Nd fun i hi hj=>?_
  have:=Aj i (by omega)
  simpa [gE,hi,hj] using this
theorem Te (B : Nat) (a b : List (List Int)) : PB B 259 [BD a,BD b] (.bool (dec (a=b))):=by
 refine ⟨fun H0=>vy.go fun ⟨hf,hg,_⟩=>?_⟩
 have hl:=AL hf
 have Ia:=AL hg;simp only [AK] at hl Ia;refine tt ?_;apply bk <;> intro h0
 ·refine tt ?_
  have Nd : a.length≠b.length:=by simpa using h0
  exact A6 (by rw [Ab]; rintro rfl; exact Nd rfl) (.refl _)
 have Nd : a.length=b.length:=by simpa using h0
 refine tt ?_;refine AD [0,1] (fun k _=>[(5,some (.int .i64 (k : Int)))]) (fun k _ H=>H=H0∧∀ i,i<k→a.getD i default=b.getD i default) a.length () ⟨rfl,by simp⟩ rfl ?_
 rintro k _ H hk ⟨rfl,Aj⟩;refine tt ?_;apply bk <;> intro h1
 ·have h1:=A7 h1
  have w1:=ws k;refine tt ?_;refine ⟨h1,by omega,_,(EN ..).run,tt ?_⟩;apply bk <;> intro h2
  ·refine tt ?_
   have Ah:=dd h2;exact A6 (by rw [Ab]; rintro rfl; exact Ah rfl) (.refl _)
  ·refine tw w1 ?_
   have Ah:=dd h2;exact A5 () (by omega) ⟨rfl,AG Aj Ah⟩ rfl
 ·refine tt ?_
  have h1:=A9 h1;refine A6 ?_ (.refl _);rw [Ay];refine List.ext_getElem Nd fun i hi hj=>?_
  have:=Aj i (by omega)
  simpa [gE,hi,hj] using this
theorem Hm (B : Nat) (l : List (List Int)) (x : List Int) : PB B 184 [BD l,iL x] (.int .i64 (indexOf l x)):=by
 refine ⟨fun H0=>yw.go fun ⟨hf,_⟩=>?_⟩
 have hl:=AL hf;simp only [AK] at hl;refine tt ?_;refine AD [0,1] (fun k _=>[(5,some (.int .i64 (k : Int)))]) (fun k _ H=>H=H0∧∀ i,i<k→l.getD i default≠x) l.length () ⟨rfl,by simp⟩ rfl ?_
 rintro k _ H hk ⟨rfl,Aj⟩;refine tt ?_;apply bk <;> intro h1
 ·have h1:=A7 h1
  have w1:=ws k;refine tt ?_;refine ⟨h1,(EN ..).go fun _=>?_⟩;refine tt ?_;apply bk <;> intro h2
  ·refine tt ?_
   have Ah:=dd h2;exact A6 (by rw [EY h1 Aj Ah]) (.refl _)
  ·refine tw w1 ?_
   have Ah:=dd h2;exact A5 () (by omega) ⟨rfl,AG Aj Ah⟩ rfl
 ·refine tt ?_
  have h1:=A9 h1;exact A6 (by rw [El fun i hi=>Aj i (by omega)]) (.refl _)
theorem Gm (B : Nat) (l : List (List Int)) (x : List Int) : PB B 282 [BD l,iL x] (.int .i64 (indexOf l x)):=by
 refine ⟨fun H0=>c282.go fun ⟨hf,_⟩=>?_⟩
 have hl:=AL hf;simp only [AK] at hl;refine tt ?_;refine AD [0,1] (fun k _=>[(5,some (.int .i64 (k : Int)))]) (fun k _ H=>H=H0∧∀ i,i<k→l.getD i default≠x) l.length () ⟨rfl,by simp⟩ rfl ?_
 rintro k _ H hk ⟨rfl,Aj⟩;refine tt ?_;apply bk <;> intro h1
 ·have h1:=A7 h1
  have w1:=ws k;refine tt ?_;refine ⟨h1,(EN ..).go fun _=>?_⟩;refine tt ?_;apply bk <;> intro h2
  ·refine tt ?_
   have Ah:=dd h2;exact A6 (by rw [EY h1 Aj Ah]) (.refl _)
  ·refine tw w1 ?_
   have Ah:=dd h2;exact A5 () (by omega) ⟨rfl,AG Aj Ah⟩ rfl
 ·refine tt ?_
  have h1:=A9 h1;exact A6 (by rw [El fun i hi=>Aj i (by omega)]) (.refl _)
theorem KS (B : Nat) (a b : List Int) : PB B 199 [iL a,iL b] (.bool (dec (cmp a b<0))):=by
 refine ⟨fun H0=>c199.go fun ⟨hf,hg,_⟩=>?_⟩
 have hl:=AL hf
 have Ia:=AL hg;simp only [AK] at hl Ia;refine tt ?_;refine AD [0,1] (fun k _=>[(5,some (.int .i64 (k : Int)))]) (fun k _ H=>H=H0∧k≤b.length∧cmp a b=cmp (a.drop k) (b.drop k)) a.length () ⟨rfl,by simp,by simp⟩ rfl ?_
 rintro k _ H hk ⟨rfl,hkb,hc⟩;refine tt ?_;apply bk <;> intro h1
 ·have AU:=A7 h1
  have w1:=ws k;refine tw h1 ?_;apply bk <;> intro h2
  ·have h2:=A7 h2;refine tt ?_;refine ⟨AU,h2, ?_⟩;rw [drop_cons a AU,drop_cons b h2] at hc;refine tt ?_;apply bk <;> intro h4
   ·have DC : a.getD k default≠b.getD k default:=by simpa using h4
    refine tt ?_;refine ⟨AU,h2, ?_⟩;refine A6 ?_ (.refl _);rw [hc,cmp,if_neg DC,BO]
    congr 1
    refine Bc ?_
    split <;> omega
   ·have DC : a.getD k default=b.getD k default:=by simpa using h4
    refine tw w1 ?_;refine A5 () (by omega) ⟨rfl,by omega, ?_⟩ rfl;rw [hc,cmp,if_pos DC]
  ·have h2:=A9 h2;refine tt ?_;refine A6 ?_ (.refl _);rw [hc,drop_cons a AU,List.drop_of_length_le (show b.length≤k by omega),BO]
   congr 1
   refine Bc ?_;simp only [cmp]; omega
 ·have AU:=A9 h1;refine tw h1 ?_;refine A6 ?_ (.refl _);rw [hc,List.drop_of_length_le (show a.length≤k by omega),BO]
  congr 1
  refine Bc ?_
  by_cases h : a.length<b.length
  ·rw [drop_cons b (by omega)]; simp only [cmp]; omega
  ·rw [List.drop_of_length_le (by omega)]; simp only [cmp]; omega
theorem MC (B : Nat) (l : List (List Int)) : PB B 179 [mL (mL iI) l] (mL (mL iI) l):=by
 refine ⟨fun H0=>c179.go fun ⟨hf,_⟩=>?_⟩
 have hl:=AL hf;simp only [AK] at hl;refine tt ?_;refine ⟨⟨by omega,by simp [AK] <;> omega⟩,Ae (mL iI) (.nil _) fun id H o=>?_⟩
 refine tt ?_;refine tt ?_;refine AD [9,10] (G:=Nat × List (List Int)) (fun k g=>[(3,some (.buf g.1 g.2.length)),(11,some (.int .i64 (k : Int)))]) (fun k g H=>g.2=(l.take k)∧AB H0 H [(g.1,.cells 1 (g.2.map (mL iI)) 0)]) l.length (id,[]) ⟨by simp,o⟩ rfl ?_
 rintro k ⟨id,out⟩ H hk ⟨Av,o⟩;dsimp only at Av;refine tt ?_;apply bk <;> intro h1
 ·have h1:=A7 h1
  have w1:=ws k;refine tt ?_;refine ⟨h1,(J8 ..).go fun _=>?_⟩;refine tt ?_;refine Ac (l.getD k default) o rfl rfl (by rw [Av]; simp [AK] <;> omega) fun id H o=>?_
  refine tw w1 ?_;exact A5 (_,_) (by omega) ⟨by rw [Av,D8 l h1],o⟩ rfl
 ·refine tt ?_
  have h1:=A9 h1;refine Ak o rfl fun H o=>tt ?_;exact A6 (by rw [Av,List.take_of_length_le (by omega)]) o.sub
theorem Hq (B : Nat) (l : List (List Int)) : PB B 183 [mL (mL iI) l] (mL (mL iI) l):=by
 refine ⟨fun H0=>xg.go fun ⟨hf,_⟩=>?_⟩
 have hl:=AL hf;simp only [AK] at hl;refine tt ?_;refine Ae (mL iI) (.nil _) fun id H o=>tt ?_;refine AD [0] (G:=Nat × List (List Int)) (fun k g=>[(3,some (.buf g.1 g.2.length)),(4,some (.int .i64 (k : Int)))]) (fun k g H=>g.2=(l.take k)∧AB H0 H [(g.1,.cells 1 (g.2.map (mL iI)) 0)]) l.length (id,[]) ⟨by simp,o⟩ rfl ?_
 rintro k ⟨id,out⟩ H hk ⟨Av,o⟩;dsimp only at Av;refine tt ?_;apply bk <;> intro h1
 ·have h1:=A7 h1
  have w1:=ws k;refine tt ?_;refine ⟨h1,(Dg ..).go fun _=>?_⟩;refine tt ?_;refine Ac (l.getD k default) o rfl rfl (by rw [Av]; simp [AK] <;> omega) fun id H o=>?_
  refine tw w1 ?_;exact A5 (_,_) (by omega) ⟨by rw [Av,D8 l h1],o⟩ rfl
 ·refine tt ?_
  have h1:=A9 h1;refine Ak o rfl fun H o=>tt ?_;exact A6 (by rw [Av,List.take_of_length_le (by omega)]) o.sub
theorem HO (B : Nat) (c : B0) (x : Int) : PB B 246 [.ptr c.cells,.int .i64 x] (iL (outs c x)):=by
 refine ⟨fun H0=>xr.go fun ⟨hf,_⟩=>?_⟩
 have hl:=AL (hf.ptr (c:=iL c.AH) (by simp [B0.cells]));simp only [AK] at hl;refine tt ?_;refine Ae iI (.nil _) fun id H o=>tt ?_;refine AD [1,12,13] (G:=Nat × List (Int)) (fun k g=>[(5,some (.buf g.1 g.2.length)),(14,some (.int .i64 (k : Int)))]) (fun k g H=>g.2=(((List.range k).filter fun i=>c.AH.getD i default=x).map Int.ofNat)∧AB H0 H [(g.1,.cells 1 (g.2.map iI) 0)]) c.AH.length (id,[]) ⟨by simp,o⟩ rfl ?_
 rintro k ⟨id,out⟩ H hk ⟨Av,o⟩;dsimp only at Av;refine tt ?_;apply bk <;> intro h1
 ·have h1:=A7 h1
  have w1:=ws k;refine tt ?_;refine ⟨h1,tt ?_⟩
  have hlen : out.length≤k:=by rw [Av,List.length_map]; exact Nat.le_trans (List.length_filter_le _ _) (by simp)
  apply bk <;> intro h2
  ·refine tt ?_
   have Ah : c.AH.getD k default=x:=A7 h2;refine Ac (k : Int) o rfl rfl (by simp only [AK]; omega) fun id H o=>?_;refine tw w1 ?_;exact A5 (_,_) (by omega) ⟨by rw [Av,BF,if_pos h2,List.map_append]; rfl,o⟩ rfl
  ·refine tw w1 ?_
   have Ah : ¬ c.AH.getD k default=x:=A9 h2;exact A5 (_,_) (by omega) ⟨by rw [Av,BF,if_neg (Bool.eq_false_iff.mp h2),List.map_append]; simp,o⟩ rfl
 ·refine tt ?_
  have h1:=A9 h1;refine Ak o rfl fun H o=>tt ?_;exact A6 (by rw [Av,show k=c.AH.length by omega]; rfl) o.sub
theorem M4 (B : Nat) (c : B0) (x : Int) : PB B 181 [.agg c.cells,.int .i64 x] (iL (outs c x)):=by
 refine ⟨fun H0=>vd.go fun ⟨hf,_⟩=>?_⟩
 have hl:=AL (hf.agg (c:=iL c.AH) (by simp [B0.cells]));simp only [AK] at hl;refine tt ?_;refine Ae iI (.nil _) fun id H o=>tt ?_;refine AD [1,2] (G:=Nat × List (Int)) (fun k g=>[(5,some (.buf g.1 g.2.length)),(6,some (.int .i64 (k : Int)))]) (fun k g H=>g.2=(((List.range k).filter fun i=>c.AH.getD i default=x).map Int.ofNat)∧AB H0 H [(g.1,.cells 1 (g.2.map iI) 0)]) c.AH.length (id,[]) ⟨by simp,o⟩ rfl ?_
 rintro k ⟨id,out⟩ H hk ⟨Av,o⟩;dsimp only at Av;refine tt ?_;apply bk <;> intro h1
 ·have h1:=A7 h1
  have w1:=ws k;refine tt ?_;refine ⟨h1,tt ?_⟩
  have hlen : out.length≤k:=by rw [Av,List.length_map]; exact Nat.le_trans (List.length_filter_le _ _) (by simp)
  apply bk <;> intro h2
  ·refine tt ?_
   have Ah : c.AH.getD k default=x:=A7 h2;refine Ac (k : Int) o rfl rfl (by simp only [AK]; omega) fun id H o=>?_;refine tw w1 ?_;exact A5 (_,_) (by omega) ⟨by rw [Av,BF,if_pos h2,List.map_append]; rfl,o⟩ rfl
  ·refine tw w1 ?_
   have Ah : ¬ c.AH.getD k default=x:=A9 h2;exact A5 (_,_) (by omega) ⟨by rw [Av,BF,if_neg (Bool.eq_false_iff.mp h2),List.map_append]; simp,o⟩ rfl
 ·refine tt ?_
  have h1:=A9 h1;refine Ak o rfl fun H o=>tt ?_;exact A6 (by rw [Av,show k=c.AH.length by omega]; rfl) o.sub
theorem Ue (B : Nat) (n : Nat) (hn : n≤1048576) : PB B 160 [.int .i64 (n : Int)] (iL ((List.range n).map Int.ofNat)):=by
 refine ⟨fun H0=>c160.go fun ⟨_,_⟩=>tt ?_⟩;refine Ae iI (.nil _) fun id H o=>tt ?_;refine AD [0] (G:=Nat × List (Int)) (fun k g=>[(3,some (.buf g.1 g.2.length)),(4,some (.int .i64 (k : Int)))]) (fun k g H=>g.2=((List.range k).map Int.ofNat)∧AB H0 H [(g.1,.cells 1 (g.2.map iI) 0)]) n (id,[]) ⟨by simp,o⟩ rfl ?_
 rintro k ⟨id,out⟩ H hk ⟨Av,o⟩;dsimp only at Av;refine tt ?_;apply bk <;> intro h1
 ·have h1:=A7 h1
  have w1:=ws k;refine tt ?_;refine Ac (k : Int) o rfl rfl (by rw [Av]; simp [AK] <;> omega) fun id H o=>?_
  refine tw w1 ?_;exact A5 (_,_) (by omega) ⟨by rw [Av,List.range_succ]; simp,o⟩ rfl
 ·refine tt ?_
  have h1:=A9 h1;refine Ak o rfl fun H o=>tt ?_;exact A6 (by rw [Av,show k=n by omega]) o.sub
theorem Sa (B : Nat) (x : Int) (n : Nat) (hn : n≤1048576) : PB B 242 [.int .i64 x,.int .i64 (n : Int)] (iL (List.replicate n x)):=by
 refine ⟨fun H0=>vu.go fun ⟨_,_⟩=>tt ?_⟩;refine Ae iI (.nil _) fun id H o=>tt ?_;refine AD [0,1] (G:=Nat × List (Int)) (fun k g=>[(5,some (.buf g.1 g.2.length)),(6,some (.int .i64 (k : Int)))]) (fun k g H=>g.2=(List.replicate k x)∧AB H0 H [(g.1,.cells 1 (g.2.map iI) 0)]) n (id,[]) ⟨by simp,o⟩ rfl ?_
 rintro k ⟨id,out⟩ H hk ⟨Av,o⟩;dsimp only at Av;refine tt ?_;apply bk <;> intro h1
 ·have h1:=A7 h1
  have w1:=ws k;refine tt ?_;refine Ac x o rfl rfl (by rw [Av,List.length_replicate]; simp only [AK]; omega) fun id H o=>?_;refine tw w1 ?_;exact A5 (_,_) (by omega) ⟨by rw [Av,List.replicate_succ'],o⟩ rfl
 ·refine tt ?_
  have h1:=A9 h1;refine Ak o rfl fun H o=>tt ?_;exact A6 (by rw [Av,show k=n by omega]) o.sub
theorem Yd (B : Nat) (l : List Bool) : PB B 345 [bL l] (iL (((List.range l.length).filter fun i=>l.getD i default).map Int.ofNat)):=by
 refine ⟨fun H0=>xl.go fun ⟨hf,_⟩=>?_⟩
 have hl:=AL hf;simp only [AK] at hl;refine tt ?_;refine Ae iI (.nil _) fun id H o=>tt ?_;refine AD [7,8] (G:=Nat × List (Int)) (fun k g=>[(3,some (.buf g.1 g.2.length)),(9,some (.int .i64 (k : Int)))]) (fun k g H=>g.2=(((List.range k).filter fun i=>l.getD i default).map Int.ofNat)∧AB H0 H [(g.1,.cells 1 (g.2.map iI) 0)]) l.length (id,[]) ⟨by simp,o⟩ rfl ?_
 rintro k ⟨id,out⟩ H hk ⟨Av,o⟩;dsimp only at Av;refine tt ?_;apply bk <;> intro h1
 ·have h1:=A7 h1
  have w1:=ws k;refine tt ?_;refine ⟨h1,tt ?_⟩
  have hlen : out.length≤k:=by rw [Av,List.length_map]; exact Nat.le_trans (List.length_filter_le _ _) (by simp)
  apply bk <;> intro h2
  ·refine tt ?_;refine Ac (k : Int) o rfl rfl (by simp only [AK]; omega) fun id H o=>?_;refine tw w1 ?_;exact A5 (_,_) (by omega) ⟨by rw [Av,BF,if_pos h2,List.map_append]; rfl,o⟩ rfl
  ·refine tw w1 ?_;exact A5 (_,_) (by omega) ⟨by rw [Av,BF,if_neg (Bool.eq_false_iff.mp h2),List.map_append]; simp,o⟩ rfl
 ·refine tt ?_
  have h1:=A9 h1;refine Ak o rfl fun H o=>tt ?_;exact A6 (by rw [Av,show k=l.length by omega]) o.sub
theorem Wb (B : Nat) (f q : List Int) (hv : ∀ y,y∈f→0≤y∧y.toNat<q.length) : PB B 153 [iL f,iL q] (iL (f.map fun y=>ix q y)):=by
 refine ⟨fun H0=>c153.go fun ⟨hf,_⟩=>?_⟩
 have hl:=AL hf;simp only [AK] at hl;refine tt ?_;refine Ae iI (.nil _) fun id H o=>tt ?_;refine AD [0,1] (G:=Nat × List (Int)) (fun k g=>[(5,some (.buf g.1 g.2.length)),(6,some (.int .i64 (k : Int)))]) (fun k g H=>g.2=((f.take k).map fun y=>ix q y)∧AB H0 H [(g.1,.cells 1 (g.2.map iI) 0)]) f.length (id,[]) ⟨by simp,o⟩ rfl ?_
 rintro k ⟨id,out⟩ H hk ⟨Av,o⟩;dsimp only at Av;refine tt ?_;apply bk <;> intro h1
 ·have h1:=A7 h1
  have w1:=ws k;refine tt ?_;refine ⟨h1,hv _ (AE.mpr ⟨k,h1,rfl⟩), ?_⟩;refine Ac (ix q (f.getD k default)) o rfl rfl (by rw [Av]; simp [AK] <;> omega) fun id H o=>?_
  refine tw w1 ?_;exact A5 (_,_) (by omega) ⟨by rw [Av,BS f _ h1],o⟩ rfl
 ·refine tt ?_
  have h1:=A9 h1;refine Ak o rfl fun H o=>tt ?_;exact A6 (by rw [Av,List.take_of_length_le (by omega)]) o.sub
theorem then_ok (B : Nat) (f q : List Int) (hv : ∀ y,y∈f→0≤y∧y.toNat<q.length) : PB B 151 [iL f,iL q] (iL (f.map fun y=>ix q y)):=by
 refine ⟨fun H0=>wq.go fun ⟨hf,_⟩=>?_⟩
 have hl:=AL hf;simp only [AK] at hl;refine tt ?_;refine ⟨by simp [AK] <;> omega, ?_⟩
 refine jR iI (.nil _) fun id H o=>tt ?_;refine AD [1,5,11,12] (fun k _=>[(13,some (.int .i64 (k : Int)))]) (fun k _ H=>AB H0 H [(id,.cells 1 (((f.take k).map fun y=>ix q y).map iI++List.replicate (f.length - k) (.int .i64 0)) 0)]) f.length () o rfl ?_
 rintro k _ H hk o
 have hlen : ((f.take k).map fun y=>ix q y).length=k:=by simp; omega
 refine tt ?_;apply bk <;> intro h1
 ·have h1:=A7 h1
  have w1:=ws k
  have Cq : f.length - k=(f.length - (k+1))+1:=by omega
  rw [Cq] at o;refine tt ?_
  have hx:=hv _ (AE.mpr ⟨k,h1,rfl⟩);refine ⟨h1,hx,by omega, ?_⟩;refine qE (ix q (f.getD k default)) o rfl (by omega) fun H o=>?_;refine tw w1 ?_;exact A5 () (by omega) (by rw [BS f _ h1]; exact o) rfl
 ·refine tt ?_
  have h1:=A9 h1
  have Cq : f.length - k=0:=by omega
  rw [Cq] at o;refine jM o (by omega) fun H o=>tt ?_;exact A6 (by rw [List.take_of_length_le (by omega)]) o.sub
theorem EX (B : Nat) (c : B0) : PB B 144 [.agg c.cells] (.agg c.cells):=by
 refine ⟨fun H0=>zj.go fun hf=>tt ?_⟩;refine ⟨by simp [AK],fun i1 n1=>?_⟩;refine tt ?_;refine ⟨_,(Dg ..).run,tt ?_⟩;refine ⟨_,(Dg ..).run,tt ?_⟩;refine ⟨_,(Dg ..).run,tt ?_⟩;refine ⟨_,(Hq ..).run,tt ?_⟩;refine A6 rfl ?_
 repeat (first | exact .refl _ | refine CE ?_ n1)
theorem KN (B : Nat) (c : B0) : PB B 220 [.ptr c.cells] (.agg c.cells):=by
 refine ⟨fun H0=>c220.go fun hf=>tt ?_⟩;refine ⟨by simp [AK],fun i1 n1=>?_⟩;refine tt ?_;refine ⟨_,(J8 ..).run,tt ?_⟩;refine ⟨_,(J8 ..).run,tt ?_⟩;refine ⟨_,(J8 ..).run,tt ?_⟩;refine ⟨_,(MC ..).run,tt ?_⟩;refine A6 rfl ?_
 repeat (first | exact .refl _ | refine CE ?_ n1)
theorem RE (B : Nat) (f : SF) : PB B 182 [.agg f.cells] (.agg f.cells):=by
 refine ⟨fun H0=>c182.go fun hf=>tt ?_⟩;refine ⟨by simp [AK],fun i1 n1=>?_⟩;refine tt ?_;refine ⟨_,(EX B f.shape).run,tt ?_⟩;refine ⟨_,(Dg ..).run,tt ?_⟩;refine ⟨_,(Hq ..).run,tt ?_⟩;refine A6 rfl ?_
 repeat (first | exact .refl _ | refine CE ?_ n1)
theorem R4 (B : Nat) (f : SF) : PB B 178 [.ptr f.cells] (.agg f.cells):=by
 refine ⟨fun H0=>yj.go fun hf=>tt ?_⟩;refine ⟨by simp [AK],fun i1 n1=>?_⟩;refine tt ?_;refine ⟨_,(KN B f.shape).run,tt ?_⟩;refine ⟨_,(J8 ..).run,tt ?_⟩;refine ⟨_,(MC ..).run,tt ?_⟩;refine A6 rfl ?_
 repeat (first | exact .refl _ | refine CE ?_ n1)
theorem GG (B : Nat) (f g : SF) (p : List (List Int)) : PB B 101 [.agg f.cells,.agg g.cells,BD p] (.agg (SM.cells ⟨f,g,p⟩)):=by
 refine ⟨fun H0=>c101.go fun hf=>tt ?_⟩;refine ⟨by simp [AK],fun i1 n1=>?_⟩;refine tt ?_;refine ⟨_,(RE B f).run,tt ?_⟩;refine ⟨_,(RE B g).run,tt ?_⟩;refine ⟨_,(Hq ..).run,tt ?_⟩;refine A6 rfl ?_
 repeat (first | exact .refl _ | refine CE ?_ n1)
theorem Z8 (B : Nat) (f g : SF) (p : List (List Int)) : PB B 98 [.ptr f.cells,.ptr g.cells,BD p] (.agg (SM.cells ⟨f,g,p⟩)):=by
 refine ⟨fun H0=>c98.go fun hf=>tt ?_⟩;refine ⟨by simp [AK],fun i1 n1=>?_⟩;refine tt ?_;refine (R4 B f).go fun _=>tt ?_;refine (R4 B g).go fun _=>tt ?_;refine (MC ..).go fun _=>tt ?_;refine A6 rfl ?_
 repeat (first | exact .refl _ | refine CE ?_ n1)
theorem YE (B : Nat) (c : B0) (f : Int) (h1 : 0≤f∧f.toNat<c.AH.length) (h2 : f.toNat<c.to.length) : PB B 213 [.ptr c.cells,.int .i64 f] (.agg [.int .i64 (ix c.AH f),.int .i64 (ix c.to f)]):=by
 refine ⟨fun H0=>c213.go fun hf=>tt ?_⟩;refine fun i1 n1=>tt ?_;refine ⟨h1,⟨h1.1,h2⟩,tt ?_⟩;refine A6 rfl ?_
 repeat (first | exact .refl _ | refine CE ?_ n1)
theorem HL (B : Nat) (c : B0) : PB B 211 [.ptr c.cells] (.int .i64 c.AH.length):=by
 refine ⟨fun H0=>c211.go fun hf=>tt ?_⟩;exact A6 rfl (.refl _)
theorem CL (B : Nat) (c : B0) (f g : Int) (h1 : 0≤f∧f.toNat<c.comp.length) (h2 : 0≤g∧g.toNat<(ix c.comp f).length) :
  PB B 132 [.ptr c.cells,.int .i64 f,.int .i64 g] (.int .i64 (ix (ix c.comp f) g)):=by
 refine ⟨fun H0=>c132.go fun hf=>tt ?_⟩;exact ⟨h1,h2,A6 rfl (.refl _)⟩
theorem FE (B : Nat) (c : B0) (f g : Int) (h1 : 0≤f∧f.toNat<c.comp.length) (h2 : 0≤g∧g.toNat<(ix c.comp f).length) :
  PB B 65 [.agg c.cells,.int .i64 f,.int .i64 g] (.int .i64 (ix (ix c.comp f) g)):=by
 refine ⟨fun H0=>c65.go fun hf=>tt ?_⟩;exact ⟨h1,h2,A6 rfl (.refl _)⟩
theorem OD (B : Nat) (l : List Int) (m : Nat) (n : Int) : PB B 226 [iL l,.int .i64 (m : Int),.int .i64 n] (.bool (dec (l.length=m∧∀ y,y∈l→0≤y∧y<n))):=by
 refine ⟨fun H0=>vj.go fun hf=>tt ?_⟩;apply bk <;> intro h1
 ·refine tw h1 ?_
  have AU : l.length=m:=A7 h1;refine (HX ..).go fun _=>tt ?_;exact A6 (by congr 1; exact Bc ⟨fun h=>⟨AU,h⟩,fun h=>h.2⟩) (.refl _)
 ·refine tw h1 ?_
  have AU : ¬ l.length=m:=A9 h1;exact A6 (by rw [Ab (fun h=>AU h.1)]) (.refl _)
theorem Np (B : Nat) (l : List Int) (m n : Int) (hn : -9223372036854775808<n∧n≤9223372036854775807) : PB B 286 [iL l,.int .i64 m,.int .i64 n] (.bool (dec ((l.length : Int)=m∧∀ y,y∈l→0≤y∧y<n))):=by
 refine ⟨fun H0=>xo.go fun hf=>tt ?_⟩;apply bk <;> intro h1
 ·refine tw h1 ?_
  have AU : (l.length : Int)=m:=A7 h1;refine (G1 B l n hn).go fun _=>tt ?_;exact A6 (by congr 1; exact Bc ⟨fun h=>⟨AU,h⟩,fun h=>h.2⟩) (.refl _)
 ·refine tw h1 ?_
  have AU : ¬ (l.length : Int)=m:=A9 h1;exact A6 (by rw [Ab (fun h=>AU h.1)]) (.refl _)
theorem VN (B : Nat) (s t : List (List Int)) (Ia : s.length≤t.length) (hv : ∀ x,x<s.length→∀ y,y∈s.getD x default→0≤y∧y.toNat<(t.getD x default).length) : PB B 102 [BD s,BD t] (BD ((List.range s.length).map fun x=>(s.getD x default).map fun y=>ix (t.getD x default) y)):=by
 refine ⟨fun H0=>yd.go fun ⟨hf,_⟩=>?_⟩
 have hl:=AL hf;simp only [AK] at hl;refine tt ?_;refine Ae iL (.nil _) fun id H o=>tt ?_;refine AD [0,1] (G:=Nat × List (List Int)) (fun k g=>[(5,some (.buf g.1 g.2.length)),(6,some (.int .i64 (k : Int)))]) (fun k g H=>g.2=((List.range k).map fun x=>(s.getD x default).map fun y=>ix (t.getD x default) y)∧AB H0 H [(g.1,.cells 1 (g.2.map iL) 0)]) s.length (id,[]) ⟨by simp,o⟩ rfl ?_
 rintro k ⟨id,out⟩ H hk ⟨Av,o⟩;dsimp only at Av;refine tt ?_;apply bk <;> intro h1
 ·have h1:=A7 h1
  have w1:=ws k;refine tt ?_;refine ⟨h1,(by omega),_,(Wb B _ _ (hv k h1)).run,tt ?_⟩;refine Ac ((s.getD k default).map fun y=>ix (t.getD k default) y) o rfl rfl (by rw [Av]; simp [AK] <;> omega) fun id H o=>?_
  refine tw w1 ?_;exact A5 (_,_) (by omega) ⟨by rw [Av,List.range_succ]; simp [-List.getD_eq_getElem?_getD],o⟩ rfl
 ·refine tt ?_
  have h1:=A9 h1;refine Ak o rfl fun H o=>tt ?_;exact A6 (by rw [Av,show k=s.length by omega]) o.sub
theorem LZ (B : Nat) (s t : List (List Int)) (Ia : s.length≤t.length) (hv : ∀ x,x<s.length→∀ y,y∈s.getD x default→0≤y∧y.toNat<(t.getD x default).length) : PB B 119 [BD s,BD t] (BD ((List.range s.length).map fun x=>(s.getD x default).map fun y=>ix (t.getD x default) y)):=by
 refine ⟨fun H0=>zn.go fun ⟨hf,_⟩=>?_⟩
 have hl:=AL hf;simp only [AK] at hl;refine tt ?_;refine Ae iL (.nil _) fun id H o=>tt ?_;refine AD [0,1,9] (G:=Nat × List (List Int)) (fun k g=>[(5,some (.buf g.1 g.2.length)),(10,some (.int .i64 (k : Int)))]) (fun k g H=>g.2=((List.range k).map fun x=>(s.getD x default).map fun y=>ix (t.getD x default) y)∧AB H0 H [(g.1,.cells 1 (g.2.map iL) 0)]) s.length (id,[]) ⟨by simp,o⟩ rfl ?_
 rintro k ⟨id,out⟩ H hk ⟨Av,o⟩;dsimp only at Av;refine tt ?_;apply bk <;> intro h1
 ·have h1:=A7 h1
  have w1:=ws k;refine tt ?_;refine ⟨h1,(by omega),_,(then_ok B _ _ (hv k h1)).run,tt ?_⟩;refine Ac ((s.getD k default).map fun y=>ix (t.getD k default) y) o rfl rfl (by rw [Av]; simp [AK] <;> omega) fun id H o=>?_
  refine tw w1 ?_;exact A5 (_,_) (by omega) ⟨by rw [Av,List.range_succ]; simp [-List.getD_eq_getElem?_getD],o⟩ rfl
 ·refine tt ?_
  have h1:=A9 h1;refine Ak o rfl fun H o=>tt ?_;exact A6 (by rw [Av,show k=s.length by omega]) o.sub
structure Ve (c : B0) (f g : Nat) : Prop where
 sR : c.to.getD f default≠c.AH.getD g default→(c.comp.getD f default).getD g default=-1
 yes : c.to.getD f default=c.AH.getD g default →
  (0≤(c.comp.getD f default).getD g default∧(c.comp.getD f default).getD g default<c.AH.length) ∧
  ix c.AH ((c.comp.getD f default).getD g default)=c.AH.getD f default∧ix c.to ((c.comp.getD f default).getD g default)=c.to.getD g default
structure mI (c : B0) (f : Nat) : Prop where
 row : (c.comp.getD f default).length=c.AH.length
 cell : ∀ g,g<c.AH.length→Ve c f g
theorem WE (B : Nat) (c : B0) : PB B 137 [.agg c.cells] (.bool (dec c.Shape)):=by
 refine ⟨fun H0=>vi.go fun ⟨hf,_⟩=>?_⟩
 have hl:=AL (hf.agg (c:=iL c.AH) (by simp [B0.cells]))
 have Ia:=AL (hf.agg (c:=iL c.Aw) (by simp [B0.cells]));simp only [AK] at hl Ia;refine tt ?_;refine (Ub ..).go fun _=>tt ?_;apply bn <;> intro h1
 rotate_left
 ·refine tw h1 ?_
  have AU:=dd h1;exact A6 (by rw [Ab]; intro s; exact AU s.o) (.refl _)
 refine tw h1 ?_
 have AU:=dd h1;apply bn <;> intro h2
 rotate_left
 ·refine tw h2 ?_
  have Ah:=dd h2;exact A6 (by rw [Ab]; intro s; have:=s.m; omega) (.refl _)
 refine tw h2 ?_
 have Ah:=dd h2
 have tj : c.AH.length≤40:=by omega
 refine (OD ..).go fun _=>tt ?_;apply bn <;> intro h3
 rotate_left
 ·refine tw h3 ?_
  have BB:=dd h3;exact A6 (by rw [Ab]; intro s; exact BB s.AH) (.refl _)
 refine tw h3 ?_
 have BB:=dd h3;refine (OD ..).go fun _=>tt ?_;apply bn <;> intro h4
 rotate_left
 ·refine tw h4 ?_
  have DC:=dd h4;exact A6 (by rw [Ab]; intro s; exact DC ⟨s.He,s.to⟩) (.refl _)
 refine tw h4 ?_
 have DC:=dd h4;apply bk <;> intro h5
 ·refine tw h5 ?_
  have Hj:=dd h5;exact A6 (by rw [Ab]; intro s; exact Hj s.cl) (.refl _)
 refine tw h5 ?_
 have Hj:=dd h5;apply bn <;> intro h6
 rotate_left
 ·refine tw h6 ?_
  have Lo:=dd h6;exact A6 (by rw [Ab]; intro s; exact Lo s.il) (.refl _)
 refine tw h6 ?_
 have Lo:=dd h6;refine (HX ..).go fun _=>tt ?_;apply bk <;> intro h7
 ·refine tw h7 ?_
  have VJ:=dd h7;exact A6 (by rw [Ab]; intro s; exact VJ s.Aw) (.refl _)
 refine tw h7 ?_
 have VJ:=dd h7;refine AD [1,3] (fun k _=>[(4,some (.int .i64 (k : Int)))]) (fun k _ H=>H=H0∧∀ i,i<k→ix c.AH (c.Aw.getD i default)=i∧ix c.to (c.Aw.getD i default)=i) c.Aw.length () ⟨rfl,by simp⟩ rfl ?_
 rintro k _ H hk ⟨rfl,Aj⟩;refine tt ?_;apply bk <;> intro g1
 ·have CO:=dd g1
  have w1:=ws k
  have Sv : k<c.Aw.length:=by omega
  have hx:=VJ _ (AE.mpr ⟨k,Sv,rfl⟩);refine tt ?_;refine ⟨Sv,⟨hx.1,by omega⟩, ?_⟩;apply bn <;> intro g2
  rotate_left
  ·refine tw g2 ?_
   have CR:=dd g2;exact A6 (by rw [Ab]; intro s; exact CR (s.Qc k Sv).1) (.refl _)
  refine tw g2 ?_
  have CR:=dd g2;refine ⟨Sv,⟨hx.1,by omega⟩, ?_⟩;apply bk <;> intro g3
  ·refine tw g3 ?_
   have Di:=dd g3;exact A6 (by rw [Ab]; intro s; exact Di (s.Qc k Sv).2) (.refl _)
  refine t2 g3 w1 ?_
  have Di:=dd g3;exact A5 () Sv ⟨rfl,AG Aj ⟨CR,Di⟩⟩ rfl
 have CO:=dd g1
 have Qa : k=c.Aw.length:=by omega
 subst Qa;refine tt ?_;refine AD [1,3] (fun k _=>[(5,some (.int .i64 (k : Int)))]) (fun k _ H'=>H'=H∧∀ f,f<k→mI c f) c.AH.length () ⟨rfl,by simp⟩ rfl ?_
 rintro f _ H' Pn ⟨rfl,B4⟩;refine tt ?_;apply bk <;> intro g2
 rotate_left
 ·refine tw g2 ?_
  have CR:=dd g2
  have YO : f=c.AH.length:=by omega
  subst YO;refine A6 ?_ (.refl _);rw [Ay];exact ⟨AU,by omega,BB,DC.1,DC.2,Hj,Lo,VJ,Aj,fun f hf=>(B4 f hf).row,fun f g hf hg=>((B4 f hf).cell g hg).sR,fun f g hf hg=>((B4 f hf).cell g hg).yes⟩
 have CR:=dd g2
 have wf:=ws f
 have N8 : f<c.comp.length:=by omega
 have N6 : f<c.to.length:=by omega
 refine tt ?_;refine ⟨N8, ?_⟩;apply bk <;> intro g3
 ·refine tw g3 ?_
  have Di:=dd g3;exact A6 (by rw [Ab]; intro s; exact Di (s.row f CR)) (.refl _)
 refine tw g3 ?_
 have Di:=dd g3;refine AD [1,3,5] (fun k _=>[(6,some (.int .i64 (k : Int)))]) (fun k _ H=>H=H'∧∀ g,g<k→Ve c f g) c.AH.length () ⟨rfl,by simp⟩ rfl ?_
 rintro g _ H hgm ⟨rfl,Ib⟩;refine tt ?_;apply bk <;> intro g4
 rotate_left
 ·refine t2 g4 wf ?_
  have Fp:=dd g4
  have YO : g=c.AH.length:=by omega
  subst YO;exact A5 () CR ⟨rfl,AG B4 ⟨Di,Ib⟩⟩ rfl
 have Fp:=dd g4
 have wg:=ws g
 have hgr : g<(c.comp.getD f default).length:=by omega
 refine tt ?_;refine ⟨N8,hgr,N6,Fp, ?_⟩;apply bk <;> intro g5
 ·have Hi:=dd g5;refine tt ?_;apply bk <;> intro g6
  ·refine tt ?_
   have Nf:=dd g6;exact A6 (by rw [Ab]; intro s; exact Nf (s.sR f g CR Fp Hi)) (.refl _)
  ·have Nf:=dd g6;refine tw wg ?_;exact A5 () Fp ⟨rfl,AG Ib ⟨fun _=>Nf,fun e=>absurd e Hi⟩⟩ rfl
 have Hi:=dd g5
 have XF : ¬ ((0≤(c.comp.getD f default).getD g default∧(c.comp.getD f default).getD g default<c.AH.length) ∧
  ix c.AH ((c.comp.getD f default).getD g default)=c.AH.getD f default∧ix c.to ((c.comp.getD f default).getD g default)=c.to.getD g default)→dec c.Shape=false :=
  fun h=>Ab fun s=>h (s.yes f g CR Fp Hi)
 refine tt ?_;apply bn <;> intro g6
 rotate_left
 ·refine tw g6 ?_
  have Nf:=dd g6;exact A6 (by rw [XF]; intro h; omega) (.refl _)
 refine tw g6 ?_
 have Nf:=dd g6;apply bn <;> intro g7
 rotate_left
 ·refine tw g7 ?_
  have jn:=dd g7;exact A6 (by rw [XF]; intro h; omega) (.refl _)
 refine tw g7 ?_
 have jn:=dd g7;refine ⟨⟨Nf,by omega⟩,CR, ?_⟩;apply bn <;> intro g8
 rotate_left
 ·refine tw g8 ?_
  have g8p:=dd g8;exact A6 (by rw [XF]; intro h; exact g8p h.2.1) (.refl _)
 refine tw g8 ?_
 have g8p:=dd g8;refine ⟨⟨Nf,by omega⟩,by omega, ?_⟩;apply bk <;> intro g9
 ·refine tw g9 ?_
  have g9p:=dd g9;exact A6 (by rw [XF]; intro h; exact g9p h.2.2) (.refl _)
 refine t2 g9 wg ?_
 have g9p:=dd g9;exact A5 () Fp ⟨rfl,AG Ib ⟨fun h=>absurd Hi h,fun _=>⟨⟨Nf,by omega⟩,g8p,g9p⟩⟩⟩ rfl
theorem Wj (B : Nat) (c : B0) : PB B 127 [.ptr c.cells] (.bool (dec c.Shape)):=by
 refine ⟨fun H0=>uz.go fun ⟨hf,_⟩=>?_⟩
 have hl:=AL (hf.ptr (c:=iL c.AH) (by simp [B0.cells]))
 have Ia:=AL (hf.ptr (c:=iL c.Aw) (by simp [B0.cells]))
 have hl3:=AL (hf.ptr (c:=BD c.comp) (by simp [B0.cells]));simp only [AK] at hl Ia hl3;refine tt ?_;refine (HL B c).go fun _=>tt ?_;refine ⟨_,(KO ..).run,tt ?_⟩;apply bn <;> intro h1
 rotate_left
 ·refine tw h1 ?_
  have AU:=dd h1;exact A6 (by rw [Ab]; intro s; exact AU s.o) (.refl _)
 refine tw h1 ?_
 have AU:=dd h1;apply bn <;> intro h2
 rotate_left
 ·refine tw h2 ?_
  have Ah:=dd h2;exact A6 (by rw [Ab]; intro s; have:=s.m; omega) (.refl _)
 refine tw h2 ?_
 have Ah:=dd h2
 have tj : c.AH.length≤40:=by omega
 apply bn <;> intro h3
 rotate_left
 ·refine tw h3 ?_
  have BB:=dd h3;exact A6 (by rw [Ab]; intro s; exact BB s.He) (.refl _)
 refine tw h3 ?_
 have BB:=dd h3;refine ⟨_,(G1 B c.AH c.AR (by omega)).run,tt ?_⟩;apply bn <;> intro h4
 rotate_left
 ·refine tw h4 ?_
  have DC:=dd h4;exact A6 (by rw [Ab]; intro s; exact DC s.AH) (.refl _)
 refine tw h4 ?_
 have DC:=dd h4;refine ⟨_,(G1 B c.to c.AR (by omega)).run,tt ?_⟩;apply bk <;> intro h5
 ·refine tw h5 ?_
  have Hj:=dd h5;exact A6 (by rw [Ab]; intro s; exact Hj s.to) (.refl _)
 refine tw h5 ?_
 have Hj:=dd h5;apply bn <;> intro h6
 rotate_left
 ·refine tw h6 ?_
  have Lo:=dd h6;exact A6 (by rw [Ab]; intro s; exact Lo s.il) (.refl _)
 refine tw h6 ?_
 have Lo:=dd h6;refine ⟨_,(G1 B c.Aw c.AH.length (by omega)).run,tt ?_⟩;apply bn <;> intro h7
 rotate_left
 ·refine tw h7 ?_
  have VJ:=dd h7;exact A6 (by rw [Ab]; intro s; exact VJ s.Aw) (.refl _)
 refine tw h7 ?_
 have VJ:=dd h7;apply bk <;> intro h8
 ·refine tw h8 ?_
  have V3:=dd h8;exact A6 (by rw [Ab]; intro s; exact V3 s.cl) (.refl _)
 refine tw h8 ?_
 have V3:=dd h8;refine AD [0,3,86,87] (fun k _=>[(88,some (.int .i64 (k : Int)))]) (fun k _ H=>H=H0∧∀ i,i<k→ix c.AH (c.Aw.getD i default)=i∧ix c.to (c.Aw.getD i default)=i) c.Aw.length () ⟨rfl,by simp⟩ rfl ?_
 rintro k _ H hk ⟨rfl,Aj⟩;refine tt ?_;apply bk <;> intro g1
 ·have CO:=dd g1
  have w1:=ws k
  have hx:=VJ _ (AE.mpr ⟨k,CO,rfl⟩);refine tt ?_;refine ⟨CO,(YE B c (c.Aw.getD k default) ⟨hx.1,by omega⟩ (by omega)).go fun _=>?_⟩;refine tt ?_;apply bk <;> intro g2
  ·refine tw g2 ?_
   have CR:=dd g2;exact A6 (by rw [Ab]; intro s; exact CR (s.Qc k CO)) (.refl _)
  refine t2 g2 w1 ?_
  have CR:=dd g2;exact A5 () CO ⟨rfl,AG Aj CR⟩ rfl
 have CO:=dd g1
 have Qa : k=c.Aw.length:=by omega
 subst Qa;refine tt ?_;refine AD [0,3,104,105] (fun k _=>[(106,some (.int .i64 (k : Int)))]) (fun k _ H'=>H'=H∧∀ f,f<k→mI c f) c.comp.length () ⟨rfl,by simp⟩ rfl ?_
 rintro f _ H' Pn ⟨rfl,B4⟩;refine tt ?_;apply bk <;> intro g2
 rotate_left
 ·refine tw g2 ?_
  have CR:=dd g2
  have YO : f=c.AH.length:=by omega
  subst YO;refine A6 ?_ (.refl _);rw [Ay];exact ⟨AU,by omega,DC,BB,Hj,V3,Lo,VJ,Aj,fun f hf=>(B4 f hf).row,fun f g hf hg=>((B4 f hf).cell g hg).sR,fun f g hf hg=>((B4 f hf).cell g hg).yes⟩
 have CR:=dd g2
 have wf:=ws f
 have YO : f<c.AH.length:=by omega
 have N6 : f<c.to.length:=by omega
 refine tt ?_;refine ⟨CR, ?_⟩;apply bk <;> intro g3
 ·refine tw g3 ?_
  have Di:=dd g3;exact A6 (by rw [Ab]; intro s; exact Di (s.row f YO)) (.refl _)
 refine tw g3 ?_
 have Di:=dd g3;refine AD [0,3,6,104,105,106,115,116] (fun k _=>[(117,some (.int .i64 (k : Int)))]) (fun k _ H=>H=H'∧∀ g,g<k→Ve c f g) (c.comp.getD f default).length () ⟨rfl,by simp⟩ rfl ?_
 rintro g _ H hgm ⟨rfl,Ib⟩;refine tt ?_;apply bk <;> intro g4
 rotate_left
 ·refine t2 g4 wf ?_
  have Fp:=dd g4
  have XM : g=c.AH.length:=by omega
  subst XM;exact A5 () CR ⟨rfl,AG B4 ⟨Di,Ib⟩⟩ rfl
 have Fp:=dd g4
 have wg:=ws g
 have hgf : g<c.AH.length:=by omega
 refine tt ?_;refine ⟨Fp,N6,hgf, ?_⟩;apply bk <;> intro g5
 ·have Hi:=dd g5;refine tt ?_;apply bk <;> intro g6
  ·refine tt ?_
   have Nf:=dd g6;exact A6 (by rw [Ab]; intro s; exact Nf (s.sR f g YO hgf Hi)) (.refl _)
  ·have Nf:=dd g6;refine tw wg ?_;exact A5 () Fp ⟨rfl,AG Ib ⟨fun _=>Nf,fun e=>absurd e Hi⟩⟩ rfl
 have Hi:=dd g5
 have XF : ¬ ((0≤(c.comp.getD f default).getD g default∧(c.comp.getD f default).getD g default<c.AH.length) ∧
  ix c.AH ((c.comp.getD f default).getD g default)=c.AH.getD f default∧ix c.to ((c.comp.getD f default).getD g default)=c.to.getD g default)→dec c.Shape=false :=
  fun h=>Ab fun s=>h (s.yes f g YO hgf Hi)
 have wn : IntKind.i64.wrap ((c.AH.length : Int) - 1)=(c.AH.length : Int) - 1:=wrap_i64 (by omega) (by omega);refine tw wn ?_;refine ⟨_,(KO ..).run,tt ?_⟩;apply bn <;> intro g6
 rotate_left
 ·refine tw g6 ?_
  have Nf:=dd g6;exact A6 (by rw [XF]; intro h; omega) (.refl _)
 refine tw g6 ?_
 have Nf:=dd g6;refine ⟨_,(YE B c _ ⟨Nf.1,by omega⟩ (by omega)).run,YO,by omega,tt ?_⟩;apply bk <;> intro g7
 ·refine tw g7 ?_
  have jn:=dd g7;exact A6 (by rw [XF]; intro h; exact jn h.2) (.refl _)
 refine t2 g7 wg ?_
 have jn:=dd g7;exact A5 () Fp ⟨rfl,AG Ib ⟨fun h=>absurd Hi h,fun _=>⟨⟨Nf.1,by omega⟩,jn⟩⟩⟩ rfl
theorem UX (B : Nat) (c : B0) (s : c.Shape) (H0 : AA) : CB B 138 [.agg c.cells] H0 (PI c.Laws H0):=by
 refine yc.go fun ⟨hf,_⟩=>?_
 have hm:=s.m
 have Ma:=s.cl
 have Hg:=s.He;refine tt ?_;refine AD [1,6] (fun k _=>[(7,some (.int .i64 (k : Int)))]) (fun k _ H=>H=H0∧∀ f,f<k→c.ev f) c.AH.length () ⟨rfl,by simp⟩ rfl ?_
 rintro f _ H Pn ⟨rfl,KD⟩;refine tt ?_;apply bk <;> intro g1
 ·have CO:=dd g1
  have wf:=ws f
  have a1:=s.QL CO
  have a2:=s.Ca a1.2
  have a3:=s.Ld a2.2
  have b1:=s.uX CO
  have b2:=s.Ca b1.2
  have b3:=s.row f CO;refine tt ?_;refine ⟨CO,a1,⟨a2.1,by omega⟩,by omega, ?_⟩;apply bn <;> intro g2
  rotate_left
  ·refine tw g2 ?_
   have CR:=dd g2;exact CV (by constructor; (intro h; cases h); intro l; exact absurd (l.ZM f CO).1 CR) (.refl _)
  refine tw g2 ?_
  have CR:=dd g2;refine ⟨by omega,by omega,b1,⟨b2.1,by omega⟩, ?_⟩;apply bk <;> intro g3
  ·refine tw g3 ?_
   have Di:=dd g3;exact CV (by constructor; (intro h; cases h); intro l; exact absurd (l.ZM f CO).2 Di) (.refl _)
  refine t2 g3 wf ?_
  have Di:=dd g3;exact A5 () CO ⟨rfl,AG KD ⟨CR,Di⟩⟩ rfl
 have CO:=dd g1
 have YO : f=c.AH.length:=by omega
 subst YO;refine tt ?_;refine AD [1,6] (fun k _=>[(8,some (.int .i64 (k : Int)))]) (fun k _ H'=>H'=H∧∀ f,f<k→∀ g,g<c.AH.length→∀ h,h<c.AH.length→c.JZ f g h) c.AH.length () ⟨rfl,by simp⟩ rfl ?_
 rintro f _ H' Pn ⟨rfl,hF⟩;refine tt ?_;apply bk <;> intro g1
 rotate_left
 ·refine tt ?_
  have CO:=dd g1;exact CV (by simp only [true_iff]; exact ⟨KD,fun f g h hf hg hh=>hF f (by omega) g hg h hh⟩) (.refl _)
 have CO:=dd g1
 have wf:=ws f
 have rf:=s.row f CO;refine tt ?_;refine AD [1,6,8] (fun k _=>[(9,some (.int .i64 (k : Int)))]) (fun k _ H=>H=H'∧∀ g,g<k→∀ h,h<c.AH.length→c.JZ f g h) c.AH.length () ⟨rfl,by simp⟩ rfl ?_
 rintro g _ H hgm ⟨rfl,hG⟩;refine tt ?_;apply bk <;> intro g2
 rotate_left
 ·refine tw wf ?_
  have CR:=dd g2;exact A5 () CO ⟨rfl,AG hF fun g hg=>hG g (by omega)⟩ rfl
 have CR:=dd g2
 have wg:=ws g
 have rg:=s.row g CR;refine tt ?_;refine ⟨by omega,CR, ?_⟩;apply bk <;> intro g3
 ·refine tw wg ?_
  have Di:=dd g3;exact A5 () CR ⟨rfl,AG hG fun h hh e=>absurd e Di⟩ rfl
 have Di:=dd g3;refine tt ?_;refine AD [1,6,8,9] (fun k _=>[(10,some (.int .i64 (k : Int)))]) (fun k _ H'=>H'=H∧∀ h,h<k→c.JZ f g h) c.AH.length () ⟨rfl,by simp⟩ rfl ?_
 rintro h _ H' hhm ⟨rfl,hA⟩;refine tt ?_;apply bk <;> intro g4
 rotate_left
 ·refine tw wg ?_
  have Fp:=dd g4;exact A5 () CR ⟨rfl,AG hG fun h hh=>hA h (by omega)⟩ rfl
 have Fp:=dd g4
 have wh:=ws h;refine tt ?_;refine ⟨by omega,Fp, ?_⟩;apply bk <;> intro g5
 ·refine tw g5 ?_
  have Hi:=dd g5
  have c1:=(s.pos CO CR).mpr Di
  have c2:=s.lt CO CR
  have c3:=s.Ld c2
  have d1:=(s.pos CR Fp).mpr Hi
  have d2:=s.lt CR Fp;refine ⟨by omega,by omega,⟨c1,by omega⟩,by omega,by omega,by omega,by omega,⟨d1,by omega⟩, ?_⟩;apply bk <;> intro g6
  ·refine tw g6 ?_
   have Nf:=dd g6;exact CV (by constructor; (intro h; cases h); intro l; exact absurd (l.assoc f g h CO CR Fp Di Hi) Nf) (.refl _)
  ·refine t2 g6 wh ?_
   have Nf:=dd g6;exact A5 () Fp ⟨rfl,AG hA fun _ _=>Nf⟩ rfl
 ·refine t2 g5 wh ?_
  have Hi:=dd g5;exact A5 () Fp ⟨rfl,AG hA fun _ e=>absurd e Hi⟩ rfl
theorem JG (B : Nat) (c : B0) : PB B 59 [.agg c.cells] (.bool (dec c.Is)):=by
 refine ⟨fun H0=>c59.go fun hf=>tt ?_⟩;refine (WE B c).go fun _=>tt ?_;apply bk <;> intro h1
 ·refine tt ?_
  have AU:=dd h1;exact A6 (by rw [Ab]; intro s; exact AU s.1) (.refl _)
 have AU:=dd h1;refine tt ?_;refine (UX B c AU H0).J7 ?_
 rintro _ _ _ ⟨rfl,k,a,b,d,rfl,hk⟩;refine tt ?_;exact A6 (by rw [BO]; congr 1; exact Bc ⟨fun h=>⟨AU,hk.mp h⟩,fun h=>hk.mpr h.2⟩) (.refl _)
theorem DH {α : Type} [Inhabited α] (l : List α) (k : Nat) : ix l (k : Int)=l.getD k default:=AJ l k
theorem eX (B : Nat) (c : B0) (s : c.Shape) (H0 : AA) : CB B 128 [.ptr c.cells] H0 (PI c.Laws H0):=by
 refine c128.go fun ⟨hf,_⟩=>?_
 have hm:=s.m
 have Ma:=s.cl
 have Hg:=s.He;refine tt ?_;refine (HL B c).go fun _=>tt ?_;refine AD [0,6] (fun k _=>[(7,some (.int .i64 (k : Int)))]) (fun k _ H=>H=H0∧∀ f,f<k→c.ev f) c.AH.length () ⟨rfl,by simp⟩ rfl ?_
 rintro f _ H Pn ⟨rfl,KD⟩;refine tt ?_;apply bk <;> intro g1
 ·have CO:=dd g1
  have wf:=ws f
  have a1:=s.QL CO
  have a2:=s.Ca a1.2
  have a3:=s.Ld a2.2
  have b1:=s.uX CO
  have b2:=s.Ca b1.2
  have b3:=s.row f CO;refine tt ?_;refine ⟨CO,a1,_,(CL B c _ _ ⟨a2.1,by omega⟩ ⟨by omega,by omega⟩).run,tt ?_⟩;apply bn <;> intro g2
  rotate_left
  ·refine tw g2 ?_
   have CR:=dd g2;exact CV (by constructor; (intro h; cases h); intro l; exact absurd (l.ZM f CO).1 CR) (.refl _)
  refine tw g2 ?_
  have CR:=dd g2;refine ⟨by omega,b1,_,(CL B c f _ ⟨by omega,by omega⟩ ⟨b2.1,by rw [DH]; omega⟩).run,tt ?_⟩;apply bk <;> intro g3
  ·refine tw g3 ?_
   have Di:=dd g3;exact CV (by constructor; (intro h; cases h); intro l; exact absurd (l.ZM f CO).2 Di) (.refl _)
  refine t2 g3 wf ?_
  have Di:=dd g3;exact A5 () CO ⟨rfl,AG KD ⟨CR,Di⟩⟩ rfl
 have CO:=dd g1
 have YO : f=c.AH.length:=by omega
 subst YO;refine tt ?_;refine AD [0,6] (fun k _=>[(8,some (.int .i64 (k : Int)))]) (fun k _ H'=>H'=H∧∀ f,f<k→∀ g,g<c.AH.length→∀ h,h<c.AH.length→c.JZ f g h) c.AH.length () ⟨rfl,by simp⟩ rfl ?_
 rintro f _ H' Pn ⟨rfl,hF⟩;refine tt ?_;apply bk <;> intro g1
 rotate_left
 ·refine tt ?_
  have CO:=dd g1;exact CV (by simp only [true_iff]; exact ⟨KD,fun f g h hf hg hh=>hF f (by omega) g hg h hh⟩) (.refl _)
 have CO:=dd g1
 have wf:=ws f
 have rf:=s.row f CO;refine tt ?_;refine AD [0,6,8] (fun k _=>[(9,some (.int .i64 (k : Int)))]) (fun k _ H=>H=H'∧∀ g,g<k→∀ h,h<c.AH.length→c.JZ f g h) c.AH.length () ⟨rfl,by simp⟩ rfl ?_
 rintro g _ H hgm ⟨rfl,hG⟩;refine tt ?_;apply bk <;> intro g2
 rotate_left
 ·refine tw wf ?_
  have CR:=dd g2;exact A5 () CO ⟨rfl,AG hF fun g hg=>hG g (by omega)⟩ rfl
 have CR:=dd g2
 have wg:=ws g
 have rg:=s.row g CR;refine tt ?_;refine (CL B c f g ⟨by omega,by omega⟩ ⟨by omega,by rw [DH]; omega⟩).go fun _=>tt ?_;apply bk <;> intro g3
 ·refine tw wg ?_
  have Di:=dd g3;exact A5 () CR ⟨rfl,AG hG fun h hh e=>by have:=(s.pos CO CR).mpr e; omega⟩ rfl
 have Di:=dd g3
 have ju:=(s.pos CO CR).mp Di;refine tt ?_;refine AD [0,6,8,9] (fun k _=>[(10,some (.int .i64 (k : Int)))]) (fun k _ H'=>H'=H∧∀ h,h<k→c.JZ f g h) c.AH.length () ⟨rfl,by simp⟩ rfl ?_
 rintro h _ H' hhm ⟨rfl,hA⟩;refine tt ?_;apply bk <;> intro g4
 rotate_left
 ·refine tw wg ?_
  have Fp:=dd g4;exact A5 () CR ⟨rfl,AG hG fun h hh=>hA h (by omega)⟩ rfl
 have Fp:=dd g4
 have wh:=ws h;refine tt ?_;refine (CL B c g h ⟨by omega,by omega⟩ ⟨by omega,by rw [DH]; omega⟩).go fun _=>tt ?_;apply bk <;> intro g5
 ·refine tw g5 ?_
  have Hi:=dd g5
  have g5q:=(s.pos CR Fp).mp Hi
  have c2:=s.lt CO CR
  have c3:=s.Ld c2
  have d2:=s.lt CR Fp;refine (CL B c f g ⟨by omega,by omega⟩ ⟨by omega,by rw [DH]; omega⟩).go fun _=>tt ?_;refine (CL B c _ h ⟨Di,by omega⟩ ⟨by omega,by omega⟩).go fun _=>tt ?_;refine (CL B c g h ⟨by omega,by omega⟩ ⟨by omega,by rw [DH]; omega⟩).go fun _=>tt ?_;refine (CL B c f _ ⟨by omega,by omega⟩ ⟨Hi,by rw [DH]; omega⟩).go fun _=>tt ?_;apply bk <;> intro g6
  ·refine tw g6 ?_
   have Nf:=dd g6;exact CV (by constructor; (intro h; cases h); intro l; exact absurd (l.assoc f g h CO CR Fp ju g5q) Nf) (.refl _)
  ·refine t2 g6 wh ?_
   have Nf:=dd g6;exact A5 () Fp ⟨rfl,AG hA fun _ _=>Nf⟩ rfl
 ·refine t2 g5 wh ?_
  have Hi:=dd g5;exact A5 () Fp ⟨rfl,AG hA fun _ e=>by have:=(s.pos CR Fp).mpr e; omega⟩ rfl
theorem Jx (B : Nat) (c : B0) : PB B 57 [.ptr c.cells] (.bool (dec c.Is)):=by
 refine ⟨fun H0=>c57.go fun hf=>tt ?_⟩;refine (Wj B c).go fun _=>tt ?_;apply bk <;> intro h1
 ·refine tt ?_
  have AU:=dd h1;exact A6 (by rw [Ab]; intro s; exact AU s.1) (.refl _)
 have AU:=dd h1;refine tt ?_;refine (eX B c AU H0).J7 ?_
 rintro _ _ _ ⟨rfl,k,a,b,d,rfl,hk⟩;refine tt ?_;exact A6 (by rw [BO]; congr 1; exact Bc ⟨fun h=>⟨AU,hk.mp h⟩,fun h=>hk.mpr h.2⟩) (.refl _)
theorem TB (B : Nat) (c : B0) (s : c.Shape) (x : Int) (l : List Int) : PB B 158 [.agg c.cells,.int .i64 x,iL l] (.bool (dec (c.Ax x l))):=by
 refine ⟨fun H0=>c158.go fun ⟨_,_,hf,_⟩=>?_⟩
 have hl:=AL hf;simp only [AK] at hl
 have hm:=s.m
 have Ma:=s.cl
 have Hg:=s.He;refine tt ?_;refine (UA ..).go fun _=>tt ?_;apply bn <;> intro h1
 rotate_left
 ·refine tw h1 ?_
  have AU:=dd h1;exact A6 (by rw [Ab]; intro s; exact AU s.iX) (.refl _)
 refine tw h1 ?_
 have AU:=dd h1;refine (HX ..).go fun _=>tt ?_;apply bk <;> intro h2
 ·refine tw h2 ?_
  have Ah:=dd h2;exact A6 (by rw [Ab]; intro s; exact Ah s.Nb) (.refl _)
 refine tw h2 ?_
 have Ah:=dd h2
 refine AD [1,2,3] (fun k _=>[(7,some (.int .i64 (k : Int)))]) (fun k _ H=>H=H0∧∀ i,i<k→ix c.AH (l.getD i default)=x ∧
  ∀ b : Nat,b<c.AH.length→ix c.to (l.getD i default)=c.AH.getD b default→(ix c.comp (l.getD i default)).getD b default∈l) l.length () ⟨rfl,by simp⟩ rfl ?_
 rintro k _ H hk ⟨rfl,Aj⟩;refine tt ?_;apply bk <;> intro g1
 rotate_left
 ·refine tt ?_
  have CO:=dd g1;refine A6 ?_ (.refl _);rw [Ay]
  have:=Db (l:=l) (p:=fun a=>ix c.AH a=x∧∀ b : Nat,b<c.AH.length→ix c.to a=c.AH.getD b default→(ix c.comp a).getD b default∈l) |>.mpr fun i hi=>Aj i (by omega);exact ⟨AU,Ah,fun y hy=>(this y hy).1,fun y hy=>(this y hy).2⟩
 have CO:=dd g1
 have w1:=ws k
 have hx:=Ah _ (AE.mpr ⟨k,CO,rfl⟩);refine tt ?_;refine ⟨CO,⟨hx.1,by omega⟩, ?_⟩;apply bk <;> intro g2
 ·refine tt ?_
  have CR:=dd g2;exact A6 (by rw [Ab]; intro s; exact CR (s.src _ (AE.mpr ⟨k,CO,rfl⟩))) (.refl _)
 have CR:=dd g2;refine tt ?_
 refine AD [1,2,3,7] (fun k _=>[(8,some (.int .i64 (k : Int)))]) (fun b' _ H'=>H'=H ∧
  ∀ b : Nat,b<b'→ix c.to (l.getD k default)=c.AH.getD b default→(ix c.comp (l.getD k default)).getD b default∈l) c.AH.length () ⟨rfl,by simp⟩ rfl ?_
 rintro b _ H' hb ⟨rfl,E7⟩;refine tt ?_;apply bk <;> intro g3
 rotate_left
 ·refine tw w1 ?_
  have Di:=dd g3;exact A5 () CO ⟨rfl,AG Aj ⟨CR,fun b hb=>E7 b (by omega)⟩⟩ rfl
 have Di:=dd g3
 have wb:=ws b
 have hr:=s.Ld (a:=l.getD k default) (by omega);refine tt ?_;refine ⟨CO,⟨hx.1,by omega⟩,Di, ?_⟩;apply bk <;> intro g4
 rotate_left
 ·refine t2 g4 wb ?_
  have Fp:=dd g4;exact A5 () Di ⟨rfl,AG E7 fun e=>absurd e Fp⟩ rfl
 refine tw g4 ?_
 have Fp:=dd g4;refine ⟨CO,_,(FE B c (l.getD k default) b ⟨hx.1,by omega⟩ ⟨by omega,by omega⟩).run,tt ?_⟩;refine ⟨_,(Je ..).run,tt ?_⟩;apply bk <;> intro g5
 ·refine tt ?_
  have Hi:=dd g5;exact A6 (by rw [Ab]; intro s; exact Hi (s.cls _ (AE.mpr ⟨k,CO,rfl⟩) b Di Fp)) (.refl _)
 ·refine tw wb ?_
  have Hi:=dd g5;exact A5 () Di ⟨rfl,AG E7 fun _=>Hi⟩ rfl
theorem VS (B : Nat) (c : B0) (s : c.Shape) (x : Int) (l : List Int) : PB B 165 [.ptr c.cells,.int .i64 x,iL l] (.bool (dec (c.Ax x l))):=by
 refine ⟨fun H0=>xh.go fun ⟨_,_,hf,_⟩=>?_⟩
 have hl:=AL hf;simp only [AK] at hl
 have hm:=s.m
 have Ma:=s.cl
 have Hg:=s.He;refine tt ?_;refine (Z4 ..).go fun _=>tt ?_;apply bn <;> intro h1
 rotate_left
 ·refine tw h1 ?_
  have AU:=dd h1;exact A6 (by rw [Ab]; intro s; exact AU s.iX) (.refl _)
 refine tw h1 ?_
 have AU:=dd h1;refine (HL B c).go fun _=>tt ?_;refine (G1 B l c.AH.length (by omega)).go fun _=>tt ?_;apply bk <;> intro h2
 ·refine tw h2 ?_
  have Ah:=dd h2;exact A6 (by rw [Ab]; intro s; exact Ah s.Nb) (.refl _)
 refine tw h2 ?_
 have Ah:=dd h2
 refine AD [0,1,2,21,22] (fun k _=>[(23,some (.int .i64 (k : Int)))]) (fun k _ H=>H=H0∧∀ i,i<k→ix c.AH (l.getD i default)=x ∧
  ∀ b : Nat,b<c.AH.length→ix c.to (l.getD i default)=c.AH.getD b default→(ix c.comp (l.getD i default)).getD b default∈l) l.length () ⟨rfl,by simp⟩ rfl ?_
 rintro k _ H hk ⟨rfl,Aj⟩;refine tt ?_;apply bk <;> intro g1
 rotate_left
 ·refine tt ?_
  have CO:=dd g1;refine A6 ?_ (.refl _);rw [Ay]
  have:=Db (l:=l) (p:=fun a=>ix c.AH a=x∧∀ b : Nat,b<c.AH.length→ix c.to a=c.AH.getD b default→(ix c.comp a).getD b default∈l) |>.mpr fun i hi=>Aj i (by omega);exact ⟨AU,Ah,fun y hy=>(this y hy).1,fun y hy=>(this y hy).2⟩
 have CO:=dd g1
 have w1:=ws k
 have hx:=Ah _ (AE.mpr ⟨k,CO,rfl⟩);refine tt ?_;refine ⟨CO,⟨hx.1,by omega⟩, ?_⟩;apply bk <;> intro g2
 ·refine tt ?_
  have CR:=dd g2;exact A6 (by rw [Ab]; intro s; exact CR (s.src _ (AE.mpr ⟨k,CO,rfl⟩))) (.refl _)
 have CR:=dd g2;refine tt ?_;refine ⟨⟨hx.1,by omega⟩,(HO B c _).go fun IL=>?_⟩
 have VI:=AL IL;simp only [AK] at VI
 generalize ho : outs c (ix c.to (l.getD k default))=ou at *;refine tt ?_
 refine AD [0,1,2,8,21,22,23,44,45] (fun k _=>[(46,some (.int .i64 (k : Int)))]) (fun b' _ H'=>H'=H ∧
  ∀ b : Nat,b<b'→ix (ix c.comp (l.getD k default)) (ou.getD b default)∈l) ou.length () ⟨rfl,by simp⟩ rfl ?_
 rintro b _ H' hb ⟨rfl,E7⟩;refine tt ?_;apply bk <;> intro g3
 rotate_left
 ·refine tw w1 ?_
  have Di:=dd g3;refine A5 () CO ⟨rfl,AG Aj ⟨CR,fun b hb e=>?_⟩⟩ rfl
  have CH : (b : Int)∈ou:=by rw [← ho]; exact BV.mpr ⟨by omega,by omega,by rw [DH]; exact e.symm⟩
  obtain ⟨i,hi,e2⟩:=AE.mp CH
  have:=E7 i (by omega);rw [e2,DH] at this;exact this
 have Di:=dd g3
 have wb:=ws b
 have hr:=s.Ld (a:=l.getD k default) (by omega)
 have CH : ou.getD b default∈ou:=AE.mpr ⟨b,Di,rfl⟩;rw [show (ou.getD b default∈ou)=(ou.getD b default∈outs c (ix c.to (l.getD k default))) by rw [ho],BV] at CH;refine tt ?_;refine ⟨Di,(CL B c (l.getD k default) (ou.getD b default) ⟨hx.1,by omega⟩ ⟨CH.1,by omega⟩).go fun _=>?_⟩;refine tt ?_;refine (Rt ..).go fun _=>tt ?_;apply bk <;> intro g5
 ·refine tt ?_
  have Hi:=dd g5;refine A6 ?_ (.refl _);rw [Ab]; intro s;exact Hi (s.cls _ (AE.mpr ⟨k,CO,rfl⟩) _ CH.2.1 CH.2.2.symm)
 ·refine tw wb ?_
  have Hi:=dd g5;exact A5 () Di ⟨rfl,AG E7 Hi⟩ rfl
theorem Vo (B : Nat) (c : B0) (hs : c.Shape) (a : Int) (ha : 0≤a∧a.toNat<c.AH.length) (s : List Int) : PB B 331 [.agg c.cells,.int .i64 a,iL s] (iL (DR c a s)):=by
 refine ⟨fun H0=>c331.go fun ⟨_,_,_⟩=>?_⟩
 have hm:=hs.m
 have Ma:=hs.cl
 have Hg:=hs.He;refine tt ?_;refine Ae iI (.nil _) fun id H o=>tt ?_;refine AD [1,2,3] (G:=Nat × List (Int)) (fun k g=>[(7,some (.buf g.1 g.2.length)),(8,some (.int .i64 (k : Int)))]) (fun k g H=>g.2=(Ea (Mo c a s) k)∧AB H0 H [(g.1,.cells 1 (g.2.map iI) 0)]) c.AH.length (id,[]) ⟨by simp,o⟩ rfl ?_
 rintro k ⟨id,out⟩ H hk ⟨Av,o⟩;dsimp only at Av;refine tt ?_;apply bk <;> intro h1
 ·have h1:=A7 h1
  have w1:=ws k;refine tt ?_
  have hr:=hs.Ld (a:=a) ha.2
  have hlen : out.length≤k:=by rw [Av]; exact Iz _ _
  refine ⟨⟨ha.1,by omega⟩,h1, ?_⟩;apply bk <;> intro h2
  ·refine tw h2 ?_
   have Ah:=dd h2;refine ⟨_,(FE B c a k ⟨ha.1,by omega⟩ ⟨by omega,by omega⟩).run,tt ?_⟩;refine ⟨_,(Je ..).run,tt ?_⟩;apply bk <;> intro h3
   ·refine tt ?_
    have BB:=dd h3;refine Ac (k : Int) o rfl rfl (by simp only [AK]; omega) fun id H o=>?_;refine tw w1 ?_;exact A5 (_,_) (by omega) ⟨by rw [Av,SZ (kZ Ah BB)],o⟩ rfl
   ·refine tw w1 ?_
    have BB:=dd h3;exact A5 (_,_) (by omega) ⟨by rw [Av,MH (Xf fun e=>BB e.2)],o⟩ rfl
  ·refine t2 h2 w1 ?_
   have Ah:=dd h2;exact A5 (_,_) (by omega) ⟨by rw [Av,MH (Xf fun e=>Ah e.1)],o⟩ rfl
 ·refine tt ?_
  have h1:=A9 h1;refine Ak o rfl fun H o=>tt ?_;exact A6 (by rw [Av,show k=c.AH.length by omega]; rfl) o.sub
def Ul (c : B0) (a : Int) (s : List Int) (y : Int) : Bool:=decide (ix (ix c.comp a) y∈s)
theorem eU (c : B0) (a : Int) (s : List Int) : (outs c (ix c.to a)).filter (Ul c a s)=DR c a s:=by
 refine KR ?_ (DS _ _) fun y=>?_
 ·have:=R0 c (ix c.to a) ▸ DS _ _;rw [DI] at this ⊢;exact this.filter _
 ·rw [List.mem_filter,BV,E3,Ul,decide_eq_true_eq,and_assoc,and_assoc,and_assoc,eq_comm (a:=ix c.to a)]
theorem Y7 (B : Nat) (c : B0) (hs : c.Shape) (a : Int) (ha : 0≤a∧a.toNat<c.AH.length) (s : List Int) : PB B 335 [.ptr c.cells,.int .i64 a,iL s] (iL (DR c a s)):=by
 refine ⟨fun H0=>c335.go fun ⟨_,_,_⟩=>?_⟩
 have hm:=hs.m
 have Ma:=hs.cl
 have Hg:=hs.He;refine tt ?_;refine Ae iI (.nil _) fun id H o=>tt ?_;refine ⟨⟨ha.1,by omega⟩,(HO B c _).go fun IL=>?_⟩
 have VI:=AL IL;simp only [AK] at VI
 generalize ho : outs c (ix c.to a)=ou at *;refine tt ?_;refine AD [0,1,2,19,20] (G:=Nat × List (Int)) (fun k g=>[(7,some (.buf g.1 g.2.length)),(21,some (.int .i64 (k : Int)))]) (fun k g H=>g.2=((ou.take k).filter (Ul c a s))∧AB H0 H [(g.1,.cells 1 (g.2.map iI) 0)]) ou.length (id,[]) ⟨by simp,o⟩ rfl ?_
 rintro k ⟨id,out⟩ H hk ⟨Av,o⟩;dsimp only at Av;refine tt ?_;apply bk <;> intro h1
 ·have h1:=A7 h1
  have w1:=ws k;refine tt ?_
  have CH : ou.getD k default∈ou:=AE.mpr ⟨k,h1,rfl⟩;rw [show (ou.getD k default∈ou)=(ou.getD k default∈outs c (ix c.to a)) by rw [ho],BV] at CH
  have hr:=hs.Ld (a:=a) ha.2
  have hlen : out.length≤k:=by rw [Av]; exact Ud _ _ _
  refine ⟨h1,(CL B c a (ou.getD k default) ⟨ha.1,by omega⟩ ⟨CH.1,by omega⟩).go fun _=>?_⟩;refine tt ?_;refine (Rt ..).go fun _=>tt ?_;apply bk <;> intro h3
  ·refine tt ?_
   have BB:=dd h3;refine Ac (ou.getD k default) o rfl rfl (by simp only [AK]; omega) fun id H o=>?_;refine tw w1 ?_;exact A5 (_,_) (by omega) ⟨by rw [Av,eK h1 (by simpa [Ul] using BB)],o⟩ rfl
  ·refine tw w1 ?_
   have BB:=dd h3;exact A5 (_,_) (by omega) ⟨by rw [Av,eJ h1 (by simpa [Ul] using BB)],o⟩ rfl
 ·refine tt ?_
  have h1:=A9 h1;refine Ak o rfl fun H o=>tt ?_;exact A6 (by rw [Av,show k=ou.length by omega,List.take_length,← ho,eU]) o.sub
theorem SP (B : Nat) (f : SF) (s : List Int) (e : Int) (hs : ∀ a,a∈s→0≤a∧a.toNat<f.Aa.length) (gx : 0≤e) (he : ∀ a,a∈s→e.toNat<(ix f.Aa a).length) : PB B 86 [.agg f.cells,iL s,.int .i64 e] (iL (Bl f s e)):=by
 refine ⟨fun H0=>c86.go fun ⟨_,hf,_⟩=>?_⟩
 have hl:=AL hf;simp only [AK] at hl;refine tt ?_;refine Ae iI (.nil _) fun id H o=>tt ?_;refine AD [1,2,3] (G:=Nat × List (Int)) (fun k g=>[(7,some (.buf g.1 g.2.length)),(8,some (.int .i64 (k : Int)))]) (fun k g H=>g.2=((s.take k).map fun a=>ix (ix f.Aa a) e)∧AB H0 H [(g.1,.cells 1 (g.2.map iI) 0)]) s.length (id,[]) ⟨by simp,o⟩ rfl ?_
 rintro k ⟨id,out⟩ H hk ⟨Av,o⟩;dsimp only at Av;refine tt ?_;apply bk <;> intro h1
 ·have h1:=A7 h1
  have w1:=ws k;refine tt ?_;refine ⟨h1,⟨(hs _ (AE.mpr ⟨k,h1,rfl⟩)).1,(hs _ (AE.mpr ⟨k,h1,rfl⟩)).2⟩,⟨gx,he _ (AE.mpr ⟨k,h1,rfl⟩)⟩, ?_⟩;refine Ac (ix (ix f.Aa (s.getD k default)) e) o rfl rfl (by rw [Av,List.length_map,List.length_take]; simp only [AK]; omega) fun id H o=>?_;refine tw w1 ?_;exact A5 (_,_) (by omega) ⟨by rw [Av,BS s _ h1],o⟩ rfl
 ·refine tt ?_
  have h1:=A9 h1;refine Ak o rfl fun H o=>tt ?_;exact A6 (by rw [Av,show k=s.length by omega,List.take_length]; rfl) o.sub
theorem Jy (B : Nat) (f : SF) (s : List Int) (e : Int) (hs : ∀ a,a∈s→0≤a∧a.toNat<f.Aa.length) (gx : 0≤e) (he : ∀ a,a∈s→e.toNat<(ix f.Aa a).length) : PB B 168 [.ptr f.cells,iL s,.int .i64 e] (iL (Bl f s e)):=by
 refine ⟨fun H0=>c168.go fun ⟨_,hf,_⟩=>?_⟩
 have hl:=AL hf;simp only [AK] at hl;refine tt ?_;refine Ae iI (.nil _) fun id H o=>tt ?_;refine AD [0,2,11,12] (G:=Nat × List (Int)) (fun k g=>[(7,some (.buf g.1 g.2.length)),(13,some (.int .i64 (k : Int)))]) (fun k g H=>g.2=((s.take k).map fun a=>ix (ix f.Aa a) e)∧AB H0 H [(g.1,.cells 1 (g.2.map iI) 0)]) s.length (id,[]) ⟨by simp,o⟩ rfl ?_
 rintro k ⟨id,out⟩ H hk ⟨Av,o⟩;dsimp only at Av;refine tt ?_;apply bk <;> intro h1
 ·have h1:=A7 h1
  have w1:=ws k;refine tt ?_;refine ⟨h1,⟨(hs _ (AE.mpr ⟨k,h1,rfl⟩)).1,(hs _ (AE.mpr ⟨k,h1,rfl⟩)).2⟩,⟨gx,he _ (AE.mpr ⟨k,h1,rfl⟩)⟩, ?_⟩;refine Ac (ix (ix f.Aa (s.getD k default)) e) o rfl rfl (by rw [Av,List.length_map,List.length_take]; simp only [AK]; omega) fun id H o=>?_;refine tw w1 ?_;exact A5 (_,_) (by omega) ⟨by rw [Av,BS s _ h1],o⟩ rfl
 ·refine tt ?_
  have h1:=A9 h1;refine Ak o rfl fun H o=>tt ?_;exact A6 (by rw [Av,show k=s.length by omega,List.take_length]; rfl) o.sub
theorem ML (B : Nat) (f : SF) (x : Int) (s t : List Int) (hx : 0≤x∧x.toNat<f.A4.length) (hz : ix f.A4 x≤17) (hs : ∀ a,a∈s→0≤a∧a.toNat<f.Aa.length) (he : ∀ a,a∈s→((ix f.Aa a).length : Int)=ix f.A4 x) : PB B 90 [.ptr f.cells,.int .i64 x,iL s,iL t] (iL (glue f x s t)):=by
 refine ⟨fun H0=>c90.go fun ⟨_,_⟩=>tt ?_⟩;refine Ae iI (.nil _) fun id H o=>tt ?_;refine ⟨hx, ?_⟩;refine AD [0,2,3,18] (G:=Nat × List (Int)) (fun k g=>[(9,some (.buf g.1 g.2.length)),(19,some (.int .i64 (k : Int)))]) (fun k g H=>g.2=(Ea (TT f s t) k)∧AB H0 H [(g.1,.cells 1 (g.2.map iI) 0)]) (ix f.A4 x).toNat (id,[]) ⟨by simp,o⟩ rfl ?_
 rintro k ⟨id,out⟩ H hk ⟨Av,o⟩;dsimp only at Av;refine tt ?_;apply bk <;> intro h1
 ·have h1:=A7 h1
  have w1:=ws k;refine tt ?_
  have hlen : out.length≤k:=by rw [Av]; exact Iz _ _
  refine (Jy B f s k hs (by omega) fun a ha=>by have:=he a ha; omega).go fun _=>tt ?_;refine (Fu ..).go fun _=>tt ?_;apply bk <;> intro h3
  ·refine tt ?_
   have BB:=dd h3;refine Ac (k : Int) o rfl rfl (by simp only [AK]; omega) fun id H o=>?_;refine tw w1 ?_;exact A5 (_,_) (by omega) ⟨by rw [Av,SZ (by simpa [TT] using BB)],o⟩ rfl
  ·refine tw w1 ?_
   have BB:=dd h3;exact A5 (_,_) (by omega) ⟨by rw [Av,MH (by simpa [TT] using BB)],o⟩ rfl
 ·refine tt ?_
  have h1:=A9 h1;refine Ak o rfl fun H o=>tt ?_;exact A6 (by rw [Av,show k=(ix f.A4 x).toNat by omega]; rfl) o.sub
theorem TK (B : Nat) (c : B0) (hs : c.Shape) (l : List Int) (hl : ∀ a,a∈l→0≤a∧a.toNat<c.AH.length) : PB B 236 [.agg c.cells,iL l] (iL (Bo c l)):=by
 refine ⟨fun H0=>c236.go fun ⟨_,hf,_⟩=>?_⟩
 have QW:=AL hf;simp only [AK] at QW
 have hm:=hs.m
 have Ma:=hs.cl
 have Hg:=hs.He;refine tt ?_;refine ⟨⟨by omega,by simp only [AK]; omega⟩,DL AV.bool false rfl (.nil _) fun id H o=>?_⟩;refine tt ?_;refine AD [1,2,5] (fun k _=>[(6,some (.int .i64 (k : Int)))]) (fun k A H=>Cw c l k 0 A∧AB H0 H [(id,.cells 1 (A.map AV.bool) 0)]) l.length _ ⟨Cw.zero c l,o⟩ rfl ?_
 rintro k A H hk ⟨hI,o⟩;refine tt ?_;apply bk <;> intro h1
 ·refine tt ?_
  have AU:=dd h1
  have w1:=ws k
  have ha:=hl _ (AE.mpr ⟨k,AU,rfl⟩)
  have hr:=hs.Ld (a:=l.getD k default) ha.2;refine AD [1,2,5,6] (fun b _=>[(7,some (.int .i64 (b : Int)))]) (fun b A H=>Cw c l k b A∧AB H0 H [(id,.cells 1 (A.map AV.bool) 0)]) c.AH.length A ⟨hI,o⟩ rfl ?_
  rintro b A H hb ⟨hI,o⟩;refine tt ?_;apply bk <;> intro h2
  ·refine tt ?_
   have Ah:=dd h2
   have w2:=ws b;refine ⟨AU,⟨ha.1,by omega⟩,Ah, ?_⟩;apply bk <;> intro h3
   ·refine tt ?_
    have BB:=dd h3
    have hc:=hs.comp ha ⟨Int.natCast_nonneg b,by simpa using Ah⟩ (by simpa [ix] using BB);simp only [AJ] at hc;refine ⟨AU,_,(FE B c (l.getD k default) b ⟨ha.1,by omega⟩ ⟨by omega,by omega⟩).run,tt ?_⟩;refine ⟨⟨hc.1.1,by omega⟩, ?_⟩;refine C4 true o rfl (by rw [hI.1]; omega) fun H o=>?_;refine tw w2 ?_;exact A5 _ (by omega) ⟨hI.set BB hc.1.1,o⟩ rfl
   ·refine tw w2 ?_
    have BB:=dd h3;exact A5 _ (by omega) ⟨hI.skip BB,o⟩ rfl
  ·refine tw w1 ?_
   have Ah:=dd h2
   obtain rfl : b=c.AH.length:=by omega
   exact A5 _ (by omega) ⟨hI.row,o⟩ rfl
 ·refine tt ?_
  have AU:=dd h1
  have hd:=hI.done (by omega);refine Ae iI o fun ES H o=>tt ?_;refine AD [5] (G:=Nat × List Int) (fun k g=>[(8,some (.buf g.1 g.2.length)),(9,some (.int .i64 (k : Int)))]) (fun k g H=>g.2=Ea (fun i=>A.getD i default) k∧AB H0 H [(g.1,.cells 1 (g.2.map iI) 0),(id,.cells 1 (A.map AV.bool) 0)]) A.length (ES,[]) ⟨rfl,o⟩ rfl ?_
  rintro k ⟨ES,out⟩ H hk ⟨Av,o⟩;dsimp only at Av
  have hlen : out.length≤k:=by rw [Av]; exact Iz _ _
  have Lt:=hI.1;refine tt ?_;rw [← Lt];apply bk <;> intro h2
  ·refine tt ?_
   have Ah:=dd h2
   have w2:=ws k;refine ⟨by omega, ?_⟩;refine BX o.swap Ah ?_;refine tt ?_;apply bk <;> intro h3
   ·refine tt ?_;refine Ac (k : Int) o rfl rfl (by simp only [AK]; omega) fun ES H o=>?_;refine tw w2 ?_;exact A5 (_,_) (by omega) ⟨by rw [Av,SZ h3],o⟩ rfl
   ·refine tw w2 ?_;exact A5 (_,_) (by omega) ⟨by rw [Av,MH h3],o⟩ rfl
  ·refine tt ?_
   have Ah:=dd h2;refine Ak o rfl fun H o=>tt ?_;exact A6 (by rw [Av,← hd,show k=A.length by omega]) o.sub
theorem Wi (B : Nat) (c : B0) (hs : c.Shape) (l : List Int) (hl : ∀ a,a∈l→0≤a∧a.toNat<c.AH.length) : PB B 340 [.ptr c.cells,iL l] (iL (Bo c l)):=by
 refine ⟨fun H0=>cu.go fun ⟨_,hf,_⟩=>?_⟩
 have QW:=AL hf;simp only [AK] at QW
 have hm:=hs.m
 have Ma:=hs.cl
 have Hg:=hs.He;refine tt ?_;refine (HL B c).go fun _=>tt ?_;refine ⟨⟨by omega,by simp only [AK]; omega⟩,DL AV.bool false rfl (.nil _) fun id H o=>?_⟩;refine tt ?_;refine AD [0,5,13,14] (fun k _=>[(15,some (.int .i64 (k : Int)))]) (fun k A H=>Cw c l k 0 A∧AB H0 H [(id,.cells 1 (A.map AV.bool) 0)]) l.length _ ⟨Cw.zero c l,o⟩ rfl ?_
 rintro k A H hk ⟨hI,o⟩;refine tt ?_;apply bk <;> intro h1
 ·refine tt ?_
  have AU:=dd h1
  have w1:=ws k
  have ha:=hl _ (AE.mpr ⟨k,AU,rfl⟩)
  have hr:=hs.Ld (a:=l.getD k default) ha.2;refine ⟨AU,⟨ha.1,by omega⟩,(HO B c _).go fun IL=>?_⟩
  have VI:=AL IL;simp only [AK] at VI
  have hI:=hI.out;refine tt ?_;refine AD [0,5,7,13,14,15,27,28] (fun b _=>[(29,some (.int .i64 (b : Int)))]) (fun b A H=>Kh c l k b A∧AB H0 H [(id,.cells 1 (A.map AV.bool) 0)]) (outs c (ix c.to (l.getD k default))).length A ⟨hI,o⟩ rfl ?_
  rintro b A H hb ⟨hI,o⟩;refine tt ?_;apply bk <;> intro h2
  ·refine tt ?_
   have Ah:=dd h2
   have w2:=ws b
   have CH : (outs c (ix c.to (l.getD k default))).getD b default∈outs c (ix c.to (l.getD k default)):=AE.mpr ⟨b,Ah,rfl⟩;rw [BV] at CH
   have hc:=hs.comp ha ⟨CH.1,CH.2.1⟩ CH.2.2.symm;refine ⟨Ah,(CL B c _ _ ⟨ha.1,by omega⟩ ⟨CH.1,by omega⟩).go fun _=>?_⟩;refine tt ?_;refine ⟨⟨hc.1.1,by omega⟩, ?_⟩;refine C4 true o rfl (by rw [hI.1]; omega) fun H o=>?_;refine tw w2 ?_;exact A5 _ (by omega) ⟨hI.set Ah hc.1.1,o⟩ rfl
  ·refine tw w1 ?_
   have Ah:=dd h2;exact A5 _ (by omega) ⟨hI.row (by omega),o⟩ rfl
 ·refine tt ?_
  have AU:=dd h1
  have hd:=hI.done (by omega);rw [← hI.1];refine Ak o rfl fun H o=>tt ?_;refine (Yd B A).go fun _=>tt ?_;exact A6 (by rw [← hd]; rfl) o.sub
theorem Kz (B : Nat) (l : List (List Int)) (fn : FuncId) (ca : List AV) (p : List Int→Bool) (hp : ∀ t,t∈l→JC Tryz.prog B fn (iL t::ca) (.bool (p t))) :
  PB B 325 [BD l,.fn (.func fn) ca] (.int .i64 (match l.findIdx? p with | some i=>(i : Int) | none=>-1)):=by
 refine ⟨fun H0=>c325.go fun ⟨hf,_⟩=>?_⟩
 have QW:=AL hf;simp only [AK] at QW;refine tt ?_;refine AD [0,1,7] (fun k _=>[(8,some (.int .i64 (k : Int)))]) (fun k _ H=>H=H0∧∀ i,i<k→p (l.getD i default)=false) l.length () ⟨rfl,by simp⟩ rfl ?_
 rintro k _ H hk ⟨rfl,Aj⟩;refine tt ?_;apply bk <;> intro h1
 ·refine tt ?_
  have AU:=dd h1
  have w1:=ws k;refine ⟨AU,(hp _ (AE.mpr ⟨k,AU,rfl⟩)).go fun _=>?_⟩;refine tt ?_;apply bk <;> intro h2
  ·refine tt ?_;refine A6 ?_ (.refl _)
   have : l.findIdx? p=some k:=by
    rw [List.findIdx?_eq_some_iff_getElem];refine ⟨AU,by simpa [gE,AU] using h2,fun j hj=>?_⟩
    have:=Aj j hj
    simpa [gE,show j<l.length by omega] using this
   rw [this]
  ·refine tw w1 ?_;exact A5 () (by omega) ⟨rfl,AG Aj h2⟩ rfl
 ·refine tt ?_
  have AU:=dd h1;refine A6 ?_ (.refl _)
  have : l.findIdx? p=none:=by
   rw [List.findIdx?_eq_none_iff]
   intro x hx
   obtain ⟨i,hi,rfl⟩:=AE.mp hx;exact Aj i (by omega)
  rw [this]
theorem eY (B : Nat) (s t : List Int) : PB B 326 [iL t,.ptr [iL s]] (.bool (dec (s=t))):=by
 refine ⟨fun H0=>zw.go fun _=>tt ?_⟩;refine (Fu ..).go fun _=>tt ?_;exact A6 rfl (.refl _)
theorem cG (B : Nat) (s t : List Int) : PB B 342 [iL t,.ptr [iL s]] (.bool (dec (s=t))):=by
 refine ⟨fun H0=>ym.go fun _=>tt ?_⟩;refine (Fu ..).go fun _=>tt ?_;exact A6 rfl (.refl _)
theorem kV (B : Nat) (s t : List Int) : PB B 344 [iL s,iL t] (.int .i64 (cmp s t)):=by
 refine ⟨fun H0=>vx.go fun _=>tt ?_⟩;refine (KL ..).go fun _=>tt ?_;exact A6 rfl (.refl _)
theorem LC {α : Type} [DecidableEq α] (l : List α) (s : α) : (match l.findIdx? fun t=>dec (s=t) with | some i=>(i : Int) | none=>-1)=indexOf l s:=by
 rw [indexOf,List.idxOf?]
 have : (fun t=>dec (s=t))=fun t=>t == s:=by
  funext t; rw [← BO,Bool.eq_iff_iff,decide_eq_true_eq,beq_iff_eq,eq_comm]
 rw [this]; rfl
theorem FW {α : Type} [DecidableEq α] [Inhabited α] (l : List α) (s : α) : 0≤indexOf l s↔s∈l:=by
 constructor
 ·intro h;apply Classical.byContradiction; intro hn;rw [El fun i hi e=>hn (AE.mpr ⟨i,hi,e⟩)] at h;omega
 ·intro h;unfold indexOf
  split
  ·omega
  ·rename_i e; rw [List.idxOf?_eq_none_iff] at e; exact absurd h e
theorem NL (B : Nat) (l : List (List Int)) (s : List Int) : PB B 341 [BD l,.fn (.func 342) [.ptr [iL s]]] (.bool (dec (s∈l))):=by
 refine ⟨fun H0=>xb.go fun _=>tt ?_⟩;refine (Kz B l 342 _ _ fun t _=>(cG B s t).run).go fun _=>?_;rw [LC];refine tt ?_;refine A6 ?_ (.refl _)
 congr 1
 rw [BO]; exact Bc (FW l s)
def P9 {α : Type} (f : α→AV) (H0 : AA) (l : List (Nat × AF)) (Q : List α→Prop) : Ap:=fun r H'=>∃ id A,r=.buf id A.length∧AB H0 H' ((id,.cells 1 (A.map f) 0)::l)∧Q A
theorem H5 {α : Type} {f : α→AV} {H0 H : AA} {l : List (Nat × AF)} {Q : List α→Prop} {id n : Nat} {A : List α} (o : AB H0 H ((id,.cells 1 (A.map f) 0)::l)) (hn : n=A.length) (hq : Q A) :
  Ig (P9 f H0 l Q) (.buf id n) H:=⟨H,.refl H,id,A,by rw [hn],o,hq⟩
end Go.Proofs.Shf
namespace Go.AW
open Go.Proofs Go.Shf Go.Proofs.Shf
theorem BG.own {P : Program} {α : Type} {f : α→AV} {B : Nat} {fn : FuncId} {args : List AV} {H0 H : AA} {l : List (Nat × AF)} {Q : List α→Prop} {K : Ap} (h : BG P B fn args H (P9 f H0 l Q))
  (hk : ∀ id A H',AB H0 H' ((id,.cells 1 (A.map f) 0)::l)→Q A→K (.buf id A.length) H') : BG P B fn args H K :=
 h.mono fun r H' ⟨id,A,e,o,q⟩=>by subst e; exact hk id A H' o q
end Go.AW
namespace Go.Proofs.Shf
open Go.AW Go.Proofs Go.Shf
theorem ID (B : Nat) (l : List Int) (H0 H : AA) (r : List (Nat × AF)) (o : AB H0 H r) : CB B 84 [iL l] H (P9 iI H0 r (·=l)):=by
 refine c84p.go fun ⟨hf,_⟩=>?_
 have hl:=AL hf;refine tt ?_;refine Ae iI o fun id H o=>tt ?_;refine Eg (f:=iI) o rfl (by simpa using hl) fun id H o=>tt ?_;exact H5 o rfl rfl
theorem MR (B : Nat) (l : List Int) (H0 H : AA) (r : List (Nat × AF)) (o : AB H0 H r) : CB B 221 [iL l] H (P9 iI H0 r (·=l)):=by
 refine yM.go fun ⟨hf,_⟩=>?_
 have hl:=AL hf;refine tt ?_;refine Ae iI o fun id H o=>tt ?_;refine Eg (f:=iI) o rfl (by simpa using hl) fun id H o=>tt ?_;exact H5 o rfl rfl
theorem TX (B : Nat) (c : B0) (hc : c.Is) (x : Int) : ∀ (n : Nat) (s : List Int),missing c x s=n→c.Ax x s→∀ (H0 H : AA) (l : List (Nat × AF)) (id : Nat) (found : List (List Int)),
  AB H0 H ((id,.cells 1 (found.map iL) 0)::l)→found.Nodup→(∀ t,t∈found→c.Ax x t)→found.length≤17 →
  CB B 339 [.agg c.cells,iL (outs c x),iL s,.buf id found.length] H (P9 iL H0 l (PZ c x s found)):=by
 intro n
 induction n using Nat.strongRecOn with
 | _ n ih =>
 intro s hn hs H0 H l id found o nd sv le;refine wY.go fun ⟨_,IL,Ga,_⟩=>?_
 have VI:=AL IL
 have Hh:=AL Ga;simp only [AK] at VI Hh
 have Ee:=hc.1
 have hm:=Ee.m;refine tt ?_;refine MO 0 rfl o rfl (.int _ _) (Gm ..).run ?_;refine tt ?_
 have iR:=FW found s;apply bn <;> intro h0
 rotate_left
 ·refine tw h0 ?_
  have EI:=iR.mp (A7 h0);exact H5 o rfl (PZ.stop nd sv le (.inl EI))
 refine tw h0 ?_
 have EI : s ∉ found:=fun h=>A9 h0 (iR.mpr h);apply bk <;> intro h1
 ·refine tw h1 ?_
  have AU:=dd h1;exact H5 o rfl (PZ.stop nd sv le (.inr (by omega)))
 refine tw h1 ?_
 have AU:=dd h1;refine Ac s o rfl rfl (by simp only [AK]; omega) fun id H o=>tt ?_;refine AD [1,2,4] (G:=Nat × List (List Int)) (fun k g=>[(3,some (.buf g.1 g.2.length)),(9,some (.int .i64 (k : Int)))]) (fun k g H=>J6 c x s found k g.2∧AB H0 H ((g.1,.cells 1 (g.2.map iL) 0)::l)) (outs c x).length (id,found++[s]) ⟨.zero nd sv hs EI (by omega),o⟩ rfl ?_
 rintro k ⟨id,out⟩ H hk ⟨hq,o⟩;dsimp only at hq o;refine tt ?_;apply bk <;> intro h2
 rotate_left
 ·refine tt ?_
  have Ah:=dd h2;exact H5 o rfl (hq.done (by omega))
 refine tt ?_
 have Ah:=dd h2
 have w1:=ws k
 have CH : (outs c x).getD k default∈outs c x:=AE.mpr ⟨k,Ah,rfl⟩;refine ⟨Ah,(Je ..).go fun _=>?_⟩;refine tt ?_;apply bk <;> intro h3
 rotate_left
 ·refine t2 h3 w1 ?_
  have BB:=dd h3;exact A5 (_,_) (by omega) ⟨hq.skip Ah (dC hc hs BB),o⟩ rfl
 refine tw h3 ?_
 have BB:=dd h3;refine ⟨Ah,(ID B s H0 H _ o).own ?_⟩
 rintro vL A H oa rfl
 have Lt:=hs.len;refine tt ?_;refine Ac ((outs c x).getD k default) oa rfl rfl (by simp only [AK]; omega) fun vL H oa=>tt ?_;refine LV 1 rfl oa rfl fun H o=>?_;simp only [List.set_cons_succ,List.set_cons_zero]
 have hlA : ∀ b,b∈A++[(outs c x).getD k default]→0≤b∧b.toNat<c.AH.length:=by
  intro b hb
  rcases List.mem_append.mp hb with hb | hb
  ·exact (hs.arr hb).1
  ·rw [List.mem_singleton] at hb; subst hb; have:=BV.mp CH; exact ⟨this.1,this.2.1⟩
 refine (TK B c Ee _ hlA).go fun _=>tt ?_;refine (ih _ (hn ▸ Va hc hs CH BB) _ rfl (Yi hc hs CH) H0 H l id out o hq.nd hq.sv hq.le).own ?_
 rintro Ca out' H o q;refine tw w1 ?_;exact A5 (_,_) (by omega) ⟨hq.step Ah q,o⟩ rfl
theorem Sd (B : Nat) (l : List (List Int)) (H0 : AA) : CB B 308 [BD l] H0 (fun r H'=>H'=H0∧∃ M,r=BD M∧M.Perm l∧M.Pairwise fun s t=>cmp s t≤0):=by
 refine zy.go fun ⟨hf,_⟩=>?_
 have hl:=AL hf
 have Ia:=hl;simp only [AK] at hl;refine tt ?_;refine Ae iL (.nil _) fun id H o=>tt ?_;refine Eg (f:=iL) o rfl (by simpa using Ia) fun id H o=>?_;rw [List.nil_append] at *;refine tt ?_;refine AD [3] (fun k _=>[(4,some (.int .i64 ((k+1 : Nat) : Int)))]) (fun k A H=>(A.Perm l∧∀ a b,a<b→b≤k→b<l.length→cmp (A.getD a default) (A.getD b default)≤0)∧AB H0 H [(id,.cells 1 (A.map iL) 0)]) l.length l ⟨⟨.refl _,fun a b h1 h2=>by omega⟩,o⟩ rfl ?_
 rintro k A H hk ⟨⟨hp,hs⟩,o⟩
 have Lt:=hp.length_eq;refine tt ?_;apply bk <;> intro h1
 ·refine tt ?_
  have AU:=dd h1
  have w1:=PK (k:=k+1) (by omega)
  refine De [3,4] (fun (g : Nat × List (List Int))=>[(5,some (.int .i64 (g.1 : Int)))]) (fun m g H=>m=g.1∧Ql l (k+1) g.1 g.2∧AB H0 H [(id,.cells 1 (g.2.map iL) 0)]) (k+1) (k+1,A)
   ⟨rfl,⟨hp,Nat.le_refl _,by omega,fun a b h2 h3 h4=>hs a b h2 (by omega) (by omega)⟩,o⟩ rfl ?_
  rintro j ⟨j',A⟩ H ⟨hj,hI,o⟩
  obtain rfl : j=j':=hj;dsimp only at hI
  have hIl:=hI.le
  have hIt:=hI.lt
  have hIp:=hI.pm.length_eq;dsimp only at o;refine tt ?_;apply bk <;> intro h2
  ·refine tw h2 ?_
   have Ah:=dd h2
   obtain ⟨j,rfl⟩ : ∃ i,j=i+1:=⟨j - 1,by omega⟩
   have w2:=K2 (k:=j+1) (by omega) (by omega);rw [Nat.add_sub_cancel] at w2;refine ⟨by omega,BX o (by omega) ?_⟩;refine tw w2 ?_;refine ⟨by omega,BX o (by omega) ?_⟩;refine tt ?_;refine ⟨_,(KS ..).run,tt ?_⟩;apply bk <;> intro h3
   ·refine tt ?_
    have BB:=dd h3;refine ⟨by omega,BX o (by omega) ?_⟩;refine tw w2 ?_;refine ⟨by omega,BX o (by omega) ?_⟩;refine tt ?_;refine ⟨by omega,C4 (A.getD j default) o rfl (by omega) fun H o=>?_⟩;refine tw w2 ?_;refine ⟨by omega,C4 (A.getD (j+1) default) o rfl (by rw [List.length_set]; omega) fun H o=>?_⟩;refine tw w2 ?_;exact CY j (j,_) (by omega) ⟨rfl,hI.swap BB,o⟩ rfl
   ·refine tw w1 ?_
    have BB:=dd h3;exact A5 A (by omega) ⟨⟨hI.pm,fun a b h4 h5 h6=>hI.stop (.inr ⟨by omega,by simpa using BB⟩) a b h4 (by omega)⟩,o⟩ rfl
  ·refine t2 h2 w1 ?_
   have Ah:=dd h2;exact A5 A (by omega) ⟨⟨hI.pm,fun a b h4 h5 h6=>hI.stop (.inl (by omega)) a b h4 (by omega)⟩,o⟩ rfl
 ·refine tt ?_
  have AU:=dd h1;rw [← Lt];refine Ak o rfl fun H o=>tt ?_;exact ⟨_,o.sub,rfl,A,rfl,hp,Uw fun a b h2 h3=>hs a b h2 (by omega) (by omega)⟩
theorem Yt (B : Nat) (c : B0) (hc : c.Is) (x : Int) (H0 : AA) : CB B 330 [.agg c.cells,.int .i64 x] H0 (fun r H'=>H'=H0∧∃ L,r=.CK [BD L,.bool (dec (OW c x))]∧(OW c x→L=Gg c x)):=by
 refine af.go fun _=>?_
 have hs:=hc.1
 have hm:=hs.m;refine tt ?_;refine ⟨_,(M4 ..).run,tt ?_⟩;refine Ae iL (.nil _) fun id H o=>tt ?_;refine (TX B c hc x _ [] rfl (Ym x) H0 H _ id [] o (by simp) (by simp) (by simp)).own ?_
 rintro id L H o q;refine tt ?_;refine Ak o rfl fun H o=>tt ?_;refine (Sd ..).mono ?_
 rintro r H' ⟨rfl,M,rfl,hp,hso⟩;refine tt ?_
 have ha:=TO hc q.nd q.sv hp hso (q.all.imp_right fun ⟨h1,h2⟩=>⟨h1,fun t ht=>h2 t ht (by simp)⟩);refine ⟨_,o.sub,rfl,M, ?_,ha.2⟩
 congr 3
 rw [← ha.1,← BO]
 congr 1; rw [Bool.eq_iff_iff]; simp only [decide_eq_true_eq]; omega
theorem TQ (B : Nat) (c : B0) (hc : c.Is) : PB B 315 [.agg c.cells] (.CK [Gi (fN c),.bool (dec (Be c))]):=by
 refine ⟨fun H0=>c315.go fun ⟨_,_⟩=>?_⟩
 have hs:=hc.1
 have hm:=hs.m
 have Fh:=hs.o;refine tt ?_;refine Ae BD (.nil _) fun id H o=>tt ?_;refine AD [1] (G:=Nat × List (List (List Int))) (fun k g=>[(4,some (.buf g.1 g.2.length)),(5,some (.int .i64 (k : Int)))]) (fun k g H=>(g.2=((List.range k).map fun x : Nat=>Gg c (x : Int))∧∀ x,x<k→OW c x)∧AB H0 H [(g.1,.cells 1 (g.2.map BD) 0)]) c.AR.toNat (id,[]) ⟨⟨by simp,by simp⟩,o⟩ rfl ?_
 rintro k ⟨id,out⟩ H hk ⟨Av,o⟩;dsimp only at Av;refine tt ?_;apply bk <;> intro h1
 ·have h1:=A7 h1
  have w1:=ws k;refine tt ?_;refine (Yt B c hc k H).mono ?_
  rintro r H' ⟨rfl,L,rfl,hL⟩;refine tt ?_;apply bk <;> intro h2
  ·refine tt ?_
   have Ah:=dd h2
   have Ev : ¬ Be c:=fun h=>Ah (h k (by omega));exact A6 (by rw [oJ Ev,Ab Ev]; rfl) o.sub
  ·refine tt ?_
   have Ah:=dd h2;refine Ac (Gg c k) o (by rw [hL Ah]) rfl (by simp only [AK]; rw [Av.1]; simp; omega) fun id H o=>?_;refine tw w1 ?_;exact A5 (_,_) (by omega) ⟨⟨by rw [Av.1,Bg],AG Av.2 Ah⟩,o⟩ rfl
 ·refine tt ?_
  have h1:=A9 h1;refine Ak o rfl fun H o=>tt ?_;exact A6 (by have Aj : Be c:=fun x hx=>Av.2 x (by omega); rw [dZ Aj,Ay Aj,Av.1,show k=c.AR.toNat by omega]; rfl) o.sub
theorem WC (B : Nat) (c : B0) (L : List (List (List Int))) : PB B 317 [.agg c.cells,Gi L] (iL (C9 c L)):=by
 refine ⟨fun H0=>vw.go fun ⟨_,hf,_⟩=>?_⟩
 have hl:=AL hf;simp only [AK] at hl;refine tt ?_;refine Ae iI (.nil _) fun id H o=>tt ?_;refine AD [1,2] (G:=Nat × List (Int)) (fun k g=>[(5,some (.buf g.1 g.2.length)),(6,some (.int .i64 (k : Int)))]) (fun k g H=>g.2=((List.range k).map (Xe c L))∧AB H0 H [(g.1,.cells 1 (g.2.map iI) 0)]) L.length (id,[]) ⟨by simp,o⟩ rfl ?_
 rintro k ⟨id,out⟩ H hk ⟨Av,o⟩;dsimp only at Av;refine tt ?_;apply bk <;> intro h1
 ·have h1:=A7 h1
  have w1:=ws k;refine tt ?_;refine ⟨h1,_,(M4 ..).run,tt ?_⟩;refine ⟨_,(Gm ..).run,tt ?_⟩;refine Ac (Xe c L k) o rfl rfl (by rw [Av]; simp [AK] <;> omega) fun id H o=>?_
  refine tw w1 ?_;exact A5 (_,_) (by omega) ⟨by rw [Av,Bg],o⟩ rfl
 ·refine tt ?_
  have h1:=A9 h1;refine Ak o rfl fun H o=>tt ?_;exact A6 (by rw [Av,show k=L.length by omega]; rfl) o.sub
end Go.Proofs.Shf
namespace Go.AW
open Go.Proofs Go.Shf Go.Proofs.Shf
theorem AB.rc {H0 H : AA} {l : List (Nat × AF)} {id sz fr : Nat} {cs : List AV} (o : AB H0 H ((id,.cells sz cs fr)::l)) (n off : Nat) (h : off+n≤cs.length) : uK (some n) off (H.get id)=some (.agg ((cs.drop off).take n)):=by
 have h0:=o.h0;simp only at h0;rw [h0,wC,if_pos h]
end Go.AW
namespace Go.Proofs.Shf
open Go.AW Go.Proofs Go.Shf
theorem VW (B : Nat) (c : B0) (hs : c.Shape) (L : List (List (List Int))) (hL : (L.length : Int)=c.AR) : PB B 316 [.agg c.cells,Gi L] (.agg (c.cells++[iL (L.map fun l=>(l.length : Int)),BD (BC c L)])):=by
 refine ⟨fun H0=>xI.go fun ⟨_,hfL,_⟩=>?_⟩
 have hm:=hs.m
 have Fh:=hs.o
 have Hg:=hs.He;refine tt ?_;refine nb (.nil _) fun BN H o=>tt ?_;refine (EX ..).go fun _=>tt ?_;refine nb o fun CS H o=>tt ?_;refine Aq o (by simp) rfl (by simp only [Bu,CZ]; exact ⟨rfl,rfl,rfl,rfl,rfl,rfl,rfl,trivial⟩) fun H o=>?_;have o:=s2 o;refine tt ?_
 have G7:=AL hfL;simp only [AK] at G7
 refine AD [1,2,4,5] (fun k _=>[(6,some (.int .i64 (k : Int)))]) (fun k X H=>Cb iI H0 H ((CS,.cells 7 [iI c.AR,iL c.AH,iL c.to,iL c.Aw,BD c.comp,X,.A1] 0) ::
  [(BN,.cells 7 [.int .i64 0,.A1,.A1,.A1,.A1,.A1,.A1] 0)]) X ((L.take k).map fun l=>(l.length : Int))) L.length .A1 (.inl ⟨rfl,rfl,o⟩) rfl ?_
 rintro k X H hk hX;refine tt ?_;apply bk <;> intro h1
 ·refine tt ?_
  have AU:=dd h1
  have w1:=ws k;refine Al hX.obj (by simp) (tt ?_);refine ⟨AU, ?_⟩;refine hX.app ((L.getD k default).length : Int) rfl (by rw [List.length_map,List.length_take]; simp only [AK]; omega) fun id H o=>tt ?_;refine Aq o.swap (by simp) rfl (by simp only [Bu,CZ]; exact ⟨rfl,trivial⟩) fun H o=>?_;have o:=s2 o;refine tw w1 ?_;exact A5 _ (by omega) (.inr ⟨id,rfl,by rw [BS L _ AU]; exact o.swap⟩) rfl
 ·refine tt ?_
  have AU:=dd h1
  obtain rfl : k=L.length:=by omega
  rw [List.take_length] at hX;refine Ef 5 hX rfl fun H o=>AX ?_;have o:=s1 o;clear hX;refine tt ?_
  refine AD [1,2,4,5] (fun k _=>[(7,some (.int .i64 (k : Int)))]) (fun k Y H=>Cb iL H0 H ((CS,.cells 7 [iI c.AR,iL c.AH,iL c.to,iL c.Aw,BD c.comp,iL (L.map fun l=>(l.length : Int)),Y] 0) ::
   [(BN,.cells 7 [.int .i64 0,.A1,.A1,.A1,.A1,.A1,.A1] 0)]) Y ((List.range k).map (KZ c L))) c.AH.length .A1 (.inl ⟨rfl,rfl,o⟩) rfl ?_
  rintro k Y H hk hY;refine tt ?_;apply bk <;> intro h2
  ·refine tt ?_
   have Ah:=dd h2
   have w1:=ws k
   have hf:=hs.QL Ah
   have ht:=hs.uX Ah
   have YX:=hs.il
   obtain ⟨p,o,hp⟩:=hY.split;clear hY;refine Ae iI o fun BW H o=>tt ?_
   generalize hLf : L.getD (c.AH.getD k default).toNat default=Lf at *
   have hLL : Lf.length≤AK:=by
    rw [← hLf]; exact AL (IF (i:=c.AH.getD k default) hfL (by omega))
   simp only [AK] at hLL
   refine AD [1,2,4,5,7] (G:=Nat × List Int) (fun j g=>[(8,some (.buf g.1 g.2.length)),(9,some (.int .i64 (j : Int)))])
    (fun j g H=>g.2=((Lf.take j).map fun s=>indexOf (L.getD (c.to.getD k default).toNat default) (DR c k s))∧AB H0 H ((g.1,.cells 1 (g.2.map iI) 0)::(p++[(CS,.cells 7 [iI c.AR,iL c.AH,iL c.to,iL c.Aw,BD c.comp,iL (L.map fun l=>(l.length : Int)),Y] 0),(BN,.cells 7 [.int .i64 0,.A1,.A1,.A1,.A1,.A1,.A1] 0)]))) Lf.length (BW,[]) ⟨by simp,o⟩ rfl ?_
   rintro j ⟨BW,row⟩ H hj ⟨B4,o⟩;dsimp only at B4
   have Lu : row.length≤j:=by rw [B4]; simp; omega
   refine tt ?_;refine ⟨Ah,⟨hf.1,by omega⟩, ?_⟩
   have iR : ix L (c.AH.getD k default)=Lf:=by rw [← hLf]; rfl
   rw [iR];refine tt ?_;apply bk <;> intro h3
   ·refine tt ?_
    have BB:=dd h3
    have w3:=ws j;refine ⟨by omega,⟨ht.1,by omega⟩,Ah,⟨hf.1,by omega⟩, ?_⟩;rw [iR];refine ⟨BB,_,(Vo B c hs k ⟨by omega,by simpa using Ah⟩ _).run,tt ?_⟩;refine ⟨_,(Gm ..).run,tt ?_⟩;refine Ac _ o rfl rfl (by simp only [AK]; omega) fun BW H o=>?_;refine tw w3 ?_;exact A5 (_,_) (by omega) ⟨by rw [BS Lf _ BB,B4]; rfl,o⟩ rfl
   ·refine tt ?_
    have BB:=dd h3;refine Ak o rfl fun H o=>?_
    have hY:=Cb.mk o hp
    have hg:=hY.obj;refine tt ?_;refine Al hg (by simp) (tt ?_);refine hY.app row rfl (by simp only [AK]; simp; omega) fun id H o=>tt ?_;refine Aq o.swap (by simp) rfl (by simp only [Bu,CZ]; exact ⟨rfl,trivial⟩) fun H o=>?_;have o:=s2 o;refine tw w1 ?_;refine A5 _ (by omega) (.inr ⟨id,rfl, ?_⟩) rfl
    have e : row=KZ c L k:=by rw [B4,show j=Lf.length by omega,List.take_length,KZ,hLf]
    rw [Bg,← e]; exact o.swap
  ·refine tt ?_
   have Ah:=dd h2
   obtain rfl : k=c.AH.length:=by omega
   refine Ef 6 hY rfl fun H o=>AX ?_;have o:=s1 o;clear hY;refine tt ?_;refine AZ o (by simp) (tt ?_);refine Aq o.swap (by simp) rfl (by simp only [Bu,CZ]; exact ⟨rfl,rfl,rfl,rfl,rfl,rfl,rfl,trivial⟩) fun H o=>?_;have o:=s2 o;refine tt ?_;rw [o.rc 7 0 (by simp)];refine tt ?_;exact A6 rfl o.sub
theorem Mx (B : Nat) (c : B0) (L : List (List (List Int))) (t : Dt c L) (M : List (List Bool)) (hM : DV L M) (x s k : Nat) (hx : x<L.length) (hs : s<(L.getD x default).length) (hk : k<(L.getD x default).length) :
  PB B 318 [.agg (BE c L),uW M,.int .i64 x,.int .i64 s,.int .i64 k] (.bool (dec (QF c L M x s k))):=by
 refine ⟨fun H0=>xf.go fun _=>?_⟩
 have EZ:=t.sv hx hs
 have Ma:=EZ.len
 have hm:=t.is.1.m
 have Cu:=t.is.1.He;refine tt ?_;refine ⟨hx,hs, ?_⟩
 generalize Im : (L.getD x default).getD s default=cv at *;refine tt ?_;refine AD [1,4,5,11] (fun i _=>[(12,some (.int .i64 (i : Int)))]) (fun i _ H=>H=H0∧∀ j,j<i→mg M (ix c.to (cv.getD j default)) ((ix (BC c L) (cv.getD j default)).getD k default)=true) cv.length () ⟨rfl,by simp⟩ rfl ?_
 rintro i _ H hi ⟨rfl,Aj⟩;refine tt ?_;apply bk <;> intro h1
 ·refine tt ?_
  have AU:=dd h1
  have w1:=ws i
  have ha:=EZ.arr (AE.mpr ⟨i,AU,rfl⟩)
  have ik : k<(ix L (ix c.AH (cv.getD i default))).length:=by rw [ha.2,AJ]; exact hk
  have hp:=t.pull ha.1 ik
  have htt:=t.to ha.1
  have B4:=hM.row _ htt.2
  have Ko:=JT (c:=c) (L:=L)
  have rn:=JW (L:=L) ha.1
  have Dz:=hM.len;refine ⟨AU,⟨ha.1.1,by omega⟩,⟨htt.1,by omega⟩,AU,⟨ha.1.1,by omega⟩,by omega,⟨hp.1.1, ?_⟩, ?_⟩
  ·have:=hp.1.2;simp only [ix] at this B4 ⊢;omega
  apply bk <;> intro h2
  ·refine tt ?_
   have Ah:=dd h2;refine A6 ?_ (.refl _);rw [Ab]
   intro h
   have:=h i (by rw [Im]; exact AU);rw [Im] at this;simp only [mg] at this;rw [this] at Ah; cases Ah
  ·refine tw w1 ?_
   have Ah:=dd h2;exact A5 () (by omega) ⟨rfl,AG Aj Ah⟩ rfl
 ·refine tt ?_
  have AU:=dd h1;refine A6 ?_ (.refl _);rw [Ay]
  intro i hi; rw [Im] at hi ⊢; exact Aj i (by omega)
theorem BP {α : Type} [Inhabited α] (ms : List (Nat × List α)) {x : Nat} (hx : x<ms.length) : (ms.map Prod.snd).getD x default=(ms.getD x default).2:=by
 simp [gE,hx]
theorem Wt (B : Nat) (c : B0) (L : List (List (List Int))) (t : Dt c L) (ms : List (Nat × List Bool)) (hM : DV L (ms.map Prod.snd)) (id : Nat) (H0 H : AA) (l : List (Nat × AF))
  (o : AB H0 H ((id,.cells 1 (ms.map CQ) 0)::(inner AV.bool ms++l))) :
  CB B 296 [.agg (BE c L),.buf id ms.length] H (fun r H'=>r=.bool (dec (¬ ZL c L (ms.map Prod.snd)))∧H'=H0):=by
 refine mM.go fun _=>?_
 have hm:=t.is.1.m
 have Cu:=t.is.1.He
 have Dz:=hM.len
 have hmM : (ms.map Prod.snd).length=ms.length:=List.length_map ..
 have nN:=Hc (c:=c) (L:=L)
 have Ko:=JT (c:=c) (L:=L)
 have hLo:=t.len
 have Fh:=t.is.1.o
 have gM : ∀ x : Nat,x<ms.length→((ms.getD x default).2).length=(L.getD x default).length:=fun x hx=>by rw [← BP ms hx]; exact hM.row x (by omega)
 have mgM : ∀ (x : Nat) (k : Int),x<ms.length→mg (ms.map Prod.snd) x k=ix (ms.getD x default).2 k:=fun x k hx=>by rw [mg,AJ,BP ms hx]
 have stop : ∀ {Hn : AA} {v : AV},H0.sub Hn→¬ ZL c L (ms.map Prod.snd)→v=.bool true→Ig (fun r H'=>r=.bool (dec (¬ ZL c L (ms.map Prod.snd)))∧H'=H0) v Hn:=by
  intro Hn v h1 h2 h3;exact A6 (by rw [h3,Ay h2]) h1
 refine tt ?_;refine AD [1,2] (fun x _=>[(5,some (.int .i64 (x : Int)))]) (fun x _ H'=>H'=H∧∀ y,y<x→XOk c L (ms.map Prod.snd) y) ms.length () ⟨rfl,by simp⟩ rfl ?_
 rintro x _ H' Pp ⟨rfl,Aj⟩;refine tt ?_;apply bk <;> intro h1
 rotate_left
 ·refine tt ?_
  have AU:=dd h1;refine A6 ?_ o.sub;rw [Ab]; intro h; exact h fun y hy=>Aj y (by omega)
 refine tt ?_
 have AU:=dd h1
 have w1:=ws x
 have Gl:=t.top (x:=x) (by omega)
 have B4:=gM x AU
 have Bf:=t.YH x (by omega)
 have lQ:=o.FG AU;refine ⟨AU,BX o AU ?_⟩;refine tt ?_;refine ⟨by omega,⟨Gl.1.1,by omega⟩,CD lQ (by omega) ?_⟩;refine tt ?_;apply bk <;> intro h2
 ·refine tw h2 ?_
  have Ah:=dd h2;refine ⟨AU,BX o AU ?_⟩;refine tt ?_;refine ⟨by omega,⟨Gl.1.1,by omega⟩, ?_⟩;rw [lQ,Mv];refine ⟨⟨by omega,by rw [List.length_map]; omega,rfl,by simp [AV.one]⟩,tt ?_⟩;refine stop ?_ ?_ rfl
  ·exact o.Ly AU _
  ·intro h; have:=(h x (by omega)).1; rw [mgM _ _ AU,ix] at this; rw [this] at Ah; cases Ah
 refine tw h2 ?_
 have Ah:=dd h2
 have hxt : mg (ms.map Prod.snd) x ((C9 c L).getD x default)=true:=by rw [mgM _ _ AU]; exact Ah
 refine AD [1,2,5] (fun s _=>[(6,some (.int .i64 (s : Int)))]) (fun s _ H2=>H2=H'∧∀ y,y<s→vh c L (ms.map Prod.snd) x y) (ms.getD x default).2.length () ⟨rfl,by simp⟩ rfl ?_
 rintro s _ H2 Gd ⟨rfl,Pf⟩;refine tt ?_;refine ⟨AU,BX o AU ?_⟩;refine tt ?_;apply bk <;> intro h3
 rotate_left
 ·refine tw w1 ?_
  have BB:=dd h3;exact A5 () AU ⟨rfl,AG Aj ⟨hxt,fun y hy=>Pf y (by rw [BP ms AU] at hy; omega)⟩⟩ rfl
 refine tt ?_
 have BB:=dd h3
 have w3:=ws s;refine ⟨AU,BX o AU ?_⟩;refine tt ?_;refine ⟨BB,CD lQ BB ?_⟩;refine tt ?_;apply bk <;> intro h4
 ·refine t2 h4 w3 ?_
  have DC:=dd h4;exact A5 () BB ⟨rfl,AG Pf fun e=>by rw [BP ms AU,DC] at e; cases e⟩ rfl
 refine tw h4 ?_
 have DC:=dd h4;refine AD [1,2,5,6] (fun a _=>[(7,some (.int .i64 (a : Int)))]) (fun a _ H3=>H3=H2∧∀ y,y<a→v8 c L (ms.map Prod.snd) x s y) c.AH.length () ⟨rfl,by simp⟩ rfl ?_
 rintro a _ H3 Pz ⟨rfl,Pu⟩;refine tt ?_;rw [Ko];refine tt ?_;apply bk <;> intro h5
 ·refine tt ?_
  have Hj:=dd h5
  have w5:=ws a
  have GZ : 0≤(a : Int)∧(a : Int).toNat<c.AH.length:=⟨by omega,by simpa using Hj⟩;refine ⟨Hj, ?_⟩;apply bk <;> intro h6
  rotate_left
  ·refine t2 h6 w5 ?_
   have Lo:=dd h6;exact A5 () Hj ⟨rfl,AG Pu fun e=>absurd e Lo⟩ rfl
  refine tw h6 ?_
  have Lo:=dd h6
  have Cu:=t.to GZ;simp only [AJ,HZ] at Cu
  have rn:=JW (L:=L) GZ;simp only [AJ] at rn
  have iT : s<(ix L (ix c.AH a)).length:=by rw [AJ,Lo,AJ,← B4]; exact BB
  have hp:=(t.pull GZ iT).1;simp only [AJ] at hp
  have hy : (c.to.getD a default).toNat<ms.length:=by omega
  have sn:=o.FG hy
  have ga:=gM _ hy
  have iR : ix ms (c.to.getD a default)=ms.getD (c.to.getD a default).toNat default:=rfl
  have sH : ix L (c.to.getD a default)=L.getD (c.to.getD a default).toNat default:=rfl;simp only [AJ] at iT;rw [sH] at hp;refine ⟨by omega,⟨Cu.1,hy⟩,BX o hy ?_⟩;refine tt ?_;refine ⟨by omega,by omega,⟨hp.1,by omega⟩,CD sn (by omega) ?_⟩;refine tt ?_
  have vO : mg (ms.map Prod.snd) (c.to.getD a default) (((BC c L).getD a default).getD s default)=(ms.getD (c.to.getD a default).toNat default).2.getD (((BC c L).getD a default).getD s default).toNat default:=by
   have:=mgM (c.to.getD a default).toNat (((BC c L).getD a default).getD s default) hy;rw [Int.toNat_of_nonneg Cu.1] at this;rw [this]; rfl
  apply bk <;> intro h7
  ·refine tw h7 ?_
   have VJ:=dd h7;refine ⟨by omega,⟨Cu.1,hy⟩,BX o hy ?_⟩;refine tt ?_;refine ⟨by omega,by omega,⟨hp.1,by omega⟩, ?_⟩;rw [sn,Mv];refine ⟨⟨by omega,by rw [List.length_map]; omega,rfl,by simp [AV.one]⟩,tt ?_⟩;refine stop (o.Ly hy _) (fun h=>?_) rfl
   have:=((h x (by omega)).2 s (by rw [BP ms AU]; omega) (by rw [BP ms AU]; exact DC)).1 a Hj Lo;rw [vO,VJ] at this; cases this
  ·refine t2 h7 w5 ?_
   have VJ:=dd h7;exact A5 () Hj ⟨rfl,AG Pu fun _=>by rw [vO]; exact VJ⟩ rfl
 ·refine tt ?_
  have Hj:=dd h5
  have ha0 : ∀ y,y<c.AH.length→v8 c L (ms.map Prod.snd) x s y:=fun y hy=>Pu y (by omega);refine AD [1,2,5,6] (fun k _=>[(8,some (.int .i64 (k : Int)))]) (fun k _ H4=>H4=H3∧∀ y,y<k→KOk c L (ms.map Prod.snd) x s y) (ms.getD x default).2.length () ⟨rfl,by simp⟩ rfl ?_
  rintro k _ H4 Nc ⟨rfl,Pe⟩;refine tt ?_;refine ⟨AU,BX o AU ?_⟩;refine tt ?_;apply bk <;> intro h8
  ·refine tt ?_
   have V3:=dd h8
   have w8:=ws k;refine ⟨AU,BX o AU ?_⟩;refine tt ?_;refine ⟨V3,CD lQ V3 ?_⟩;refine tt ?_;apply bk <;> intro h9
   ·refine tw h9 ?_
    have vK:=dd h9
    refine BG.GR (r:=.bool (dec (QF c L (ms.map Prod.snd) x s k))) (es:=[.agg (BE c L),uW (ms.map Prod.snd),.int .i64 x,.int .i64 s,.int .i64 k]) (.bool _) rfl (fun i hi=>?_)
     (Mx B c L t (ms.map Prod.snd) hM x s k (by omega) (by omega) (by omega)).run ?_
    ·obtain rfl | rfl | rfl | rfl | rfl : i=0∨i=1∨i=2∨i=3∨i=4:=by simp only [List.length_cons,List.length_nil] at hi; omega
     ·exact DT _
     ·exact R2 o rfl
     ·exact DT _
     ·exact DT _
     ·exact DT _
    refine tt ?_;apply bk <;> intro YM
    ·refine tt ?_
     have aA:=dd YM;refine ⟨AU,BX o AU ?_⟩;refine tt ?_;refine ⟨V3, ?_⟩;rw [lQ,Mv];refine ⟨⟨by omega,by rw [List.length_map]; omega,rfl,by simp [AV.one]⟩,tt ?_⟩;refine stop (o.Ly AU _) (fun h=>?_) rfl
     have:=((h x (by omega)).2 s (by rw [BP ms AU]; omega) (by rw [BP ms AU]; exact DC)).2 k (by rw [BP ms AU]; omega)
     rcases this with h | h
     ·rw [BP ms AU,vK] at h; cases h
     ·exact h aA
    ·refine tw w8 ?_
     have aA:=dd YM;exact A5 () V3 ⟨rfl,AG Pe (.inr aA)⟩ rfl
   ·refine t2 h9 w8 ?_
    have vK:=dd h9;exact A5 () V3 ⟨rfl,AG Pe (.inl (by rw [BP ms AU]; exact vK))⟩ rfl
  ·refine tw w3 ?_
   have V3:=dd h8;exact A5 () BB ⟨rfl,AG Pf fun _=>⟨ha0,fun y hy=>Pe y (by rw [BP ms AU] at hy; omega)⟩⟩ rfl
end Go.Proofs.Shf
