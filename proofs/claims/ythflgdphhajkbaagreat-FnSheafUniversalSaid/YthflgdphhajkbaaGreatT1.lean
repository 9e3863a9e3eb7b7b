/- Contracts of functions over abstract values, part 1. -/
import Derived.Test.YthflgdphhajkbaaGreatS4
import Derived.Test.YthflgdphhajkbaaGreatV
import Derived.Test.YthflgdphhajkbaaGreatX
set_option linter.unusedVariables false
set_option linter.unusedSimpArgs false
set_option linter.unusedSectionVars false
open Nat (reduceEqDiff reduceAdd reduceMul reduceLeDiff reduceLT)
namespace Go.Proofs.Shf
open Go.AW
theorem pC {l r : Ob} (h : ∀ x,@List.count _ (@instBEqOfDecidableEq _ (Classical.typeDecidableEq _)) x l=@List.count _ (@instBEqOfDecidableEq _ (Classical.typeDecidableEq _)) x r) : l.Perm r:=by
 letI : DecidableEq (Nat × AF):=Classical.typeDecidableEq _
 exact List.perm_iff_count.mpr h
end Go.Proofs.Shf
namespace Go.AW
theorem tt {P Q : Prop} (h : Q) (e : P=Q:=by (try simp only [go_sem,↓reduceIte,Nat.reduceEqDiff,Nat.reduceAdd,Nat.reduceMul,Nat.reduceLeDiff,Nat.reduceLT]); exact rfl) : P:=Eq.mpr e h
theorem tw {A P Q : Prop} (w : A) (h : Q) (e : A→P=Q:=by intro w; (try simp only [go_sem,↓reduceIte,Nat.reduceEqDiff,Nat.reduceAdd,Nat.reduceMul,Nat.reduceLeDiff,Nat.reduceLT,w]); exact rfl) : P:=Eq.mpr (e w) h
theorem ta {P Q : Prop} (h : Q) (e : P=Q:=by (try simp only [go_sem,↓reduceIte,Nat.reduceEqDiff,Nat.reduceAdd,Nat.reduceMul,Nat.reduceLeDiff,Nat.reduceLT, *]); exact rfl) : P:=Eq.mpr e h
theorem dTr {p : Decidable True} : @decide True p=true:=@decide_eq_true True p trivial
theorem td {P Q : Prop} (h : Q) (e : P=Q:=by (try simp only [go_sem,↓reduceIte,Nat.reduceEqDiff,Nat.reduceAdd,Nat.reduceMul,Nat.reduceLeDiff,Nat.reduceLT,dTr]); exact rfl) : P:=Eq.mpr e h
theorem bk {σ : Env} {H : AB} {c : Bool} {P Q : Env→AB→Prop} (h1 : c=true→P σ H) (h2 : c=false→Q σ H) : Br c (At P σ H) (At Q σ H):=⟨fun e=>At.mk (h1 e),fun e=>At.mk (h2 e)⟩
theorem bn {σ : Env} {H : AB} {c : Bool} {P Q : Env→AB→Prop} (h1 : c=false→P σ H) (h2 : c=true→Q σ H) : Bn c (At P σ H) (At Q σ H):=⟨fun e=>At.mk (h1 e),fun e=>At.mk (h2 e)⟩
theorem dd {P Q : Prop} (h : P) (e : P=Q:=by (try simp only [bnt,bnf,decide_eq_true_eq,decide_eq_false_iff_not,dect,decf,Int.not_lt,Int.not_le,Nat.not_lt,Decidable.not_not,ne_eq,Bool.true_eq_false,Bool.false_eq_true]); exact rfl) : Q:=Eq.mp e h
theorem AA.pm {H0 H : AB} {l l' : Ob} (o : AA H0 H l) (e : ∀ x,@List.count _ (@instBEqOfDecidableEq _ (Classical.typeDecidableEq _)) x l=@List.count _ (@instBEqOfDecidableEq _ (Classical.typeDecidableEq _)) x l':=by intro x; (try dsimp only); simp only [List.append_eq,List.count_append,List.count_cons,List.count_nil,List.map_nil,List.length_nil,List.length_append,List.length_cons,List.length_set,Nat.zero_add,List.nil_append,iI,iL]; omega) : AA H0 H l':=o.perm (Go.Proofs.Shf.pC e)
theorem sw {H0 H : AB} {l : Ob} {K : Am} {id sz off n : Nat} {cs vs cs' : List AV} (o : AA H0 H ((id,.cells sz cs 0)::l)) (hk : ∀ H',AA H0 H' ((id,.cells sz cs' 0)::l)→K nv H')
 (e : wr cs off vs=cs':=by simp only [FI,HE,List.set_cons_zero,List.set_cons_succ]; exact rfl) (h1 : off+n≤cs.length:=by simp) (h2 : vs.length=n:=by (try simp only [go_sem]); (try simp))
 (h3 : ∀ c,c∈vs→c.one=true:=by first | (simp only [go_sem]; done) | ((try simp only [go_sem]); simp [AV.one,EP])) : OZ (H.get id) id off n vs K H:=Ap o h1 h2 h3 fun H' o=>hk H' (e ▸ o)
theorem nb {A : Prop} {H0 H : AB} {l : Ob} {K : Am} {sz : Nat} {cs : List AV} (o : AA H0 H l) (hk : ∀ id H',AA H0 H' ((id,.cells sz cs 0)::l)→K (.ref id 0) H') (h : A:=by first | trivial | simp [AL]) : A∧HF sz cs K H:=⟨h,Ai o hk⟩
end Go.AW
namespace Go.Proofs.Shf
open Go.AW
abbrev PB:=@oZ Go.Proofs.Tryz.prog
abbrev CB:=@B7 Go.Proofs.Tryz.prog
end Go.Proofs.Shf
namespace Go.AW
theorem ws (k : Nat) (h : k<1125899906842624:=by omega) : IntKind.i64.wrap ((k : Int)+1)=((k+1 : Nat) : Int):=Pe h
theorem s1 {H0 H : AB} {l l' : Ob} (o : AA H0 H l) (e : l=l':=by simp only [List.set_cons_zero,List.set_cons_succ];exact rfl) : AA H0 H l':=e▸o
theorem s2 {H0 H : AB} {l l' : Ob} (o : AA H0 H l) (e : l=l':=by simp only [FI,HE,List.set_cons_zero,List.set_cons_succ];exact rfl) : AA H0 H l':=e▸o
theorem t2 {A B P Q : Prop} (a : A) (b : B) (h : Q) (e : A→B→P=Q:=by intro a b;(try simp only [go_sem,↓reduceIte,reduceEqDiff,reduceAdd,reduceMul,reduceLeDiff,reduceLT,a,b]);exact rfl) : P:=Eq.mpr (e a b) h
theorem tn {P Q : Prop} (h : Q) (e : P=Q:=by (try simp only [go_sem,↓reduceIte,reduceEqDiff,reduceAdd,reduceMul,reduceLeDiff,reduceLT,Bool.not_false,Bool.not_true]);exact rfl) : P:=Eq.mpr e h
end Go.AW
namespace Go.Proofs.Shf
open Go.AW Go.Proofs
theorem Ke (B : Nat) (n lo hi : Int) : PB B 164 [.int .i64 n,.int .i64 lo,.int .i64 hi] (.bool (dec (lo≤n∧n≤hi))):=by
 refine ⟨fun H=>yz.go fun _=>?_⟩;refine ta ?_;apply bk <;> intro h1
 all_goals (try simp only [go_sem,↓reduceIte,reduceEqDiff,reduceAdd,reduceMul,reduceLeDiff,reduceLT, *])
 ·exact A6 (by rw [← BK]; simp at h1; simp [h1]) (.refl _)
 ·exact A6 (by rw [← BK]; simp at h1; simp; omega) (.refl _)
theorem Uj (B : Nat) (n lo hi : Int) : PB B 225 [.int .i64 n,.int .i64 lo,.int .i64 hi] (.bool (dec (lo≤n∧n≤hi))):=by
 refine ⟨fun H=>yb.go fun _=>?_⟩;refine ta ?_;apply bk <;> intro h1
 all_goals (try simp only [go_sem,↓reduceIte,reduceEqDiff,reduceAdd,reduceMul,reduceLeDiff,reduceLT, *])
 ·exact A6 (by rw [← BK]; simp at h1; simp [h1]) (.refl _)
 ·exact A6 (by rw [← BK]; simp at h1; simp; omega) (.refl _)
theorem G4 (B : Nat) (l : List Int) (n : Int) (hn : -9223372036854775808<n∧n≤9223372036854775807): PB B 212 [iL l,.int .i64 n] (.bool (dec (∀ y,y∈l→0≤y∧y<n))):=by
 refine ⟨fun H0=>c212.go fun ⟨hf,_⟩=>?_⟩
 have hl:=AM hf;simp only [AL] at hl
 have w : IntKind.i64.wrap (n - 1)=n - 1:=wrap_i64 (by omega) (by omega);refine ta ?_;refine AD [1,7,8] (fun k _=>[(9,some (.int .i64 (k : Int)))]) (fun k _ H=>H=H0∧∀ i,i<k→0≤l.getD i default∧l.getD i default<n) l.length () ⟨rfl,by simp⟩ rfl ?_
 rintro k _ H hk ⟨rfl,Ak⟩;refine ta ?_;apply bk <;> intro h1
 ·have h1:=A7 h1
  have w1:=ws k;refine ta ?_;refine (Ke ..).go fun _=>?_;refine ta ?_;apply bk <;> intro h2
  ·refine ta ?_
   have Ah:=dd h2;refine A6 ?_ (.refl _);rw [Aa]; intro h
   have:=h _ (AE.mpr ⟨k,h1,rfl⟩);omega
  ·refine ta ?_
   have Ah:=dd h2;exact A5 () (by omega) ⟨rfl,AG Ak (by omega)⟩ rfl
 ·refine ta ?_
  have h1:=A9 h1;exact A6 (by rw [Aw]; exact DZ.mpr fun i hi=>Ak i (by omega)) (.refl _)
theorem Hd (B : Nat) (l : List Int) (n : Int) : PB B 227 [.int .i64 n,iL l] (.bool (dec (∀ y,y∈l→0≤y∧y<n))):=by
 refine ⟨fun H0=>c227.go fun ⟨_,hf,_⟩=>?_⟩
 have hl:=AM hf;simp only [AL] at hl;refine ta ?_;refine AD [0,1] (fun k _=>[(5,some (.int .i64 (k : Int)))]) (fun k _ H=>H=H0∧∀ i,i<k→0≤l.getD i default∧l.getD i default<n) l.length () ⟨rfl,by simp⟩ rfl ?_
 rintro k _ H hk ⟨rfl,Ak⟩;refine ta ?_;apply bk <;> intro h1
 ·have h1:=A7 h1
  have w1:=ws k;refine ta ?_
  have hn : l.getD k default<0∨n≤l.getD k default→¬ ∀ y,y∈l→0≤y∧y<n:=fun hc h=>by
   have:=h _ (AE.mpr ⟨k,h1,rfl⟩); omega
  apply bn <;> intro h2
  ·refine ta ?_;apply bk <;> intro h3
   ·refine ta ?_
    have B8:=dd h3;exact A6 (by rw [Aa (hn (.inr B8))]) (.refl _)
   ·refine ta ?_
    have Ah:=dd h2
    have B8:=dd h3;exact A5 () (by omega) ⟨rfl,AG Ak (by omega)⟩ rfl
  ·refine ta ?_
   have Ah:=dd h2;exact A6 (by rw [Aa (hn (.inl Ah))]) (.refl _)
 ·refine ta ?_
  have h1:=A9 h1;exact A6 (by rw [Aw]; exact DZ.mpr fun i hi=>Ak i (by omega)) (.refl _)
theorem SL (B : Nat) (l : List Int) (n : Int) : PB B 230 [iL l,.int .i64 n] (.bool (dec (n∈l))):=by
 refine ⟨fun H0=>c230.go fun ⟨hf,_⟩=>?_⟩
 have hl:=AM hf;simp only [AL] at hl;refine ta ?_;refine AD [1,7,8] (fun k _=>[(9,some (.int .i64 (k : Int)))]) (fun k _ H=>H=H0∧∀ i,i<k→l.getD i default≠n) l.length () ⟨rfl,by simp⟩ rfl ?_
 rintro k _ H hk ⟨rfl,Ak⟩;refine ta ?_;apply bk <;> intro h1
 ·have h1:=A7 h1
  have w1:=ws k;refine ta ?_;apply bk <;> intro h2
  ·refine ta ?_;exact A6 (by rw [Aw]; exact AE.mpr ⟨k,h1,A7 h2⟩) (.refl _)
  ·refine ta ?_;exact A5 () h1 ⟨rfl,AG Ak (A9 h2)⟩ rfl
 ·refine ta ?_
  have h1:=A9 h1;exact A6 (by rw [Aa]; intro h; obtain ⟨i,hi,e⟩:=AE.mp h; exact Ak i (by omega) e) (.refl _)
theorem Je (B : Nat) (l : List Int) (n : Int) : PB B 140 [iL l,.int .i64 n] (.bool (dec (n∈l))):=by
 refine ⟨fun H0=>aG.go fun ⟨hf,_⟩=>?_⟩
 have hl:=AM hf;simp only [AL] at hl;refine ta ?_;refine AD [0,1] (fun k _=>[(5,some (.int .i64 (k : Int)))]) (fun k _ H=>H=H0∧∀ i,i<k→l.getD i default≠n) l.length () ⟨rfl,by simp⟩ rfl ?_
 rintro k _ H hk ⟨rfl,Ak⟩;refine ta ?_;apply bk <;> intro h1
 ·have h1:=A7 h1
  have w1:=ws k;refine ta ?_;apply bk <;> intro h2
  ·refine ta ?_;exact A6 (by rw [Aw]; exact AE.mpr ⟨k,h1,A7 h2⟩) (.refl _)
  ·refine ta ?_;exact A5 () h1 ⟨rfl,AG Ak (A9 h2)⟩ rfl
 ·refine ta ?_
  have h1:=A9 h1;exact A6 (by rw [Aa]; intro h; obtain ⟨i,hi,e⟩:=AE.mp h; exact Ak i (by omega) e) (.refl _)
theorem FU (B : Nat) (l : List Int) (n : Int) : PB B 63 [iL l,.int .i64 n] (.int .i64 (indexOf l n)):=by
 refine ⟨fun H0=>c63.go fun ⟨hf,_⟩=>?_⟩
 have hl:=AM hf;simp only [AL] at hl;refine ta ?_;refine AD [0,1] (fun k _=>[(5,some (.int .i64 (k : Int)))]) (fun k _ H=>H=H0∧∀ i,i<k→l.getD i default≠n) l.length () ⟨rfl,by simp⟩ rfl ?_
 rintro k _ H hk ⟨rfl,Ak⟩;refine ta ?_;apply bk <;> intro h1
 ·have h1:=A7 h1
  have w1:=ws k;refine ta ?_;apply bk <;> intro h2
  ·refine ta ?_;exact A6 (by rw [EV h1 Ak (A7 h2)]) (.refl _)
  ·refine ta ?_;exact A5 () h1 ⟨rfl,AG Ak (A9 h2)⟩ rfl
 ·refine ta ?_
  have h1:=A9 h1;exact A6 (by rw [Ej fun i hi=>Ak i (by omega)]) (.refl _)
theorem WK (B : Nat) (l : List Int) (n : Int) : PB B 219 [iL l,.int .i64 n] (.int .i64 (indexOf l n)):=by
 refine ⟨fun H0=>c219.go fun ⟨hf,_⟩=>?_⟩
 have hl:=AM hf;simp only [AL] at hl;refine ta ?_;refine AD [0,1,7] (fun k _=>[(8,some (.int .i64 (k : Int)))]) (fun k _ H=>H=H0∧∀ i,i<k→l.getD i default≠n) l.length () ⟨rfl,by simp⟩ rfl ?_
 rintro k _ H hk ⟨rfl,Ak⟩;refine ta ?_;apply bk <;> intro h1
 ·have h1:=A7 h1
  have w1:=ws k;refine ta ?_;apply bk <;> intro h2
  ·refine ta ?_;exact A6 (by rw [EV h1 Ak (A7 h2).symm]) (.refl _)
  ·refine ta ?_;exact A5 () h1 ⟨rfl,AG Ak fun e=>A9 h2 e.symm⟩ rfl
 ·refine ta ?_
  have h1:=A9 h1;exact A6 (by rw [Ej fun i hi=>Ak i (by omega)]) (.refl _)
theorem Lg (B : Nat) (l : List Int) (n : Int) : PB B 134 [iL l,.int .i64 n] (.int .i64 (indexOf l n)):=by
 refine ⟨fun H0=>zt.go fun ⟨hf,_⟩=>?_⟩;refine ta ?_;refine (WK ..).go fun _=>?_
 have hl:=AM hf;simp only [AL] at hl
 have hb:=GL l n
 have w : IntKind.i64.wrap (indexOf l n)=indexOf l n:=wrap_i64 (by omega) (by omega);refine ta ?_;exact A6 rfl (.refl _)
theorem J3 (B : Nat) (l : List Int) : PB B 221 [iL l] (iL l):=by
 refine ⟨fun H0=>zd.go fun ⟨hf,_⟩=>?_⟩
 have hl:=AM hf;refine ta ?_;refine Ag iI (.nil _) fun id H o=>?_;refine ta ?_;refine Ed o rfl (by simpa using hl) fun id H o=>?_;refine ta ?_;refine Al o rfl fun H o=>?_;refine ta ?_;exact A6 (by simp) o.sub
theorem Df (B : Nat) (l : List Int) : PB B 84 [iL l] (iL l):=by
 refine ⟨fun H0=>c84.go fun ⟨hf,_⟩=>?_⟩
 have hl:=AM hf;refine ta ?_;refine Ag iI (.nil _) fun id H o=>?_;refine ta ?_;refine Ed o rfl (by simpa using hl) fun id H o=>?_;refine ta ?_;refine Al o rfl fun H o=>?_;refine ta ?_;exact A6 (by simp) o.sub
end Go.Proofs.Shf
namespace Go.Proofs.Shf
open Go.AW Go.Proofs Go.Shf
theorem Zr (B : Nat) (l : List Int) : PB B 245 [iL l] (.bool (dec (Ht l))):=by
 refine ⟨fun H0=>l9.go fun ⟨hf,_⟩=>?_⟩
 have hl:=AM hf;simp only [AL] at hl;refine ta ?_;refine AD [0] (fun k _=>[(3,some (.int .i64 ((k+1 : Nat) : Int)))]) (fun k _ H=>H=H0∧∀ i,i<k→i+1<l.length∧l.getD i default<l.getD (i+1) default) l.length () ⟨rfl,by simp⟩ rfl ?_
 rintro k _ H hk ⟨rfl,Ak⟩;refine ta ?_;apply bk <;> intro h1
 ·have h1:=A7 h1
  have w1:=Pe (k:=k+1) (by omega)
  have w2:=K1 (k:=k+1) (by omega) (by omega);rw [Nat.add_sub_cancel] at w2;refine t2 w1 w2 ?_
  refine ⟨by omega,by omega, ?_⟩;refine ta ?_;apply bk <;> intro h2
  ·refine ta ?_
   have Ah:=dd h2;refine A6 ?_ (.refl _);rw [Aa]; intro h
   have:=h (k+1) (by omega) h1;simp only [Nat.add_sub_cancel] at this;omega
  ·refine t2 w1 w2 ?_
   have Ah:=dd h2;exact A5 () (by omega) ⟨rfl,AG Ak ⟨h1,by omega⟩⟩ rfl
 ·refine ta ?_
  have h1:=A9 h1;refine A6 ?_ (.refl _);rw [Aw]; intro i h0 hi
  obtain ⟨j,rfl⟩ : ∃ j,i=j+1:=⟨i - 1,by omega⟩;exact (Ak j (by omega)).2
theorem UJ (B : Nat) (l : List Int) : PB B 239 [iL l] (.bool (dec (Ht l))):=by
 refine ⟨fun H0=>r9.go fun ⟨hf,_⟩=>?_⟩
 have hl:=AM hf;simp only [AL] at hl;refine ta ?_;refine AD [0] (fun k _=>[(3,some (.int .i64 ((k+1 : Nat) : Int)))]) (fun k _ H=>H=H0∧∀ i,i<k→i+1<l.length∧l.getD i default<l.getD (i+1) default) l.length () ⟨rfl,by simp⟩ rfl ?_
 rintro k _ H hk ⟨rfl,Ak⟩;refine ta ?_;apply bk <;> intro h1
 ·have h1:=A7 h1
  have w1:=Pe (k:=k+1) (by omega)
  have w2:=K1 (k:=k+1) (by omega) (by omega);rw [Nat.add_sub_cancel] at w2;refine t2 w1 w2 ?_
  refine ⟨by omega,by omega, ?_⟩;refine ta ?_;apply bk <;> intro h2
  ·refine ta ?_
   have Ah:=dd h2;refine A6 ?_ (.refl _);rw [Aa]; intro h
   have:=h (k+1) (by omega) h1;simp only [Nat.add_sub_cancel] at this;omega
  ·refine t2 w1 w2 ?_
   have Ah:=dd h2;exact A5 () (by omega) ⟨rfl,AG Ak ⟨h1,by omega⟩⟩ rfl
 ·refine ta ?_
  have h1:=A9 h1;refine A6 ?_ (.refl _);rw [Aw]; intro i h0 hi
  obtain ⟨j,rfl⟩ : ∃ j,i=j+1:=⟨i - 1,by omega⟩;exact (Ak j (by omega)).2
theorem KQ (B : Nat) (a b : List Int) : PB B 247 [iL a,iL b] (.int .i64 (cmp a b)):=by
 refine ⟨fun H0=>xw.go fun ⟨hf,hg,_⟩=>?_⟩
 have hl:=AM hf
 have Ii:=AM hg;simp only [AL] at hl Ii;refine tt ?_;refine AD [0,1,7] (fun k _=>[(8,some (.int .i64 (k : Int)))]) (fun k _ H=>H=H0∧k≤b.length∧cmp a b=cmp (a.drop k) (b.drop k)) a.length () ⟨rfl,by simp,by simp⟩ rfl ?_
 rintro k _ H hk ⟨rfl,hkb,hc⟩;refine tt ?_;apply bk <;> intro h1
 ·have h1:=A7 h1
  have w1:=ws k
  have da:=drop_cons a h1;rw [da] at hc;refine tt ?_;apply bk <;> intro h2
  ·refine tt ?_
   have h2:=A7 h2;refine A6 ?_ (.refl _);rw [hc,List.drop_of_length_le (show b.length≤k by omega)]; rfl
  ·have h2:=A9 h2
   have h3 : k<b.length:=by omega
   have db:=drop_cons b h3;rw [db] at hc;refine tt ?_;refine ⟨h1,h3,tt ?_⟩;apply bk <;> intro h4
   ·have Cr : a.getD k default≠b.getD k default:=by simpa using h4
    refine tt ?_;refine ⟨h1,h3,tt ?_⟩;apply bk <;> intro h5
    ·refine tt ?_
     have h5:=A7 h5;refine A6 ?_ (.refl _);rw [hc,cmp,if_neg Cr,if_pos h5]
    ·refine tt ?_
     have h5:=A9 h5;refine A6 ?_ (.refl _);rw [hc,cmp,if_neg Cr,if_neg h5]
   ·have Cr : a.getD k default=b.getD k default:=by simpa using h4
    refine tw w1 ?_;refine A5 () (by omega) ⟨rfl,by omega, ?_⟩ rfl;rw [hc,cmp,if_pos Cr]
 ·refine tt ?_
  have h1:=A9 h1;rw [List.drop_of_length_le (by omega)] at hc;apply bk <;> intro h2
  ·refine tt ?_
   have h2:=A7 h2;refine A6 ?_ (.refl _);rw [hc,drop_cons b (by omega)]; rfl
  ·refine tt ?_
   have h2:=A9 h2;refine A6 ?_ (.refl _);rw [hc,List.drop_of_length_le (by omega)]; rfl
theorem Fw (B : Nat) (a b : List Int) : PB B 167 [iL a,iL b] (.bool (dec (a=b))):=by
 refine ⟨fun H0=>T8.go fun _=>?_⟩;refine ta ?_;refine (KQ ..).go fun _=>?_;refine ta ?_;exact A6 (by rw [BK,BX Ca]) (.refl _)
theorem Dq (B : Nat) (a b : List Int) : PB B 170 [iL a,iL b] (.bool (dec (a=b))):=by
 refine ⟨fun H0=>ya.go fun ⟨hf,hg,_⟩=>?_⟩
 have hl:=AM hf
 have Ii:=AM hg;simp only [AL] at hl Ii;refine tt ?_;apply bk <;> intro h0
 ·refine tt ?_
  have Nn : a.length≠b.length:=by simpa using h0
  exact A6 (by rw [Aa]; rintro rfl; exact Nn rfl) (.refl _)
 have Nn : a.length=b.length:=by simpa using h0
 refine tt ?_;refine AD [0,1] (fun k _=>[(5,some (.int .i64 (k : Int)))]) (fun k _ H=>H=H0∧∀ i,i<k→a.getD i default=b.getD i default) a.length () ⟨rfl,by simp⟩ rfl ?_
 rintro k _ H hk ⟨rfl,Ak⟩;refine tt ?_;apply bk <;> intro h1
 ·have h1:=A7 h1
  have w1:=ws k;refine tt ?_;refine ⟨h1,by omega,tt ?_⟩;apply bk <;> intro h2
  ·refine tt ?_
   have Ah : a.getD k default≠b.getD k default:=by simpa using h2
   exact A6 (by rw [Aa]; rintro rfl; exact Ah rfl) (.refl _)
  ·refine tw w1 ?_
   have Ah : a.getD k default=b.getD k default:=by simpa using h2
   exact A5 () (by omega) ⟨rfl,AG Ak Ah⟩ rfl
 ·refine tt ?_
  have h1:=A9 h1;refine A6 ?_ (.refl _);rw [Aw];refine List.ext_getElem Nn fun i hi hj=>?_
  have:=Ak i (by omega)
  simpa [gE,hi,hj] using this
theorem UO (B : Nat) (a b : List (List Int)) : PB B 259 [BA a,BA b] (.bool (dec (a=b))):=by
 refine ⟨fun H0=>c259.go fun ⟨hf,hg,_⟩=>?_⟩
 have hl:=AM hf
 have Ii:=AM hg;simp only [AL] at hl Ii;refine tt ?_;apply bk <;> intro h0
 ·refine tt ?_
  have Nn : a.length≠b.length:=by simpa using h0
  exact A6 (by rw [Aa]; rintro rfl; exact Nn rfl) (.refl _)
 have Nn : a.length=b.length:=by simpa using h0
 refine tt ?_;refine AD [0,1] (fun k _=>[(5,some (.int .i64 (k : Int)))]) (fun k _ H=>H=H0∧∀ i,i<k→a.getD i default=b.getD i default) a.length () ⟨rfl,by simp⟩ rfl ?_
 rintro k _ H hk ⟨rfl,Ak⟩;refine tt ?_;apply bk <;> intro h1
 ·have h1:=A7 h1
  have w1:=ws k;refine tt ?_;refine ⟨h1,by omega,_,(Dq ..).run,tt ?_⟩;apply bk <;> intro h2
  ·refine tt ?_
   have Ah:=dd h2;exact A6 (by rw [Aa]; rintro rfl; exact Ah rfl) (.refl _)
  ·refine tw w1 ?_
   have Ah:=dd h2;exact A5 () (by omega) ⟨rfl,AG Ak Ah⟩ rfl
 ·refine tt ?_
  have h1:=A9 h1;refine A6 ?_ (.refl _);rw [Aw];refine List.ext_getElem Nn fun i hi hj=>?_
  have:=Ak i (by omega)
  simpa [gE,hi,hj] using this
theorem KY (B : Nat) (l : List (List Int)) (x : List Int) : PB B 184 [BA l,iL x] (.int .i64 (indexOf l x)):=by
 refine ⟨fun H0=>c184.go fun ⟨hf,_⟩=>?_⟩
 have hl:=AM hf;simp only [AL] at hl;refine tt ?_;refine AD [0,1] (fun k _=>[(5,some (.int .i64 (k : Int)))]) (fun k _ H=>H=H0∧∀ i,i<k→l.getD i default≠x) l.length () ⟨rfl,by simp⟩ rfl ?_
 rintro k _ H hk ⟨rfl,Ak⟩;refine tt ?_;apply bk <;> intro h1
 ·have h1:=A7 h1
  have w1:=ws k;refine tt ?_;refine ⟨h1,(Dq ..).go fun _=>?_⟩;refine tt ?_;apply bk <;> intro h2
  ·refine tt ?_
   have Ah:=dd h2;exact A6 (by rw [EV h1 Ak Ah]) (.refl _)
  ·refine tw w1 ?_
   have Ah:=dd h2;exact A5 () (by omega) ⟨rfl,AG Ak Ah⟩ rfl
 ·refine tt ?_
  have h1:=A9 h1;exact A6 (by rw [Ej fun i hi=>Ak i (by omega)]) (.refl _)
theorem Gq (B : Nat) (l : List (List Int)) (x : List Int) : PB B 282 [BA l,iL x] (.int .i64 (indexOf l x)):=by
 refine ⟨fun H0=>c282.go fun ⟨hf,_⟩=>?_⟩
 have hl:=AM hf;simp only [AL] at hl;refine tt ?_;refine AD [0,1] (fun k _=>[(5,some (.int .i64 (k : Int)))]) (fun k _ H=>H=H0∧∀ i,i<k→l.getD i default≠x) l.length () ⟨rfl,by simp⟩ rfl ?_
 rintro k _ H hk ⟨rfl,Ak⟩;refine tt ?_;apply bk <;> intro h1
 ·have h1:=A7 h1
  have w1:=ws k;refine tt ?_;refine ⟨h1,(Dq ..).go fun _=>?_⟩;refine tt ?_;apply bk <;> intro h2
  ·refine tt ?_
   have Ah:=dd h2;exact A6 (by rw [EV h1 Ak Ah]) (.refl _)
  ·refine tw w1 ?_
   have Ah:=dd h2;exact A5 () (by omega) ⟨rfl,AG Ak Ah⟩ rfl
 ·refine tt ?_
  have h1:=A9 h1;exact A6 (by rw [Ej fun i hi=>Ak i (by omega)]) (.refl _)
theorem KM (B : Nat) (a b : List Int) : PB B 199 [iL a,iL b] (.bool (dec (cmp a b<0))):=by
 refine ⟨fun H0=>wu.go fun ⟨hf,hg,_⟩=>?_⟩
 have hl:=AM hf
 have Ii:=AM hg;simp only [AL] at hl Ii;refine tt ?_;refine AD [0,1] (fun k _=>[(5,some (.int .i64 (k : Int)))]) (fun k _ H=>H=H0∧k≤b.length∧cmp a b=cmp (a.drop k) (b.drop k)) a.length () ⟨rfl,by simp,by simp⟩ rfl ?_
 rintro k _ H hk ⟨rfl,hkb,hc⟩;refine tt ?_;apply bk <;> intro h1
 ·have AR:=A7 h1
  have w1:=ws k;refine tw h1 ?_;apply bk <;> intro h2
  ·have h2:=A7 h2;refine tt ?_;refine ⟨AR,h2, ?_⟩;rw [drop_cons a AR,drop_cons b h2] at hc;refine tt ?_;apply bk <;> intro h4
   ·have Cr : a.getD k default≠b.getD k default:=by simpa using h4
    refine tt ?_;refine ⟨AR,h2, ?_⟩;refine A6 ?_ (.refl _);rw [hc,cmp,if_neg Cr,BK]
    congr 1
    refine BX ?_
    split <;> omega
   ·have Cr : a.getD k default=b.getD k default:=by simpa using h4
    refine tw w1 ?_;refine A5 () (by omega) ⟨rfl,by omega, ?_⟩ rfl;rw [hc,cmp,if_pos Cr]
  ·have h2:=A9 h2;refine tt ?_;refine A6 ?_ (.refl _);rw [hc,drop_cons a AR,List.drop_of_length_le (show b.length≤k by omega),BK]
   congr 1
   refine BX ?_;simp only [cmp]; omega
 ·have AR:=A9 h1;refine tw h1 ?_;refine A6 ?_ (.refl _);rw [hc,List.drop_of_length_le (show a.length≤k by omega),BK]
  congr 1
  refine BX ?_
  by_cases h : a.length<b.length
  ·rw [drop_cons b (by omega)]; simp only [cmp]; omega
  ·rw [List.drop_of_length_le (by omega)]; simp only [cmp]; omega
theorem MS (B : Nat) (l : List (List Int)) : PB B 179 [mL (mL iI) l] (mL (mL iI) l):=by
 refine ⟨fun H0=>c179.go fun ⟨hf,_⟩=>?_⟩
 have hl:=AM hf;simp only [AL] at hl;refine tt ?_;refine ⟨⟨by omega,by simp [AL] <;> omega⟩,Ag (mL iI) (.nil _) fun id H o=>?_⟩
 refine tt ?_;refine tt ?_;refine AD [9,10] (G:=Nat × List (List Int)) (fun k g=>[(3,some (.buf g.1 g.2.length)),(11,some (.int .i64 (k : Int)))]) (fun k g H=>g.2=(l.take k)∧AA H0 H [(g.1,.cells 1 (g.2.map (mL iI)) 0)]) l.length (id,[]) ⟨by simp,o⟩ rfl ?_
 rintro k ⟨id,out⟩ H hk ⟨Au,o⟩;dsimp only at Au;refine tt ?_;apply bk <;> intro h1
 ·have h1:=A7 h1
  have w1:=ws k;refine tt ?_;refine ⟨h1,(J3 ..).go fun _=>?_⟩;refine tt ?_;refine Ad (l.getD k default) o rfl rfl (by rw [Au]; simp [AL] <;> omega) fun id H o=>?_
  refine tw w1 ?_;exact A5 (_,_) (by omega) ⟨by rw [Au,Co l h1],o⟩ rfl
 ·refine tt ?_
  have h1:=A9 h1;refine Al o rfl fun H o=>tt ?_;exact A6 (by rw [Au,List.take_of_length_le (by omega)]) o.sub
theorem IB (B : Nat) (l : List (List Int)) : PB B 183 [mL (mL iI) l] (mL (mL iI) l):=by
 refine ⟨fun H0=>ys.go fun ⟨hf,_⟩=>?_⟩
 have hl:=AM hf;simp only [AL] at hl;refine tt ?_;refine Ag (mL iI) (.nil _) fun id H o=>tt ?_;refine AD [0] (G:=Nat × List (List Int)) (fun k g=>[(3,some (.buf g.1 g.2.length)),(4,some (.int .i64 (k : Int)))]) (fun k g H=>g.2=(l.take k)∧AA H0 H [(g.1,.cells 1 (g.2.map (mL iI)) 0)]) l.length (id,[]) ⟨by simp,o⟩ rfl ?_
 rintro k ⟨id,out⟩ H hk ⟨Au,o⟩;dsimp only at Au;refine tt ?_;apply bk <;> intro h1
 ·have h1:=A7 h1
  have w1:=ws k;refine tt ?_;refine ⟨h1,(Df ..).go fun _=>?_⟩;refine tt ?_;refine Ad (l.getD k default) o rfl rfl (by rw [Au]; simp [AL] <;> omega) fun id H o=>?_
  refine tw w1 ?_;exact A5 (_,_) (by omega) ⟨by rw [Au,Co l h1],o⟩ rfl
 ·refine tt ?_
  have h1:=A9 h1;refine Al o rfl fun H o=>tt ?_;exact A6 (by rw [Au,List.take_of_length_le (by omega)]) o.sub
theorem GY (B : Nat) (c : Ay) (x : Int) : PB B 246 [.ptr c.cells,.int .i64 x] (iL (outs c x)):=by
 refine ⟨fun H0=>xk.go fun ⟨hf,_⟩=>?_⟩
 have hl:=AM (hf.ptr (c:=iL c.AJ) (by simp [Ay.cells]));simp only [AL] at hl;refine tt ?_;refine Ag iI (.nil _) fun id H o=>tt ?_;refine AD [1,12,13] (G:=Nat × List (Int)) (fun k g=>[(5,some (.buf g.1 g.2.length)),(14,some (.int .i64 (k : Int)))]) (fun k g H=>g.2=(((List.range k).filter fun i=>c.AJ.getD i default=x).map Int.ofNat)∧AA H0 H [(g.1,.cells 1 (g.2.map iI) 0)]) c.AJ.length (id,[]) ⟨by simp,o⟩ rfl ?_
 rintro k ⟨id,out⟩ H hk ⟨Au,o⟩;dsimp only at Au;refine tt ?_;apply bk <;> intro h1
 ·have h1:=A7 h1
  have w1:=ws k;refine tt ?_;refine ⟨h1,tt ?_⟩
  have hlen : out.length≤k:=by rw [Au,List.length_map]; exact Nat.le_trans (List.length_filter_le _ _) (by simp)
  apply bk <;> intro h2
  ·refine tt ?_
   have Ah : c.AJ.getD k default=x:=A7 h2;refine Ad (k : Int) o rfl rfl (by simp only [AL]; omega) fun id H o=>?_;refine tw w1 ?_;exact A5 (_,_) (by omega) ⟨by rw [Au,BF,if_pos h2,List.map_append]; rfl,o⟩ rfl
  ·refine tw w1 ?_
   have Ah : ¬ c.AJ.getD k default=x:=A9 h2;exact A5 (_,_) (by omega) ⟨by rw [Au,BF,if_neg (Bool.eq_false_iff.mp h2),List.map_append]; simp,o⟩ rfl
 ·refine tt ?_
  have h1:=A9 h1;refine Al o rfl fun H o=>tt ?_;exact A6 (by rw [Au,show k=c.AJ.length by omega]; rfl) o.sub
theorem MZ (B : Nat) (c : Ay) (x : Int) : PB B 181 [.agg c.cells,.int .i64 x] (iL (outs c x)):=by
 refine ⟨fun H0=>zw.go fun ⟨hf,_⟩=>?_⟩
 have hl:=AM (hf.agg (c:=iL c.AJ) (by simp [Ay.cells]));simp only [AL] at hl;refine tt ?_;refine Ag iI (.nil _) fun id H o=>tt ?_;refine AD [1,2] (G:=Nat × List (Int)) (fun k g=>[(5,some (.buf g.1 g.2.length)),(6,some (.int .i64 (k : Int)))]) (fun k g H=>g.2=(((List.range k).filter fun i=>c.AJ.getD i default=x).map Int.ofNat)∧AA H0 H [(g.1,.cells 1 (g.2.map iI) 0)]) c.AJ.length (id,[]) ⟨by simp,o⟩ rfl ?_
 rintro k ⟨id,out⟩ H hk ⟨Au,o⟩;dsimp only at Au;refine tt ?_;apply bk <;> intro h1
 ·have h1:=A7 h1
  have w1:=ws k;refine tt ?_;refine ⟨h1,tt ?_⟩
  have hlen : out.length≤k:=by rw [Au,List.length_map]; exact Nat.le_trans (List.length_filter_le _ _) (by simp)
  apply bk <;> intro h2
  ·refine tt ?_
   have Ah : c.AJ.getD k default=x:=A7 h2;refine Ad (k : Int) o rfl rfl (by simp only [AL]; omega) fun id H o=>?_;refine tw w1 ?_;exact A5 (_,_) (by omega) ⟨by rw [Au,BF,if_pos h2,List.map_append]; rfl,o⟩ rfl
  ·refine tw w1 ?_
   have Ah : ¬ c.AJ.getD k default=x:=A9 h2;exact A5 (_,_) (by omega) ⟨by rw [Au,BF,if_neg (Bool.eq_false_iff.mp h2),List.map_append]; simp,o⟩ rfl
 ·refine tt ?_
  have h1:=A9 h1;refine Al o rfl fun H o=>tt ?_;exact A6 (by rw [Au,show k=c.AJ.length by omega]; rfl) o.sub
theorem Ue (B : Nat) (n : Nat) (hn : n≤1048576) : PB B 160 [.int .i64 (n : Int)] (iL ((List.range n).map Int.ofNat)):=by
 refine ⟨fun H0=>qf.go fun ⟨_,_⟩=>tt ?_⟩;refine Ag iI (.nil _) fun id H o=>tt ?_;refine AD [0] (G:=Nat × List (Int)) (fun k g=>[(3,some (.buf g.1 g.2.length)),(4,some (.int .i64 (k : Int)))]) (fun k g H=>g.2=((List.range k).map Int.ofNat)∧AA H0 H [(g.1,.cells 1 (g.2.map iI) 0)]) n (id,[]) ⟨by simp,o⟩ rfl ?_
 rintro k ⟨id,out⟩ H hk ⟨Au,o⟩;dsimp only at Au;refine tt ?_;apply bk <;> intro h1
 ·have h1:=A7 h1
  have w1:=ws k;refine tt ?_;refine Ad (k : Int) o rfl rfl (by rw [Au]; simp [AL] <;> omega) fun id H o=>?_
  refine tw w1 ?_;exact A5 (_,_) (by omega) ⟨by rw [Au,List.range_succ]; simp,o⟩ rfl
 ·refine tt ?_
  have h1:=A9 h1;refine Al o rfl fun H o=>tt ?_;exact A6 (by rw [Au,show k=n by omega]) o.sub
theorem Rm (B : Nat) (x : Int) (n : Nat) (hn : n≤1048576) : PB B 242 [.int .i64 x,.int .i64 (n : Int)] (iL (List.replicate n x)):=by
 refine ⟨fun H0=>yl.go fun ⟨_,_⟩=>tt ?_⟩;refine Ag iI (.nil _) fun id H o=>tt ?_;refine AD [0,1] (G:=Nat × List (Int)) (fun k g=>[(5,some (.buf g.1 g.2.length)),(6,some (.int .i64 (k : Int)))]) (fun k g H=>g.2=(List.replicate k x)∧AA H0 H [(g.1,.cells 1 (g.2.map iI) 0)]) n (id,[]) ⟨by simp,o⟩ rfl ?_
 rintro k ⟨id,out⟩ H hk ⟨Au,o⟩;dsimp only at Au;refine tt ?_;apply bk <;> intro h1
 ·have h1:=A7 h1
  have w1:=ws k;refine tt ?_;refine Ad x o rfl rfl (by rw [Au,List.length_replicate]; simp only [AL]; omega) fun id H o=>?_;refine tw w1 ?_;exact A5 (_,_) (by omega) ⟨by rw [Au,List.replicate_succ'],o⟩ rfl
 ·refine tt ?_
  have h1:=A9 h1;refine Al o rfl fun H o=>tt ?_;exact A6 (by rw [Au,show k=n by omega]) o.sub
theorem Zw (B : Nat) (l : List Bool) : PB B 345 [bL l] (iL (((List.range l.length).filter fun i=>l.getD i default).map Int.ofNat)):=by
 refine ⟨fun H0=>c345.go fun ⟨hf,_⟩=>?_⟩
 have hl:=AM hf;simp only [AL] at hl;refine tt ?_;refine Ag iI (.nil _) fun id H o=>tt ?_;refine AD [7,8] (G:=Nat × List (Int)) (fun k g=>[(3,some (.buf g.1 g.2.length)),(9,some (.int .i64 (k : Int)))]) (fun k g H=>g.2=(((List.range k).filter fun i=>l.getD i default).map Int.ofNat)∧AA H0 H [(g.1,.cells 1 (g.2.map iI) 0)]) l.length (id,[]) ⟨by simp,o⟩ rfl ?_
 rintro k ⟨id,out⟩ H hk ⟨Au,o⟩;dsimp only at Au;refine tt ?_;apply bk <;> intro h1
 ·have h1:=A7 h1
  have w1:=ws k;refine tt ?_;refine ⟨h1,tt ?_⟩
  have hlen : out.length≤k:=by rw [Au,List.length_map]; exact Nat.le_trans (List.length_filter_le _ _) (by simp)
  apply bk <;> intro h2
  ·refine tt ?_;refine Ad (k : Int) o rfl rfl (by simp only [AL]; omega) fun id H o=>?_;refine tw w1 ?_;exact A5 (_,_) (by omega) ⟨by rw [Au,BF,if_pos h2,List.map_append]; rfl,o⟩ rfl
  ·refine tw w1 ?_;exact A5 (_,_) (by omega) ⟨by rw [Au,BF,if_neg (Bool.eq_false_iff.mp h2),List.map_append]; simp,o⟩ rfl
 ·refine tt ?_
  have h1:=A9 h1;refine Al o rfl fun H o=>tt ?_;exact A6 (by rw [Au,show k=l.length by omega]) o.sub
theorem XK (B : Nat) (f q : List Int) (hv : ∀ y,y∈f→0≤y∧y.toNat<q.length) : PB B 153 [iL f,iL q] (iL (f.map fun y=>ix q y)):=by
 refine ⟨fun H0=>yv.go fun ⟨hf,_⟩=>?_⟩
 have hl:=AM hf;simp only [AL] at hl;refine tt ?_;refine Ag iI (.nil _) fun id H o=>tt ?_;refine AD [0,1] (G:=Nat × List (Int)) (fun k g=>[(5,some (.buf g.1 g.2.length)),(6,some (.int .i64 (k : Int)))]) (fun k g H=>g.2=((f.take k).map fun y=>ix q y)∧AA H0 H [(g.1,.cells 1 (g.2.map iI) 0)]) f.length (id,[]) ⟨by simp,o⟩ rfl ?_
 rintro k ⟨id,out⟩ H hk ⟨Au,o⟩;dsimp only at Au;refine tt ?_;apply bk <;> intro h1
 ·have h1:=A7 h1
  have w1:=ws k;refine tt ?_;refine ⟨h1,hv _ (AE.mpr ⟨k,h1,rfl⟩), ?_⟩;refine Ad (ix q (f.getD k default)) o rfl rfl (by rw [Au]; simp [AL] <;> omega) fun id H o=>?_
  refine tw w1 ?_;exact A5 (_,_) (by omega) ⟨by rw [Au,BW f _ h1],o⟩ rfl
 ·refine tt ?_
  have h1:=A9 h1;refine Al o rfl fun H o=>tt ?_;exact A6 (by rw [Au,List.take_of_length_le (by omega)]) o.sub
theorem then_ok (B : Nat) (f q : List Int) (hv : ∀ y,y∈f→0≤y∧y.toNat<q.length) : PB B 151 [iL f,iL q] (iL (f.map fun y=>ix q y)):=by
 refine ⟨fun H0=>c151.go fun ⟨hf,_⟩=>?_⟩
 have hl:=AM hf;simp only [AL] at hl;refine tt ?_;refine ⟨by simp [AL] <;> omega, ?_⟩
 refine lA iI (.nil _) fun id H o=>tt ?_;refine AD [1,5,11,12] (fun k _=>[(13,some (.int .i64 (k : Int)))]) (fun k _ H=>AA H0 H [(id,.cells 1 (((f.take k).map fun y=>ix q y).map iI++List.replicate (f.length - k) (.int .i64 0)) 0)]) f.length () o rfl ?_
 rintro k _ H hk o
 have hlen : ((f.take k).map fun y=>ix q y).length=k:=by simp; omega
 refine tt ?_;apply bk <;> intro h1
 ·have h1:=A7 h1
  have w1:=ws k
  have Cs : f.length - k=(f.length - (k+1))+1:=by omega
  rw [Cs] at o;refine tt ?_
  have hx:=hv _ (AE.mpr ⟨k,h1,rfl⟩);refine ⟨h1,hx,by omega, ?_⟩;refine qT (ix q (f.getD k default)) o rfl (by omega) fun H o=>?_;refine tw w1 ?_;exact A5 () (by omega) (by rw [BW f _ h1]; exact o) rfl
 ·refine tt ?_
  have h1:=A9 h1
  have Cs : f.length - k=0:=by omega
  rw [Cs] at o;refine jP o (by omega) fun H o=>tt ?_;exact A6 (by rw [List.take_of_length_le (by omega)]) o.sub
theorem EX (B : Nat) (c : Ay) : PB B 144 [.agg c.cells] (.agg c.cells):=by
 refine ⟨fun H0=>Ua.go fun hf=>tt ?_⟩;refine ⟨by simp [AL],fun i1 n1=>?_⟩;refine tt ?_;refine ⟨_,(Df ..).run,tt ?_⟩;refine ⟨_,(Df ..).run,tt ?_⟩;refine ⟨_,(Df ..).run,tt ?_⟩;refine ⟨_,(IB ..).run,tt ?_⟩;refine A6 rfl ?_
 repeat (first | exact .refl _ | refine C7 ?_ n1)
theorem Ka (B : Nat) (c : Ay) : PB B 220 [.ptr c.cells] (.agg c.cells):=by
 refine ⟨fun H0=>xc.go fun hf=>tt ?_⟩;refine ⟨by simp [AL],fun i1 n1=>?_⟩;refine tt ?_;refine ⟨_,(J3 ..).run,tt ?_⟩;refine ⟨_,(J3 ..).run,tt ?_⟩;refine ⟨_,(J3 ..).run,tt ?_⟩;refine ⟨_,(MS ..).run,tt ?_⟩;refine A6 rfl ?_
 repeat (first | exact .refl _ | refine C7 ?_ n1)
theorem RN (B : Nat) (f : SF) : PB B 182 [.agg f.cells] (.agg f.cells):=by
 refine ⟨fun H0=>xq.go fun hf=>tt ?_⟩;refine ⟨by simp [AL],fun i1 n1=>?_⟩;refine tt ?_;refine ⟨_,(EX B f.shape).run,tt ?_⟩;refine ⟨_,(Df ..).run,tt ?_⟩;refine ⟨_,(IB ..).run,tt ?_⟩;refine A6 rfl ?_
 repeat (first | exact .refl _ | refine C7 ?_ n1)
theorem Qp (B : Nat) (f : SF) : PB B 178 [.ptr f.cells] (.agg f.cells):=by
 refine ⟨fun H0=>yn.go fun hf=>tt ?_⟩;refine ⟨by simp [AL],fun i1 n1=>?_⟩;refine tt ?_;refine ⟨_,(Ka B f.shape).run,tt ?_⟩;refine ⟨_,(J3 ..).run,tt ?_⟩;refine ⟨_,(MS ..).run,tt ?_⟩;refine A6 rfl ?_
 repeat (first | exact .refl _ | refine C7 ?_ n1)
theorem Ga (B : Nat) (f g : SF) (p : List (List Int)) : PB B 101 [.agg f.cells,.agg g.cells,BA p] (.agg (SM.cells ⟨f,g,p⟩)):=by
 refine ⟨fun H0=>xd.go fun hf=>tt ?_⟩;refine ⟨by simp [AL],fun i1 n1=>?_⟩;refine tt ?_;refine ⟨_,(RN B f).run,tt ?_⟩;refine ⟨_,(RN B g).run,tt ?_⟩;refine ⟨_,(IB ..).run,tt ?_⟩;refine A6 rfl ?_
 repeat (first | exact .refl _ | refine C7 ?_ n1)
theorem ZR (B : Nat) (f g : SF) (p : List (List Int)) : PB B 98 [.ptr f.cells,.ptr g.cells,BA p] (.agg (SM.cells ⟨f,g,p⟩)):=by
 refine ⟨fun H0=>c98.go fun hf=>tt ?_⟩;refine ⟨by simp [AL],fun i1 n1=>?_⟩;refine tt ?_;refine (Qp B f).go fun _=>tt ?_;refine (Qp B g).go fun _=>tt ?_;refine (MS ..).go fun _=>tt ?_;refine A6 rfl ?_
 repeat (first | exact .refl _ | refine C7 ?_ n1)
theorem Xr (B : Nat) (c : Ay) (f : Int) (h1 : 0≤f∧f.toNat<c.AJ.length) (h2 : f.toNat<c.to.length) : PB B 213 [.ptr c.cells,.int .i64 f] (.agg [.int .i64 (ix c.AJ f),.int .i64 (ix c.to f)]):=by
 refine ⟨fun H0=>ye.go fun hf=>tt ?_⟩;refine fun i1 n1=>tt ?_;refine ⟨h1,⟨h1.1,h2⟩,tt ?_⟩;refine A6 rfl ?_
 repeat (first | exact .refl _ | refine C7 ?_ n1)
theorem Hi (B : Nat) (c : Ay) : PB B 211 [.ptr c.cells] (.int .i64 c.AJ.length):=by
 refine ⟨fun H0=>xm.go fun hf=>tt ?_⟩;exact A6 rfl (.refl _)
theorem CH (B : Nat) (c : Ay) (f g : Int) (h1 : 0≤f∧f.toNat<c.comp.length) (h2 : 0≤g∧g.toNat<(ix c.comp f).length) :
  PB B 132 [.ptr c.cells,.int .i64 f,.int .i64 g] (.int .i64 (ix (ix c.comp f) g)):=by
 refine ⟨fun H0=>xz.go fun hf=>tt ?_⟩;exact ⟨h1,h2,A6 rfl (.refl _)⟩
theorem F9 (B : Nat) (c : Ay) (f g : Int) (h1 : 0≤f∧f.toNat<c.comp.length) (h2 : 0≤g∧g.toNat<(ix c.comp f).length) :
  PB B 65 [.agg c.cells,.int .i64 f,.int .i64 g] (.int .i64 (ix (ix c.comp f) g)):=by
 refine ⟨fun H0=>c65.go fun hf=>tt ?_⟩;exact ⟨h1,h2,A6 rfl (.refl _)⟩
theorem PG (B : Nat) (l : List Int) (m : Nat) (n : Int) : PB B 226 [iL l,.int .i64 (m : Int),.int .i64 n] (.bool (dec (l.length=m∧∀ y,y∈l→0≤y∧y<n))):=by
 refine ⟨fun H0=>c226.go fun hf=>tt ?_⟩;apply bk <;> intro h1
 ·refine tw h1 ?_
  have AR : l.length=m:=A7 h1;refine (Hd ..).go fun _=>tt ?_;exact A6 (by congr 1; exact BX ⟨fun h=>⟨AR,h⟩,fun h=>h.2⟩) (.refl _)
 ·refine tw h1 ?_
  have AR : ¬ l.length=m:=A9 h1;exact A6 (by rw [Aa (fun h=>AR h.1)]) (.refl _)
theorem Oz (B : Nat) (l : List Int) (m n : Int) (hn : -9223372036854775808<n∧n≤9223372036854775807) : PB B 286 [iL l,.int .i64 m,.int .i64 n] (.bool (dec ((l.length : Int)=m∧∀ y,y∈l→0≤y∧y<n))):=by
 refine ⟨fun H0=>c286.go fun hf=>tt ?_⟩;apply bk <;> intro h1
 ·refine tw h1 ?_
  have AR : (l.length : Int)=m:=A7 h1;refine (G4 B l n hn).go fun _=>tt ?_;exact A6 (by congr 1; exact BX ⟨fun h=>⟨AR,h⟩,fun h=>h.2⟩) (.refl _)
 ·refine tw h1 ?_
  have AR : ¬ (l.length : Int)=m:=A9 h1;exact A6 (by rw [Aa (fun h=>AR h.1)]) (.refl _)
theorem XB (B : Nat) (s t : List (List Int)) (Ii : s.length≤t.length) (hv : ∀ x,x<s.length→∀ y,y∈s.getD x default→0≤y∧y.toNat<(t.getD x default).length) : PB B 102 [BA s,BA t] (BA ((List.range s.length).map fun x=>(s.getD x default).map fun y=>ix (t.getD x default) y)):=by
 refine ⟨fun H0=>zj.go fun ⟨hf,_⟩=>?_⟩
 have hl:=AM hf;simp only [AL] at hl;refine tt ?_;refine Ag iL (.nil _) fun id H o=>tt ?_;refine AD [0,1] (G:=Nat × List (List Int)) (fun k g=>[(5,some (.buf g.1 g.2.length)),(6,some (.int .i64 (k : Int)))]) (fun k g H=>g.2=((List.range k).map fun x=>(s.getD x default).map fun y=>ix (t.getD x default) y)∧AA H0 H [(g.1,.cells 1 (g.2.map iL) 0)]) s.length (id,[]) ⟨by simp,o⟩ rfl ?_
 rintro k ⟨id,out⟩ H hk ⟨Au,o⟩;dsimp only at Au;refine tt ?_;apply bk <;> intro h1
 ·have h1:=A7 h1
  have w1:=ws k;refine tt ?_;refine ⟨h1,(by omega),_,(XK B _ _ (hv k h1)).run,tt ?_⟩;refine Ad ((s.getD k default).map fun y=>ix (t.getD k default) y) o rfl rfl (by rw [Au]; simp [AL] <;> omega) fun id H o=>?_
  refine tw w1 ?_;exact A5 (_,_) (by omega) ⟨by rw [Au,List.range_succ]; simp [-List.getD_eq_getElem?_getD],o⟩ rfl
 ·refine tt ?_
  have h1:=A9 h1;refine Al o rfl fun H o=>tt ?_;exact A6 (by rw [Au,show k=s.length by omega]) o.sub
theorem L0 (B : Nat) (s t : List (List Int)) (Ii : s.length≤t.length) (hv : ∀ x,x<s.length→∀ y,y∈s.getD x default→0≤y∧y.toNat<(t.getD x default).length) : PB B 119 [BA s,BA t] (BA ((List.range s.length).map fun x=>(s.getD x default).map fun y=>ix (t.getD x default) y)):=by
 refine ⟨fun H0=>yq.go fun ⟨hf,_⟩=>?_⟩
 have hl:=AM hf;simp only [AL] at hl;refine tt ?_;refine Ag iL (.nil _) fun id H o=>tt ?_;refine AD [0,1,9] (G:=Nat × List (List Int)) (fun k g=>[(5,some (.buf g.1 g.2.length)),(10,some (.int .i64 (k : Int)))]) (fun k g H=>g.2=((List.range k).map fun x=>(s.getD x default).map fun y=>ix (t.getD x default) y)∧AA H0 H [(g.1,.cells 1 (g.2.map iL) 0)]) s.length (id,[]) ⟨by simp,o⟩ rfl ?_
 rintro k ⟨id,out⟩ H hk ⟨Au,o⟩;dsimp only at Au;refine tt ?_;apply bk <;> intro h1
 ·have h1:=A7 h1
  have w1:=ws k;refine tt ?_;refine ⟨h1,(by omega),_,(then_ok B _ _ (hv k h1)).run,tt ?_⟩;refine Ad ((s.getD k default).map fun y=>ix (t.getD k default) y) o rfl rfl (by rw [Au]; simp [AL] <;> omega) fun id H o=>?_
  refine tw w1 ?_;exact A5 (_,_) (by omega) ⟨by rw [Au,List.range_succ]; simp [-List.getD_eq_getElem?_getD],o⟩ rfl
 ·refine tt ?_
  have h1:=A9 h1;refine Al o rfl fun H o=>tt ?_;exact A6 (by rw [Au,show k=s.length by omega]) o.sub
structure Wm (c : Ay) (f g : Nat) : Prop where
 tB : c.to.getD f default≠c.AJ.getD g default→(c.comp.getD f default).getD g default=-1
 yes : c.to.getD f default=c.AJ.getD g default →
  (0≤(c.comp.getD f default).getD g default∧(c.comp.getD f default).getD g default<c.AJ.length) ∧
  ix c.AJ ((c.comp.getD f default).getD g default)=c.AJ.getD f default∧ix c.to ((c.comp.getD f default).getD g default)=c.to.getD g default
structure nA (c : Ay) (f : Nat) : Prop where
 row : (c.comp.getD f default).length=c.AJ.length
 cell : ∀ g,g<c.AJ.length→Wm c f g
theorem Vl (B : Nat) (c : Ay) : PB B 137 [.agg c.cells] (.bool (dec c.Shape)):=by
 refine ⟨fun H0=>vu.go fun ⟨hf,_⟩=>?_⟩
 have hl:=AM (hf.agg (c:=iL c.AJ) (by simp [Ay.cells]))
 have Ii:=AM (hf.agg (c:=iL c.Av) (by simp [Ay.cells]));simp only [AL] at hl Ii;refine tt ?_;refine (Uj ..).go fun _=>tt ?_;apply bn <;> intro h1
 rotate_left
 ·refine tw h1 ?_
  have AR:=dd h1;exact A6 (by rw [Aa]; intro s; exact AR s.o) (.refl _)
 refine tw h1 ?_
 have AR:=dd h1;apply bn <;> intro h2
 rotate_left
 ·refine tw h2 ?_
  have Ah:=dd h2;exact A6 (by rw [Aa]; intro s; have:=s.m; omega) (.refl _)
 refine tw h2 ?_
 have Ah:=dd h2
 have vk : c.AJ.length≤40:=by omega
 refine (PG ..).go fun _=>tt ?_;apply bn <;> intro h3
 rotate_left
 ·refine tw h3 ?_
  have B8:=dd h3;exact A6 (by rw [Aa]; intro s; exact B8 s.AJ) (.refl _)
 refine tw h3 ?_
 have B8:=dd h3;refine (PG ..).go fun _=>tt ?_;apply bn <;> intro h4
 rotate_left
 ·refine tw h4 ?_
  have Cr:=dd h4;exact A6 (by rw [Aa]; intro s; exact Cr ⟨s.HN,s.to⟩) (.refl _)
 refine tw h4 ?_
 have Cr:=dd h4;apply bk <;> intro h5
 ·refine tw h5 ?_
  have Ho:=dd h5;exact A6 (by rw [Aa]; intro s; exact Ho s.cl) (.refl _)
 refine tw h5 ?_
 have Ho:=dd h5;apply bn <;> intro h6
 rotate_left
 ·refine tw h6 ?_
  have Ln:=dd h6;exact A6 (by rw [Aa]; intro s; exact Ln s.il) (.refl _)
 refine tw h6 ?_
 have Ln:=dd h6;refine (Hd ..).go fun _=>tt ?_;apply bk <;> intro h7
 ·refine tw h7 ?_
  have Vb:=dd h7;exact A6 (by rw [Aa]; intro s; exact Vb s.Av) (.refl _)
 refine tw h7 ?_
 have Vb:=dd h7;refine AD [1,3] (fun k _=>[(4,some (.int .i64 (k : Int)))]) (fun k _ H=>H=H0∧∀ i,i<k→ix c.AJ (c.Av.getD i default)=i∧ix c.to (c.Av.getD i default)=i) c.Av.length () ⟨rfl,by simp⟩ rfl ?_
 rintro k _ H hk ⟨rfl,Ak⟩;refine tt ?_;apply bk <;> intro g1
 ·have CK:=dd g1
  have w1:=ws k
  have TG : k<c.Av.length:=by omega
  have hx:=Vb _ (AE.mpr ⟨k,TG,rfl⟩);refine tt ?_;refine ⟨TG,⟨hx.1,by omega⟩, ?_⟩;apply bn <;> intro g2
  rotate_left
  ·refine tw g2 ?_
   have CO:=dd g2;exact A6 (by rw [Aa]; intro s; exact CO (s.Qj k TG).1) (.refl _)
  refine tw g2 ?_
  have CO:=dd g2;refine ⟨TG,⟨hx.1,by omega⟩, ?_⟩;apply bk <;> intro g3
  ·refine tw g3 ?_
   have Dh:=dd g3;exact A6 (by rw [Aa]; intro s; exact Dh (s.Qj k TG).2) (.refl _)
  refine t2 g3 w1 ?_
  have Dh:=dd g3;exact A5 () TG ⟨rfl,AG Ak ⟨CO,Dh⟩⟩ rfl
 have CK:=dd g1
 have Nl : k=c.Av.length:=by omega
 subst Nl;refine tt ?_;refine AD [1,3] (fun k _=>[(5,some (.int .i64 (k : Int)))]) (fun k _ H'=>H'=H∧∀ f,f<k→nA c f) c.AJ.length () ⟨rfl,by simp⟩ rfl ?_
 rintro f _ H' Q0 ⟨rfl,B3⟩;refine tt ?_;apply bk <;> intro g2
 rotate_left
 ·refine tw g2 ?_
  have CO:=dd g2
  have Yg : f=c.AJ.length:=by omega
  subst Yg;refine A6 ?_ (.refl _);rw [Aw];exact ⟨AR,by omega,B8,Cr.1,Cr.2,Ho,Ln,Vb,Ak,fun f hf=>(B3 f hf).row,fun f g hf hg=>((B3 f hf).cell g hg).tB,fun f g hf hg=>((B3 f hf).cell g hg).yes⟩
 have CO:=dd g2
 have wf:=ws f
 have Ly : f<c.comp.length:=by omega
 have Q2 : f<c.to.length:=by omega
 refine tt ?_;refine ⟨Ly, ?_⟩;apply bk <;> intro g3
 ·refine tw g3 ?_
  have Dh:=dd g3;exact A6 (by rw [Aa]; intro s; exact Dh (s.row f CO)) (.refl _)
 refine tw g3 ?_
 have Dh:=dd g3;refine AD [1,3,5] (fun k _=>[(6,some (.int .i64 (k : Int)))]) (fun k _ H=>H=H'∧∀ g,g<k→Wm c f g) c.AJ.length () ⟨rfl,by simp⟩ rfl ?_
 rintro g _ H hgm ⟨rfl,Ih⟩;refine tt ?_;apply bk <;> intro g4
 rotate_left
 ·refine t2 g4 wf ?_
  have Fm:=dd g4
  have Yg : g=c.AJ.length:=by omega
  subst Yg;exact A5 () CO ⟨rfl,AG B3 ⟨Dh,Ih⟩⟩ rfl
 have Fm:=dd g4
 have wg:=ws g
 have hgr : g<(c.comp.getD f default).length:=by omega
 refine tt ?_;refine ⟨Ly,hgr,Q2,Fm, ?_⟩;apply bk <;> intro g5
 ·have Hr:=dd g5;refine tt ?_;apply bk <;> intro g6
  ·refine tt ?_
   have Nk:=dd g6;exact A6 (by rw [Aa]; intro s; exact Nk (s.tB f g CO Fm Hr)) (.refl _)
  ·have Nk:=dd g6;refine tw wg ?_;exact A5 () Fm ⟨rfl,AG Ih ⟨fun _=>Nk,fun e=>absurd e Hr⟩⟩ rfl
 have Hr:=dd g5
 have TJ : ¬ ((0≤(c.comp.getD f default).getD g default∧(c.comp.getD f default).getD g default<c.AJ.length) ∧
  ix c.AJ ((c.comp.getD f default).getD g default)=c.AJ.getD f default∧ix c.to ((c.comp.getD f default).getD g default)=c.to.getD g default)→dec c.Shape=false :=
  fun h=>Aa fun s=>h (s.yes f g CO Fm Hr)
 refine tt ?_;apply bn <;> intro g6
 rotate_left
 ·refine tw g6 ?_
  have Nk:=dd g6;exact A6 (by rw [TJ]; intro h; omega) (.refl _)
 refine tw g6 ?_
 have Nk:=dd g6;apply bn <;> intro g7
 rotate_left
 ·refine tw g7 ?_
  have lp:=dd g7;exact A6 (by rw [TJ]; intro h; omega) (.refl _)
 refine tw g7 ?_
 have lp:=dd g7;refine ⟨⟨Nk,by omega⟩,CO, ?_⟩;apply bn <;> intro g8
 rotate_left
 ·refine tw g8 ?_
  have g8p:=dd g8;exact A6 (by rw [TJ]; intro h; exact g8p h.2.1) (.refl _)
 refine tw g8 ?_
 have g8p:=dd g8;refine ⟨⟨Nk,by omega⟩,by omega, ?_⟩;apply bk <;> intro g9
 ·refine tw g9 ?_
  have g9p:=dd g9;exact A6 (by rw [TJ]; intro h; exact g9p h.2.2) (.refl _)
 refine t2 g9 wg ?_
 have g9p:=dd g9;exact A5 () Fm ⟨rfl,AG Ih ⟨fun h=>absurd Hr h,fun _=>⟨⟨Nk,by omega⟩,g8p,g9p⟩⟩⟩ rfl
theorem Wo (B : Nat) (c : Ay) : PB B 127 [.ptr c.cells] (.bool (dec c.Shape)):=by
 refine ⟨fun H0=>c127.go fun ⟨hf,_⟩=>?_⟩
 have hl:=AM (hf.ptr (c:=iL c.AJ) (by simp [Ay.cells]))
 have Ii:=AM (hf.ptr (c:=iL c.Av) (by simp [Ay.cells]))
 have hl3:=AM (hf.ptr (c:=BA c.comp) (by simp [Ay.cells]));simp only [AL] at hl Ii hl3;refine tt ?_;refine (Hi B c).go fun _=>tt ?_;refine ⟨_,(Ke ..).run,tt ?_⟩;apply bn <;> intro h1
 rotate_left
 ·refine tw h1 ?_
  have AR:=dd h1;exact A6 (by rw [Aa]; intro s; exact AR s.o) (.refl _)
 refine tw h1 ?_
 have AR:=dd h1;apply bn <;> intro h2
 rotate_left
 ·refine tw h2 ?_
  have Ah:=dd h2;exact A6 (by rw [Aa]; intro s; have:=s.m; omega) (.refl _)
 refine tw h2 ?_
 have Ah:=dd h2
 have vk : c.AJ.length≤40:=by omega
 apply bn <;> intro h3
 rotate_left
 ·refine tw h3 ?_
  have B8:=dd h3;exact A6 (by rw [Aa]; intro s; exact B8 s.HN) (.refl _)
 refine tw h3 ?_
 have B8:=dd h3;refine ⟨_,(G4 B c.AJ c.AO (by omega)).run,tt ?_⟩;apply bn <;> intro h4
 rotate_left
 ·refine tw h4 ?_
  have Cr:=dd h4;exact A6 (by rw [Aa]; intro s; exact Cr s.AJ) (.refl _)
 refine tw h4 ?_
 have Cr:=dd h4;refine ⟨_,(G4 B c.to c.AO (by omega)).run,tt ?_⟩;apply bk <;> intro h5
 ·refine tw h5 ?_
  have Ho:=dd h5;exact A6 (by rw [Aa]; intro s; exact Ho s.to) (.refl _)
 refine tw h5 ?_
 have Ho:=dd h5;apply bn <;> intro h6
 rotate_left
 ·refine tw h6 ?_
  have Ln:=dd h6;exact A6 (by rw [Aa]; intro s; exact Ln s.il) (.refl _)
 refine tw h6 ?_
 have Ln:=dd h6;refine ⟨_,(G4 B c.Av c.AJ.length (by omega)).run,tt ?_⟩;apply bn <;> intro h7
 rotate_left
 ·refine tw h7 ?_
  have Vb:=dd h7;exact A6 (by rw [Aa]; intro s; exact Vb s.Av) (.refl _)
 refine tw h7 ?_
 have Vb:=dd h7;apply bk <;> intro h8
 ·refine tw h8 ?_
  have VL:=dd h8;exact A6 (by rw [Aa]; intro s; exact VL s.cl) (.refl _)
 refine tw h8 ?_
 have VL:=dd h8;refine AD [0,3,86,87] (fun k _=>[(88,some (.int .i64 (k : Int)))]) (fun k _ H=>H=H0∧∀ i,i<k→ix c.AJ (c.Av.getD i default)=i∧ix c.to (c.Av.getD i default)=i) c.Av.length () ⟨rfl,by simp⟩ rfl ?_
 rintro k _ H hk ⟨rfl,Ak⟩;refine tt ?_;apply bk <;> intro g1
 ·have CK:=dd g1
  have w1:=ws k
  have hx:=Vb _ (AE.mpr ⟨k,CK,rfl⟩);refine tt ?_;refine ⟨CK,(Xr B c (c.Av.getD k default) ⟨hx.1,by omega⟩ (by omega)).go fun _=>?_⟩;refine tt ?_;apply bk <;> intro g2
  ·refine tw g2 ?_
   have CO:=dd g2;exact A6 (by rw [Aa]; intro s; exact CO (s.Qj k CK)) (.refl _)
  refine t2 g2 w1 ?_
  have CO:=dd g2;exact A5 () CK ⟨rfl,AG Ak CO⟩ rfl
 have CK:=dd g1
 have Nl : k=c.Av.length:=by omega
 subst Nl;refine tt ?_;refine AD [0,3,104,105] (fun k _=>[(106,some (.int .i64 (k : Int)))]) (fun k _ H'=>H'=H∧∀ f,f<k→nA c f) c.comp.length () ⟨rfl,by simp⟩ rfl ?_
 rintro f _ H' Q0 ⟨rfl,B3⟩;refine tt ?_;apply bk <;> intro g2
 rotate_left
 ·refine tw g2 ?_
  have CO:=dd g2
  have Yg : f=c.AJ.length:=by omega
  subst Yg;refine A6 ?_ (.refl _);rw [Aw];exact ⟨AR,by omega,Cr,B8,Ho,VL,Ln,Vb,Ak,fun f hf=>(B3 f hf).row,fun f g hf hg=>((B3 f hf).cell g hg).tB,fun f g hf hg=>((B3 f hf).cell g hg).yes⟩
 have CO:=dd g2
 have wf:=ws f
 have Yg : f<c.AJ.length:=by omega
 have Q2 : f<c.to.length:=by omega
 refine tt ?_;refine ⟨CO, ?_⟩;apply bk <;> intro g3
 ·refine tw g3 ?_
  have Dh:=dd g3;exact A6 (by rw [Aa]; intro s; exact Dh (s.row f Yg)) (.refl _)
 refine tw g3 ?_
 have Dh:=dd g3;refine AD [0,3,6,104,105,106,115,116] (fun k _=>[(117,some (.int .i64 (k : Int)))]) (fun k _ H=>H=H'∧∀ g,g<k→Wm c f g) (c.comp.getD f default).length () ⟨rfl,by simp⟩ rfl ?_
 rintro g _ H hgm ⟨rfl,Ih⟩;refine tt ?_;apply bk <;> intro g4
 rotate_left
 ·refine t2 g4 wf ?_
  have Fm:=dd g4
  have XU : g=c.AJ.length:=by omega
  subst XU;exact A5 () CO ⟨rfl,AG B3 ⟨Dh,Ih⟩⟩ rfl
 have Fm:=dd g4
 have wg:=ws g
 have hgf : g<c.AJ.length:=by omega
 refine tt ?_;refine ⟨Fm,Q2,hgf, ?_⟩;apply bk <;> intro g5
 ·have Hr:=dd g5;refine tt ?_;apply bk <;> intro g6
  ·refine tt ?_
   have Nk:=dd g6;exact A6 (by rw [Aa]; intro s; exact Nk (s.tB f g Yg hgf Hr)) (.refl _)
  ·have Nk:=dd g6;refine tw wg ?_;exact A5 () Fm ⟨rfl,AG Ih ⟨fun _=>Nk,fun e=>absurd e Hr⟩⟩ rfl
 have Hr:=dd g5
 have TJ : ¬ ((0≤(c.comp.getD f default).getD g default∧(c.comp.getD f default).getD g default<c.AJ.length) ∧
  ix c.AJ ((c.comp.getD f default).getD g default)=c.AJ.getD f default∧ix c.to ((c.comp.getD f default).getD g default)=c.to.getD g default)→dec c.Shape=false :=
  fun h=>Aa fun s=>h (s.yes f g Yg hgf Hr)
 have wn : IntKind.i64.wrap ((c.AJ.length : Int) - 1)=(c.AJ.length : Int) - 1:=wrap_i64 (by omega) (by omega);refine tw wn ?_;refine ⟨_,(Ke ..).run,tt ?_⟩;apply bn <;> intro g6
 rotate_left
 ·refine tw g6 ?_
  have Nk:=dd g6;exact A6 (by rw [TJ]; intro h; omega) (.refl _)
 refine tw g6 ?_
 have Nk:=dd g6;refine ⟨_,(Xr B c _ ⟨Nk.1,by omega⟩ (by omega)).run,Yg,by omega,tt ?_⟩;apply bk <;> intro g7
 ·refine tw g7 ?_
  have lp:=dd g7;exact A6 (by rw [TJ]; intro h; exact lp h.2) (.refl _)
 refine t2 g7 wg ?_
 have lp:=dd g7;exact A5 () Fm ⟨rfl,AG Ih ⟨fun h=>absurd Hr h,fun _=>⟨⟨Nk.1,by omega⟩,lp⟩⟩⟩ rfl
theorem Tk (B : Nat) (c : Ay) (s : c.Shape) (H0 : AB) : CB B 138 [.agg c.cells] H0 (OY c.Laws H0):=by
 refine c138.go fun ⟨hf,_⟩=>?_
 have hm:=s.m
 have Md:=s.cl
 have IQ:=s.HN;refine tt ?_;refine AD [1,6] (fun k _=>[(7,some (.int .i64 (k : Int)))]) (fun k _ H=>H=H0∧∀ f,f<k→c.dj f) c.AJ.length () ⟨rfl,by simp⟩ rfl ?_
 rintro f _ H Q0 ⟨rfl,K9⟩;refine tt ?_;apply bk <;> intro g1
 ·have CK:=dd g1
  have wf:=ws f
  have a1:=s.QV CK
  have a2:=s.CT a1.2
  have a3:=s.L8 a2.2
  have b1:=s.vJ CK
  have b2:=s.CT b1.2
  have b3:=s.row f CK;refine tt ?_;refine ⟨CK,a1,⟨a2.1,by omega⟩,by omega, ?_⟩;apply bn <;> intro g2
  rotate_left
  ·refine tw g2 ?_
   have CO:=dd g2;exact CV (by constructor; (intro h; cases h); intro l; exact absurd (l.ZO f CK).1 CO) (.refl _)
  refine tw g2 ?_
  have CO:=dd g2;refine ⟨by omega,by omega,b1,⟨b2.1,by omega⟩, ?_⟩;apply bk <;> intro g3
  ·refine tw g3 ?_
   have Dh:=dd g3;exact CV (by constructor; (intro h; cases h); intro l; exact absurd (l.ZO f CK).2 Dh) (.refl _)
  refine t2 g3 wf ?_
  have Dh:=dd g3;exact A5 () CK ⟨rfl,AG K9 ⟨CO,Dh⟩⟩ rfl
 have CK:=dd g1
 have Yg : f=c.AJ.length:=by omega
 subst Yg;refine tt ?_;refine AD [1,6] (fun k _=>[(8,some (.int .i64 (k : Int)))]) (fun k _ H'=>H'=H∧∀ f,f<k→∀ g,g<c.AJ.length→∀ h,h<c.AJ.length→c.Jg f g h) c.AJ.length () ⟨rfl,by simp⟩ rfl ?_
 rintro f _ H' Q0 ⟨rfl,hF⟩;refine tt ?_;apply bk <;> intro g1
 rotate_left
 ·refine tt ?_
  have CK:=dd g1;exact CV (by simp only [true_iff]; exact ⟨K9,fun f g h hf hg hh=>hF f (by omega) g hg h hh⟩) (.refl _)
 have CK:=dd g1
 have wf:=ws f
 have rf:=s.row f CK;refine tt ?_;refine AD [1,6,8] (fun k _=>[(9,some (.int .i64 (k : Int)))]) (fun k _ H=>H=H'∧∀ g,g<k→∀ h,h<c.AJ.length→c.Jg f g h) c.AJ.length () ⟨rfl,by simp⟩ rfl ?_
 rintro g _ H hgm ⟨rfl,hG⟩;refine tt ?_;apply bk <;> intro g2
 rotate_left
 ·refine tw wf ?_
  have CO:=dd g2;exact A5 () CK ⟨rfl,AG hF fun g hg=>hG g (by omega)⟩ rfl
 have CO:=dd g2
 have wg:=ws g
 have rg:=s.row g CO;refine tt ?_;refine ⟨by omega,CO, ?_⟩;apply bk <;> intro g3
 ·refine tw wg ?_
  have Dh:=dd g3;exact A5 () CO ⟨rfl,AG hG fun h hh e=>absurd e Dh⟩ rfl
 have Dh:=dd g3;refine tt ?_;refine AD [1,6,8,9] (fun k _=>[(10,some (.int .i64 (k : Int)))]) (fun k _ H'=>H'=H∧∀ h,h<k→c.Jg f g h) c.AJ.length () ⟨rfl,by simp⟩ rfl ?_
 rintro h _ H' hhm ⟨rfl,hA⟩;refine tt ?_;apply bk <;> intro g4
 rotate_left
 ·refine tw wg ?_
  have Fm:=dd g4;exact A5 () CO ⟨rfl,AG hG fun h hh=>hA h (by omega)⟩ rfl
 have Fm:=dd g4
 have wh:=ws h;refine tt ?_;refine ⟨by omega,Fm, ?_⟩;apply bk <;> intro g5
 ·refine tw g5 ?_
  have Hr:=dd g5
  have c1:=(s.pos CK CO).mpr Dh
  have c2:=s.lt CK CO
  have c3:=s.L8 c2
  have d1:=(s.pos CO Fm).mpr Hr
  have d2:=s.lt CO Fm;refine ⟨by omega,by omega,⟨c1,by omega⟩,by omega,by omega,by omega,by omega,⟨d1,by omega⟩, ?_⟩;apply bk <;> intro g6
  ·refine tw g6 ?_
   have Nk:=dd g6;exact CV (by constructor; (intro h; cases h); intro l; exact absurd (l.assoc f g h CK CO Fm Dh Hr) Nk) (.refl _)
  ·refine t2 g6 wh ?_
   have Nk:=dd g6;exact A5 () Fm ⟨rfl,AG hA fun _ _=>Nk⟩ rfl
 ·refine t2 g5 wh ?_
  have Hr:=dd g5;exact A5 () Fm ⟨rfl,AG hA fun _ e=>absurd e Hr⟩ rfl
theorem Iy (B : Nat) (c : Ay) : PB B 59 [.agg c.cells] (.bool (dec c.Is)):=by
 refine ⟨fun H0=>c59.go fun hf=>tt ?_⟩;refine (Vl B c).go fun _=>tt ?_;apply bk <;> intro h1
 ·refine tt ?_
  have AR:=dd h1;exact A6 (by rw [Aa]; intro s; exact AR s.1) (.refl _)
 have AR:=dd h1;refine tt ?_;refine (Tk B c AR H0).Iu ?_
 rintro _ _ _ ⟨rfl,k,a,b,d,rfl,hk⟩;refine tt ?_;exact A6 (by rw [BK]; congr 1; exact BX ⟨fun h=>⟨AR,hk.mp h⟩,fun h=>hk.mpr h.2⟩) (.refl _)
theorem DB {α : Type} [Inhabited α] (l : List α) (k : Nat) : ix l (k : Int)=l.getD k default:=AH l k
theorem dA (B : Nat) (c : Ay) (s : c.Shape) (H0 : AB) : CB B 128 [.ptr c.cells] H0 (OY c.Laws H0):=by
 refine S6.go fun ⟨hf,_⟩=>?_
 have hm:=s.m
 have Md:=s.cl
 have IQ:=s.HN;refine tt ?_;refine (Hi B c).go fun _=>tt ?_;refine AD [0,6] (fun k _=>[(7,some (.int .i64 (k : Int)))]) (fun k _ H=>H=H0∧∀ f,f<k→c.dj f) c.AJ.length () ⟨rfl,by simp⟩ rfl ?_
 rintro f _ H Q0 ⟨rfl,K9⟩;refine tt ?_;apply bk <;> intro g1
 ·have CK:=dd g1
  have wf:=ws f
  have a1:=s.QV CK
  have a2:=s.CT a1.2
  have a3:=s.L8 a2.2
  have b1:=s.vJ CK
  have b2:=s.CT b1.2
  have b3:=s.row f CK;refine tt ?_;refine ⟨CK,a1,_,(CH B c _ _ ⟨a2.1,by omega⟩ ⟨by omega,by omega⟩).run,tt ?_⟩;apply bn <;> intro g2
  rotate_left
  ·refine tw g2 ?_
   have CO:=dd g2;exact CV (by constructor; (intro h; cases h); intro l; exact absurd (l.ZO f CK).1 CO) (.refl _)
  refine tw g2 ?_
  have CO:=dd g2;refine ⟨by omega,b1,_,(CH B c f _ ⟨by omega,by omega⟩ ⟨b2.1,by rw [DB]; omega⟩).run,tt ?_⟩;apply bk <;> intro g3
  ·refine tw g3 ?_
   have Dh:=dd g3;exact CV (by constructor; (intro h; cases h); intro l; exact absurd (l.ZO f CK).2 Dh) (.refl _)
  refine t2 g3 wf ?_
  have Dh:=dd g3;exact A5 () CK ⟨rfl,AG K9 ⟨CO,Dh⟩⟩ rfl
 have CK:=dd g1
 have Yg : f=c.AJ.length:=by omega
 subst Yg;refine tt ?_;refine AD [0,6] (fun k _=>[(8,some (.int .i64 (k : Int)))]) (fun k _ H'=>H'=H∧∀ f,f<k→∀ g,g<c.AJ.length→∀ h,h<c.AJ.length→c.Jg f g h) c.AJ.length () ⟨rfl,by simp⟩ rfl ?_
 rintro f _ H' Q0 ⟨rfl,hF⟩;refine tt ?_;apply bk <;> intro g1
 rotate_left
 ·refine tt ?_
  have CK:=dd g1;exact CV (by simp only [true_iff]; exact ⟨K9,fun f g h hf hg hh=>hF f (by omega) g hg h hh⟩) (.refl _)
 have CK:=dd g1
 have wf:=ws f
 have rf:=s.row f CK;refine tt ?_;refine AD [0,6,8] (fun k _=>[(9,some (.int .i64 (k : Int)))]) (fun k _ H=>H=H'∧∀ g,g<k→∀ h,h<c.AJ.length→c.Jg f g h) c.AJ.length () ⟨rfl,by simp⟩ rfl ?_
 rintro g _ H hgm ⟨rfl,hG⟩;refine tt ?_;apply bk <;> intro g2
 rotate_left
 ·refine tw wf ?_
  have CO:=dd g2;exact A5 () CK ⟨rfl,AG hF fun g hg=>hG g (by omega)⟩ rfl
 have CO:=dd g2
 have wg:=ws g
 have rg:=s.row g CO;refine tt ?_;refine (CH B c f g ⟨by omega,by omega⟩ ⟨by omega,by rw [DB]; omega⟩).go fun _=>tt ?_;apply bk <;> intro g3
 ·refine tw wg ?_
  have Dh:=dd g3;exact A5 () CO ⟨rfl,AG hG fun h hh e=>by have:=(s.pos CK CO).mpr e; omega⟩ rfl
 have Dh:=dd g3
 have jt:=(s.pos CK CO).mp Dh;refine tt ?_;refine AD [0,6,8,9] (fun k _=>[(10,some (.int .i64 (k : Int)))]) (fun k _ H'=>H'=H∧∀ h,h<k→c.Jg f g h) c.AJ.length () ⟨rfl,by simp⟩ rfl ?_
 rintro h _ H' hhm ⟨rfl,hA⟩;refine tt ?_;apply bk <;> intro g4
 rotate_left
 ·refine tw wg ?_
  have Fm:=dd g4;exact A5 () CO ⟨rfl,AG hG fun h hh=>hA h (by omega)⟩ rfl
 have Fm:=dd g4
 have wh:=ws h;refine tt ?_;refine (CH B c g h ⟨by omega,by omega⟩ ⟨by omega,by rw [DB]; omega⟩).go fun _=>tt ?_;apply bk <;> intro g5
 ·refine tw g5 ?_
  have Hr:=dd g5
  have g5q:=(s.pos CO Fm).mp Hr
  have c2:=s.lt CK CO
  have c3:=s.L8 c2
  have d2:=s.lt CO Fm;refine (CH B c f g ⟨by omega,by omega⟩ ⟨by omega,by rw [DB]; omega⟩).go fun _=>tt ?_;refine (CH B c _ h ⟨Dh,by omega⟩ ⟨by omega,by omega⟩).go fun _=>tt ?_;refine (CH B c g h ⟨by omega,by omega⟩ ⟨by omega,by rw [DB]; omega⟩).go fun _=>tt ?_;refine (CH B c f _ ⟨by omega,by omega⟩ ⟨Hr,by rw [DB]; omega⟩).go fun _=>tt ?_;apply bk <;> intro g6
  ·refine tw g6 ?_
   have Nk:=dd g6;exact CV (by constructor; (intro h; cases h); intro l; exact absurd (l.assoc f g h CK CO Fm jt g5q) Nk) (.refl _)
  ·refine t2 g6 wh ?_
   have Nk:=dd g6;exact A5 () Fm ⟨rfl,AG hA fun _ _=>Nk⟩ rfl
 ·refine t2 g5 wh ?_
  have Hr:=dd g5;exact A5 () Fm ⟨rfl,AG hA fun _ e=>by have:=(s.pos CO Fm).mpr e; omega⟩ rfl
theorem K4 (B : Nat) (c : Ay) : PB B 57 [.ptr c.cells] (.bool (dec c.Is)):=by
 refine ⟨fun H0=>c57.go fun hf=>tt ?_⟩;refine (Wo B c).go fun _=>tt ?_;apply bk <;> intro h1
 ·refine tt ?_
  have AR:=dd h1;exact A6 (by rw [Aa]; intro s; exact AR s.1) (.refl _)
 have AR:=dd h1;refine tt ?_;refine (dA B c AR H0).Iu ?_
 rintro _ _ _ ⟨rfl,k,a,b,d,rfl,hk⟩;refine tt ?_;exact A6 (by rw [BK]; congr 1; exact BX ⟨fun h=>⟨AR,hk.mp h⟩,fun h=>hk.mpr h.2⟩) (.refl _)
theorem U1 (B : Nat) (c : Ay) (s : c.Shape) (x : Int) (l : List Int) : PB B 158 [.agg c.cells,.int .i64 x,iL l] (.bool (dec (c.Az x l))):=by
 refine ⟨fun H0=>vt.go fun ⟨_,_,hf,_⟩=>?_⟩
 have hl:=AM hf;simp only [AL] at hl
 have hm:=s.m
 have Md:=s.cl
 have IQ:=s.HN;refine tt ?_;refine (UJ ..).go fun _=>tt ?_;apply bn <;> intro h1
 rotate_left
 ·refine tw h1 ?_
  have AR:=dd h1;exact A6 (by rw [Aa]; intro s; exact AR s.jL) (.refl _)
 refine tw h1 ?_
 have AR:=dd h1;refine (Hd ..).go fun _=>tt ?_;apply bk <;> intro h2
 ·refine tw h2 ?_
  have Ah:=dd h2;exact A6 (by rw [Aa]; intro s; exact Ah s.QF) (.refl _)
 refine tw h2 ?_
 have Ah:=dd h2
 refine AD [1,2,3] (fun k _=>[(7,some (.int .i64 (k : Int)))]) (fun k _ H=>H=H0∧∀ i,i<k→ix c.AJ (l.getD i default)=x ∧
  ∀ b : Nat,b<c.AJ.length→ix c.to (l.getD i default)=c.AJ.getD b default→(ix c.comp (l.getD i default)).getD b default∈l) l.length () ⟨rfl,by simp⟩ rfl ?_
 rintro k _ H hk ⟨rfl,Ak⟩;refine tt ?_;apply bk <;> intro g1
 rotate_left
 ·refine tt ?_
  have CK:=dd g1;refine A6 ?_ (.refl _);rw [Aw]
  have:=DZ (l:=l) (p:=fun a=>ix c.AJ a=x∧∀ b : Nat,b<c.AJ.length→ix c.to a=c.AJ.getD b default→(ix c.comp a).getD b default∈l) |>.mpr fun i hi=>Ak i (by omega);exact ⟨AR,Ah,fun y hy=>(this y hy).1,fun y hy=>(this y hy).2⟩
 have CK:=dd g1
 have w1:=ws k
 have hx:=Ah _ (AE.mpr ⟨k,CK,rfl⟩);refine tt ?_;refine ⟨CK,⟨hx.1,by omega⟩, ?_⟩;apply bk <;> intro g2
 ·refine tt ?_
  have CO:=dd g2;exact A6 (by rw [Aa]; intro s; exact CO (s.src _ (AE.mpr ⟨k,CK,rfl⟩))) (.refl _)
 have CO:=dd g2;refine tt ?_
 refine AD [1,2,3,7] (fun k _=>[(8,some (.int .i64 (k : Int)))]) (fun b' _ H'=>H'=H ∧
  ∀ b : Nat,b<b'→ix c.to (l.getD k default)=c.AJ.getD b default→(ix c.comp (l.getD k default)).getD b default∈l) c.AJ.length () ⟨rfl,by simp⟩ rfl ?_
 rintro b _ H' hb ⟨rfl,Dd⟩;refine tt ?_;apply bk <;> intro g3
 rotate_left
 ·refine tw w1 ?_
  have Dh:=dd g3;exact A5 () CK ⟨rfl,AG Ak ⟨CO,fun b hb=>Dd b (by omega)⟩⟩ rfl
 have Dh:=dd g3
 have wb:=ws b
 have hr:=s.L8 (a:=l.getD k default) (by omega);refine tt ?_;refine ⟨CK,⟨hx.1,by omega⟩,Dh, ?_⟩;apply bk <;> intro g4
 rotate_left
 ·refine t2 g4 wb ?_
  have Fm:=dd g4;exact A5 () Dh ⟨rfl,AG Dd fun e=>absurd e Fm⟩ rfl
 refine tw g4 ?_
 have Fm:=dd g4;refine ⟨CK,_,(F9 B c (l.getD k default) b ⟨hx.1,by omega⟩ ⟨by omega,by omega⟩).run,tt ?_⟩;refine ⟨_,(Je ..).run,tt ?_⟩;apply bk <;> intro g5
 ·refine tt ?_
  have Hr:=dd g5;exact A6 (by rw [Aa]; intro s; exact Hr (s.cls _ (AE.mpr ⟨k,CK,rfl⟩) b Dh Fm)) (.refl _)
 ·refine tw wb ?_
  have Hr:=dd g5;exact A5 () Dh ⟨rfl,AG Dd fun _=>Hr⟩ rfl
theorem WO (B : Nat) (c : Ay) (s : c.Shape) (x : Int) (l : List Int) : PB B 165 [.ptr c.cells,.int .i64 x,iL l] (.bool (dec (c.Az x l))):=by
 refine ⟨fun H0=>TX.go fun ⟨_,_,hf,_⟩=>?_⟩
 have hl:=AM hf;simp only [AL] at hl
 have hm:=s.m
 have Md:=s.cl
 have IQ:=s.HN;refine tt ?_;refine (Zr ..).go fun _=>tt ?_;apply bn <;> intro h1
 rotate_left
 ·refine tw h1 ?_
  have AR:=dd h1;exact A6 (by rw [Aa]; intro s; exact AR s.jL) (.refl _)
 refine tw h1 ?_
 have AR:=dd h1;refine (Hi B c).go fun _=>tt ?_;refine (G4 B l c.AJ.length (by omega)).go fun _=>tt ?_;apply bk <;> intro h2
 ·refine tw h2 ?_
  have Ah:=dd h2;exact A6 (by rw [Aa]; intro s; exact Ah s.QF) (.refl _)
 refine tw h2 ?_
 have Ah:=dd h2
 refine AD [0,1,2,21,22] (fun k _=>[(23,some (.int .i64 (k : Int)))]) (fun k _ H=>H=H0∧∀ i,i<k→ix c.AJ (l.getD i default)=x ∧
  ∀ b : Nat,b<c.AJ.length→ix c.to (l.getD i default)=c.AJ.getD b default→(ix c.comp (l.getD i default)).getD b default∈l) l.length () ⟨rfl,by simp⟩ rfl ?_
 rintro k _ H hk ⟨rfl,Ak⟩;refine tt ?_;apply bk <;> intro g1
 rotate_left
 ·refine tt ?_
  have CK:=dd g1;refine A6 ?_ (.refl _);rw [Aw]
  have:=DZ (l:=l) (p:=fun a=>ix c.AJ a=x∧∀ b : Nat,b<c.AJ.length→ix c.to a=c.AJ.getD b default→(ix c.comp a).getD b default∈l) |>.mpr fun i hi=>Ak i (by omega);exact ⟨AR,Ah,fun y hy=>(this y hy).1,fun y hy=>(this y hy).2⟩
 have CK:=dd g1
 have w1:=ws k
 have hx:=Ah _ (AE.mpr ⟨k,CK,rfl⟩);refine tt ?_;refine ⟨CK,⟨hx.1,by omega⟩, ?_⟩;apply bk <;> intro g2
 ·refine tt ?_
  have CO:=dd g2;exact A6 (by rw [Aa]; intro s; exact CO (s.src _ (AE.mpr ⟨k,CK,rfl⟩))) (.refl _)
 have CO:=dd g2;refine tt ?_;refine ⟨⟨hx.1,by omega⟩,(GY B c _).go fun JP=>?_⟩
 have Va:=AM JP;simp only [AL] at Va
 generalize ho : outs c (ix c.to (l.getD k default))=ou at *;refine tt ?_
 refine AD [0,1,2,8,21,22,23,44,45] (fun k _=>[(46,some (.int .i64 (k : Int)))]) (fun b' _ H'=>H'=H ∧
  ∀ b : Nat,b<b'→ix (ix c.comp (l.getD k default)) (ou.getD b default)∈l) ou.length () ⟨rfl,by simp⟩ rfl ?_
 rintro b _ H' hb ⟨rfl,Dd⟩;refine tt ?_;apply bk <;> intro g3
 rotate_left
 ·refine tw w1 ?_
  have Dh:=dd g3;refine A5 () CK ⟨rfl,AG Ak ⟨CO,fun b hb e=>?_⟩⟩ rfl
  have CJ : (b : Int)∈ou:=by rw [← ho]; exact BT.mpr ⟨by omega,by omega,by rw [DB]; exact e.symm⟩
  obtain ⟨i,hi,e2⟩:=AE.mp CJ
  have:=Dd i (by omega);rw [e2,DB] at this;exact this
 have Dh:=dd g3
 have wb:=ws b
 have hr:=s.L8 (a:=l.getD k default) (by omega)
 have CJ : ou.getD b default∈ou:=AE.mpr ⟨b,Dh,rfl⟩;rw [show (ou.getD b default∈ou)=(ou.getD b default∈outs c (ix c.to (l.getD k default))) by rw [ho],BT] at CJ;refine tt ?_;refine ⟨Dh,(CH B c (l.getD k default) (ou.getD b default) ⟨hx.1,by omega⟩ ⟨CJ.1,by omega⟩).go fun _=>?_⟩;refine tt ?_;refine (SL ..).go fun _=>tt ?_;apply bk <;> intro g5
 ·refine tt ?_
  have Hr:=dd g5;refine A6 ?_ (.refl _);rw [Aa]; intro s;exact Hr (s.cls _ (AE.mpr ⟨k,CK,rfl⟩) _ CJ.2.1 CJ.2.2.symm)
 ·refine tw wb ?_
  have Hr:=dd g5;exact A5 () Dh ⟨rfl,AG Dd Hr⟩ rfl
theorem W4 (B : Nat) (c : Ay) (hs : c.Shape) (a : Int) (ha : 0≤a∧a.toNat<c.AJ.length) (s : List Int) : PB B 331 [.agg c.cells,.int .i64 a,iL s] (iL (Dc c a s)):=by
 refine ⟨fun H0=>c331.go fun ⟨_,_,_⟩=>?_⟩
 have hm:=hs.m
 have Md:=hs.cl
 have IQ:=hs.HN;refine tt ?_;refine Ag iI (.nil _) fun id H o=>tt ?_;refine AD [1,2,3] (G:=Nat × List (Int)) (fun k g=>[(7,some (.buf g.1 g.2.length)),(8,some (.int .i64 (k : Int)))]) (fun k g H=>g.2=(Eu (Mz c a s) k)∧AA H0 H [(g.1,.cells 1 (g.2.map iI) 0)]) c.AJ.length (id,[]) ⟨by simp,o⟩ rfl ?_
 rintro k ⟨id,out⟩ H hk ⟨Au,o⟩;dsimp only at Au;refine tt ?_;apply bk <;> intro h1
 ·have h1:=A7 h1
  have w1:=ws k;refine tt ?_
  have hr:=hs.L8 (a:=a) ha.2
  have hlen : out.length≤k:=by rw [Au]; exact HZ _ _
  refine ⟨⟨ha.1,by omega⟩,h1, ?_⟩;apply bk <;> intro h2
  ·refine tw h2 ?_
   have Ah:=dd h2;refine ⟨_,(F9 B c a k ⟨ha.1,by omega⟩ ⟨by omega,by omega⟩).run,tt ?_⟩;refine ⟨_,(Je ..).run,tt ?_⟩;apply bk <;> intro h3
   ·refine tt ?_
    have B8:=dd h3;refine Ad (k : Int) o rfl rfl (by simp only [AL]; omega) fun id H o=>?_;refine tw w1 ?_;exact A5 (_,_) (by omega) ⟨by rw [Au,On (kZ Ah B8)],o⟩ rfl
   ·refine tw w1 ?_
    have B8:=dd h3;exact A5 (_,_) (by omega) ⟨by rw [Au,Kd (YT fun e=>B8 e.2)],o⟩ rfl
  ·refine t2 h2 w1 ?_
   have Ah:=dd h2;exact A5 (_,_) (by omega) ⟨by rw [Au,Kd (YT fun e=>Ah e.1)],o⟩ rfl
 ·refine tt ?_
  have h1:=A9 h1;refine Al o rfl fun H o=>tt ?_;exact A6 (by rw [Au,show k=c.AJ.length by omega]; rfl) o.sub
def TY (c : Ay) (a : Int) (s : List Int) (y : Int) : Bool:=decide (ix (ix c.comp a) y∈s)
theorem fG (c : Ay) (a : Int) (s : List Int) : (outs c (ix c.to a)).filter (TY c a s)=Dc c a s:=by
 refine KR ?_ (Du _ _) fun y=>?_
 ·have:=RI c (ix c.to a) ▸ Du _ _;rw [DF] at this ⊢;exact this.filter _
 ·rw [List.mem_filter,BT,FB,TY,decide_eq_true_eq,and_assoc,and_assoc,and_assoc,eq_comm (a:=ix c.to a)]
theorem Xj (B : Nat) (c : Ay) (hs : c.Shape) (a : Int) (ha : 0≤a∧a.toNat<c.AJ.length) (s : List Int) : PB B 335 [.ptr c.cells,.int .i64 a,iL s] (iL (Dc c a s)):=by
 refine ⟨fun H0=>ZT.go fun ⟨_,_,_⟩=>?_⟩
 have hm:=hs.m
 have Md:=hs.cl
 have IQ:=hs.HN;refine tt ?_;refine Ag iI (.nil _) fun id H o=>tt ?_;refine ⟨⟨ha.1,by omega⟩,(GY B c _).go fun JP=>?_⟩
 have Va:=AM JP;simp only [AL] at Va
 generalize ho : outs c (ix c.to a)=ou at *;refine tt ?_;refine AD [0,1,2,19,20] (G:=Nat × List (Int)) (fun k g=>[(7,some (.buf g.1 g.2.length)),(21,some (.int .i64 (k : Int)))]) (fun k g H=>g.2=((ou.take k).filter (TY c a s))∧AA H0 H [(g.1,.cells 1 (g.2.map iI) 0)]) ou.length (id,[]) ⟨by simp,o⟩ rfl ?_
 rintro k ⟨id,out⟩ H hk ⟨Au,o⟩;dsimp only at Au;refine tt ?_;apply bk <;> intro h1
 ·have h1:=A7 h1
  have w1:=ws k;refine tt ?_
  have CJ : ou.getD k default∈ou:=AE.mpr ⟨k,h1,rfl⟩;rw [show (ou.getD k default∈ou)=(ou.getD k default∈outs c (ix c.to a)) by rw [ho],BT] at CJ
  have hr:=hs.L8 (a:=a) ha.2
  have hlen : out.length≤k:=by rw [Au]; exact Ts _ _ _
  refine ⟨h1,(CH B c a (ou.getD k default) ⟨ha.1,by omega⟩ ⟨CJ.1,by omega⟩).go fun _=>?_⟩;refine tt ?_;refine (SL ..).go fun _=>tt ?_;apply bk <;> intro h3
  ·refine tt ?_
   have B8:=dd h3;refine Ad (ou.getD k default) o rfl rfl (by simp only [AL]; omega) fun id H o=>?_;refine tw w1 ?_;exact A5 (_,_) (by omega) ⟨by rw [Au,c5 h1 (by simpa [TY] using B8)],o⟩ rfl
  ·refine tw w1 ?_
   have B8:=dd h3;exact A5 (_,_) (by omega) ⟨by rw [Au,dL h1 (by simpa [TY] using B8)],o⟩ rfl
 ·refine tt ?_
  have h1:=A9 h1;refine Al o rfl fun H o=>tt ?_;exact A6 (by rw [Au,show k=ou.length by omega,List.take_length,← ho,fG]) o.sub
theorem Hv (B : Nat) (f : SF) (s : List Int) (e : Int) (hs : ∀ a,a∈s→0≤a∧a.toNat<f.AU.length) (kl : 0≤e) (he : ∀ a,a∈s→e.toNat<(ix f.AU a).length) : PB B 86 [.agg f.cells,iL s,.int .i64 e] (iL (CE f s e)):=by
 refine ⟨fun H0=>c86.go fun ⟨_,hf,_⟩=>?_⟩
 have hl:=AM hf;simp only [AL] at hl;refine tt ?_;refine Ag iI (.nil _) fun id H o=>tt ?_;refine AD [1,2,3] (G:=Nat × List (Int)) (fun k g=>[(7,some (.buf g.1 g.2.length)),(8,some (.int .i64 (k : Int)))]) (fun k g H=>g.2=((s.take k).map fun a=>ix (ix f.AU a) e)∧AA H0 H [(g.1,.cells 1 (g.2.map iI) 0)]) s.length (id,[]) ⟨by simp,o⟩ rfl ?_
 rintro k ⟨id,out⟩ H hk ⟨Au,o⟩;dsimp only at Au;refine tt ?_;apply bk <;> intro h1
 ·have h1:=A7 h1
  have w1:=ws k;refine tt ?_;refine ⟨h1,⟨(hs _ (AE.mpr ⟨k,h1,rfl⟩)).1,(hs _ (AE.mpr ⟨k,h1,rfl⟩)).2⟩,⟨kl,he _ (AE.mpr ⟨k,h1,rfl⟩)⟩, ?_⟩;refine Ad (ix (ix f.AU (s.getD k default)) e) o rfl rfl (by rw [Au,List.length_map,List.length_take]; simp only [AL]; omega) fun id H o=>?_;refine tw w1 ?_;exact A5 (_,_) (by omega) ⟨by rw [Au,BW s _ h1],o⟩ rfl
 ·refine tt ?_
  have h1:=A9 h1;refine Al o rfl fun H o=>tt ?_;exact A6 (by rw [Au,show k=s.length by omega,List.take_length]; rfl) o.sub
theorem Jx (B : Nat) (f : SF) (s : List Int) (e : Int) (hs : ∀ a,a∈s→0≤a∧a.toNat<f.AU.length) (kl : 0≤e) (he : ∀ a,a∈s→e.toNat<(ix f.AU a).length) : PB B 168 [.ptr f.cells,iL s,.int .i64 e] (iL (CE f s e)):=by
 refine ⟨fun H0=>c168.go fun ⟨_,hf,_⟩=>?_⟩
 have hl:=AM hf;simp only [AL] at hl;refine tt ?_;refine Ag iI (.nil _) fun id H o=>tt ?_;refine AD [0,2,11,12] (G:=Nat × List (Int)) (fun k g=>[(7,some (.buf g.1 g.2.length)),(13,some (.int .i64 (k : Int)))]) (fun k g H=>g.2=((s.take k).map fun a=>ix (ix f.AU a) e)∧AA H0 H [(g.1,.cells 1 (g.2.map iI) 0)]) s.length (id,[]) ⟨by simp,o⟩ rfl ?_
 rintro k ⟨id,out⟩ H hk ⟨Au,o⟩;dsimp only at Au;refine tt ?_;apply bk <;> intro h1
 ·have h1:=A7 h1
  have w1:=ws k;refine tt ?_;refine ⟨h1,⟨(hs _ (AE.mpr ⟨k,h1,rfl⟩)).1,(hs _ (AE.mpr ⟨k,h1,rfl⟩)).2⟩,⟨kl,he _ (AE.mpr ⟨k,h1,rfl⟩)⟩, ?_⟩;refine Ad (ix (ix f.AU (s.getD k default)) e) o rfl rfl (by rw [Au,List.length_map,List.length_take]; simp only [AL]; omega) fun id H o=>?_;refine tw w1 ?_;exact A5 (_,_) (by omega) ⟨by rw [Au,BW s _ h1],o⟩ rfl
 ·refine tt ?_
  have h1:=A9 h1;refine Al o rfl fun H o=>tt ?_;exact A6 (by rw [Au,show k=s.length by omega,List.take_length]; rfl) o.sub
theorem MF (B : Nat) (f : SF) (x : Int) (s t : List Int) (hx : 0≤x∧x.toNat<f.A4.length) (hz : ix f.A4 x≤17) (hs : ∀ a,a∈s→0≤a∧a.toNat<f.AU.length) (he : ∀ a,a∈s→((ix f.AU a).length : Int)=ix f.A4 x) : PB B 90 [.ptr f.cells,.int .i64 x,iL s,iL t] (iL (glue f x s t)):=by
 refine ⟨fun H0=>c90.go fun ⟨_,_⟩=>tt ?_⟩;refine Ag iI (.nil _) fun id H o=>tt ?_;refine ⟨hx, ?_⟩;refine AD [0,2,3,18] (G:=Nat × List (Int)) (fun k g=>[(9,some (.buf g.1 g.2.length)),(19,some (.int .i64 (k : Int)))]) (fun k g H=>g.2=(Eu (Mu f s t) k)∧AA H0 H [(g.1,.cells 1 (g.2.map iI) 0)]) (ix f.A4 x).toNat (id,[]) ⟨by simp,o⟩ rfl ?_
 rintro k ⟨id,out⟩ H hk ⟨Au,o⟩;dsimp only at Au;refine tt ?_;apply bk <;> intro h1
 ·have h1:=A7 h1
  have w1:=ws k;refine tt ?_
  have hlen : out.length≤k:=by rw [Au]; exact HZ _ _
  refine (Jx B f s k hs (by omega) fun a ha=>by have:=he a ha; omega).go fun _=>tt ?_;refine (Fw ..).go fun _=>tt ?_;apply bk <;> intro h3
  ·refine tt ?_
   have B8:=dd h3;refine Ad (k : Int) o rfl rfl (by simp only [AL]; omega) fun id H o=>?_;refine tw w1 ?_;exact A5 (_,_) (by omega) ⟨by rw [Au,On (by simpa [Mu] using B8)],o⟩ rfl
  ·refine tw w1 ?_
   have B8:=dd h3;exact A5 (_,_) (by omega) ⟨by rw [Au,Kd (by simpa [Mu] using B8)],o⟩ rfl
 ·refine tt ?_
  have h1:=A9 h1;refine Al o rfl fun H o=>tt ?_;exact A6 (by rw [Au,show k=(ix f.A4 x).toNat by omega]; rfl) o.sub
theorem Mx (B : Nat) (f : SF) (x : Int) (s t : List Int) (hx : 0≤x∧x.toNat<f.A4.length) (hz : ix f.A4 x≤17) (hs : ∀ a,a∈s→0≤a∧a.toNat<f.AU.length) (he : ∀ a,a∈s→((ix f.AU a).length : Int)=ix f.A4 x) : PB B 92 [.agg f.cells,.int .i64 x,iL s,iL t] (iL (glue f x s t)):=by
 refine ⟨fun H0=>c92.go fun ⟨_,_⟩=>tt ?_⟩;refine Ag iI (.nil _) fun id H o=>tt ?_;refine AD [1,2,3,4] (G:=Nat × List (Int)) (fun k g=>[(9,some (.buf g.1 g.2.length)),(10,some (.int .i64 (k : Int)))]) (fun k g H=>g.2=(Eu (Mu f s t) k)∧AA H0 H [(g.1,.cells 1 (g.2.map iI) 0)]) (ix f.A4 x).toNat (id,[]) ⟨by simp,o⟩ rfl ?_
 rintro k ⟨id,out⟩ H hk ⟨Au,o⟩;dsimp only at Au;refine tt ?_;refine ⟨hx, ?_⟩;apply bk <;> intro h1
 ·have h1:=A7 h1
  have w1:=ws k;refine tt ?_
  have hlen : out.length≤k:=by rw [Au]; exact HZ _ _
  refine (Hv B f s k hs (by omega) fun a ha=>by have:=he a ha; omega).go fun _=>tt ?_;refine (Dq ..).go fun _=>tt ?_;apply bk <;> intro h3
  ·refine tt ?_
   have B8:=dd h3;refine Ad (k : Int) o rfl rfl (by simp only [AL]; omega) fun id H o=>?_;refine tw w1 ?_;exact A5 (_,_) (by omega) ⟨by rw [Au,On (by simpa [Mu] using B8)],o⟩ rfl
  ·refine tw w1 ?_
   have B8:=dd h3;exact A5 (_,_) (by omega) ⟨by rw [Au,Kd (by simpa [Mu] using B8)],o⟩ rfl
 ·refine tt ?_
  have h1:=A9 h1;refine Al o rfl fun H o=>tt ?_;exact A6 (by rw [Au,show k=(ix f.A4 x).toNat by omega]; rfl) o.sub
theorem Tz (B : Nat) (c : Ay) (hs : c.Shape) (l : List Int) (hl : ∀ a,a∈l→0≤a∧a.toNat<c.AJ.length) : PB B 236 [.agg c.cells,iL l] (iL (Bl c l)):=by
 refine ⟨fun H0=>vy.go fun ⟨_,hf,_⟩=>?_⟩
 have Qi:=AM hf;simp only [AL] at Qi
 have hm:=hs.m
 have Md:=hs.cl
 have IQ:=hs.HN;refine tt ?_;refine ⟨⟨by omega,by simp only [AL]; omega⟩,DD AV.bool false rfl (.nil _) fun id H o=>?_⟩;refine tt ?_;refine AD [1,2,5] (fun k _=>[(6,some (.int .i64 (k : Int)))]) (fun k A H=>Cv c l k 0 A∧AA H0 H [(id,.cells 1 (A.map AV.bool) 0)]) l.length _ ⟨Cv.zero c l,o⟩ rfl ?_
 rintro k A H hk ⟨hI,o⟩;refine tt ?_;apply bk <;> intro h1
 ·refine tt ?_
  have AR:=dd h1
  have w1:=ws k
  have ha:=hl _ (AE.mpr ⟨k,AR,rfl⟩)
  have hr:=hs.L8 (a:=l.getD k default) ha.2;refine AD [1,2,5,6] (fun b _=>[(7,some (.int .i64 (b : Int)))]) (fun b A H=>Cv c l k b A∧AA H0 H [(id,.cells 1 (A.map AV.bool) 0)]) c.AJ.length A ⟨hI,o⟩ rfl ?_
  rintro b A H hb ⟨hI,o⟩;refine tt ?_;apply bk <;> intro h2
  ·refine tt ?_
   have Ah:=dd h2
   have w2:=ws b;refine ⟨AR,⟨ha.1,by omega⟩,Ah, ?_⟩;apply bk <;> intro h3
   ·refine tt ?_
    have B8:=dd h3
    have hc:=hs.comp ha ⟨Int.natCast_nonneg b,by simpa using Ah⟩ (by simpa [ix] using B8);simp only [AH] at hc;refine ⟨AR,_,(F9 B c (l.getD k default) b ⟨ha.1,by omega⟩ ⟨by omega,by omega⟩).run,tt ?_⟩;refine ⟨⟨hc.1.1,by omega⟩, ?_⟩;refine Bw true o rfl (by rw [hI.1]; omega) fun H o=>?_;refine tw w2 ?_;exact A5 _ (by omega) ⟨hI.set B8 hc.1.1,o⟩ rfl
   ·refine tw w2 ?_
    have B8:=dd h3;exact A5 _ (by omega) ⟨hI.skip B8,o⟩ rfl
  ·refine tw w1 ?_
   have Ah:=dd h2
   obtain rfl : b=c.AJ.length:=by omega
   exact A5 _ (by omega) ⟨hI.row,o⟩ rfl
 ·refine tt ?_
  have AR:=dd h1
  have hd:=hI.done (by omega);refine Ag iI o fun ER H o=>tt ?_;refine AD [5] (G:=Nat × List Int) (fun k g=>[(8,some (.buf g.1 g.2.length)),(9,some (.int .i64 (k : Int)))]) (fun k g H=>g.2=Eu (fun i=>A.getD i default) k∧AA H0 H [(g.1,.cells 1 (g.2.map iI) 0),(id,.cells 1 (A.map AV.bool) 0)]) A.length (ER,[]) ⟨rfl,o⟩ rfl ?_
  rintro k ⟨ER,out⟩ H hk ⟨Au,o⟩;dsimp only at Au
  have hlen : out.length≤k:=by rw [Au]; exact HZ _ _
  have Lz:=hI.1;refine tt ?_;rw [← Lz];apply bk <;> intro h2
  ·refine tt ?_
   have Ah:=dd h2
   have w2:=ws k;refine ⟨by omega, ?_⟩;refine BU o.swap Ah ?_;refine tt ?_;apply bk <;> intro h3
   ·refine tt ?_;refine Ad (k : Int) o rfl rfl (by simp only [AL]; omega) fun ER H o=>?_;refine tw w2 ?_;exact A5 (_,_) (by omega) ⟨by rw [Au,On h3],o⟩ rfl
   ·refine tw w2 ?_;exact A5 (_,_) (by omega) ⟨by rw [Au,Kd h3],o⟩ rfl
  ·refine tt ?_
   have Ah:=dd h2;refine Al o rfl fun H o=>tt ?_;exact A6 (by rw [Au,← hd,show k=A.length by omega]) o.sub
theorem XH (B : Nat) (c : Ay) (hs : c.Shape) (l : List Int) (hl : ∀ a,a∈l→0≤a∧a.toNat<c.AJ.length) : PB B 340 [.ptr c.cells,iL l] (iL (Bl c l)):=by
 refine ⟨fun H0=>xN.go fun ⟨_,hf,_⟩=>?_⟩
 have Qi:=AM hf;simp only [AL] at Qi
 have hm:=hs.m
 have Md:=hs.cl
 have IQ:=hs.HN;refine tt ?_;refine (Hi B c).go fun _=>tt ?_;refine ⟨⟨by omega,by simp only [AL]; omega⟩,DD AV.bool false rfl (.nil _) fun id H o=>?_⟩;refine tt ?_;refine AD [0,5,13,14] (fun k _=>[(15,some (.int .i64 (k : Int)))]) (fun k A H=>Cv c l k 0 A∧AA H0 H [(id,.cells 1 (A.map AV.bool) 0)]) l.length _ ⟨Cv.zero c l,o⟩ rfl ?_
 rintro k A H hk ⟨hI,o⟩;refine tt ?_;apply bk <;> intro h1
 ·refine tt ?_
  have AR:=dd h1
  have w1:=ws k
  have ha:=hl _ (AE.mpr ⟨k,AR,rfl⟩)
  have hr:=hs.L8 (a:=l.getD k default) ha.2;refine ⟨AR,⟨ha.1,by omega⟩,(GY B c _).go fun JP=>?_⟩
  have Va:=AM JP;simp only [AL] at Va
  have hI:=hI.out;refine tt ?_;refine AD [0,5,7,13,14,15,27,28] (fun b _=>[(29,some (.int .i64 (b : Int)))]) (fun b A H=>Kh c l k b A∧AA H0 H [(id,.cells 1 (A.map AV.bool) 0)]) (outs c (ix c.to (l.getD k default))).length A ⟨hI,o⟩ rfl ?_
  rintro b A H hb ⟨hI,o⟩;refine tt ?_;apply bk <;> intro h2
  ·refine tt ?_
   have Ah:=dd h2
   have w2:=ws b
   have CJ : (outs c (ix c.to (l.getD k default))).getD b default∈outs c (ix c.to (l.getD k default)):=AE.mpr ⟨b,Ah,rfl⟩;rw [BT] at CJ
   have hc:=hs.comp ha ⟨CJ.1,CJ.2.1⟩ CJ.2.2.symm;refine ⟨Ah,(CH B c _ _ ⟨ha.1,by omega⟩ ⟨CJ.1,by omega⟩).go fun _=>?_⟩;refine tt ?_;refine ⟨⟨hc.1.1,by omega⟩, ?_⟩;refine Bw true o rfl (by rw [hI.1]; omega) fun H o=>?_;refine tw w2 ?_;exact A5 _ (by omega) ⟨hI.set Ah hc.1.1,o⟩ rfl
  ·refine tw w1 ?_
   have Ah:=dd h2;exact A5 _ (by omega) ⟨hI.row (by omega),o⟩ rfl
 ·refine tt ?_
  have AR:=dd h1
  have hd:=hI.done (by omega);rw [← hI.1];refine Al o rfl fun H o=>tt ?_;refine (Zw B A).go fun _=>tt ?_;exact A6 (by rw [← hd]; rfl) o.sub
theorem LK (B : Nat) (l : List (List Int)) (fn : FuncId) (ca : List AV) (p : List Int→Bool) (hp : ∀ t,t∈l→Iz Tryz.prog B fn (iL t::ca) (.bool (p t))) :
  PB B 325 [BA l,.fn (.func fn) ca] (.int .i64 (match l.findIdx? p with | some i=>(i : Int) | none=>-1)):=by
 refine ⟨fun H0=>c325.go fun ⟨hf,_⟩=>?_⟩
 have Qi:=AM hf;simp only [AL] at Qi;refine tt ?_;refine AD [0,1,7] (fun k _=>[(8,some (.int .i64 (k : Int)))]) (fun k _ H=>H=H0∧∀ i,i<k→p (l.getD i default)=false) l.length () ⟨rfl,by simp⟩ rfl ?_
 rintro k _ H hk ⟨rfl,Ak⟩;refine tt ?_;apply bk <;> intro h1
 ·refine tt ?_
  have AR:=dd h1
  have w1:=ws k;refine ⟨AR,(hp _ (AE.mpr ⟨k,AR,rfl⟩)).go fun _=>?_⟩;refine tt ?_;apply bk <;> intro h2
  ·refine tt ?_;refine A6 ?_ (.refl _)
   have : l.findIdx? p=some k:=by
    rw [List.findIdx?_eq_some_iff_getElem];refine ⟨AR,by simpa [gE,AR] using h2,fun j hj=>?_⟩
    have:=Ak j hj
    simpa [gE,show j<l.length by omega] using this
   rw [this]
  ·refine tw w1 ?_;exact A5 () (by omega) ⟨rfl,AG Ak h2⟩ rfl
 ·refine tt ?_
  have AR:=dd h1;refine A6 ?_ (.refl _)
  have : l.findIdx? p=none:=by
   rw [List.findIdx?_eq_none_iff]
   intro x hx
   obtain ⟨i,hi,rfl⟩:=AE.mp hx;exact Ak i (by omega)
  rw [this]
theorem cQ (B : Nat) (s t : List Int) : PB B 326 [iL t,.ptr [iL s]] (.bool (dec (s=t))):=by
 refine ⟨fun H0=>qk.go fun _=>tt ?_⟩;refine (Fw ..).go fun _=>tt ?_;exact A6 rfl (.refl _)
theorem fU (B : Nat) (s t : List Int) : PB B 342 [iL t,.ptr [iL s]] (.bool (dec (s=t))):=by
 refine ⟨fun H0=>zk.go fun _=>tt ?_⟩;refine (Fw ..).go fun _=>tt ?_;exact A6 rfl (.refl _)
theorem lF (B : Nat) (s t : List Int) : PB B 344 [iL s,iL t] (.int .i64 (cmp s t)):=by
 refine ⟨fun H0=>c344.go fun _=>tt ?_⟩;refine (KQ ..).go fun _=>tt ?_;exact A6 rfl (.refl _)
theorem Kv {α : Type} [DecidableEq α] (l : List α) (s : α) : (match l.findIdx? fun t=>dec (s=t) with | some i=>(i : Int) | none=>-1)=indexOf l s:=by
 rw [indexOf,List.idxOf?]
 have : (fun t=>dec (s=t))=fun t=>t == s:=by
  funext t; rw [← BK,Bool.eq_iff_iff,decide_eq_true_eq,beq_iff_eq,eq_comm]
 rw [this]; rfl
theorem ET {α : Type} [DecidableEq α] [Inhabited α] (l : List α) (s : α) : 0≤indexOf l s↔s∈l:=by
 constructor
 ·intro h;apply Classical.byContradiction; intro hn;rw [Ej fun i hi e=>hn (AE.mpr ⟨i,hi,e⟩)] at h;omega
 ·intro h;unfold indexOf
  split
  ·omega
  ·rename_i e; rw [List.idxOf?_eq_none_iff] at e; exact absurd h e
theorem NR (B : Nat) (l : List (List Int)) (s : List Int) : PB B 341 [BA l,.fn (.func 342) [.ptr [iL s]]] (.bool (dec (s∈l))):=by
 refine ⟨fun H0=>w7.go fun _=>tt ?_⟩;refine (LK B l 342 _ _ fun t _=>(fU B s t).run).go fun _=>?_;rw [Kv];refine tt ?_;refine A6 ?_ (.refl _)
 congr 1
 rw [BK]; exact BX (ET l s)
def PQ {α : Type} (f : α→AV) (H0 : AB) (l : List (Nat × AF)) (Q : List α→Prop) : Am:=fun r H'=>∃ id A,r=.buf id A.length∧AA H0 H' ((id,.cells 1 (A.map f) 0)::l)∧Q A
theorem Gy {α : Type} {f : α→AV} {H0 H : AB} {l : List (Nat × AF)} {Q : List α→Prop} {id n : Nat} {A : List α} (o : AA H0 H ((id,.cells 1 (A.map f) 0)::l)) (hn : n=A.length) (hq : Q A) :
  Ik (PQ f H0 l Q) (.buf id n) H:=⟨H,.refl H,id,A,by rw [hn],o,hq⟩
end Go.Proofs.Shf
namespace Go.AW
open Go.Proofs Go.Shf Go.Proofs.Shf
theorem B7.own {P : Program} {α : Type} {f : α→AV} {B : Nat} {fn : FuncId} {args : List AV} {H0 H : AB} {l : List (Nat × AF)} {Q : List α→Prop} {K : Am} (h : B7 P B fn args H (PQ f H0 l Q))
  (hk : ∀ id A H',AA H0 H' ((id,.cells 1 (A.map f) 0)::l)→Q A→K (.buf id A.length) H') : B7 P B fn args H K :=
 h.mono fun r H' ⟨id,A,e,o,q⟩=>by subst e; exact hk id A H' o q
end Go.AW
namespace Go.Proofs.Shf
open Go.AW Go.Proofs Go.Shf
theorem I7 (B : Nat) (l : List Int) (H0 H : AB) (r : List (Nat × AF)) (o : AA H0 H r) : CB B 84 [iL l] H (PQ iI H0 r (·=l)):=by
 refine zg.go fun ⟨hf,_⟩=>?_
 have hl:=AM hf;refine tt ?_;refine Ag iI o fun id H o=>tt ?_;refine Ed (f:=iI) o rfl (by simpa using hl) fun id H o=>tt ?_;exact Gy o rfl rfl
theorem Ji (B : Nat) (l : List Int) (H0 H : AB) (r : List (Nat × AF)) (o : AA H0 H r) : CB B 221 [iL l] H (PQ iI H0 r (·=l)):=by
 refine ft.go fun ⟨hf,_⟩=>?_
 have hl:=AM hf;refine tt ?_;refine Ag iI o fun id H o=>tt ?_;refine Ed (f:=iI) o rfl (by simpa using hl) fun id H o=>tt ?_;exact Gy o rfl rfl
theorem Uu (B : Nat) (c : Ay) (hc : c.Is) (x : Int) : ∀ (n : Nat) (s : List Int),missing c x s=n→c.Az x s→∀ (H0 H : AB) (l : List (Nat × AF)) (id : Nat) (found : List (List Int)),
  AA H0 H ((id,.cells 1 (found.map iL) 0)::l)→found.Nodup→(∀ t,t∈found→c.Az x t)→found.length≤17 →
  CB B 339 [.agg c.cells,iL (outs c x),iL s,.buf id found.length] H (PQ iL H0 l (Oq c x s found)):=by
 intro n
 induction n using Nat.strongRecOn with
 | _ n ih =>
 intro s hn hs H0 H l id found o nd sv le;refine xE.go fun ⟨_,JP,HH,_⟩=>?_
 have Va:=AM JP
 have Hp:=AM HH;simp only [AL] at Va Hp
 have FL:=hc.1
 have hm:=FL.m;refine tt ?_;refine MK 0 rfl o rfl (.int _ _) (Gq ..).run ?_;refine tt ?_
 have gQ:=ET found s;apply bn <;> intro h0
 rotate_left
 ·refine tw h0 ?_
  have Eo:=gQ.mp (A7 h0);exact Gy o rfl (Oq.stop nd sv le (.inl Eo))
 refine tw h0 ?_
 have Eo : s ∉ found:=fun h=>A9 h0 (gQ.mpr h);apply bk <;> intro h1
 ·refine tw h1 ?_
  have AR:=dd h1;exact Gy o rfl (Oq.stop nd sv le (.inr (by omega)))
 refine tw h1 ?_
 have AR:=dd h1;refine Ad s o rfl rfl (by simp only [AL]; omega) fun id H o=>tt ?_;refine AD [1,2,4] (G:=Nat × List (List Int)) (fun k g=>[(3,some (.buf g.1 g.2.length)),(9,some (.int .i64 (k : Int)))]) (fun k g H=>J8 c x s found k g.2∧AA H0 H ((g.1,.cells 1 (g.2.map iL) 0)::l)) (outs c x).length (id,found++[s]) ⟨.zero nd sv hs Eo (by omega),o⟩ rfl ?_
 rintro k ⟨id,out⟩ H hk ⟨hq,o⟩;dsimp only at hq o;refine tt ?_;apply bk <;> intro h2
 rotate_left
 ·refine tt ?_
  have Ah:=dd h2;exact Gy o rfl (hq.done (by omega))
 refine tt ?_
 have Ah:=dd h2
 have w1:=ws k
 have CJ : (outs c x).getD k default∈outs c x:=AE.mpr ⟨k,Ah,rfl⟩;refine ⟨Ah,(Je ..).go fun _=>?_⟩;refine tt ?_;apply bk <;> intro h3
 rotate_left
 ·refine t2 h3 w1 ?_
  have B8:=dd h3;exact A5 (_,_) (by omega) ⟨hq.skip Ah (cZ hc hs B8),o⟩ rfl
 refine tw h3 ?_
 have B8:=dd h3;refine ⟨Ah,(I7 B s H0 H _ o).own ?_⟩
 rintro wS A H oa rfl
 have Lz:=hs.len;refine tt ?_;refine Ad ((outs c x).getD k default) oa rfl rfl (by simp only [AL]; omega) fun wS H oa=>tt ?_;refine Ks 1 rfl oa rfl fun H o=>?_;simp only [List.set_cons_succ,List.set_cons_zero]
 have hlA : ∀ b,b∈A++[(outs c x).getD k default]→0≤b∧b.toNat<c.AJ.length:=by
  intro b hb
  rcases List.mem_append.mp hb with hb | hb
  ·exact (hs.arr hb).1
  ·rw [List.mem_singleton] at hb; subst hb; have:=BT.mp CJ; exact ⟨this.1,this.2.1⟩
 refine (Tz B c FL _ hlA).go fun _=>tt ?_;refine (ih _ (hn ▸ Vy hc hs CJ B8) _ rfl (Z6 hc hs CJ) H0 H l id out o hq.nd hq.sv hq.le).own ?_
 rintro CT out' H o q;refine tw w1 ?_;exact A5 (_,_) (by omega) ⟨hq.step Ah q,o⟩ rfl
theorem Rx (B : Nat) (l : List (List Int)) (H0 : AB) : CB B 308 [BA l] H0 (fun r H'=>H'=H0∧∃ M,r=BA M∧M.Perm l∧M.Pairwise fun s t=>cmp s t≤0):=by
 refine c308.go fun ⟨hf,_⟩=>?_
 have hl:=AM hf
 have Ii:=hl;simp only [AL] at hl;refine tt ?_;refine Ag iL (.nil _) fun id H o=>tt ?_;refine Ed (f:=iL) o rfl (by simpa using Ii) fun id H o=>?_;rw [List.nil_append] at *;refine tt ?_;refine AD [3] (fun k _=>[(4,some (.int .i64 ((k+1 : Nat) : Int)))]) (fun k A H=>(A.Perm l∧∀ a b,a<b→b≤k→b<l.length→cmp (A.getD a default) (A.getD b default)≤0)∧AA H0 H [(id,.cells 1 (A.map iL) 0)]) l.length l ⟨⟨.refl _,fun a b h1 h2=>by omega⟩,o⟩ rfl ?_
 rintro k A H hk ⟨⟨hp,hs⟩,o⟩
 have Lz:=hp.length_eq;refine tt ?_;apply bk <;> intro h1
 ·refine tt ?_
  have AR:=dd h1
  have w1:=Pe (k:=k+1) (by omega)
  refine Dg [3,4] (fun (g : Nat × List (List Int))=>[(5,some (.int .i64 (g.1 : Int)))]) (fun m g H=>m=g.1∧RK l (k+1) g.1 g.2∧AA H0 H [(id,.cells 1 (g.2.map iL) 0)]) (k+1) (k+1,A)
   ⟨rfl,⟨hp,Nat.le_refl _,by omega,fun a b h2 h3 h4=>hs a b h2 (by omega) (by omega)⟩,o⟩ rfl ?_
  rintro j ⟨j',A⟩ H ⟨hj,hI,o⟩
  obtain rfl : j=j':=hj;dsimp only at hI
  have hIl:=hI.le
  have hIt:=hI.lt
  have hIp:=hI.pm.length_eq;dsimp only at o;refine tt ?_;apply bk <;> intro h2
  ·refine tw h2 ?_
   have Ah:=dd h2
   obtain ⟨j,rfl⟩ : ∃ i,j=i+1:=⟨j - 1,by omega⟩
   have w2:=K1 (k:=j+1) (by omega) (by omega);rw [Nat.add_sub_cancel] at w2;refine ⟨by omega,BU o (by omega) ?_⟩;refine tw w2 ?_;refine ⟨by omega,BU o (by omega) ?_⟩;refine tt ?_;refine ⟨_,(KM ..).run,tt ?_⟩;apply bk <;> intro h3
   ·refine tt ?_
    have B8:=dd h3;refine ⟨by omega,BU o (by omega) ?_⟩;refine tw w2 ?_;refine ⟨by omega,BU o (by omega) ?_⟩;refine tt ?_;refine ⟨by omega,Bw (A.getD j default) o rfl (by omega) fun H o=>?_⟩;refine tw w2 ?_;refine ⟨by omega,Bw (A.getD (j+1) default) o rfl (by rw [List.length_set]; omega) fun H o=>?_⟩;refine tw w2 ?_;exact CY j (j,_) (by omega) ⟨rfl,hI.swap B8,o⟩ rfl
   ·refine tw w1 ?_
    have B8:=dd h3;exact A5 A (by omega) ⟨⟨hI.pm,fun a b h4 h5 h6=>hI.stop (.inr ⟨by omega,by simpa using B8⟩) a b h4 (by omega)⟩,o⟩ rfl
  ·refine t2 h2 w1 ?_
   have Ah:=dd h2;exact A5 A (by omega) ⟨⟨hI.pm,fun a b h4 h5 h6=>hI.stop (.inl (by omega)) a b h4 (by omega)⟩,o⟩ rfl
 ·refine tt ?_
  have AR:=dd h1;rw [← Lz];refine Al o rfl fun H o=>tt ?_;exact ⟨_,o.sub,rfl,A,rfl,hp,Uw fun a b h2 h3=>hs a b h2 (by omega) (by omega)⟩
theorem Zi (B : Nat) (c : Ay) (hc : c.Is) (x : Int) (H0 : AB) : CB B 330 [.agg c.cells,.int .i64 x] H0 (fun r H'=>H'=H0∧∃ L,r=.CG [BA L,.bool (dec (OM c x))]∧(OM c x→L=Gl c x)):=by
 refine ae.go fun _=>?_
 have hs:=hc.1
 have hm:=hs.m;refine tt ?_;refine ⟨_,(MZ ..).run,tt ?_⟩;refine Ag iL (.nil _) fun id H o=>tt ?_;refine (Uu B c hc x _ [] rfl (Yw x) H0 H _ id [] o (by simp) (by simp) (by simp)).own ?_
 rintro id L H o q;refine tt ?_;refine Al o rfl fun H o=>tt ?_;refine (Rx ..).mono ?_
 rintro r H' ⟨rfl,M,rfl,hp,hso⟩;refine tt ?_
 have ha:=UL hc q.nd q.sv hp hso (q.all.imp_right fun ⟨h1,h2⟩=>⟨h1,fun t ht=>h2 t ht (by simp)⟩);refine ⟨_,o.sub,rfl,M, ?_,ha.2⟩
 congr 3
 rw [← ha.1,← BK]
 congr 1; rw [Bool.eq_iff_iff]; simp only [decide_eq_true_eq]; omega
theorem U9 (B : Nat) (c : Ay) (hc : c.Is) : PB B 315 [.agg c.cells] (.CG [Ft (bT c),.bool (dec (Bg c))]):=by
 refine ⟨fun H0=>c315.go fun ⟨_,_⟩=>?_⟩
 have hs:=hc.1
 have hm:=hs.m
 have F3:=hs.o;refine tt ?_;refine Ag BA (.nil _) fun id H o=>tt ?_;refine AD [1] (G:=Nat × List (List (List Int))) (fun k g=>[(4,some (.buf g.1 g.2.length)),(5,some (.int .i64 (k : Int)))]) (fun k g H=>(g.2=((List.range k).map fun x : Nat=>Gl c (x : Int))∧∀ x,x<k→OM c x)∧AA H0 H [(g.1,.cells 1 (g.2.map BA) 0)]) c.AO.toNat (id,[]) ⟨⟨by simp,by simp⟩,o⟩ rfl ?_
 rintro k ⟨id,out⟩ H hk ⟨Au,o⟩;dsimp only at Au;refine tt ?_;apply bk <;> intro h1
 ·have h1:=A7 h1
  have w1:=ws k;refine tt ?_;refine (Zi B c hc k H).mono ?_
  rintro r H' ⟨rfl,L,rfl,hL⟩;refine tt ?_;apply bk <;> intro h2
  ·refine tt ?_
   have Ah:=dd h2
   have ES : ¬ Bg c:=fun h=>Ah (h k (by omega));exact A6 (by rw [pM ES,Aa ES]; rfl) o.sub
  ·refine tt ?_
   have Ah:=dd h2;refine Ad (Gl c k) o (by rw [hL Ah]) rfl (by simp only [AL]; rw [Au.1]; simp; omega) fun id H o=>?_;refine tw w1 ?_;exact A5 (_,_) (by omega) ⟨⟨by rw [Au.1,Bb],AG Au.2 Ah⟩,o⟩ rfl
 ·refine tt ?_
  have h1:=A9 h1;refine Al o rfl fun H o=>tt ?_;exact A6 (by have Ak : Bg c:=fun x hx=>Au.2 x (by omega); rw [cL Ak,Aw Ak,Au.1,show k=c.AO.toNat by omega]; rfl) o.sub
theorem WT (B : Nat) (c : Ay) (L : List (List (List Int))) : PB B 317 [.agg c.cells,Ft L] (iL (C4 c L)):=by
 refine ⟨fun H0=>c317.go fun ⟨_,hf,_⟩=>?_⟩
 have hl:=AM hf;simp only [AL] at hl;refine tt ?_;refine Ag iI (.nil _) fun id H o=>tt ?_;refine AD [1,2] (G:=Nat × List (Int)) (fun k g=>[(5,some (.buf g.1 g.2.length)),(6,some (.int .i64 (k : Int)))]) (fun k g H=>g.2=((List.range k).map (YO c L))∧AA H0 H [(g.1,.cells 1 (g.2.map iI) 0)]) L.length (id,[]) ⟨by simp,o⟩ rfl ?_
 rintro k ⟨id,out⟩ H hk ⟨Au,o⟩;dsimp only at Au;refine tt ?_;apply bk <;> intro h1
 ·have h1:=A7 h1
  have w1:=ws k;refine tt ?_;refine ⟨h1,_,(MZ ..).run,tt ?_⟩;refine ⟨_,(Gq ..).run,tt ?_⟩;refine Ad (YO c L k) o rfl rfl (by rw [Au]; simp [AL] <;> omega) fun id H o=>?_
  refine tw w1 ?_;exact A5 (_,_) (by omega) ⟨by rw [Au,Bb],o⟩ rfl
 ·refine tt ?_
  have h1:=A9 h1;refine Al o rfl fun H o=>tt ?_;exact A6 (by rw [Au,show k=L.length by omega]; rfl) o.sub
end Go.Proofs.Shf
namespace Go.AW
open Go.Proofs Go.Shf Go.Proofs.Shf
theorem AA.rc {H0 H : AB} {l : List (Nat × AF)} {id sz fr : Nat} {cs : List AV} (o : AA H0 H ((id,.cells sz cs fr)::l)) (n off : Nat) (h : off+n≤cs.length) : uZ (some n) off (H.get id)=some (.agg ((cs.drop off).take n)):=by
 have h0:=o.h0;simp only at h0;rw [h0,zJ,if_pos h]
end Go.AW
namespace Go.Proofs.Shf
open Go.AW Go.Proofs Go.Shf
theorem Vj (B : Nat) (c : Ay) (hs : c.Shape) (L : List (List (List Int))) (hL : (L.length : Int)=c.AO) : PB B 316 [.agg c.cells,Ft L] (.agg (c.cells++[iL (L.map fun l=>(l.length : Int)),BA (BC c L)])):=by
 refine ⟨fun H0=>xM.go fun ⟨_,hfL,_⟩=>?_⟩
 have hm:=hs.m
 have F3:=hs.o
 have IQ:=hs.HN;refine tt ?_;refine nb (.nil _) fun BJ H o=>tt ?_;refine (EX ..).go fun _=>tt ?_;refine nb o fun CP H o=>tt ?_;refine Ap o (by simp) rfl (by simp only [Bi,CR]; exact ⟨rfl,rfl,rfl,rfl,rfl,rfl,rfl,trivial⟩) fun H o=>?_;have o:=s2 o;refine tt ?_
 have Fc:=AM hfL;simp only [AL] at Fc
 refine AD [1,2,4,5] (fun k _=>[(6,some (.int .i64 (k : Int)))]) (fun k X H=>CZ iI H0 H ((CP,.cells 7 [iI c.AO,iL c.AJ,iL c.to,iL c.Av,BA c.comp,X,.A1] 0) ::
  [(BJ,.cells 7 [.int .i64 0,.A1,.A1,.A1,.A1,.A1,.A1] 0)]) X ((L.take k).map fun l=>(l.length : Int))) L.length .A1 (.inl ⟨rfl,rfl,o⟩) rfl ?_
 rintro k X H hk hX;refine tt ?_;apply bk <;> intro h1
 ·refine tt ?_
  have AR:=dd h1
  have w1:=ws k;refine Af hX.obj (by simp) (tt ?_);refine ⟨AR, ?_⟩;refine hX.app ((L.getD k default).length : Int) rfl (by rw [List.length_map,List.length_take]; simp only [AL]; omega) fun id H o=>tt ?_;refine Ap o.swap (by simp) rfl (by simp only [Bi,CR]; exact ⟨rfl,trivial⟩) fun H o=>?_;have o:=s2 o;refine tw w1 ?_;exact A5 _ (by omega) (.inr ⟨id,rfl,by rw [BW L _ AR]; exact o.swap⟩) rfl
 ·refine tt ?_
  have AR:=dd h1
  obtain rfl : k=L.length:=by omega
  rw [List.take_length] at hX;refine Ec 5 hX rfl fun H o=>AY ?_;have o:=s1 o;clear hX;refine tt ?_
  refine AD [1,2,4,5] (fun k _=>[(7,some (.int .i64 (k : Int)))]) (fun k Y H=>CZ iL H0 H ((CP,.cells 7 [iI c.AO,iL c.AJ,iL c.to,iL c.Av,BA c.comp,iL (L.map fun l=>(l.length : Int)),Y] 0) ::
   [(BJ,.cells 7 [.int .i64 0,.A1,.A1,.A1,.A1,.A1,.A1] 0)]) Y ((List.range k).map (KH c L))) c.AJ.length .A1 (.inl ⟨rfl,rfl,o⟩) rfl ?_
  rintro k Y H hk hY;refine tt ?_;apply bk <;> intro h2
  ·refine tt ?_
   have Ah:=dd h2
   have w1:=ws k
   have hf:=hs.QV Ah
   have ht:=hs.vJ Ah
   have Ya:=hs.il
   obtain ⟨p,o,hp⟩:=hY.split;clear hY;refine Ag iI o fun BQ H o=>tt ?_
   generalize hLf : L.getD (c.AJ.getD k default).toNat default=Lf at *
   have hLL : Lf.length≤AL:=by
    rw [← hLf]; exact AM (IA (i:=c.AJ.getD k default) hfL (by omega))
   simp only [AL] at hLL
   refine AD [1,2,4,5,7] (G:=Nat × List Int) (fun j g=>[(8,some (.buf g.1 g.2.length)),(9,some (.int .i64 (j : Int)))])
    (fun j g H=>g.2=((Lf.take j).map fun s=>indexOf (L.getD (c.to.getD k default).toNat default) (Dc c k s))∧AA H0 H ((g.1,.cells 1 (g.2.map iI) 0)::(p++[(CP,.cells 7 [iI c.AO,iL c.AJ,iL c.to,iL c.Av,BA c.comp,iL (L.map fun l=>(l.length : Int)),Y] 0),(BJ,.cells 7 [.int .i64 0,.A1,.A1,.A1,.A1,.A1,.A1] 0)]))) Lf.length (BQ,[]) ⟨by simp,o⟩ rfl ?_
   rintro j ⟨BQ,row⟩ H hj ⟨B3,o⟩;dsimp only at B3
   have Mc : row.length≤j:=by rw [B3]; simp; omega
   refine tt ?_;refine ⟨Ah,⟨hf.1,by omega⟩, ?_⟩
   have gQ : ix L (c.AJ.getD k default)=Lf:=by rw [← hLf]; rfl
   rw [gQ];refine tt ?_;apply bk <;> intro h3
   ·refine tt ?_
    have B8:=dd h3
    have w3:=ws j;refine ⟨by omega,⟨ht.1,by omega⟩,Ah,⟨hf.1,by omega⟩, ?_⟩;rw [gQ];refine ⟨B8,_,(W4 B c hs k ⟨by omega,by simpa using Ah⟩ _).run,tt ?_⟩;refine ⟨_,(Gq ..).run,tt ?_⟩;refine Ad _ o rfl rfl (by simp only [AL]; omega) fun BQ H o=>?_;refine tw w3 ?_;exact A5 (_,_) (by omega) ⟨by rw [BW Lf _ B8,B3]; rfl,o⟩ rfl
   ·refine tt ?_
    have B8:=dd h3;refine Al o rfl fun H o=>?_
    have hY:=CZ.mk o hp
    have hg:=hY.obj;refine tt ?_;refine Af hg (by simp) (tt ?_);refine hY.app row rfl (by simp only [AL]; simp; omega) fun id H o=>tt ?_;refine Ap o.swap (by simp) rfl (by simp only [Bi,CR]; exact ⟨rfl,trivial⟩) fun H o=>?_;have o:=s2 o;refine tw w1 ?_;refine A5 _ (by omega) (.inr ⟨id,rfl, ?_⟩) rfl
    have e : row=KH c L k:=by rw [B3,show j=Lf.length by omega,List.take_length,KH,hLf]
    rw [Bb,← e]; exact o.swap
  ·refine tt ?_
   have Ah:=dd h2
   obtain rfl : k=c.AJ.length:=by omega
   refine Ec 6 hY rfl fun H o=>AY ?_;have o:=s1 o;clear hY;refine tt ?_;refine Ac o (by simp) (tt ?_);refine Ap o.swap (by simp) rfl (by simp only [Bi,CR]; exact ⟨rfl,rfl,rfl,rfl,rfl,rfl,rfl,trivial⟩) fun H o=>?_;have o:=s2 o;refine tt ?_;rw [o.rc 7 0 (by simp)];refine tt ?_;exact A6 rfl o.sub
theorem Mv (B : Nat) (c : Ay) (L : List (List (List Int))) (t : Ds c L) (M : List (List Bool)) (hM : DU L M) (x s k : Nat) (hx : x<L.length) (hs : s<(L.getD x default).length) (hk : k<(L.getD x default).length) :
  PB B 318 [.agg (BE c L),vP M,.int .i64 x,.int .i64 s,.int .i64 k] (.bool (dec (QT c L M x s k))):=by
 refine ⟨fun H0=>zb.go fun _=>?_⟩
 have EZ:=t.sv hx hs
 have Md:=EZ.len
 have hm:=t.is.1.m
 have DS:=t.is.1.HN;refine tt ?_;refine ⟨hx,hs, ?_⟩
 generalize Kl : (L.getD x default).getD s default=cv at *;refine tt ?_;refine AD [1,4,5,11] (fun i _=>[(12,some (.int .i64 (i : Int)))]) (fun i _ H=>H=H0∧∀ j,j<i→mg M (ix c.to (cv.getD j default)) ((ix (BC c L) (cv.getD j default)).getD k default)=true) cv.length () ⟨rfl,by simp⟩ rfl ?_
 rintro i _ H hi ⟨rfl,Ak⟩;refine tt ?_;apply bk <;> intro h1
 ·refine tt ?_
  have AR:=dd h1
  have w1:=ws i
  have ha:=EZ.arr (AE.mpr ⟨i,AR,rfl⟩)
  have jx : k<(ix L (ix c.AJ (cv.getD i default))).length:=by rw [ha.2,AH]; exact hk
  have hp:=t.pull ha.1 jx
  have htt:=t.to ha.1
  have B3:=hM.row _ htt.2
  have Kn:=JY (c:=c) (L:=L)
  have sJ:=Ja (L:=L) ha.1
  have E6:=hM.len;refine ⟨AR,⟨ha.1.1,by omega⟩,⟨htt.1,by omega⟩,AR,⟨ha.1.1,by omega⟩,by omega,⟨hp.1.1, ?_⟩, ?_⟩
  ·have:=hp.1.2;simp only [ix] at this B3 ⊢;omega
  apply bk <;> intro h2
  ·refine tt ?_
   have Ah:=dd h2;refine A6 ?_ (.refl _);rw [Aa]
   intro h
   have:=h i (by rw [Kl]; exact AR);rw [Kl] at this;simp only [mg] at this;rw [this] at Ah; cases Ah
  ·refine tw w1 ?_
   have Ah:=dd h2;exact A5 () (by omega) ⟨rfl,AG Ak Ah⟩ rfl
 ·refine tt ?_
  have AR:=dd h1;refine A6 ?_ (.refl _);rw [Aw]
  intro i hi; rw [Kl] at hi ⊢; exact Ak i (by omega)
theorem BO {α : Type} [Inhabited α] (ms : List (Nat × List α)) {x : Nat} (hx : x<ms.length) : (ms.map Prod.snd).getD x default=(ms.getD x default).2:=by
 simp [gE,hx]
theorem W9 (B : Nat) (c : Ay) (L : List (List (List Int))) (t : Ds c L) (ms : List (Nat × List Bool)) (hM : DU L (ms.map Prod.snd)) (id : Nat) (H0 H : AB) (l : List (Nat × AF))
  (o : AA H0 H ((id,.cells 1 (ms.map CM) 0)::(inner AV.bool ms++l))) :
  CB B 296 [.agg (BE c L),.buf id ms.length] H (fun r H'=>r=.bool (dec (¬ ZK c L (ms.map Prod.snd)))∧H'=H0):=by
 refine nE.go fun _=>?_
 have hm:=t.is.1.m
 have DS:=t.is.1.HN
 have E6:=hM.len
 have hmM : (ms.map Prod.snd).length=ms.length:=List.length_map ..
 have nS:=Hg (c:=c) (L:=L)
 have Kn:=JY (c:=c) (L:=L)
 have hLo:=t.len
 have F3:=t.is.1.o
 have gM : ∀ x : Nat,x<ms.length→((ms.getD x default).2).length=(L.getD x default).length:=fun x hx=>by rw [← BO ms hx]; exact hM.row x (by omega)
 have mgM : ∀ (x : Nat) (k : Int),x<ms.length→mg (ms.map Prod.snd) x k=ix (ms.getD x default).2 k:=fun x k hx=>by rw [mg,AH,BO ms hx]
 have stop : ∀ {Hn : AB} {v : AV},H0.sub Hn→¬ ZK c L (ms.map Prod.snd)→v=.bool true→Ik (fun r H'=>r=.bool (dec (¬ ZK c L (ms.map Prod.snd)))∧H'=H0) v Hn:=by
  intro Hn v h1 h2 h3;exact A6 (by rw [h3,Aw h2]) h1
 refine tt ?_;refine AD [1,2] (fun x _=>[(5,some (.int .i64 (x : Int)))]) (fun x _ H'=>H'=H∧∀ y,y<x→ZJ c L (ms.map Prod.snd) y) ms.length () ⟨rfl,by simp⟩ rfl ?_
 rintro x _ H' Rc ⟨rfl,Ak⟩;refine tt ?_;apply bk <;> intro h1
 rotate_left
 ·refine tt ?_
  have AR:=dd h1;refine A6 ?_ o.sub;rw [Aa]; intro h; exact h fun y hy=>Ak y (by omega)
 refine tt ?_
 have AR:=dd h1
 have w1:=ws x
 have Gm:=t.top (x:=x) (by omega)
 have B3:=gM x AR
 have Bc:=t.Yh x (by omega)
 have mC:=o.FF AR;refine ⟨AR,BU o AR ?_⟩;refine tt ?_;refine ⟨by omega,⟨Gm.1.1,by omega⟩,Bo mC (by omega) ?_⟩;refine tt ?_;apply bk <;> intro h2
 ·refine tw h2 ?_
  have Ah:=dd h2;refine ⟨AR,BU o AR ?_⟩;refine tt ?_;refine ⟨by omega,⟨Gm.1.1,by omega⟩, ?_⟩;rw [mC,Mk];refine ⟨⟨by omega,by rw [List.length_map]; omega,rfl,by simp [AV.one]⟩,tt ?_⟩;refine stop ?_ ?_ rfl
  ·exact o.MJ AR _
  ·intro h; have:=(h x (by omega)).1; rw [mgM _ _ AR,ix] at this; rw [this] at Ah; cases Ah
 refine tw h2 ?_
 have Ah:=dd h2
 have hxt : mg (ms.map Prod.snd) x ((C4 c L).getD x default)=true:=by rw [mgM _ _ AR]; exact Ah
 refine AD [1,2,5] (fun s _=>[(6,some (.int .i64 (s : Int)))]) (fun s _ H2=>H2=H'∧∀ y,y<s→SOk c L (ms.map Prod.snd) x y) (ms.getD x default).2.length () ⟨rfl,by simp⟩ rfl ?_
 rintro s _ H2 Fg ⟨rfl,Q4⟩;refine tt ?_;refine ⟨AR,BU o AR ?_⟩;refine tt ?_;apply bk <;> intro h3
 rotate_left
 ·refine tw w1 ?_
  have B8:=dd h3;exact A5 () AR ⟨rfl,AG Ak ⟨hxt,fun y hy=>Q4 y (by rw [BO ms AR] at hy; omega)⟩⟩ rfl
 refine tt ?_
 have B8:=dd h3
 have w3:=ws s;refine ⟨AR,BU o AR ?_⟩;refine tt ?_;refine ⟨B8,Bo mC B8 ?_⟩;refine tt ?_;apply bk <;> intro h4
 ·refine t2 h4 w3 ?_
  have Cr:=dd h4;exact A5 () B8 ⟨rfl,AG Q4 fun e=>by rw [BO ms AR,Cr] at e; cases e⟩ rfl
 refine tw h4 ?_
 have Cr:=dd h4;refine AD [1,2,5,6] (fun a _=>[(7,some (.int .i64 (a : Int)))]) (fun a _ H3=>H3=H2∧∀ y,y<a→xO c L (ms.map Prod.snd) x s y) c.AJ.length () ⟨rfl,by simp⟩ rfl ?_
 rintro a _ H3 Np ⟨rfl,Q6⟩;refine tt ?_;rw [Kn];refine tt ?_;apply bk <;> intro h5
 ·refine tt ?_
  have Ho:=dd h5
  have w5:=ws a
  have Ge : 0≤(a : Int)∧(a : Int).toNat<c.AJ.length:=⟨by omega,by simpa using Ho⟩;refine ⟨Ho, ?_⟩;apply bk <;> intro h6
  rotate_left
  ·refine t2 h6 w5 ?_
   have Ln:=dd h6;exact A5 () Ho ⟨rfl,AG Q6 fun e=>absurd e Ln⟩ rfl
  refine tw h6 ?_
  have Ln:=dd h6
  have DS:=t.to Ge;simp only [AH,HU] at DS
  have sJ:=Ja (L:=L) Ge;simp only [AH] at sJ
  have iX : s<(ix L (ix c.AJ a)).length:=by rw [AH,Ln,AH,← B3]; exact B8
  have hp:=(t.pull Ge iX).1;simp only [AH] at hp
  have hy : (c.to.getD a default).toNat<ms.length:=by omega
  have vq:=o.FF hy
  have ko:=gM _ hy
  have gQ : ix ms (c.to.getD a default)=ms.getD (c.to.getD a default).toNat default:=rfl
  have tJ : ix L (c.to.getD a default)=L.getD (c.to.getD a default).toNat default:=rfl;simp only [AH] at iX;rw [tJ] at hp;refine ⟨by omega,⟨DS.1,hy⟩,BU o hy ?_⟩;refine tt ?_;refine ⟨by omega,by omega,⟨hp.1,by omega⟩,Bo vq (by omega) ?_⟩;refine tt ?_
  have wE : mg (ms.map Prod.snd) (c.to.getD a default) (((BC c L).getD a default).getD s default)=(ms.getD (c.to.getD a default).toNat default).2.getD (((BC c L).getD a default).getD s default).toNat default:=by
   have:=mgM (c.to.getD a default).toNat (((BC c L).getD a default).getD s default) hy;rw [Int.toNat_of_nonneg DS.1] at this;rw [this]; rfl
  apply bk <;> intro h7
  ·refine tw h7 ?_
   have Vb:=dd h7;refine ⟨by omega,⟨DS.1,hy⟩,BU o hy ?_⟩;refine tt ?_;refine ⟨by omega,by omega,⟨hp.1,by omega⟩, ?_⟩;rw [vq,Mk];refine ⟨⟨by omega,by rw [List.length_map]; omega,rfl,by simp [AV.one]⟩,tt ?_⟩;refine stop (o.MJ hy _) (fun h=>?_) rfl
   have:=((h x (by omega)).2 s (by rw [BO ms AR]; omega) (by rw [BO ms AR]; exact Cr)).1 a Ho Ln;rw [wE,Vb] at this; cases this
  ·refine t2 h7 w5 ?_
   have Vb:=dd h7;exact A5 () Ho ⟨rfl,AG Q6 fun _=>by rw [wE]; exact Vb⟩ rfl
 ·refine tt ?_
  have Ho:=dd h5
  have ha0 : ∀ y,y<c.AJ.length→xO c L (ms.map Prod.snd) x s y:=fun y hy=>Q6 y (by omega);refine AD [1,2,5,6] (fun k _=>[(8,some (.int .i64 (k : Int)))]) (fun k _ H4=>H4=H3∧∀ y,y<k→KOk c L (ms.map Prod.snd) x s y) (ms.getD x default).2.length () ⟨rfl,by simp⟩ rfl ?_
  rintro k _ H4 Me ⟨rfl,Pv⟩;refine tt ?_;refine ⟨AR,BU o AR ?_⟩;refine tt ?_;apply bk <;> intro h8
  ·refine tt ?_
   have VL:=dd h8
   have w8:=ws k;refine ⟨AR,BU o AR ?_⟩;refine tt ?_;refine ⟨VL,Bo mC VL ?_⟩;refine tt ?_;apply bk <;> intro h9
   ·refine tw h9 ?_
    have wJ:=dd h9
    refine B7.FV (r:=.bool (dec (QT c L (ms.map Prod.snd) x s k))) (es:=[.agg (BE c L),vP (ms.map Prod.snd),.int .i64 x,.int .i64 s,.int .i64 k]) (.bool _) rfl (fun i hi=>?_)
     (Mv B c L t (ms.map Prod.snd) hM x s k (by omega) (by omega) (by omega)).run ?_
    ·obtain rfl | rfl | rfl | rfl | rfl : i=0∨i=1∨i=2∨i=3∨i=4:=by simp only [List.length_cons,List.length_nil] at hi; omega
     ·exact DA _
     ·exact Qz o rfl
     ·exact DA _
     ·exact DA _
     ·exact DA _
    refine tt ?_;apply bk <;> intro Yi
    ·refine tt ?_
     have aF:=dd Yi;refine ⟨AR,BU o AR ?_⟩;refine tt ?_;refine ⟨VL, ?_⟩;rw [mC,Mk];refine ⟨⟨by omega,by rw [List.length_map]; omega,rfl,by simp [AV.one]⟩,tt ?_⟩;refine stop (o.MJ AR _) (fun h=>?_) rfl
     have:=((h x (by omega)).2 s (by rw [BO ms AR]; omega) (by rw [BO ms AR]; exact Cr)).2 k (by rw [BO ms AR]; omega)
     rcases this with h | h
     ·rw [BO ms AR,wJ] at h; cases h
     ·exact h aF
    ·refine tw w8 ?_
     have aF:=dd Yi;exact A5 () VL ⟨rfl,AG Pv (.inr aF)⟩ rfl
   ·refine t2 h9 w8 ?_
    have wJ:=dd h9;exact A5 () VL ⟨rfl,AG Pv (.inl (by rw [BO ms AR]; exact wJ))⟩ rfl
  ·refine tw w3 ?_
   have VL:=dd h8;exact A5 () B8 ⟨rfl,AG Q4 fun _=>⟨ha0,fun y hy=>Pv y (by rw [BO ms AR] at hy; omega)⟩⟩ rfl
end Go.Proofs.Shf
