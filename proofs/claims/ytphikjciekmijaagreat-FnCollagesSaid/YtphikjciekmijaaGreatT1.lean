/- Contracts of functions over abstract values, part 1. -/
import Derived.Test.YtphikjciekmijaaGreatS4
import Derived.Test.YtphikjciekmijaaGreatV
import Derived.Test.YtphikjciekmijaaGreatX
set_option linter.unusedVariables false
set_option linter.unusedSimpArgs false
set_option linter.unusedSectionVars false
set_option maxRecDepth 100000
open Nat (reduceEqDiff reduceAdd reduceMul reduceLeDiff reduceLT)
namespace Go.Proofs.Shf
open Go.AW
theorem pC {l r : Ob} (h : ∀ x,@List.count _ (@instBEqOfDecidableEq _ (Classical.typeDecidableEq _)) x l=@List.count _ (@instBEqOfDecidableEq _ (Classical.typeDecidableEq _)) x r) : l.Perm r:=by
 letI : DecidableEq (Nat × AG):=Classical.typeDecidableEq _
 exact List.perm_iff_count.mpr h
end Go.Proofs.Shf
namespace Go.AW
theorem tt {P Q : Prop} (h : Q) (e : P=Q:=by (try simp only [go_sem,↓reduceIte,Nat.reduceEqDiff,Nat.reduceAdd,Nat.reduceMul,Nat.reduceLeDiff,Nat.reduceLT]); exact rfl) : P:=Eq.mpr e h
theorem tw {A P Q : Prop} (w : A) (h : Q) (e : A→P=Q:=by intro w; (try simp only [go_sem,↓reduceIte,Nat.reduceEqDiff,Nat.reduceAdd,Nat.reduceMul,Nat.reduceLeDiff,Nat.reduceLT,w]); exact rfl) : P:=Eq.mpr (e w) h
theorem ta {P Q : Prop} (h : Q) (e : P=Q:=by (try simp only [go_sem,↓reduceIte,Nat.reduceEqDiff,Nat.reduceAdd,Nat.reduceMul,Nat.reduceLeDiff,Nat.reduceLT, *]); exact rfl) : P:=Eq.mpr e h
theorem dTr {p : Decidable True} : @decide True p=true:=@decide_eq_true True p trivial
theorem td {P Q : Prop} (h : Q) (e : P=Q:=by (try simp only [go_sem,↓reduceIte,Nat.reduceEqDiff,Nat.reduceAdd,Nat.reduceMul,Nat.reduceLeDiff,Nat.reduceLT,dTr]); exact rfl) : P:=Eq.mpr e h
theorem bk {σ : Env} {H : AA} {c : Bool} {P Q : Env→AA→Prop} (h1 : c=true→P σ H) (h2 : c=false→Q σ H) : Br c (At P σ H) (At Q σ H):=⟨fun e=>At.mk (h1 e),fun e=>At.mk (h2 e)⟩
theorem bn {σ : Env} {H : AA} {c : Bool} {P Q : Env→AA→Prop} (h1 : c=false→P σ H) (h2 : c=true→Q σ H) : Bn c (At P σ H) (At Q σ H):=⟨fun e=>At.mk (h1 e),fun e=>At.mk (h2 e)⟩
theorem dd {P Q : Prop} (h : P) (e : P=Q:=by (try simp only [bnt,bnf,decide_eq_true_eq,decide_eq_false_iff_not,ni,lg,Int.not_lt,Int.not_le,Nat.not_lt,Decidable.not_not,ne_eq,Bool.true_eq_false,Bool.false_eq_true]); exact rfl) : Q:=Eq.mp e h
theorem A9.pm {H0 H : AA} {l l' : Ob} (o : A9 H0 H l) (e : ∀ x,@List.count _ (@instBEqOfDecidableEq _ (Classical.typeDecidableEq _)) x l=@List.count _ (@instBEqOfDecidableEq _ (Classical.typeDecidableEq _)) x l':=by intro x; (try dsimp only); simp only [List.append_eq,List.count_append,List.count_cons,List.count_nil,List.map_nil,List.length_nil,List.length_append,List.length_cons,List.length_set,Nat.zero_add,List.nil_append,iI,iL]; omega) : A9 H0 H l':=o.perm (Go.Proofs.Shf.pC e)
theorem sw {H0 H : AA} {l : Ob} {K : Ak} {id sz off n : Nat} {cs vs cs' : List AV} (o : A9 H0 H ((id,.cells sz cs 0)::l)) (hk : ∀ H',A9 H0 H' ((id,.cells sz cs' 0)::l)→K nv H')
 (e : wr cs off vs=cs':=by simp only [Ej,Gv,List.set_cons_zero,List.set_cons_succ]; exact rfl) (h1 : off+n≤cs.length:=by simp) (h2 : vs.length=n:=by (try simp only [go_sem]); (try simp))
 (h3 : ∀ c,c∈vs→c.one=true:=by first | (simp only [go_sem]; done) | ((try simp only [go_sem]); simp [AV.one,Ay])) : Ka (H.get id) id off n vs K H:=AS o h1 h2 h3 fun H' o=>hk H' (e ▸ o)
theorem nb {A : Prop} {H0 H : AA} {l : Ob} {K : Ak} {sz : Nat} {cs : List AV} (o : A9 H0 H l) (hk : ∀ id H',A9 H0 H' ((id,.cells sz cs 0)::l)→K (.ref id 0) H') (h : A:=by first | trivial | simp [AN]) : A∧G5 sz cs K H:=⟨h,Ai o hk⟩
end Go.AW
namespace Go.Proofs.Shf
open Go.AW
abbrev PB:=@RC Go.Proofs.Tryz.prog
abbrev CB:=@B9 Go.Proofs.Tryz.prog
end Go.Proofs.Shf
namespace Go.AW
theorem ws (k : Nat) (h : k<1125899906842624:=by omega) : IntKind.i64.wrap ((k : Int)+1)=((k+1 : Nat) : Int):=Oi h
theorem s1 {H0 H : AA} {l l' : Ob} (o : A9 H0 H l) (e : l=l':=by simp only [List.set_cons_zero,List.set_cons_succ];exact rfl) : A9 H0 H l':=e▸o
theorem s2 {H0 H : AA} {l l' : Ob} (o : A9 H0 H l) (e : l=l':=by simp only [Ej,Gv,List.set_cons_zero,List.set_cons_succ];exact rfl) : A9 H0 H l':=e▸o
theorem t2 {A B P Q : Prop} (a : A) (b : B) (h : Q) (e : A→B→P=Q:=by intro a b;(try simp only [go_sem,↓reduceIte,reduceEqDiff,reduceAdd,reduceMul,reduceLeDiff,reduceLT,a,b]);exact rfl) : P:=Eq.mpr (e a b) h
theorem tn {P Q : Prop} (h : Q) (e : P=Q:=by (try simp only [go_sem,↓reduceIte,reduceEqDiff,reduceAdd,reduceMul,reduceLeDiff,reduceLT,Bool.not_false,Bool.not_true]);exact rfl) : P:=Eq.mpr e h
end Go.AW
namespace Go.Proofs.Shf
open Go.AW Go.Proofs
theorem Jb (B : Nat) (n lo hi : Int) : PB B 113 [.int .i64 n,.int .i64 lo,.int .i64 hi] (.bool (dec (lo≤n∧n≤hi))):=by
 refine ⟨fun H=>nm.go fun _=>?_⟩;refine ta ?_;apply bk <;> intro h1
 all_goals (try simp only [go_sem,↓reduceIte,reduceEqDiff,reduceAdd,reduceMul,reduceLeDiff,reduceLT, *])
 ·exact A5 (by rw [← BK]; simp at h1; simp [h1]) (.refl _)
 ·exact A5 (by rw [← BK]; simp at h1; simp; omega) (.refl _)
theorem Ri (B : Nat) (n lo hi : Int) : PB B 251 [.int .i64 n,.int .i64 lo,.int .i64 hi] (.bool (dec (lo≤n∧n≤hi))):=by
 refine ⟨fun H=>vw.go fun _=>?_⟩;refine ta ?_;apply bk <;> intro h1
 all_goals (try simp only [go_sem,↓reduceIte,reduceEqDiff,reduceAdd,reduceMul,reduceLeDiff,reduceLT, *])
 ·exact A5 (by rw [← BK]; simp at h1; simp [h1]) (.refl _)
 ·exact A5 (by rw [← BK]; simp at h1; simp; omega) (.refl _)
theorem E4 (B : Nat) (l : List Int) (n : Int) (hn : -9223372036854775808<n∧n≤9223372036854775807): PB B 194 [iL l,.int .i64 n] (.bool (dec (∀ y,y∈l→0≤y∧y<n))):=by
 refine ⟨fun H0=>tp.go fun ⟨hf,_⟩=>?_⟩
 have hl:=AZ hf;simp only [AN] at hl
 have w : IntKind.i64.wrap (n - 1)=n - 1:=wrap_i64 (by omega) (by omega);refine ta ?_;refine AD [1,7,8] (fun k _=>[(9,some (.int .i64 (k : Int)))]) (fun k _ H=>H=H0∧∀ i,i<k→0≤l.getD i default∧l.getD i default<n) l.length () ⟨rfl,by simp⟩ rfl ?_
 rintro k _ H hk ⟨rfl,Au⟩;refine ta ?_;apply bk <;> intro h1
 ·have h1:=A6 h1
  have w1:=ws k;refine ta ?_;refine (Jb ..).go fun _=>?_;refine ta ?_;apply bk <;> intro h2
  ·refine ta ?_
   have Aq:=dd h2;refine A5 ?_ (.refl _);rw [Ad]; intro h
   have:=h _ (AE.mpr ⟨k,h1,rfl⟩);omega
  ·refine ta ?_
   have Aq:=dd h2;exact A4 () (by omega) ⟨rfl,AM Au (by omega)⟩ rfl
 ·refine ta ?_
  have h1:=A7 h1;exact A5 (by rw [Av]; exact IB.mpr fun i hi=>Au i (by omega)) (.refl _)
theorem Ep (B : Nat) (l : List Int) (n : Int) : PB B 238 [.int .i64 n,iL l] (.bool (dec (∀ y,y∈l→0≤y∧y<n))):=by
 refine ⟨fun H0=>mj.go fun ⟨_,hf,_⟩=>?_⟩
 have hl:=AZ hf;simp only [AN] at hl;refine ta ?_;refine AD [0,1] (fun k _=>[(5,some (.int .i64 (k : Int)))]) (fun k _ H=>H=H0∧∀ i,i<k→0≤l.getD i default∧l.getD i default<n) l.length () ⟨rfl,by simp⟩ rfl ?_
 rintro k _ H hk ⟨rfl,Au⟩;refine ta ?_;apply bk <;> intro h1
 ·have h1:=A6 h1
  have w1:=ws k;refine ta ?_
  have hn : l.getD k default<0∨n≤l.getD k default→¬ ∀ y,y∈l→0≤y∧y<n:=fun hc h=>by
   have:=h _ (AE.mpr ⟨k,h1,rfl⟩); omega
  apply bn <;> intro h2
  ·refine ta ?_;apply bk <;> intro h3
   ·refine ta ?_
    have BH:=dd h3;exact A5 (by rw [Ad (hn (.inr BH))]) (.refl _)
   ·refine ta ?_
    have Aq:=dd h2
    have BH:=dd h3;exact A4 () (by omega) ⟨rfl,AM Au (by omega)⟩ rfl
  ·refine ta ?_
   have Aq:=dd h2;exact A5 (by rw [Ad (hn (.inl Aq))]) (.refl _)
 ·refine ta ?_
  have h1:=A7 h1;exact A5 (by rw [Av]; exact IB.mpr fun i hi=>Au i (by omega)) (.refl _)
theorem Ys (B : Nat) (l : List Int) (n : Int) : PB B 220 [iL l,.int .i64 n] (.bool (dec (n∈l))):=by
 refine ⟨fun H0=>pq.go fun ⟨hf,_⟩=>?_⟩
 have hl:=AZ hf;simp only [AN] at hl;refine ta ?_;refine AD [1,7,8] (fun k _=>[(9,some (.int .i64 (k : Int)))]) (fun k _ H=>H=H0∧∀ i,i<k→l.getD i default≠n) l.length () ⟨rfl,by simp⟩ rfl ?_
 rintro k _ H hk ⟨rfl,Au⟩;refine ta ?_;apply bk <;> intro h1
 ·have h1:=A6 h1
  have w1:=ws k;refine ta ?_;apply bk <;> intro h2
  ·refine ta ?_;exact A5 (by rw [Av]; exact AE.mpr ⟨k,h1,A6 h2⟩) (.refl _)
  ·refine ta ?_;exact A4 () h1 ⟨rfl,AM Au (A7 h2)⟩ rfl
 ·refine ta ?_
  have h1:=A7 h1;exact A5 (by rw [Ad]; intro h; obtain ⟨i,hi,e⟩:=AE.mp h; exact Au i (by omega) e) (.refl _)
theorem Hf (B : Nat) (l : List Int) (n : Int) : PB B 289 [iL l,.int .i64 n] (.int .i64 (indexOf l n)):=by
 refine ⟨fun H0=>pj.go fun ⟨hf,_⟩=>?_⟩
 have hl:=AZ hf;simp only [AN] at hl;refine ta ?_;refine AD [0,1] (fun k _=>[(5,some (.int .i64 (k : Int)))]) (fun k _ H=>H=H0∧∀ i,i<k→l.getD i default≠n) l.length () ⟨rfl,by simp⟩ rfl ?_
 rintro k _ H hk ⟨rfl,Au⟩;refine ta ?_;apply bk <;> intro h1
 ·have h1:=A6 h1
  have w1:=ws k;refine ta ?_;apply bk <;> intro h2
  ·refine ta ?_;exact A5 (by rw [Db h1 Au (A6 h2)]) (.refl _)
  ·refine ta ?_;exact A4 () h1 ⟨rfl,AM Au (A7 h2)⟩ rfl
 ·refine ta ?_
  have h1:=A7 h1;exact A5 (by rw [Dk fun i hi=>Au i (by omega)]) (.refl _)
theorem Ub (B : Nat) (l : List Int) (n : Int) : PB B 222 [iL l,.int .i64 n] (.int .i64 (indexOf l n)):=by
 refine ⟨fun H0=>tx.go fun ⟨hf,_⟩=>?_⟩
 have hl:=AZ hf;simp only [AN] at hl;refine ta ?_;refine AD [0,1,7] (fun k _=>[(8,some (.int .i64 (k : Int)))]) (fun k _ H=>H=H0∧∀ i,i<k→l.getD i default≠n) l.length () ⟨rfl,by simp⟩ rfl ?_
 rintro k _ H hk ⟨rfl,Au⟩;refine ta ?_;apply bk <;> intro h1
 ·have h1:=A6 h1
  have w1:=ws k;refine ta ?_;apply bk <;> intro h2
  ·refine ta ?_;exact A5 (by rw [Db h1 Au (A6 h2).symm]) (.refl _)
  ·refine ta ?_;exact A4 () h1 ⟨rfl,AM Au fun e=>A7 h2 e.symm⟩ rfl
 ·refine ta ?_
  have h1:=A7 h1;exact A5 (by rw [Dk fun i hi=>Au i (by omega)]) (.refl _)
theorem RY (B : Nat) (l : List Int) (n : Int) : PB B 124 [iL l,.int .i64 n] (.int .i64 (indexOf l n)):=by
 refine ⟨fun H0=>jx.go fun ⟨hf,_⟩=>?_⟩;refine ta ?_;refine (Ub ..).go fun _=>?_
 have hl:=AZ hf;simp only [AN] at hl
 have hb:=FI l n
 have w : IntKind.i64.wrap (indexOf l n)=indexOf l n:=wrap_i64 (by omega) (by omega);refine ta ?_;exact A5 rfl (.refl _)
theorem GQ (B : Nat) (l : List Int) : PB B 73 [iL l] (iL l):=by
 refine ⟨fun H0=>c73.go fun ⟨hf,_⟩=>?_⟩
 have hl:=AZ hf;refine ta ?_;refine Az iI (.nil _) fun id H o=>?_;refine ta ?_;refine Hh o rfl (by simpa using hl) fun id H o=>?_;refine ta ?_;refine Am o rfl fun H o=>?_;refine ta ?_;exact A5 (by simp) o.sub
theorem CX (B : Nat) (l : List Int) : PB B 168 [iL l] (iL l):=by
 refine ⟨fun H0=>tk.go fun ⟨hf,_⟩=>?_⟩
 have hl:=AZ hf;refine ta ?_;refine Az iI (.nil _) fun id H o=>?_;refine ta ?_;refine Hh o rfl (by simpa using hl) fun id H o=>?_;refine ta ?_;refine Am o rfl fun H o=>?_;refine ta ?_;exact A5 (by simp) o.sub
end Go.Proofs.Shf
namespace Go.Proofs.Shf
open Go.AW Go.Proofs Go.Shf
theorem Uu (B : Nat) (a b : List Int) : PB B 253 [iL a,iL b] (.int .i64 (cmp a b)):=by
 refine ⟨fun H0=>pa.go fun ⟨hf,hg,_⟩=>?_⟩
 have hl:=AZ hf
 have Ce:=AZ hg;simp only [AN] at hl Ce;refine tt ?_;refine AD [0,1,7] (fun k _=>[(8,some (.int .i64 (k : Int)))]) (fun k _ H=>H=H0∧k≤b.length∧cmp a b=cmp (a.drop k) (b.drop k)) a.length () ⟨rfl,by simp,by simp⟩ rfl ?_
 rintro k _ H hk ⟨rfl,hkb,hc⟩;refine tt ?_;apply bk <;> intro h1
 ·have h1:=A6 h1
  have w1:=ws k
  have da:=drop_cons a h1;rw [da] at hc;refine tt ?_;apply bk <;> intro h2
  ·refine tt ?_
   have h2:=A6 h2;refine A5 ?_ (.refl _);rw [hc,List.drop_of_length_le (show b.length≤k by omega)]; rfl
  ·have h2:=A7 h2
   have h3 : k<b.length:=by omega
   have db:=drop_cons b h3;rw [db] at hc;refine tt ?_;refine ⟨h1,h3,tt ?_⟩;apply bk <;> intro h4
   ·have D9 : a.getD k default≠b.getD k default:=by simpa using h4
    refine tt ?_;refine ⟨h1,h3,tt ?_⟩;apply bk <;> intro h5
    ·refine tt ?_
     have h5:=A6 h5;refine A5 ?_ (.refl _);rw [hc,cmp,if_neg D9,if_pos h5]
    ·refine tt ?_
     have h5:=A7 h5;refine A5 ?_ (.refl _);rw [hc,cmp,if_neg D9,if_neg h5]
   ·have D9 : a.getD k default=b.getD k default:=by simpa using h4
    refine tw w1 ?_;refine A4 () (by omega) ⟨rfl,by omega, ?_⟩ rfl;rw [hc,cmp,if_pos D9]
 ·refine tt ?_
  have h1:=A7 h1;rw [List.drop_of_length_le (by omega)] at hc;apply bk <;> intro h2
  ·refine tt ?_
   have h2:=A6 h2;refine A5 ?_ (.refl _);rw [hc,drop_cons b (by omega)]; rfl
  ·refine tt ?_
   have h2:=A7 h2;refine A5 ?_ (.refl _);rw [hc,List.drop_of_length_le (by omega)]; rfl
theorem Fi (B : Nat) (a b : List Int) : PB B 174 [iL a,iL b] (.bool (dec (a=b))):=by
 refine ⟨fun H0=>nw.go fun _=>?_⟩;refine ta ?_;refine (Uu ..).go fun _=>?_;refine ta ?_;exact A5 (by rw [BK,BJ Hg]) (.refl _)
theorem D7 (B : Nat) (a b : List Int) : PB B 199 [iL a,iL b] (.bool (dec (a=b))):=by
 refine ⟨fun H0=>vr.go fun ⟨hf,hg,_⟩=>?_⟩
 have hl:=AZ hf
 have Ce:=AZ hg;simp only [AN] at hl Ce;refine tt ?_;apply bk <;> intro h0
 ·refine tt ?_
  have MG : a.length≠b.length:=by simpa using h0
  exact A5 (by rw [Ad]; rintro rfl; exact MG rfl) (.refl _)
 have MG : a.length=b.length:=by simpa using h0
 refine tt ?_;refine AD [0,1] (fun k _=>[(5,some (.int .i64 (k : Int)))]) (fun k _ H=>H=H0∧∀ i,i<k→a.getD i default=b.getD i default) a.length () ⟨rfl,by simp⟩ rfl ?_
 rintro k _ H hk ⟨rfl,Au⟩;refine tt ?_;apply bk <;> intro h1
 ·have h1:=A6 h1
  have w1:=ws k;refine tt ?_;refine ⟨h1,by omega,tt ?_⟩;apply bk <;> intro h2
  ·refine tt ?_
   have Aq : a.getD k default≠b.getD k default:=by simpa using h2
   exact A5 (by rw [Ad]; rintro rfl; exact Aq rfl) (.refl _)
  ·refine tw w1 ?_
   have Aq : a.getD k default=b.getD k default:=by simpa using h2
   exact A4 () (by omega) ⟨rfl,AM Au Aq⟩ rfl
 ·refine tt ?_
  have h1:=A7 h1;refine A5 ?_ (.refl _);rw [Av];refine List.ext_getElem MG fun i hi hj=>?_
  have:=Au i (by omega)
  simpa [Go.AW.gE,hi,hj] using this
theorem LG (B : Nat) (a b : List (List Int)) : PB B 200 [B5 a,B5 b] (.bool (dec (a=b))):=by
 refine ⟨fun H0=>tu.go fun ⟨hf,hg,_⟩=>?_⟩
 have hl:=AZ hf
 have Ce:=AZ hg;simp only [AN] at hl Ce;refine tt ?_;apply bk <;> intro h0
 ·refine tt ?_
  have MG : a.length≠b.length:=by simpa using h0
  exact A5 (by rw [Ad]; rintro rfl; exact MG rfl) (.refl _)
 have MG : a.length=b.length:=by simpa using h0
 refine tt ?_;refine AD [0,1] (fun k _=>[(5,some (.int .i64 (k : Int)))]) (fun k _ H=>H=H0∧∀ i,i<k→a.getD i default=b.getD i default) a.length () ⟨rfl,by simp⟩ rfl ?_
 rintro k _ H hk ⟨rfl,Au⟩;refine tt ?_;apply bk <;> intro h1
 ·have h1:=A6 h1
  have w1:=ws k;refine tt ?_;refine ⟨h1,by omega,_,(D7 ..).run,tt ?_⟩;apply bk <;> intro h2
  ·refine tt ?_
   have Aq:=dd h2;exact A5 (by rw [Ad]; rintro rfl; exact Aq rfl) (.refl _)
  ·refine tw w1 ?_
   have Aq:=dd h2;exact A4 () (by omega) ⟨rfl,AM Au Aq⟩ rfl
 ·refine tt ?_
  have h1:=A7 h1;refine A5 ?_ (.refl _);rw [Av];refine List.ext_getElem MG fun i hi hj=>?_
  have:=Au i (by omega)
  simpa [Go.AW.gE,hi,hj] using this
theorem F8 (B : Nat) (l : List (List Int)) (x : List Int) : PB B 97 [B5 l,iL x] (.int .i64 (indexOf l x)):=by
 refine ⟨fun H0=>c97.go fun ⟨hf,_⟩=>?_⟩
 have hl:=AZ hf;simp only [AN] at hl;refine tt ?_;refine AD [0,1] (fun k _=>[(5,some (.int .i64 (k : Int)))]) (fun k _ H=>H=H0∧∀ i,i<k→l.getD i default≠x) l.length () ⟨rfl,by simp⟩ rfl ?_
 rintro k _ H hk ⟨rfl,Au⟩;refine tt ?_;apply bk <;> intro h1
 ·have h1:=A6 h1
  have w1:=ws k;refine tt ?_;refine ⟨h1,(D7 ..).go fun _=>?_⟩;refine tt ?_;apply bk <;> intro h2
  ·refine tt ?_
   have Aq:=dd h2;exact A5 (by rw [Db h1 Au Aq]) (.refl _)
  ·refine tw w1 ?_
   have Aq:=dd h2;exact A4 () (by omega) ⟨rfl,AM Au Aq⟩ rfl
 ·refine tt ?_
  have h1:=A7 h1;exact A5 (by rw [Dk fun i hi=>Au i (by omega)]) (.refl _)
theorem Sv (B : Nat) (l : List (List Int)) (x : List Int) : PB B 268 [B5 l,iL x] (.int .i64 (indexOf l x)):=by
 refine ⟨fun H0=>jy.go fun ⟨hf,_⟩=>?_⟩
 have hl:=AZ hf;simp only [AN] at hl;refine tt ?_;refine AD [0,1] (fun k _=>[(5,some (.int .i64 (k : Int)))]) (fun k _ H=>H=H0∧∀ i,i<k→l.getD i default≠x) l.length () ⟨rfl,by simp⟩ rfl ?_
 rintro k _ H hk ⟨rfl,Au⟩;refine tt ?_;apply bk <;> intro h1
 ·have h1:=A6 h1
  have w1:=ws k;refine tt ?_;refine ⟨h1,(D7 ..).go fun _=>?_⟩;refine tt ?_;apply bk <;> intro h2
  ·refine tt ?_
   have Aq:=dd h2;exact A5 (by rw [Db h1 Au Aq]) (.refl _)
  ·refine tw w1 ?_
   have Aq:=dd h2;exact A4 () (by omega) ⟨rfl,AM Au Aq⟩ rfl
 ·refine tt ?_
  have h1:=A7 h1;exact A5 (by rw [Dk fun i hi=>Au i (by omega)]) (.refl _)
theorem Tg (B : Nat) (a b : List Int) : PB B 305 [iL a,iL b] (.bool (dec (cmp a b<0))):=by
 refine ⟨fun H0=>ve.go fun ⟨hf,hg,_⟩=>?_⟩
 have hl:=AZ hf
 have Ce:=AZ hg;simp only [AN] at hl Ce;refine tt ?_;refine AD [0,1] (fun k _=>[(5,some (.int .i64 (k : Int)))]) (fun k _ H=>H=H0∧k≤b.length∧cmp a b=cmp (a.drop k) (b.drop k)) a.length () ⟨rfl,by simp,by simp⟩ rfl ?_
 rintro k _ H hk ⟨rfl,hkb,hc⟩;refine tt ?_;apply bk <;> intro h1
 ·have AU:=A6 h1
  have w1:=ws k;refine tw h1 ?_;apply bk <;> intro h2
  ·have h2:=A6 h2;refine tt ?_;refine ⟨AU,h2, ?_⟩;rw [drop_cons a AU,drop_cons b h2] at hc;refine tt ?_;apply bk <;> intro h4
   ·have D9 : a.getD k default≠b.getD k default:=by simpa using h4
    refine tt ?_;refine ⟨AU,h2, ?_⟩;refine A5 ?_ (.refl _);rw [hc,cmp,if_neg D9,BK]
    congr 1
    refine BJ ?_
    split <;> omega
   ·have D9 : a.getD k default=b.getD k default:=by simpa using h4
    refine tw w1 ?_;refine A4 () (by omega) ⟨rfl,by omega, ?_⟩ rfl;rw [hc,cmp,if_pos D9]
  ·have h2:=A7 h2;refine tt ?_;refine A5 ?_ (.refl _);rw [hc,drop_cons a AU,List.drop_of_length_le (show b.length≤k by omega),BK]
   congr 1
   refine BJ ?_;simp only [cmp]; omega
 ·have AU:=A7 h1;refine tw h1 ?_;refine A5 ?_ (.refl _);rw [hc,List.drop_of_length_le (show a.length≤k by omega),BK]
  congr 1
  refine BJ ?_
  by_cases h : a.length<b.length
  ·rw [drop_cons b (by omega)]; simp only [cmp]; omega
  ·rw [List.drop_of_length_le (by omega)]; simp only [cmp]; omega
theorem Ki (B : Nat) (l : List (List Int)) : PB B 177 [mL (mL iI) l] (mL (mL iI) l):=by
 refine ⟨fun H0=>nn.go fun ⟨hf,_⟩=>?_⟩
 have hl:=AZ hf;simp only [AN] at hl;refine tt ?_;refine ⟨⟨by omega,by simp [AN] <;> omega⟩,Az (mL iI) (.nil _) fun id H o=>?_⟩
 refine tt ?_;refine tt ?_;refine AD [9,10] (G:=Nat × List (List Int)) (fun k g=>[(3,some (.buf g.1 g.2.length)),(11,some (.int .i64 (k : Int)))]) (fun k g H=>g.2=(l.take k)∧A9 H0 H [(g.1,.cells 1 (g.2.map (mL iI)) 0)]) l.length (id,[]) ⟨by simp,o⟩ rfl ?_
 rintro k ⟨id,out⟩ H hk ⟨B2,o⟩;dsimp only at B2;refine tt ?_;apply bk <;> intro h1
 ·have h1:=A6 h1
  have w1:=ws k;refine tt ?_;refine ⟨h1,(GQ ..).go fun _=>?_⟩;refine tt ?_;refine Ae (l.getD k default) o rfl rfl (by rw [B2]; simp [AN] <;> omega) fun id H o=>?_
  refine tw w1 ?_;exact A4 (_,_) (by omega) ⟨by rw [B2,Ar l h1],o⟩ rfl
 ·refine tt ?_
  have h1:=A7 h1;refine Am o rfl fun H o=>tt ?_;exact A5 (by rw [B2,List.take_of_length_le (by omega)]) o.sub
theorem Gp (B : Nat) (l : List (List Int)) : PB B 169 [mL (mL iI) l] (mL (mL iI) l):=by
 refine ⟨fun H0=>mf.go fun ⟨hf,_⟩=>?_⟩
 have hl:=AZ hf;simp only [AN] at hl;refine tt ?_;refine Az (mL iI) (.nil _) fun id H o=>tt ?_;refine AD [0] (G:=Nat × List (List Int)) (fun k g=>[(3,some (.buf g.1 g.2.length)),(4,some (.int .i64 (k : Int)))]) (fun k g H=>g.2=(l.take k)∧A9 H0 H [(g.1,.cells 1 (g.2.map (mL iI)) 0)]) l.length (id,[]) ⟨by simp,o⟩ rfl ?_
 rintro k ⟨id,out⟩ H hk ⟨B2,o⟩;dsimp only at B2;refine tt ?_;apply bk <;> intro h1
 ·have h1:=A6 h1
  have w1:=ws k;refine tt ?_;refine ⟨h1,(CX ..).go fun _=>?_⟩;refine tt ?_;refine Ae (l.getD k default) o rfl rfl (by rw [B2]; simp [AN] <;> omega) fun id H o=>?_
  refine tw w1 ?_;exact A4 (_,_) (by omega) ⟨by rw [B2,Ar l h1],o⟩ rfl
 ·refine tt ?_
  have h1:=A7 h1;refine Am o rfl fun H o=>tt ?_;exact A5 (by rw [B2,List.take_of_length_le (by omega)]) o.sub
theorem Sp (B : Nat) (n : Nat) (hn : n≤1048576) : PB B 225 [.int .i64 (n : Int)] (iL ((List.range n).map Int.ofNat)):=by
 refine ⟨fun H0=>pd.go fun ⟨_,_⟩=>tt ?_⟩;refine Az iI (.nil _) fun id H o=>tt ?_;refine AD [0] (G:=Nat × List (Int)) (fun k g=>[(3,some (.buf g.1 g.2.length)),(4,some (.int .i64 (k : Int)))]) (fun k g H=>g.2=((List.range k).map Int.ofNat)∧A9 H0 H [(g.1,.cells 1 (g.2.map iI) 0)]) n (id,[]) ⟨by simp,o⟩ rfl ?_
 rintro k ⟨id,out⟩ H hk ⟨B2,o⟩;dsimp only at B2;refine tt ?_;apply bk <;> intro h1
 ·have h1:=A6 h1
  have w1:=ws k;refine tt ?_;refine Ae (k : Int) o rfl rfl (by rw [B2]; simp [AN] <;> omega) fun id H o=>?_
  refine tw w1 ?_;exact A4 (_,_) (by omega) ⟨by rw [B2,List.range_succ]; simp,o⟩ rfl
 ·refine tt ?_
  have h1:=A7 h1;refine Am o rfl fun H o=>tt ?_;exact A5 (by rw [B2,show k=n by omega]) o.sub
theorem Q6 (B : Nat) (x : Int) (n : Nat) (hn : n≤1048576) : PB B 66 [.int .i64 x,.int .i64 (n : Int)] (iL (List.replicate n x)):=by
 refine ⟨fun H0=>c66.go fun ⟨_,_⟩=>tt ?_⟩;refine Az iI (.nil _) fun id H o=>tt ?_;refine AD [0,1] (G:=Nat × List (Int)) (fun k g=>[(5,some (.buf g.1 g.2.length)),(6,some (.int .i64 (k : Int)))]) (fun k g H=>g.2=(List.replicate k x)∧A9 H0 H [(g.1,.cells 1 (g.2.map iI) 0)]) n (id,[]) ⟨by simp,o⟩ rfl ?_
 rintro k ⟨id,out⟩ H hk ⟨B2,o⟩;dsimp only at B2;refine tt ?_;apply bk <;> intro h1
 ·have h1:=A6 h1
  have w1:=ws k;refine tt ?_;refine Ae x o rfl rfl (by rw [B2,List.length_replicate]; simp only [AN]; omega) fun id H o=>?_;refine tw w1 ?_;exact A4 (_,_) (by omega) ⟨by rw [B2,List.replicate_succ'],o⟩ rfl
 ·refine tt ?_
  have h1:=A7 h1;refine Am o rfl fun H o=>tt ?_;exact A5 (by rw [B2,show k=n by omega]) o.sub
theorem Hs (B : Nat) (x : Int) (n : Nat) (hn : n≤1048576) : PB B 110 [.int .i64 x,.int .i64 (n : Int)] (iL (List.replicate n x)):=by
 refine ⟨fun H0=>sk.go fun ⟨_,_⟩=>tt ?_⟩;refine ⟨⟨by omega,by simp [AN] <;> omega⟩, ?_⟩
 refine bU iI (.nil _) fun id H o=>tt ?_;refine AD [0,5,10] (fun k _=>[(11,some (.int .i64 (k : Int)))]) (fun k _ H=>A9 H0 H [(id,.cells 1 ((List.replicate k x).map iI++List.replicate (n - k) (.int .i64 0)) 0)]) n () o rfl ?_
 rintro k _ H hk o
 have hlen : (List.replicate k x).length=k:=by simp
 refine tt ?_;apply bk <;> intro h1
 ·have h1:=A6 h1
  have w1:=ws k
  have Dw : n - k=(n - (k+1))+1:=by omega
  rw [Dw] at o;refine tt ?_;refine ⟨by omega, ?_⟩;refine kF x o rfl (by omega) fun H o=>?_;refine tw w1 ?_;exact A4 () (by omega) (by simpa [List.replicate_succ'] using o) rfl
 ·refine tt ?_
  have h1:=A7 h1
  have Dw : n - k=0:=by omega
  rw [Dw] at o;refine bN o (by omega) fun H o=>tt ?_;exact A5 (by rw [show k=n by omega]) o.sub
theorem JI (B : Nat) (f q : List Int) (hv : ∀ y,y∈f→0≤y∧y.toNat<q.length) : PB B 68 [iL f,iL q] (iL (f.map fun y=>ix q y)):=by
 refine ⟨fun H0=>c68.go fun ⟨hf,_⟩=>?_⟩
 have hl:=AZ hf;simp only [AN] at hl;refine tt ?_;refine Az iI (.nil _) fun id H o=>tt ?_;refine AD [0,1] (G:=Nat × List (Int)) (fun k g=>[(5,some (.buf g.1 g.2.length)),(6,some (.int .i64 (k : Int)))]) (fun k g H=>g.2=((f.take k).map fun y=>ix q y)∧A9 H0 H [(g.1,.cells 1 (g.2.map iI) 0)]) f.length (id,[]) ⟨by simp,o⟩ rfl ?_
 rintro k ⟨id,out⟩ H hk ⟨B2,o⟩;dsimp only at B2;refine tt ?_;apply bk <;> intro h1
 ·have h1:=A6 h1
  have w1:=ws k;refine tt ?_;refine ⟨h1,hv _ (AE.mpr ⟨k,h1,rfl⟩), ?_⟩;refine Ae (ix q (f.getD k default)) o rfl rfl (by rw [B2]; simp [AN] <;> omega) fun id H o=>?_
  refine tw w1 ?_;exact A4 (_,_) (by omega) ⟨by rw [B2,J3 f _ h1],o⟩ rfl
 ·refine tt ?_
  have h1:=A7 h1;refine Am o rfl fun H o=>tt ?_;exact A5 (by rw [B2,List.take_of_length_le (by omega)]) o.sub
theorem then_ok (B : Nat) (f q : List Int) (hv : ∀ y,y∈f→0≤y∧y.toNat<q.length) : PB B 60 [iL f,iL q] (iL (f.map fun y=>ix q y)):=by
 refine ⟨fun H0=>c60.go fun ⟨hf,_⟩=>?_⟩
 have hl:=AZ hf;simp only [AN] at hl;refine tt ?_;refine ⟨by simp [AN] <;> omega, ?_⟩
 refine bU iI (.nil _) fun id H o=>tt ?_;refine AD [1,5,11,12] (fun k _=>[(13,some (.int .i64 (k : Int)))]) (fun k _ H=>A9 H0 H [(id,.cells 1 (((f.take k).map fun y=>ix q y).map iI++List.replicate (f.length - k) (.int .i64 0)) 0)]) f.length () o rfl ?_
 rintro k _ H hk o
 have hlen : ((f.take k).map fun y=>ix q y).length=k:=by simp; omega
 refine tt ?_;apply bk <;> intro h1
 ·have h1:=A6 h1
  have w1:=ws k
  have Dw : f.length - k=(f.length - (k+1))+1:=by omega
  rw [Dw] at o;refine tt ?_
  have hx:=hv _ (AE.mpr ⟨k,h1,rfl⟩);refine ⟨h1,hx,by omega, ?_⟩;refine kF (ix q (f.getD k default)) o rfl (by omega) fun H o=>?_;refine tw w1 ?_;exact A4 () (by omega) (by rw [J3 f _ h1]; exact o) rfl
 ·refine tt ?_
  have h1:=A7 h1
  have Dw : f.length - k=0:=by omega
  rw [Dw] at o;refine bN o (by omega) fun H o=>tt ?_;exact A5 (by rw [List.take_of_length_le (by omega)]) o.sub
theorem DI (B : Nat) (c : Ax) : PB B 64 [.agg c.cells] (.agg c.cells):=by
 refine ⟨fun H0=>c64.go fun hf=>tt ?_⟩;refine ⟨by simp [AN],fun i1 n1=>?_⟩;refine tt ?_;refine ⟨_,(CX ..).run,tt ?_⟩;refine ⟨_,(CX ..).run,tt ?_⟩;refine ⟨_,(CX ..).run,tt ?_⟩;refine ⟨_,(Gp ..).run,tt ?_⟩;refine A5 rfl ?_
 repeat (first | exact .refl _ | refine CV ?_ n1)
theorem JV (B : Nat) (c : Ax) : PB B 86 [.ptr c.cells] (.agg c.cells):=by
 refine ⟨fun H0=>c86.go fun hf=>tt ?_⟩;refine ⟨by simp [AN],fun i1 n1=>?_⟩;refine tt ?_;refine ⟨_,(GQ ..).run,tt ?_⟩;refine ⟨_,(GQ ..).run,tt ?_⟩;refine ⟨_,(GQ ..).run,tt ?_⟩;refine ⟨_,(Ki ..).run,tt ?_⟩;refine A5 rfl ?_
 repeat (first | exact .refl _ | refine CV ?_ n1)
theorem Vu (B : Nat) (c : Ax) (f : Int) (h1 : 0≤f∧f.toNat<c.AB.length) (h2 : f.toNat<c.to.length) : PB B 186 [.ptr c.cells,.int .i64 f] (.agg [.int .i64 (ix c.AB f),.int .i64 (ix c.to f)]):=by
 refine ⟨fun H0=>ly.go fun hf=>tt ?_⟩;refine fun i1 n1=>tt ?_;refine ⟨h1,⟨h1.1,h2⟩,tt ?_⟩;refine A5 rfl ?_
 repeat (first | exact .refl _ | refine CV ?_ n1)
theorem GO (B : Nat) (c : Ax) : PB B 107 [.ptr c.cells] (.int .i64 c.AB.length):=by
 refine ⟨fun H0=>uo.go fun hf=>tt ?_⟩;exact A5 rfl (.refl _)
theorem Cf (B : Nat) (c : Ax) (f g : Int) (h1 : 0≤f∧f.toNat<c.comp.length) (h2 : 0≤g∧g.toNat<(ix c.comp f).length) :
  PB B 91 [.ptr c.cells,.int .i64 f,.int .i64 g] (.int .i64 (ix (ix c.comp f) g)):=by
 refine ⟨fun H0=>c91.go fun hf=>tt ?_⟩;exact ⟨h1,h2,A5 rfl (.refl _)⟩
theorem U0 (B : Nat) (c : Ax) (f g : Int) (h1 : 0≤f∧f.toNat<c.comp.length) (h2 : 0≤g∧g.toNat<(ix c.comp f).length) :
  PB B 98 [.agg c.cells,.int .i64 f,.int .i64 g] (.int .i64 (ix (ix c.comp f) g)):=by
 refine ⟨fun H0=>c98.go fun hf=>tt ?_⟩;exact ⟨h1,h2,A5 rfl (.refl _)⟩
theorem NX (B : Nat) (l : List Int) (m : Nat) (n : Int) : PB B 260 [iL l,.int .i64 (m : Int),.int .i64 n] (.bool (dec (l.length=m∧∀ y,y∈l→0≤y∧y<n))):=by
 refine ⟨fun H0=>pc.go fun hf=>tt ?_⟩;apply bk <;> intro h1
 ·refine tw h1 ?_
  have AU : l.length=m:=A6 h1;refine (Ep ..).go fun _=>tt ?_;exact A5 (by congr 1; exact BJ ⟨fun h=>⟨AU,h⟩,fun h=>h.2⟩) (.refl _)
 ·refine tw h1 ?_
  have AU : ¬ l.length=m:=A7 h1;exact A5 (by rw [Ad (fun h=>AU h.1)]) (.refl _)
theorem MJ (B : Nat) (l : List Int) (m n : Int) (hn : -9223372036854775808<n∧n≤9223372036854775807) : PB B 226 [iL l,.int .i64 m,.int .i64 n] (.bool (dec ((l.length : Int)=m∧∀ y,y∈l→0≤y∧y<n))):=by
 refine ⟨fun H0=>lx.go fun hf=>tt ?_⟩;apply bk <;> intro h1
 ·refine tw h1 ?_
  have AU : (l.length : Int)=m:=A6 h1;refine (E4 B l n hn).go fun _=>tt ?_;exact A5 (by congr 1; exact BJ ⟨fun h=>⟨AU,h⟩,fun h=>h.2⟩) (.refl _)
 ·refine tw h1 ?_
  have AU : ¬ (l.length : Int)=m:=A7 h1;exact A5 (by rw [Ad (fun h=>AU h.1)]) (.refl _)
structure Ui (c : Ax) (f g : Nat) : Prop where
 R6 : c.to.getD f default≠c.AB.getD g default→(c.comp.getD f default).getD g default=-1
 yes : c.to.getD f default=c.AB.getD g default →
  (0≤(c.comp.getD f default).getD g default∧(c.comp.getD f default).getD g default<c.AB.length) ∧
  ix c.AB ((c.comp.getD f default).getD g default)=c.AB.getD f default∧ix c.to ((c.comp.getD f default).getD g default)=c.to.getD g default
structure eX (c : Ax) (f : Nat) : Prop where
 row : (c.comp.getD f default).length=c.AB.length
 cell : ∀ g,g<c.AB.length→Ui c f g
theorem Un (B : Nat) (c : Ax) : PB B 183 [.agg c.cells] (.bool (dec c.Shape)):=by
 refine ⟨fun H0=>sx.go fun ⟨hf,_⟩=>?_⟩
 have hl:=AZ (hf.agg (c:=iL c.AB) (by simp [Ax.cells]))
 have Ce:=AZ (hf.agg (c:=iL c.Ac) (by simp [Ax.cells]));simp only [AN] at hl Ce;refine tt ?_;refine (Ri ..).go fun _=>tt ?_;apply bn <;> intro h1
 rotate_left
 ·refine tw h1 ?_
  have AU:=dd h1;exact A5 (by rw [Ad]; intro s; exact AU s.o) (.refl _)
 refine tw h1 ?_
 have AU:=dd h1;apply bn <;> intro h2
 rotate_left
 ·refine tw h2 ?_
  have Aq:=dd h2;exact A5 (by rw [Ad]; intro s; have:=s.m; omega) (.refl _)
 refine tw h2 ?_
 have Aq:=dd h2
 have xB : c.AB.length≤40:=by omega
 refine (NX ..).go fun _=>tt ?_;apply bn <;> intro h3
 rotate_left
 ·refine tw h3 ?_
  have BH:=dd h3;exact A5 (by rw [Ad]; intro s; exact BH s.AB) (.refl _)
 refine tw h3 ?_
 have BH:=dd h3;refine (NX ..).go fun _=>tt ?_;apply bn <;> intro h4
 rotate_left
 ·refine tw h4 ?_
  have D9:=dd h4;exact A5 (by rw [Ad]; intro s; exact D9 ⟨s.L5,s.to⟩) (.refl _)
 refine tw h4 ?_
 have D9:=dd h4;apply bk <;> intro h5
 ·refine tw h5 ?_
  have JB:=dd h5;exact A5 (by rw [Ad]; intro s; exact JB s.cl) (.refl _)
 refine tw h5 ?_
 have JB:=dd h5;apply bn <;> intro h6
 rotate_left
 ·refine tw h6 ?_
  have Ln:=dd h6;exact A5 (by rw [Ad]; intro s; exact Ln s.il) (.refl _)
 refine tw h6 ?_
 have Ln:=dd h6;refine (Ep ..).go fun _=>tt ?_;apply bk <;> intro h7
 ·refine tw h7 ?_
  have dR:=dd h7;exact A5 (by rw [Ad]; intro s; exact dR s.Ac) (.refl _)
 refine tw h7 ?_
 have dR:=dd h7;refine AD [1,3] (fun k _=>[(4,some (.int .i64 (k : Int)))]) (fun k _ H=>H=H0∧∀ i,i<k→ix c.AB (c.Ac.getD i default)=i∧ix c.to (c.Ac.getD i default)=i) c.Ac.length () ⟨rfl,by simp⟩ rfl ?_
 rintro k _ H hk ⟨rfl,Au⟩;refine tt ?_;apply bk <;> intro g1
 ·have CO:=dd g1
  have w1:=ws k
  have Qw : k<c.Ac.length:=by omega
  have hx:=dR _ (AE.mpr ⟨k,Qw,rfl⟩);refine tt ?_;refine ⟨Qw,⟨hx.1,by omega⟩, ?_⟩;apply bn <;> intro g2
  rotate_left
  ·refine tw g2 ?_
   have CE:=dd g2;exact A5 (by rw [Ad]; intro s; exact CE (s.O0 k Qw).1) (.refl _)
  refine tw g2 ?_
  have CE:=dd g2;refine ⟨Qw,⟨hx.1,by omega⟩, ?_⟩;apply bk <;> intro g3
  ·refine tw g3 ?_
   have Du:=dd g3;exact A5 (by rw [Ad]; intro s; exact Du (s.O0 k Qw).2) (.refl _)
  refine t2 g3 w1 ?_
  have Du:=dd g3;exact A4 () Qw ⟨rfl,AM Au ⟨CE,Du⟩⟩ rfl
 have CO:=dd g1
 have M0 : k=c.Ac.length:=by omega
 subst M0;refine tt ?_;refine AD [1,3] (fun k _=>[(5,some (.int .i64 (k : Int)))]) (fun k _ H'=>H'=H∧∀ f,f<k→eX c f) c.AB.length () ⟨rfl,by simp⟩ rfl ?_
 rintro f _ H' TP ⟨rfl,Bf⟩;refine tt ?_;apply bk <;> intro g2
 rotate_left
 ·refine tw g2 ?_
  have CE:=dd g2
  have W7 : f=c.AB.length:=by omega
  subst W7;refine A5 ?_ (.refl _);rw [Av];exact ⟨AU,by omega,BH,D9.1,D9.2,JB,Ln,dR,Au,fun f hf=>(Bf f hf).row,fun f g hf hg=>((Bf f hf).cell g hg).R6,fun f g hf hg=>((Bf f hf).cell g hg).yes⟩
 have CE:=dd g2
 have wf:=ws f
 have Kf : f<c.comp.length:=by omega
 have hft : f<c.to.length:=by omega
 refine tt ?_;refine ⟨Kf, ?_⟩;apply bk <;> intro g3
 ·refine tw g3 ?_
  have Du:=dd g3;exact A5 (by rw [Ad]; intro s; exact Du (s.row f CE)) (.refl _)
 refine tw g3 ?_
 have Du:=dd g3;refine AD [1,3,5] (fun k _=>[(6,some (.int .i64 (k : Int)))]) (fun k _ H=>H=H'∧∀ g,g<k→Ui c f g) c.AB.length () ⟨rfl,by simp⟩ rfl ?_
 rintro g _ H vg ⟨rfl,JA⟩;refine tt ?_;apply bk <;> intro g4
 rotate_left
 ·refine t2 g4 wf ?_
  have GB:=dd g4
  have W7 : g=c.AB.length:=by omega
  subst W7;exact A4 () CE ⟨rfl,AM Bf ⟨Du,JA⟩⟩ rfl
 have GB:=dd g4
 have wg:=ws g
 have QM : g<(c.comp.getD f default).length:=by omega
 refine tt ?_;refine ⟨Kf,QM,hft,GB, ?_⟩;apply bk <;> intro g5
 ·have Kd:=dd g5;refine tt ?_;apply bk <;> intro g6
  ·refine tt ?_
   have MF:=dd g6;exact A5 (by rw [Ad]; intro s; exact MF (s.R6 f g CE GB Kd)) (.refl _)
  ·have MF:=dd g6;refine tw wg ?_;exact A4 () GB ⟨rfl,AM JA ⟨fun _=>MF,fun e=>absurd e Kd⟩⟩ rfl
 have Kd:=dd g5
 have R7 : ¬ ((0≤(c.comp.getD f default).getD g default∧(c.comp.getD f default).getD g default<c.AB.length) ∧
  ix c.AB ((c.comp.getD f default).getD g default)=c.AB.getD f default∧ix c.to ((c.comp.getD f default).getD g default)=c.to.getD g default)→dec c.Shape=false :=
  fun h=>Ad fun s=>h (s.yes f g CE GB Kd)
 refine tt ?_;apply bn <;> intro g6
 rotate_left
 ·refine tw g6 ?_
  have MF:=dd g6;exact A5 (by rw [R7]; intro h; omega) (.refl _)
 refine tw g6 ?_
 have MF:=dd g6;apply bn <;> intro g7
 rotate_left
 ·refine tw g7 ?_
  have xV:=dd g7;exact A5 (by rw [R7]; intro h; omega) (.refl _)
 refine tw g7 ?_
 have xV:=dd g7;refine ⟨⟨MF,by omega⟩,CE, ?_⟩;apply bn <;> intro g8
 rotate_left
 ·refine tw g8 ?_
  have zc:=dd g8;exact A5 (by rw [R7]; intro h; exact zc h.2.1) (.refl _)
 refine tw g8 ?_
 have zc:=dd g8;refine ⟨⟨MF,by omega⟩,by omega, ?_⟩;apply bk <;> intro g9
 ·refine tw g9 ?_
  have zx:=dd g9;exact A5 (by rw [R7]; intro h; exact zx h.2.2) (.refl _)
 refine t2 g9 wg ?_
 have zx:=dd g9;exact A4 () GB ⟨rfl,AM JA ⟨fun h=>absurd Kd h,fun _=>⟨⟨MF,by omega⟩,zc,zx⟩⟩⟩ rfl
theorem UC (B : Nat) (c : Ax) : PB B 218 [.ptr c.cells] (.bool (dec c.Shape)):=by
 refine ⟨fun H0=>uq.go fun ⟨hf,_⟩=>?_⟩
 have hl:=AZ (hf.ptr (c:=iL c.AB) (by simp [Ax.cells]))
 have Ce:=AZ (hf.ptr (c:=iL c.Ac) (by simp [Ax.cells]))
 have jf:=AZ (hf.ptr (c:=B5 c.comp) (by simp [Ax.cells]));simp only [AN] at hl Ce jf;refine tt ?_;refine (GO B c).go fun _=>tt ?_;refine ⟨_,(Jb ..).run,tt ?_⟩;apply bn <;> intro h1
 rotate_left
 ·refine tw h1 ?_
  have AU:=dd h1;exact A5 (by rw [Ad]; intro s; exact AU s.o) (.refl _)
 refine tw h1 ?_
 have AU:=dd h1;apply bn <;> intro h2
 rotate_left
 ·refine tw h2 ?_
  have Aq:=dd h2;exact A5 (by rw [Ad]; intro s; have:=s.m; omega) (.refl _)
 refine tw h2 ?_
 have Aq:=dd h2
 have xB : c.AB.length≤40:=by omega
 apply bn <;> intro h3
 rotate_left
 ·refine tw h3 ?_
  have BH:=dd h3;exact A5 (by rw [Ad]; intro s; exact BH s.L5) (.refl _)
 refine tw h3 ?_
 have BH:=dd h3;refine ⟨_,(E4 B c.AB c.AF (by omega)).run,tt ?_⟩;apply bn <;> intro h4
 rotate_left
 ·refine tw h4 ?_
  have D9:=dd h4;exact A5 (by rw [Ad]; intro s; exact D9 s.AB) (.refl _)
 refine tw h4 ?_
 have D9:=dd h4;refine ⟨_,(E4 B c.to c.AF (by omega)).run,tt ?_⟩;apply bk <;> intro h5
 ·refine tw h5 ?_
  have JB:=dd h5;exact A5 (by rw [Ad]; intro s; exact JB s.to) (.refl _)
 refine tw h5 ?_
 have JB:=dd h5;apply bn <;> intro h6
 rotate_left
 ·refine tw h6 ?_
  have Ln:=dd h6;exact A5 (by rw [Ad]; intro s; exact Ln s.il) (.refl _)
 refine tw h6 ?_
 have Ln:=dd h6;refine ⟨_,(E4 B c.Ac c.AB.length (by omega)).run,tt ?_⟩;apply bn <;> intro h7
 rotate_left
 ·refine tw h7 ?_
  have dR:=dd h7;exact A5 (by rw [Ad]; intro s; exact dR s.Ac) (.refl _)
 refine tw h7 ?_
 have dR:=dd h7;apply bk <;> intro h8
 ·refine tw h8 ?_
  have vj:=dd h8;exact A5 (by rw [Ad]; intro s; exact vj s.cl) (.refl _)
 refine tw h8 ?_
 have vj:=dd h8;refine AD [0,3,86,87] (fun k _=>[(88,some (.int .i64 (k : Int)))]) (fun k _ H=>H=H0∧∀ i,i<k→ix c.AB (c.Ac.getD i default)=i∧ix c.to (c.Ac.getD i default)=i) c.Ac.length () ⟨rfl,by simp⟩ rfl ?_
 rintro k _ H hk ⟨rfl,Au⟩;refine tt ?_;apply bk <;> intro g1
 ·have CO:=dd g1
  have w1:=ws k
  have hx:=dR _ (AE.mpr ⟨k,CO,rfl⟩);refine tt ?_;refine ⟨CO,(Vu B c (c.Ac.getD k default) ⟨hx.1,by omega⟩ (by omega)).go fun _=>?_⟩;refine tt ?_;apply bk <;> intro g2
  ·refine tw g2 ?_
   have CE:=dd g2;exact A5 (by rw [Ad]; intro s; exact CE (s.O0 k CO)) (.refl _)
  refine t2 g2 w1 ?_
  have CE:=dd g2;exact A4 () CO ⟨rfl,AM Au CE⟩ rfl
 have CO:=dd g1
 have M0 : k=c.Ac.length:=by omega
 subst M0;refine tt ?_;refine AD [0,3,104,105] (fun k _=>[(106,some (.int .i64 (k : Int)))]) (fun k _ H'=>H'=H∧∀ f,f<k→eX c f) c.comp.length () ⟨rfl,by simp⟩ rfl ?_
 rintro f _ H' TP ⟨rfl,Bf⟩;refine tt ?_;apply bk <;> intro g2
 rotate_left
 ·refine tw g2 ?_
  have CE:=dd g2
  have W7 : f=c.AB.length:=by omega
  subst W7;refine A5 ?_ (.refl _);rw [Av];exact ⟨AU,by omega,D9,BH,JB,vj,Ln,dR,Au,fun f hf=>(Bf f hf).row,fun f g hf hg=>((Bf f hf).cell g hg).R6,fun f g hf hg=>((Bf f hf).cell g hg).yes⟩
 have CE:=dd g2
 have wf:=ws f
 have W7 : f<c.AB.length:=by omega
 have hft : f<c.to.length:=by omega
 refine tt ?_;refine ⟨CE, ?_⟩;apply bk <;> intro g3
 ·refine tw g3 ?_
  have Du:=dd g3;exact A5 (by rw [Ad]; intro s; exact Du (s.row f W7)) (.refl _)
 refine tw g3 ?_
 have Du:=dd g3;refine AD [0,3,6,104,105,106,115,116] (fun k _=>[(117,some (.int .i64 (k : Int)))]) (fun k _ H=>H=H'∧∀ g,g<k→Ui c f g) (c.comp.getD f default).length () ⟨rfl,by simp⟩ rfl ?_
 rintro g _ H vg ⟨rfl,JA⟩;refine tt ?_;apply bk <;> intro g4
 rotate_left
 ·refine t2 g4 wf ?_
  have GB:=dd g4
  have RA : g=c.AB.length:=by omega
  subst RA;exact A4 () CE ⟨rfl,AM Bf ⟨Du,JA⟩⟩ rfl
 have GB:=dd g4
 have wg:=ws g
 have wq : g<c.AB.length:=by omega
 refine tt ?_;refine ⟨GB,hft,wq, ?_⟩;apply bk <;> intro g5
 ·have Kd:=dd g5;refine tt ?_;apply bk <;> intro g6
  ·refine tt ?_
   have MF:=dd g6;exact A5 (by rw [Ad]; intro s; exact MF (s.R6 f g W7 wq Kd)) (.refl _)
  ·have MF:=dd g6;refine tw wg ?_;exact A4 () GB ⟨rfl,AM JA ⟨fun _=>MF,fun e=>absurd e Kd⟩⟩ rfl
 have Kd:=dd g5
 have R7 : ¬ ((0≤(c.comp.getD f default).getD g default∧(c.comp.getD f default).getD g default<c.AB.length) ∧
  ix c.AB ((c.comp.getD f default).getD g default)=c.AB.getD f default∧ix c.to ((c.comp.getD f default).getD g default)=c.to.getD g default)→dec c.Shape=false :=
  fun h=>Ad fun s=>h (s.yes f g W7 wq Kd)
 have wn : IntKind.i64.wrap ((c.AB.length : Int) - 1)=(c.AB.length : Int) - 1:=wrap_i64 (by omega) (by omega);refine tw wn ?_;refine ⟨_,(Jb ..).run,tt ?_⟩;apply bn <;> intro g6
 rotate_left
 ·refine tw g6 ?_
  have MF:=dd g6;exact A5 (by rw [R7]; intro h; omega) (.refl _)
 refine tw g6 ?_
 have MF:=dd g6;refine ⟨_,(Vu B c _ ⟨MF.1,by omega⟩ (by omega)).run,W7,by omega,tt ?_⟩;apply bk <;> intro g7
 ·refine tw g7 ?_
  have xV:=dd g7;exact A5 (by rw [R7]; intro h; exact xV h.2) (.refl _)
 refine t2 g7 wg ?_
 have xV:=dd g7;exact A4 () GB ⟨rfl,AM JA ⟨fun h=>absurd Kd h,fun _=>⟨⟨MF.1,by omega⟩,xV⟩⟩⟩ rfl
theorem S9 (B : Nat) (c : Ax) (s : c.Shape) (H0 : AA) : CB B 184 [.agg c.cells] H0 (MN c.Laws H0):=by
 refine qk.go fun ⟨hf,_⟩=>?_
 have hm:=s.m
 have RG:=s.cl
 have Jc:=s.L5;refine tt ?_;refine AD [1,6] (fun k _=>[(7,some (.int .i64 (k : Int)))]) (fun k _ H=>H=H0∧∀ f,f<k→c.r9 f) c.AB.length () ⟨rfl,by simp⟩ rfl ?_
 rintro f _ H TP ⟨rfl,GC⟩;refine tt ?_;apply bk <;> intro g1
 ·have CO:=dd g1
  have wf:=ws f
  have a1:=s.OH CO
  have a2:=s.Bz a1.2
  have a3:=s.Wr a2.2
  have b1:=s.mH CO
  have b2:=s.Bz b1.2
  have b3:=s.row f CO;refine tt ?_;refine ⟨CO,a1,⟨a2.1,by omega⟩,by omega, ?_⟩;apply bn <;> intro g2
  rotate_left
  ·refine tw g2 ?_
   have CE:=dd g2;exact Bx (by constructor; (intro h; cases h); intro l; exact absurd (l.XE f CO).1 CE) (.refl _)
  refine tw g2 ?_
  have CE:=dd g2;refine ⟨by omega,by omega,b1,⟨b2.1,by omega⟩, ?_⟩;apply bk <;> intro g3
  ·refine tw g3 ?_
   have Du:=dd g3;exact Bx (by constructor; (intro h; cases h); intro l; exact absurd (l.XE f CO).2 Du) (.refl _)
  refine t2 g3 wf ?_
  have Du:=dd g3;exact A4 () CO ⟨rfl,AM GC ⟨CE,Du⟩⟩ rfl
 have CO:=dd g1
 have W7 : f=c.AB.length:=by omega
 subst W7;refine tt ?_;refine AD [1,6] (fun k _=>[(8,some (.int .i64 (k : Int)))]) (fun k _ H'=>H'=H∧∀ f,f<k→∀ g,g<c.AB.length→∀ h,h<c.AB.length→c.Ii f g h) c.AB.length () ⟨rfl,by simp⟩ rfl ?_
 rintro f _ H' TP ⟨rfl,hF⟩;refine tt ?_;apply bk <;> intro g1
 rotate_left
 ·refine tt ?_
  have CO:=dd g1;exact Bx (by simp only [true_iff]; exact ⟨GC,fun f g h hf hg hh=>hF f (by omega) g hg h hh⟩) (.refl _)
 have CO:=dd g1
 have wf:=ws f
 have rf:=s.row f CO;refine tt ?_;refine AD [1,6,8] (fun k _=>[(9,some (.int .i64 (k : Int)))]) (fun k _ H=>H=H'∧∀ g,g<k→∀ h,h<c.AB.length→c.Ii f g h) c.AB.length () ⟨rfl,by simp⟩ rfl ?_
 rintro g _ H vg ⟨rfl,hG⟩;refine tt ?_;apply bk <;> intro g2
 rotate_left
 ·refine tw wf ?_
  have CE:=dd g2;exact A4 () CO ⟨rfl,AM hF fun g hg=>hG g (by omega)⟩ rfl
 have CE:=dd g2
 have wg:=ws g
 have rg:=s.row g CE;refine tt ?_;refine ⟨by omega,CE, ?_⟩;apply bk <;> intro g3
 ·refine tw wg ?_
  have Du:=dd g3;exact A4 () CE ⟨rfl,AM hG fun h hh e=>absurd e Du⟩ rfl
 have Du:=dd g3;refine tt ?_;refine AD [1,6,8,9] (fun k _=>[(10,some (.int .i64 (k : Int)))]) (fun k _ H'=>H'=H∧∀ h,h<k→c.Ii f g h) c.AB.length () ⟨rfl,by simp⟩ rfl ?_
 rintro h _ H' Zp ⟨rfl,hA⟩;refine tt ?_;apply bk <;> intro g4
 rotate_left
 ·refine tw wg ?_
  have GB:=dd g4;exact A4 () CE ⟨rfl,AM hG fun h hh=>hA h (by omega)⟩ rfl
 have GB:=dd g4
 have wh:=ws h;refine tt ?_;refine ⟨by omega,GB, ?_⟩;apply bk <;> intro g5
 ·refine tw g5 ?_
  have Kd:=dd g5
  have c1:=(s.pos CO CE).mpr Du
  have c2:=s.lt CO CE
  have c3:=s.Wr c2
  have d1:=(s.pos CE GB).mpr Kd
  have d2:=s.lt CE GB;refine ⟨by omega,by omega,⟨c1,by omega⟩,by omega,by omega,by omega,by omega,⟨d1,by omega⟩, ?_⟩;apply bk <;> intro g6
  ·refine tw g6 ?_
   have MF:=dd g6;exact Bx (by constructor; (intro h; cases h); intro l; exact absurd (l.assoc f g h CO CE GB Du Kd) MF) (.refl _)
  ·refine t2 g6 wh ?_
   have MF:=dd g6;exact A4 () GB ⟨rfl,AM hA fun _ _=>MF⟩ rfl
 ·refine t2 g5 wh ?_
  have Kd:=dd g5;exact A4 () GB ⟨rfl,AM hA fun _ e=>absurd e Kd⟩ rfl
theorem Jk (B : Nat) (c : Ax) : PB B 83 [.agg c.cells] (.bool (dec c.Is)):=by
 refine ⟨fun H0=>c83.go fun hf=>tt ?_⟩;refine (Un B c).go fun _=>tt ?_;apply bk <;> intro h1
 ·refine tt ?_
  have AU:=dd h1;exact A5 (by rw [Ad]; intro s; exact AU s.1) (.refl _)
 have AU:=dd h1;refine tt ?_;refine (S9 B c AU H0).IG ?_
 rintro _ _ _ ⟨rfl,k,a,b,d,rfl,hk⟩;refine tt ?_;exact A5 (by rw [BK]; congr 1; exact BJ ⟨fun h=>⟨AU,hk.mp h⟩,fun h=>hk.mpr h.2⟩) (.refl _)
theorem Cx {α : Type} [Inhabited α] (l : List α) (k : Nat) : ix l (k : Int)=l.getD k default:=AR l k
theorem Y0 (B : Nat) (c : Ax) (s : c.Shape) (H0 : AA) : CB B 219 [.ptr c.cells] H0 (MN c.Laws H0):=by
 refine oy.go fun ⟨hf,_⟩=>?_
 have hm:=s.m
 have RG:=s.cl
 have Jc:=s.L5;refine tt ?_;refine (GO B c).go fun _=>tt ?_;refine AD [0,6] (fun k _=>[(7,some (.int .i64 (k : Int)))]) (fun k _ H=>H=H0∧∀ f,f<k→c.r9 f) c.AB.length () ⟨rfl,by simp⟩ rfl ?_
 rintro f _ H TP ⟨rfl,GC⟩;refine tt ?_;apply bk <;> intro g1
 ·have CO:=dd g1
  have wf:=ws f
  have a1:=s.OH CO
  have a2:=s.Bz a1.2
  have a3:=s.Wr a2.2
  have b1:=s.mH CO
  have b2:=s.Bz b1.2
  have b3:=s.row f CO;refine tt ?_;refine ⟨CO,a1,_,(Cf B c _ _ ⟨a2.1,by omega⟩ ⟨by omega,by omega⟩).run,tt ?_⟩;apply bn <;> intro g2
  rotate_left
  ·refine tw g2 ?_
   have CE:=dd g2;exact Bx (by constructor; (intro h; cases h); intro l; exact absurd (l.XE f CO).1 CE) (.refl _)
  refine tw g2 ?_
  have CE:=dd g2;refine ⟨by omega,b1,_,(Cf B c f _ ⟨by omega,by omega⟩ ⟨b2.1,by rw [Cx]; omega⟩).run,tt ?_⟩;apply bk <;> intro g3
  ·refine tw g3 ?_
   have Du:=dd g3;exact Bx (by constructor; (intro h; cases h); intro l; exact absurd (l.XE f CO).2 Du) (.refl _)
  refine t2 g3 wf ?_
  have Du:=dd g3;exact A4 () CO ⟨rfl,AM GC ⟨CE,Du⟩⟩ rfl
 have CO:=dd g1
 have W7 : f=c.AB.length:=by omega
 subst W7;refine tt ?_;refine AD [0,6] (fun k _=>[(8,some (.int .i64 (k : Int)))]) (fun k _ H'=>H'=H∧∀ f,f<k→∀ g,g<c.AB.length→∀ h,h<c.AB.length→c.Ii f g h) c.AB.length () ⟨rfl,by simp⟩ rfl ?_
 rintro f _ H' TP ⟨rfl,hF⟩;refine tt ?_;apply bk <;> intro g1
 rotate_left
 ·refine tt ?_
  have CO:=dd g1;exact Bx (by simp only [true_iff]; exact ⟨GC,fun f g h hf hg hh=>hF f (by omega) g hg h hh⟩) (.refl _)
 have CO:=dd g1
 have wf:=ws f
 have rf:=s.row f CO;refine tt ?_;refine AD [0,6,8] (fun k _=>[(9,some (.int .i64 (k : Int)))]) (fun k _ H=>H=H'∧∀ g,g<k→∀ h,h<c.AB.length→c.Ii f g h) c.AB.length () ⟨rfl,by simp⟩ rfl ?_
 rintro g _ H vg ⟨rfl,hG⟩;refine tt ?_;apply bk <;> intro g2
 rotate_left
 ·refine tw wf ?_
  have CE:=dd g2;exact A4 () CO ⟨rfl,AM hF fun g hg=>hG g (by omega)⟩ rfl
 have CE:=dd g2
 have wg:=ws g
 have rg:=s.row g CE;refine tt ?_;refine (Cf B c f g ⟨by omega,by omega⟩ ⟨by omega,by rw [Cx]; omega⟩).go fun _=>tt ?_;apply bk <;> intro g3
 ·refine tw wg ?_
  have Du:=dd g3;exact A4 () CE ⟨rfl,AM hG fun h hh e=>by have:=(s.pos CO CE).mpr e; omega⟩ rfl
 have Du:=dd g3
 have oP:=(s.pos CO CE).mp Du;refine tt ?_;refine AD [0,6,8,9] (fun k _=>[(10,some (.int .i64 (k : Int)))]) (fun k _ H'=>H'=H∧∀ h,h<k→c.Ii f g h) c.AB.length () ⟨rfl,by simp⟩ rfl ?_
 rintro h _ H' Zp ⟨rfl,hA⟩;refine tt ?_;apply bk <;> intro g4
 rotate_left
 ·refine tw wg ?_
  have GB:=dd g4;exact A4 () CE ⟨rfl,AM hG fun h hh=>hA h (by omega)⟩ rfl
 have GB:=dd g4
 have wh:=ws h;refine tt ?_;refine (Cf B c g h ⟨by omega,by omega⟩ ⟨by omega,by rw [Cx]; omega⟩).go fun _=>tt ?_;apply bk <;> intro g5
 ·refine tw g5 ?_
  have Kd:=dd g5
  have g5q:=(s.pos CE GB).mp Kd
  have c2:=s.lt CO CE
  have c3:=s.Wr c2
  have d2:=s.lt CE GB;refine (Cf B c f g ⟨by omega,by omega⟩ ⟨by omega,by rw [Cx]; omega⟩).go fun _=>tt ?_;refine (Cf B c _ h ⟨Du,by omega⟩ ⟨by omega,by omega⟩).go fun _=>tt ?_;refine (Cf B c g h ⟨by omega,by omega⟩ ⟨by omega,by rw [Cx]; omega⟩).go fun _=>tt ?_;refine (Cf B c f _ ⟨by omega,by omega⟩ ⟨Kd,by rw [Cx]; omega⟩).go fun _=>tt ?_;apply bk <;> intro g6
  ·refine tw g6 ?_
   have MF:=dd g6;exact Bx (by constructor; (intro h; cases h); intro l; exact absurd (l.assoc f g h CO CE GB oP g5q) MF) (.refl _)
  ·refine t2 g6 wh ?_
   have MF:=dd g6;exact A4 () GB ⟨rfl,AM hA fun _ _=>MF⟩ rfl
 ·refine t2 g5 wh ?_
  have Kd:=dd g5;exact A4 () GB ⟨rfl,AM hA fun _ e=>by have:=(s.pos CE GB).mpr e; omega⟩ rfl
theorem J1 (B : Nat) (c : Ax) : PB B 117 [.ptr c.cells] (.bool (dec c.Is)):=by
 refine ⟨fun H0=>uu.go fun hf=>tt ?_⟩;refine (UC B c).go fun _=>tt ?_;apply bk <;> intro h1
 ·refine tt ?_
  have AU:=dd h1;exact A5 (by rw [Ad]; intro s; exact AU s.1) (.refl _)
 have AU:=dd h1;refine tt ?_;refine (Y0 B c AU H0).IG ?_
 rintro _ _ _ ⟨rfl,k,a,b,d,rfl,hk⟩;refine tt ?_;exact A5 (by rw [BK]; congr 1; exact BJ ⟨fun h=>⟨AU,hk.mp h⟩,fun h=>hk.mpr h.2⟩) (.refl _)
theorem Fu {α : Type} [DecidableEq α] [Inhabited α] (l : List α) (s : α) : 0≤indexOf l s↔s∈l:=by
 constructor
 ·intro h;apply Classical.byContradiction; intro hn;rw [Dk fun i hi e=>hn (AE.mpr ⟨i,hi,e⟩)] at h;omega
 ·intro h;unfold indexOf
  split
  ·omega
  ·rename_i e; rw [List.idxOf?_eq_none_iff] at e; exact absurd h e
def O2 {α : Type} (f : α→AV) (H0 : AA) (l : List (Nat × AG)) (Q : List α→Prop) : Ak:=fun r H'=>∃ id A,r=.buf id A.length∧A9 H0 H' ((id,.cells 1 (A.map f) 0)::l)∧Q A
theorem K3 {α : Type} {f : α→AV} {H0 H : AA} {l : List (Nat × AG)} {Q : List α→Prop} {id n : Nat} {A : List α} (o : A9 H0 H ((id,.cells 1 (A.map f) 0)::l)) (hn : n=A.length) (hq : Q A) :
  Lc (O2 f H0 l Q) (.buf id n) H:=⟨H,.refl H,id,A,by rw [hn],o,hq⟩
end Go.Proofs.Shf
namespace Go.AW
open Go.Proofs Go.Shf Go.Proofs.Shf
theorem B9.own {P : Program} {α : Type} {f : α→AV} {B : Nat} {fn : FuncId} {args : List AV} {H0 H : AA} {l : List (Nat × AG)} {Q : List α→Prop} {K : Ak} (h : B9 P B fn args H (O2 f H0 l Q))
  (hk : ∀ id A H',A9 H0 H' ((id,.cells 1 (A.map f) 0)::l)→Q A→K (.buf id A.length) H') : B9 P B fn args H K :=
 h.mono fun r H' ⟨id,A,e,o,q⟩=>by subst e; exact hk id A H' o q
end Go.AW
namespace Go.Proofs.Shf
open Go.AW Go.Proofs Go.Shf
theorem FM (B : Nat) (l : List Int) (H0 H : AA) (r : List (Nat × AG)) (o : A9 H0 H r) : CB B 168 [iL l] H (O2 iI H0 r (·=l)):=by
 refine tT.go fun ⟨hf,_⟩=>?_
 have hl:=AZ hf;refine tt ?_;refine Az iI o fun id H o=>tt ?_;refine Hh (f:=iI) o rfl (by simpa using hl) fun id H o=>tt ?_;exact K3 o rfl rfl
theorem P6 (B : Nat) (l : List Int) (H0 H : AA) (r : List (Nat × AG)) (o : A9 H0 H r) : CB B 73 [iL l] H (O2 iI H0 r (·=l)):=by
 refine nx.go fun ⟨hf,_⟩=>?_
 have hl:=AZ hf;refine tt ?_;refine Az iI o fun id H o=>tt ?_;refine Hh (f:=iI) o rfl (by simpa using hl) fun id H o=>tt ?_;exact K3 o rfl rfl
end Go.Proofs.Shf
namespace Go.AW
open Go.Proofs Go.Shf Go.Proofs.Shf
theorem A9.rc {H0 H : AA} {l : List (Nat × AG)} {id sz fr : Nat} {cs : List AV} (o : A9 H0 H ((id,.cells sz cs fr)::l)) (n off : Nat) (h : off+n≤cs.length) : qX (some n) off (H.get id)=some (.agg ((cs.drop off).take n)):=by
 have h0:=o.h0;simp only at h0;rw [h0,tQ,if_pos h]
end Go.AW
