/- A part of a proof. -/
import Derived.Test.YtphikjciekmijaaGreatDoorF6
set_option linter.unusedVariables false
set_option linter.unusedSimpArgs false
set_option linter.unusedSectionVars false
set_option maxRecDepth 100000
open Nat (reduceEqDiff reduceAdd reduceMul reduceLeDiff reduceLT)
namespace Go.AW
end Go.AW
namespace Go.Proofs.Shf
open Go.AW Go.Proofs Go.Shf
end Go.Proofs.Shf
namespace Go.AW
end Go.AW
namespace Go.AW
@[go_sem] def prE (q : Int × Int) : AV:=.agg [iI q.1,iI q.2]
instance : AggN 2 prE:=⟨by omega,fun _=>rfl,fun _=>rfl,fun a c hc=>by
 simp only [prE,AV.cells,List.mem_cons,List.not_mem_nil,or_false] at hc
 rcases hc with rfl | rfl <;> rfl⟩
end Go.AW
namespace Go.Proofs.Shf
open Go.AW Go.Proofs Go.Shf
@[go_sem] def srO (f g : SF) (X fv : AV) : MObj:=.cells 5 [.ptr f.cells,.ptr g.cells,.bool false,X,fv] 0
end Go.Proofs.Shf
namespace Go.Shf
open Go.AW
end Go.Shf
namespace Go.Proofs.Shf
open Go.AW Go.Proofs Go.Shf
def idxR : Option Nat→Int
 | some i=>i
 | none=>-1
theorem isSize_ok (B : Nat) (n : Int) : Pur Tryz.prog B 145 [iI n] (.bool (dec (0≤n∧n≤256))):=by
 refine ⟨fun H0=>c145 (by simp) fun _=>?_⟩;unfold s145;refine tt ?_;refine (inRange_ok ..).go fun _=>tt ?_;exact pure_ret rfl (.refl _)
theorem areSizes_ok (B : Nat) (s : List Int) : Pur Tryz.prog B 126 [iL s] (.bool (dec (∀ y,y∈s→0≤y∧y≤256))):=by
 refine ⟨fun H0=>c126 (by simp) fun ⟨hf,_⟩=>?_⟩
 have hl:=fine_mL_le hf;simp only [maxL] at hl;unfold s126;refine tt ?_;refine awp_for [5,6] (fun k _=>[(7,some (.int .i64 (k : Int)))]) (fun k _ H=>H=H0∧∀ i,i<k→0≤s.getD i default∧s.getD i default≤256) s.length () ⟨rfl,by simp⟩ rfl ?_
 rintro k _ H hk ⟨rfl,hall⟩;refine tt ?_;apply bk <;> intro h1
 ·have h1p:=of_decide h1
  have w1:=wsucc (k:=k) (by omega);refine tt ?_;refine ⟨h1p,tt ?_⟩;refine (isSize_ok ..).go fun _=>tt ?_;apply bk <;> intro h2
  ·refine tt ?_
   have h2p:=dd h2;refine pure_ret ?_ (.refl _);rw [dec_f]; intro h;exact h2p (h _ (mem_getD.mpr ⟨k,h1p,rfl⟩))
  ·refine tw w1 ?_
   have h2p:=dd h2;exact for_next () (by omega) ⟨rfl,lt_succ_all hall (by omega)⟩ rfl
 ·have h1p:=of_ndecide h1;refine tt ?_;exact pure_ret (by rw [dec_t]; exact all_getD.mpr fun i hi=>hall i (by omega)) (.refl _)
theorem prodT_take {s : List Int} {k : Nat} (hk : k<s.length) : prodT (s.take (k+1))=prodT (s.take k)*s.getD k default:=by
 rw [take_one _ hk,prodT_append,prodT,prodT,Int.mul_one]
theorem prodT_drop {s : List Int} {k : Nat} (hk : k<s.length) : prodT (s.drop k)=s.getD k default*prodT (s.drop (k+1)):=by
 have : s.drop k=s.getD k default::s.drop (k+1):=by
  rw [List.drop_eq_getElem_cons hk]; simp [List.getD_eq_getElem?_getD,hk]
 rw [this,prodT]
def Sm (s : List Int) : Prop:=s.length≤4∧∀ a,a∈s→0≤a∧a≤16
theorem Sm.take {s : List Int} (h : Sm s) (k : Nat) : 0≤prodT (s.take k)∧prodT (s.take k)≤65536:=by
 have h2 : ∀ a,a∈s.take k→0≤a∧a≤16:=fun a ha=>h.2 a (List.mem_of_mem_take ha);refine ⟨prodT_nonneg fun a ha=>(h2 a ha).1,Int.le_trans (prodT_le (by omega) h2) ?_⟩
 have h3 : (s.take k).length≤4:=by rw [List.length_take]; have:=h.1; omega
 have : ∀ j : Nat,j≤4→(16 : Int) ^ j≤65536:=by decide
 exact this _ h3
theorem Sm.prod {s : List Int} (h : Sm s) : 0≤prodT s∧prodT s≤65536:=by
 have:=h.take s.length
 rwa [List.take_length] at this
theorem tupleCount_ok (B : Nat) (s : List Int) (hs : Sm s) : Pur Tryz.prog B 98 [iL s] (iI (prodT s)):=by
 refine ⟨fun H0=>c98 (by simp) fun _=>?_⟩
 have hl:=hs.1;unfold s98;refine tt ?_;refine awp_for [6,7] (fun k _=>[(3,some (iI (prodT (s.take k)))),(8,some (.int .i64 (k : Int)))]) (fun k _ H=>H=H0) s.length () rfl rfl ?_
 rintro k _ H hk rfl
 have ht:=hs.take k;refine tt ?_;apply bk <;> intro h1
 ·have h1p:=of_decide h1
  have w1:=wsucc (k:=k) (by omega)
  have hb:=hs.2 _ (mem_getD.mpr ⟨k,h1p,rfl⟩)
  have ht2:=hs.take (k+1);rw [prodT_take h1p] at ht2;refine tt ?_;refine ⟨h1p,tt ?_⟩;apply bk <;> intro h2
  ·have h2p:=dd h2;refine tt ?_;refine pure_ret ?_ (.refl _);rw [prodT_zero (mem_getD.mpr ⟨k,h1p,h2p⟩)]
  ·have h2p:=dd h2
   have w2 : IntKind.i64.wrap (prodT (s.take k)*s.getD k default)=prodT (s.take k)*s.getD k default:=wrap_i64 (by omega) (by omega);refine tt ?_;rw [decide_eq_true (show prodT (s.take k)≤1000000000000 by omega)];try simp only [go_sem,↓reduceIte,reduceEqDiff,reduceAdd,reduceMul,reduceLeDiff,reduceLT,w1,w2]
   exact for_next () (by omega) rfl (by rw [prodT_take h1p])
 ·have h1p:=of_ndecide h1
  obtain rfl : k=s.length:=by omega
  rw [List.take_length] at ht ⊢;refine tt ?_;refine pure_ret ?_ (.refl _);rw [if_neg (show ¬ (1000000000001 : Int)<prodT s by omega)]
  rfl
def atK (s : List Int) (n : Int) (k : Nat) : List Int:=(List.range s.length).map fun j=>if s.length≤j+k then digT s n j else 0
theorem atK_zero (s : List Int) (n : Int) : atK s n 0=List.replicate s.length 0:=by
 refine List.ext_getElem (by simp [atK]) fun i h1 h2=>?_
 have : i<s.length:=by simpa [atK] using h1
 simp [atK]; omega
theorem atK_full (s : List Int) (n : Int) : atK s n s.length=atT s n:=by
 refine List.ext_getElem (by simp [atK,atT]) fun i h1 h2=>?_
 simp [atK,atT]
theorem atK_succ (s : List Int) (n : Int) {k : Nat} (hk : k<s.length) : (atK s n k).set (s.length - 1 - k) (digT s n (s.length - 1 - k))=atK s n (k+1):=by
 refine List.ext_getElem (by simp [atK]) fun i h1 h2=>?_
 have hi : i<s.length:=by simpa [atK] using h2
 simp only [atK,List.getElem_set,List.getElem_map,List.getElem_range]
 by_cases e : s.length - 1 - k=i
 ·rw [if_pos e,if_pos (by omega),e]
 ·rw [if_neg e]
  by_cases e2 : s.length≤i+k
  ·rw [if_pos e2,if_pos (by omega)]
  ·rw [if_neg e2,if_neg (by omega)]
theorem atK_len (s : List Int) (n : Int) (k : Nat) : (atK s n k).length=s.length:=by simp [atK]
theorem at_step {s : List Int} (hp : ∀ a,a∈s→0<a) {n : Int} (hn : 0≤n) {k j : Nat} (hk : k<s.length) (hj : j=s.length - 1 - k) :
  (n / prodT (s.drop (s.length - k))).tmod (s.getD j default)=digT s n j∧(n / prodT (s.drop (s.length - k))).tdiv (s.getD j default)=n / prodT (s.drop (s.length - (k+1))) ∧
  0<s.getD j default∧0≤n / prodT (s.drop (s.length - (k+1)))∧n / prodT (s.drop (s.length - (k+1)))≤n∧0≤digT s n j∧s.length - k=j+1∧s.length - (k+1)=j∧j<s.length:=by
 have hjl : j<s.length:=by omega
 have e1 : s.length - k=j+1:=by omega
 have e2 : s.length - (k+1)=j:=by omega
 have hb:=hp _ (mem_getD.mpr ⟨j,hjl,rfl⟩)
 have hP : 0<prodT (s.drop (j+1)):=prodT_pos fun a ha=>hp a (List.mem_of_mem_drop ha)
 have hq : 0≤n / prodT (s.drop (j+1)):=Int.ediv_nonneg hn (by omega);rw [e1,e2,Int.tmod_eq_emod_of_nonneg hq,Int.tdiv_eq_ediv_of_nonneg hq,prodT_drop hjl,Int.mul_comm,← Int.ediv_ediv_of_nonneg (by omega)];refine ⟨rfl,rfl,hb,Int.ediv_nonneg hq (by omega),Int.le_trans (Int.ediv_le_self _ hq) (Int.ediv_le_self _ hn),Int.emod_nonneg _ (by omega),by omega,by omega,hjl⟩
theorem atT_smT {s : List Int} (hs : Sm s) {n : Int} (hn : 0≤n∧n<prodT s) : ∀ a,a∈s→0<a:=fun a ha=>by
 have h1:=hs.2 a ha
 by_cases e : a=0
 ·subst e; rw [prodT_zero ha] at hn; omega
 ·omega
theorem tupleAt_ok (B : Nat) (s : List Int) (hs : Sm s) (n : Int) (hn : 0≤n∧n<prodT s) : Pur Tryz.prog B 100 [iL s,iI n] (.tup [iL (atT s n),iI 0]):=by
 refine ⟨fun H0=>c100 (by simp) fun _=>?_⟩
 have hl:=hs.1
 have hp:=atT_smT hs hn
 have hP:=hs.prod
 have w0 : IntKind.i64.wrap ((s.length : Int) - 1)=(s.length : Int) - 1:=wrap_i64 (by omega) (by omega)
 have wP : IntKind.i64.wrap (prodT s - 1)=prodT s - 1:=wrap_i64 (by omega) (by omega);unfold s100
 have o : Owns H0 H0 []:=.nil _;refine tt ?_;refine (areSizes_ok B s).go fun _=>?_;rw [dec_t fun y hy=>by have:=hs.2 y hy; omega];refine tt ?_;refine (tupleCount_ok B s hs).go fun _=>tt ?_;rw [decide_eq_false (show ¬ (1000000000000 : Int)<prodT s by omega)];refine tw wP ?_;refine (inRange_ok ..).go fun _=>?_;rw [dec_t (by omega)];refine tt ?_;refine ⟨⟨by omega,by simp only [maxL]; omega⟩,mks_list iI 0 rfl o fun id H o=>?_⟩;refine tw w0 ?_
 refine awp_for [0,7] (G:=List Int) (fun k A=>[(1,some (iI (n / prodT (s.drop (s.length - k))))),(8,some (iI ((s.length : Int) - 1 - k)))])
  (fun k A H=>A=atK s n k∧Owns H0 H [(id,.cells 1 (A.map iI) 0)]) s.length (List.replicate s.length 0) ⟨(atK_zero s n).symm,o⟩ (by simp [prodT]; rfl) ?_
 clear o
 rintro k A H hk ⟨hA,o⟩;refine tt ?_;apply bk <;> intro h1
 ·have h1p : k<s.length:=by simp at h1; omega
  obtain ⟨j,hj⟩ : ∃ j,j=s.length - 1 - k:=⟨_,rfl⟩
  obtain ⟨m1,m2,m3,m4,m5,m6,m7,m8,m9⟩:=at_step hp hn.1 h1p hj
  have ej : (s.length : Int) - 1 - k=(j : Int):=by omega
  have w1 : IntKind.i64.wrap ((j : Int) - 1)=(j : Int) - 1:=wrap_i64 (by omega) (by omega)
  have w2 : IntKind.i64.wrap (n / prodT (s.drop (s.length - (k+1))))=n / prodT (s.drop (s.length - (k+1))):=wrap_i64 (by omega) (by omega);rw [ej];refine tt ?_;refine ⟨m9,by omega,m9, ?_⟩;rw [m1];refine set_own (f:=iI) _ o rfl (by rw [hA,atK_len]; exact m9) fun H o=>tt ?_;refine ⟨m9,by omega, ?_⟩;rw [m2];try simp only [go_sem,↓reduceIte,reduceEqDiff,reduceAdd,reduceMul,reduceLeDiff,reduceLT,w2,w1]
  exact for_next (A.set j (digT s n j)) h1p ⟨by rw [hA,hj,atK_succ s n h1p],o⟩ (by rw [show (s.length : Int) - 1 - ((k+1 : Nat) : Int)=(j : Int) - 1 by omega])
 ·have h1p : k=s.length:=by simp at h1; omega
  subst h1p;refine tt ?_;refine fz_own o (by rw [hA,atK_len]) fun H o=>tt ?_;rw [hA,atK_full];exact pure_ret rfl o.sub
end Go.Proofs.Shf
namespace Go.Shf
open Go.AW Go.Proofs.Shf
@[go_sem] def QS.cells (q : QS) : List AV:=[iL q.v,mL prE q.l,mL prE q.r,iL q.o]
end Go.Shf
namespace Go.Proofs.Shf
open Go.AW Go.Proofs Go.Shf
theorem prE_get {l : List (Int × Int)} {k : Nat} (hk : k<l.length) : (l.map prE).getD ((k : Int)).toNat nv=prE (l.getD k default):=by
 rw [Int.toNat_natCast,map_getD _ hk]
theorem prE_at {l : List (Int × Int)} {k : Nat} (hk : k<l.length) : 0≤(k : Int)∧((k : Int)).toNat<(l.map prE).length∧((l.map prE).getD ((k : Int)).toNat nv).cells.length=2:=by
 rw [prE_get hk];exact ⟨by omega,by simpa using hk,rfl⟩
theorem isTerm_ok (B : Nat) (c : Cat) (q : QS) (t : Int × Int) : Pur Tryz.prog B 84 [.ptr c.cells,.ptr q.cells,prE t] (.bool (dec (TermOk c q.v t))):=by
 refine ⟨fun H0=>c84 (by simp) fun ⟨hc,hq,_⟩=>?_⟩
 have hl:=fine_mL_le (hq.ptr (c:=iL q.v) (by simp [QS.cells]))
 have hm:=fine_mL_le (hc.ptr (c:=iL c.frm) (by simp [Cat.cells]));simp only [maxL] at hl hm
 have w0 : IntKind.i64.wrap ((q.v.length : Int) - 1)=(q.v.length : Int) - 1:=wrap_i64 (by omega) (by omega)
 have w1 : IntKind.i64.wrap ((c.frm.length : Int) - 1)=(c.frm.length : Int) - 1:=wrap_i64 (by omega) (by omega);unfold s84;refine tw w0 ?_;refine ⟨_,(inRange_ok ..).run, ?_⟩
 by_cases g1 : 0≤t.1∧t.1≤(q.v.length : Int) - 1
 rotate_left 1
 ·rw [dec_f g1];refine tt ?_;exact pure_ret (by rw [dec_f]; rintro ⟨h,_⟩; omega) (.refl _)
 rw [dec_t g1];refine tt ?_;refine ⟨_,(arrows_ok B c).run, ?_⟩;refine tw w1 ?_;refine ⟨_,(inRange_ok ..).run, ?_⟩
 by_cases g2 : 0≤t.2∧t.2≤(c.frm.length : Int) - 1
 rotate_left 1
 ·rw [dec_f g2];refine tt ?_;exact pure_ret (by rw [dec_f]; rintro ⟨_,h,_⟩; omega) (.refl _)
 rw [dec_t g2];refine tt ?_;refine ⟨⟨g2.1,by omega⟩,⟨g1.1,by omega⟩,pure_ret ?_ (.refl _)⟩
 by_cases e : ix c.frm t.2=ix q.v t.1
 ·rw [decide_eq_true e,dec_t ⟨⟨g1.1,by omega⟩,⟨g2.1,by omega⟩,e⟩]
 ·rw [decide_eq_false e,dec_f fun h=>e h.2.2]
theorem isCondition_ok (B : Nat) (c : Cat) (hc : c.to.length=c.frm.length) (q : QS) (a b : Int × Int) : Pur Tryz.prog B 47 [.ptr c.cells,.ptr q.cells,prE a,prE b] (.bool (dec (CondOk c q.v a b))):=by
 refine ⟨fun H0=>c47 (by simp) fun _=>?_⟩;unfold s47;refine tt ?_;refine ⟨_,(isTerm_ok B c q a).run, ?_⟩
 by_cases g1 : TermOk c q.v a
 rotate_left 1
 ·rw [dec_f g1];refine tt ?_;exact pure_ret (by rw [dec_f fun h=>g1 h.1]) (.refl _)
 rw [dec_t g1];refine tt ?_;refine ⟨_,(isTerm_ok B c q b).run, ?_⟩
 by_cases g2 : TermOk c q.v b
 rotate_left 1
 ·rw [dec_f g2];refine tt ?_;exact pure_ret (by rw [dec_f fun h=>g2 h.2.1]) (.refl _)
 rw [dec_t g2];refine tt ?_;refine ⟨⟨g1.2.1.1,by have:=g1.2.1.2; omega⟩,⟨g2.2.1.1,by have:=g2.2.1.2; omega⟩,pure_ret ?_ (.refl _)⟩
 by_cases e : ix c.to a.2=ix c.to b.2
 ·rw [decide_eq_true e,dec_t ⟨g1,g2,e⟩]
 ·rw [decide_eq_false e,dec_f fun h=>e h.2.2]
theorem isQuery_ok (B : Nat) (c : Cat) (hc : c.Is) (q : QS) : Pur Tryz.prog B 20 [.ptr c.cells,.ptr q.cells] (.bool (dec (q.Ok c))):=by
 refine ⟨fun H0=>c20 (by simp) fun ⟨_,hq,_⟩=>?_⟩
 have hl:=fine_mL_le (hq.ptr (c:=iL q.v) (by simp [QS.cells]))
 have hll:=fine_mL_le (hq.ptr (c:=mL prE q.l) (by simp [QS.cells]));simp only [maxL] at hl hll
 have ho:=hc.1.o;unfold s20;refine tt ?_
 by_cases g1 : q.v.length≤4
 rotate_left 1
 ·rw [decide_eq_true (show (4 : Int)<q.v.length by omega)];refine tt ?_;exact pure_ret (by rw [dec_f fun h=>g1 h.v4]) (.refl _)
 rw [decide_eq_false (show ¬ (4 : Int)<q.v.length by omega)];refine tt ?_;refine ⟨_,(within_ok B q.v c.objs (by omega)).run, ?_⟩
 by_cases g2 : ∀ y,y∈q.v→0≤y∧y<c.objs
 rotate_left 1
 ·rw [dec_f g2];refine tt ?_;exact pure_ret (by rw [dec_f fun h=>g2 h.vo]) (.refl _)
 rw [dec_t g2];refine tt ?_
 by_cases g3 : q.l.length≤6
 rotate_left 1
 ·rw [decide_eq_true (show (6 : Int)<q.l.length by omega)];refine tt ?_;exact pure_ret (by rw [dec_f fun h=>g3 h.l6]) (.refl _)
 rw [decide_eq_false (show ¬ (6 : Int)<q.l.length by omega)];refine tt ?_
 by_cases g4 : q.r.length=q.l.length
 rotate_left 1
 ·rw [decide_eq_false g4];refine tt ?_;exact pure_ret (by rw [dec_f fun h=>g4 h.rl]) (.refl _)
 rw [decide_eq_true g4];refine tt ?_;refine awp_for [0,1,49] (fun k _=>[(50,some (.int .i64 (k : Int)))]) (fun k _ H=>H=H0∧∀ i,i<k→CondOk c q.v (q.l.getD i default) (q.r.getD i default)) q.l.length () ⟨rfl,by simp⟩ rfl ?_
 rintro k _ H hk ⟨rfl,hall⟩;refine tt ?_;apply bk <;> intro h1
 ·have h1p:=of_decide h1
  have w1:=wsucc (k:=k) (by omega);refine tt ?_;refine ⟨prE_at h1p, ?_⟩;rw [prE_get h1p];refine tt ?_;refine ⟨prE_at (by omega), ?_⟩;rw [prE_get (by omega)];refine tt ?_;refine ⟨_,(isCondition_ok B c hc.1.tol q _ _).run, ?_⟩
  by_cases g5 : CondOk c q.v (q.l.getD k default) (q.r.getD k default)
  ·rw [dec_t g5];refine tw w1 ?_;exact for_next () h1p ⟨rfl,lt_succ_all hall g5⟩ rfl
  ·rw [dec_f g5];refine tt ?_;exact pure_ret (by rw [dec_f fun h=>g5 (h.cond k h1p)]) (.refl _)
 ·have h1p:=of_ndecide h1
  have hall' : ∀ i,i<q.l.length→CondOk c q.v (q.l.getD i default) (q.r.getD i default):=fun i hi=>hall i (by omega);refine tt ?_
  by_cases g6 : q.o.length≤4
  rotate_left 1
  ·rw [decide_eq_false (show ¬ (q.o.length : Int)≤4 by omega)];refine tt ?_;exact pure_ret (by rw [dec_f fun h=>g6 h.o4]) (.refl _)
  rw [decide_eq_true (show (q.o.length : Int)≤4 by omega)];refine tt ?_;refine ⟨_,(within_ok B q.o q.v.length (by omega)).run,tt ?_⟩;refine pure_ret ?_ (.refl _)
  congr 1
  exact dec_congr ⟨fun h=>⟨g1,g2,g3,g4,hall',g6,h⟩,fun h=>h.ov⟩
theorem l02Arrow_ok (B : Nat) (c : Cat) (a : Int) : Pur Tryz.prog B 86 [.agg c.cells,iI a] (.bool (dec (0≤a∧a.toNat<c.frm.length))):=by
 refine ⟨fun H0=>c86 (by simp) fun _=>?_⟩;unfold s86;refine tt ?_
 by_cases g1 : 0≤a
 ·rw [decide_eq_true g1];refine tt ?_;refine pure_ret ?_ (.refl _)
  congr 1
  by_cases g2 : a<c.frm.length
  ·rw [decide_eq_true g2,dec_t ⟨g1,by omega⟩]
  ·rw [decide_eq_false g2,dec_f (by omega)]
 ·rw [decide_eq_false g1];refine tt ?_;exact pure_ret (by rw [dec_f fun h=>g1 h.1]) (.refl _)
theorem l38Term_ok (B : Nat) (c : Cat) (v : List Int) (t : Int × Int) : Pur Tryz.prog B 51 [.agg c.cells,iL v,prE t] (.bool (dec (TermOk c v t))):=by
 refine ⟨fun H0=>c51 (by simp) fun ⟨hc,hv,_⟩=>?_⟩
 have hl:=fine_mL_le hv;simp only [maxL] at hl
 have w0 : IntKind.i64.wrap ((v.length : Int) - 1)=(v.length : Int) - 1:=wrap_i64 (by omega) (by omega);unfold s51;refine tw w0 ?_;refine ⟨_,(l01In_ok ..).run, ?_⟩
 by_cases g1 : 0≤t.1∧t.1≤(v.length : Int) - 1
 rotate_left 1
 ·rw [dec_f g1];refine tt ?_;exact pure_ret (by rw [dec_f]; rintro ⟨h,_⟩; omega) (.refl _)
 rw [dec_t g1];refine tt ?_;refine ⟨_,(l02Arrow_ok B c t.2).run, ?_⟩
 by_cases g2 : 0≤t.2∧t.2.toNat<c.frm.length
 rotate_left 1
 ·rw [dec_f g2];refine tt ?_;exact pure_ret (by rw [dec_f fun h=>g2 h.2.1]) (.refl _)
 rw [dec_t g2];refine tt ?_;refine ⟨g2,⟨g1.1,by omega⟩,pure_ret ?_ (.refl _)⟩
 by_cases e : ix c.frm t.2=ix v t.1
 ·rw [decide_eq_true e,dec_t ⟨⟨g1.1,by omega⟩,g2,e⟩]
 ·rw [decide_eq_false e,dec_f fun h=>e h.2.2]
def partB (ws : List (List UInt8)) : List UInt8:=if ws=[] then [45] else Lib.join ws [32]
def decsB (l : List Int) : List UInt8:=partB (l.map decB)
def termB (t : Int × Int) : List UInt8:=decB t.1++[46]++decB t.2
def condB (q : QS) (i : Nat) : List UInt8:=termB (q.l.getD i default)++[61]++termB (q.r.getD i default)
def condsB (q : QS) (n : Nat) : List (List UInt8):=(List.range n).map (condB q)
def textB (q : QS) : List UInt8:=decsB q.v++[32,124,32]++partB (condsB q q.l.length)++[32,124,32]++decsB q.o
def flatB (ws : List (List UInt8)) : List UInt8:=(ws.map ([32]++·)).flatten
theorem flatB_join {ws : List (List UInt8)} (h : ws≠[]) : flatB ws=[32]++Lib.join ws [32]:=by
 obtain ⟨x,r,rfl⟩:=List.exists_cons_of_ne_nil h;rw [Lib.join_cons,Lib.joinTail,flatB]; simp
theorem flatB_len {ws : List (List UInt8)} {m : Nat} (h : ∀ w,w∈ws→w.length≤m) : (flatB ws).length≤ws.length*(m+1):=by
 induction ws with
 | nil=>simp [flatB]
 | cons x r ih =>
  have h1:=h x List.mem_cons_self
  have h2:=ih fun w hw=>h w (List.mem_cons_of_mem _ hw);simp only [flatB,List.map_cons,List.flatten_cons,List.length_append,List.length_cons,List.length_nil] at h2 ⊢;rw [Nat.add_mul]; omega
theorem partB_len {ws : List (List UInt8)} {m : Nat} (h : ∀ w,w∈ws→w.length≤m) : (partB ws).length≤ws.length*(m+1)+1:=by
 unfold partB
 split
 ·simp
 ·next h0 =>
  have h1:=flatB_len h;rw [flatB_join h0,List.length_append] at h1;omega
theorem flatB_snoc (ws : List (List UInt8)) (w : List UInt8) : flatB (ws++[w])=flatB ws++[32]++w:=by simp [flatB]
theorem flatB_nil {ws : List (List UInt8)} (h : flatB ws=[]) : ws=[]:=by
 cases ws with
 | nil=>rfl
 | cons x r=>simp [flatB] at h
theorem partB_flat (ws : List (List UInt8)) : [32]++partB ws=if flatB ws=[] then [32,45] else flatB ws:=by
 unfold partB
 by_cases h : ws=[]
 ·subst h; rfl
 ·rw [if_neg h,if_neg fun e=>h (flatB_nil e),flatB_join h]
def Sml (l : List Int) : Prop:=l.length≤64∧∀ x,x∈l→0≤x∧x<100
theorem Sml.len {l : List Int} (h : Sml l) : ∀ w,w∈l.map decB→w.length≤2:=fun w hw=>by
 obtain ⟨x,hx,rfl⟩:=List.mem_map.mp hw;exact (decB_len (h.2 x hx)).2
theorem decsB_len {l : List Int} (h : Sml l) : (decsB l).length≤193:=by
 have:=partB_len h.len;rw [List.length_map] at this
 have:=h.1;unfold decsB; omega
def TmS (t : Int × Int) : Prop:=(0≤t.1∧t.1<100)∧(0≤t.2∧t.2<100)
structure QSm (q : QS) : Prop where
 v : Sml q.v
 o : Sml q.o
 l6 : q.l.length≤6
 rl : q.r.length=q.l.length
 lt : ∀ i,i<q.l.length→TmS (q.l.getD i default)
 rt : ∀ i,i<q.l.length→TmS (q.r.getD i default)
theorem okSm {q : QS} {c : Cat} (h : q.Ok c) (s : c.Shape) : QSm q:=by
 have so:=s.o
 have sm:=s.m
 have v4:=h.v4
 have o4:=h.o4;refine ⟨⟨by omega,fun x hx=>?_⟩,⟨by omega,fun x hx=>?_⟩,h.l6,h.rl,fun i hi=>?_,fun i hi=>?_⟩
 ·have:=h.vo x hx; omega
 ·have:=h.ov x hx; omega
 ·have:=(h.cond i hi).1
  have a:=this.1
  have b:=this.2.1;refine ⟨⟨a.1,by omega⟩,⟨b.1,by omega⟩⟩
 ·have:=(h.cond i hi).2.1
  have a:=this.1
  have b:=this.2.1;refine ⟨⟨a.1,by omega⟩,⟨b.1,by omega⟩⟩
theorem termB_len {t : Int × Int} (h : TmS t) : (termB t).length≤5:=by
 have h1:=(decB_len h.1).2
 have h2:=(decB_len h.2).2;simp only [termB,List.length_append,List.length_cons,List.length_nil]; omega
theorem condB_len {q : QS} (h : QSm q) {i : Nat} (hi : i<q.l.length) : (condB q i).length≤11:=by
 have h1:=termB_len (h.lt i hi)
 have h2:=termB_len (h.rt i hi);simp only [condB,List.length_append,List.length_cons,List.length_nil]; omega
theorem condsB_len {q : QS} (h : QSm q) {n : Nat} (hn : n≤q.l.length) : ∀ w,w∈condsB q n→w.length≤11:=fun w hw=>by
 obtain ⟨i,hi,rfl⟩:=List.mem_map.mp hw;exact condB_len h (by have:=List.mem_range.mp hi; omega)
theorem condsB_succ (q : QS) (n : Nat) : condsB q (n+1)=condsB q n++[condB q n]:=by simp [condsB,List.range_succ]
instance : One AV.str:=⟨fun _=>rfl,fun _=>rfl⟩
theorem part_ok (B : Nat) (hB : B % 2=1) (ws : List (List UInt8)) {m : Nat} (hm : ∀ w,w∈ws→w.length≤m) (hl : ws.length*(m+1)≤100000) : Pur Tryz.prog B 55 [mL AV.str ws] (.str (partB ws)):=by
 refine ⟨fun H0=>c55 (by simp) fun _=>?_⟩;unfold s55;refine tt ?_;apply bk <;> intro h1
 ·refine tt ?_;exact pure_ret (by rw [partB,if_pos]; exact List.length_eq_zero_iff.mp (by have:=of_decide h1; omega)) (.refl _)
 ·have h1p:=of_ndecide h1
  have hne : ws≠[]:=fun e=>h1p (by rw [e]; rfl)
  have hb:=partB_len hm;rw [partB,if_neg hne] at hb;refine tt ?_;refine (join_ok B hB ws [32] hne (by omega)).go fun _=>tt ?_;exact pure_ret (by rw [partB,if_neg hne]) (.refl _)
theorem termI_ok (B : Nat) (t : Int × Int) (h : TmS t) : Pur Tryz.prog B 53 [.agg [iI t.1,iI t.2]] (.str (termB t)):=by
 refine ⟨fun H0=>c53 (by simp) fun _=>?_⟩;unfold s53
 have h1:=decB_len h.1
 have h2:=decB_len h.2;refine tt ?_;refine ⟨_,(format_ok B t.1 h.1).run,tt ?_⟩;refine ⟨by simp [maxL]; omega, ?_⟩;refine ⟨_,(format_ok B t.2 h.2).run,tt ?_⟩;refine ⟨by simp [maxL]; omega, ?_⟩;exact pure_ret rfl (.refl _)
theorem specIsQuery_ok (B : Nat) (c : Cat) (q : QS) : Pur Tryz.prog B 24 [.agg c.cells,.agg q.cells] (.bool (dec (c.Is∧q.Ok c))):=by
 refine ⟨fun H0=>c24 (by simp) fun ⟨_,hq,_⟩=>?_⟩;unfold s24;refine tt ?_;refine (l02Is_ok B c).go fun _=>?_
 by_cases hc : c.Is
 rotate_left 1
 ·rw [dec_f hc];refine tt ?_;exact pure_ret (by rw [dec_f fun h=>hc h.1]) (.refl _)
 rw [dec_t hc];refine tt ?_
 by_cases g1 : q.v.length≤4
 rotate_left 1
 ·rw [decide_eq_true (show (4 : Int)<q.v.length by omega)];refine tt ?_;exact pure_ret (by rw [dec_f fun h=>g1 h.2.v4]) (.refl _)
 rw [decide_eq_false (show ¬ (4 : Int)<q.v.length by omega)];refine tt ?_;refine (l01Map_ok B q.v c.objs).go fun _=>?_
 by_cases g2 : ∀ y,y∈q.v→0≤y∧y<c.objs
 rotate_left 1
 ·rw [dec_f g2];refine tt ?_;exact pure_ret (by rw [dec_f fun h=>g2 h.2.vo]) (.refl _)
 rw [dec_t g2];refine tt ?_
 by_cases g3 : q.l.length≤6
 rotate_left 1
 ·rw [decide_eq_true (show (6 : Int)<q.l.length by omega)];refine tt ?_;exact pure_ret (by rw [dec_f fun h=>g3 h.2.l6]) (.refl _)
 rw [decide_eq_false (show ¬ (6 : Int)<q.l.length by omega)];refine tt ?_
 by_cases g4 : q.r.length=q.l.length
 rotate_left 1
 ·rw [decide_eq_false g4];refine tt ?_;exact pure_ret (by rw [dec_f fun h=>g4 h.2.rl]) (.refl _)
 rw [decide_eq_true g4];refine tt ?_
 by_cases g6 : q.o.length≤4
 rotate_left 1
 ·rw [decide_eq_true (show (4 : Int)<q.o.length by omega)];refine tt ?_;exact pure_ret (by rw [dec_f fun h=>g6 h.2.o4]) (.refl _)
 rw [decide_eq_false (show ¬ (4 : Int)<q.o.length by omega)];refine tt ?_;refine (l01Map_ok B q.o q.v.length).go fun _=>?_
 by_cases g7 : ∀ y,y∈q.o→0≤y∧y<(q.v.length : Int)
 rotate_left 1
 ·rw [dec_f g7];refine tt ?_;exact pure_ret (by rw [dec_f fun h=>g7 h.2.ov]) (.refl _)
 rw [dec_t g7];refine tt ?_;refine awp_for [2,3] (fun k _=>[(5,some (.int .i64 (k : Int)))]) (fun k _ H=>H=H0∧∀ i,i<k→CondOk c q.v (q.l.getD i default) (q.r.getD i default)) q.l.length () ⟨rfl,by simp⟩ rfl ?_
 rintro k _ H hk ⟨rfl,hall⟩;refine tt ?_;apply bk <;> intro h1
 ·have h1p:=of_decide h1
  have w1:=wsucc (k:=k) (by omega);refine tt ?_;refine ⟨prE_at h1p, ?_⟩;rw [prE_get h1p];refine tt ?_;refine ⟨_,(l38Term_ok B c q.v _).run, ?_⟩
  by_cases g8 : TermOk c q.v (q.l.getD k default)
  rotate_left 1
  ·rw [dec_f g8];refine tt ?_;exact pure_ret (by rw [dec_f fun h=>g8 (h.2.cond k h1p).1]) (.refl _)
  rw [dec_t g8];refine tt ?_;refine ⟨prE_at (by omega), ?_⟩;rw [prE_get (by omega)];refine tt ?_;refine ⟨_,(l38Term_ok B c q.v _).run, ?_⟩
  by_cases g9 : TermOk c q.v (q.r.getD k default)
  rotate_left 1
  ·rw [dec_f g9];refine tt ?_;exact pure_ret (by rw [dec_f fun h=>g9 (h.2.cond k h1p).2.1]) (.refl _)
  rw [dec_t g9];refine tt ?_;refine ⟨prE_at h1p, ?_⟩;rw [prE_get h1p];refine tt ?_
  have ha:=g8.2.1
  have hb:=g9.2.1
  have htl:=hc.1.tol;refine ⟨⟨ha.1,by omega⟩,prE_at (by omega), ?_⟩;rw [prE_get (by omega)];refine tt ?_;refine ⟨⟨hb.1,by omega⟩, ?_⟩
  by_cases e : ix c.to (q.l.getD k default).2=ix c.to (q.r.getD k default).2
  ·rw [decide_eq_true e];refine tw w1 ?_;exact for_next () h1p ⟨rfl,lt_succ_all hall ⟨g8,g9,e⟩⟩ rfl
  ·rw [decide_eq_false e];refine tt ?_;exact pure_ret (by rw [dec_f fun h=>e (h.2.cond k h1p).2.2]) (.refl _)
 ·have h1p:=of_ndecide h1
  have hall' : ∀ i,i<q.l.length→CondOk c q.v (q.l.getD i default) (q.r.getD i default):=fun i hi=>hall i (by omega);refine tt ?_;exact pure_ret (by rw [dec_t ⟨hc,g1,g2,g3,g4,hall',g6,g7⟩]) (.refl _)
open Classical in
/-- The code of a set functor and a query. -/
noncomputable def codQ (f : SF) (q : QS) : Int:=if f.Is∧q.Ok f.shape then (if prodT (szT f q.v)≤4096 then 0 else 3) else 1
end Go.Proofs.Shf
namespace Go.Shf
open Go.AW Go.Proofs.Shf
noncomputable def solK (f : SF) (q : QS) (k : Nat) : List (List Int):=((List.range k).map fun i : Nat=>atT (szT f q.v) i).filter fun t=>dec (solvT f q t)
theorem solK_succ (f : SF) (q : QS) (k : Nat) : solK f q (k+1)=solK f q k++if dec (solvT f q (atT (szT f q.v) k)) then [atT (szT f q.v) k] else []:=by
 rw [solK,List.range_succ,List.map_append,List.filter_append]
 congr 1
 simp only [List.map_cons,List.map_nil,List.filter_cons,List.filter_nil]
theorem solK_all (f : SF) (q : QS) : solK f q (prodT (szT f q.v)).toNat=solQ f q:=rfl
theorem solK_len (f : SF) (q : QS) (k : Nat) : (solK f q k).length≤k:=by
 refine Nat.le_trans (List.length_filter_le _ _) (by simp)
end Go.Shf
namespace Go.Proofs.Shf
open Go.AW Go.Proofs Go.Shf
theorem sm_sz {f : SF} {q : QS} (hf : f.Is) (hq : q.Ok f.shape) : Sm (szT f q.v):=⟨by rw [szT_len]; exact hq.v4,szT_bd hf hq⟩
noncomputable def ansQ (f : SF) (q : QS) : List (List Int):=if codQ f q=0 then solQ f q else []
theorem codQ_0 {f : SF} {q : QS} (h : codQ f q=0) : (f.Is∧q.Ok f.shape)∧prodT (szT f q.v)≤4096:=by
 unfold codQ at h
 split at h
 ·rename_i h1
  split at h
  ·rename_i h2; exact ⟨h1,h2⟩
  ·simp at h
 ·simp at h
@[go_sem] def hcE (f : SF) (x : (Int × Int) × (Int × Int)) : AV:=.fn (.func 125) [.ptr [.ptr f.cells],.ptr [iI x.1.1,iI x.1.2],.ptr [iI x.2.1,iI x.2.2]]
instance (f : SF) : One (hcE f):=⟨fun _=>rfl,fun _=>rfl⟩
def cdL (q : QS) (k : Nat) : List ((Int × Int) × (Int × Int)):=(List.range k).map fun i=>(q.l.getD i default,q.r.getD i default)
theorem cond_ok (B : Nat) (f : SF) (hf : f.Is) (q : QS) (hq : q.Ok f.shape) (t : List Int) (ht : InB (szT f q.v) t) (x : (Int × Int) × (Int × Int)) (hx : CondOk f.shape q.v x.1 x.2) :
  Pur Tryz.prog B 125 [iL t,.ptr [.ptr f.cells],.ptr [iI x.1.1,iI x.1.2],.ptr [iI x.2.1,iI x.2.2]] (.bool (dec (holdT f t x.1 x.2))):=by
 refine ⟨fun H0=>c125 (by simp) fun _=>?_⟩
 obtain ⟨a1,a2,a3⟩:=term_in hf hq ht hx.1
 obtain ⟨b1,b2,b3⟩:=term_in hf hq ht hx.2.1;unfold s125;refine tt ?_;refine ⟨a2,a1,a3,b2,b1,b3,tt ?_⟩;exact pure_ret (by rw [decide_dec]; rfl) (.refl _)
theorem ncond_ok (B : Nat) (f : SF) (hf : f.Is) (q : QS) (hq : q.Ok f.shape) (t : List Int) (ht : InB (szT f q.v) t) (x : (Int × Int) × (Int × Int)) (hx : CondOk f.shape q.v x.1 x.2) :
  Pur Tryz.prog B 102 [hcE f x,.ptr [iL t]] (.bool (dec (¬ holdT f t x.1 x.2))):=by
 refine ⟨fun H0=>c102 (by simp) fun _=>?_⟩;unfold s102;refine tt ?_;refine (show CallH Tryz.prog B 125 _ _ _ from (cond_ok B f hf q hq t ht x hx).go fun _=>?_);refine tt ?_;exact pure_ret (by by_cases h : holdT f t x.1 x.2 <;> simp [h,dec_t,dec_f]) (.refl _)
theorem indexCond_ok (B : Nat) (f : SF) (hf : f.Is) (q : QS) (hq : q.Ok f.shape) (t : List Int) (ht : InB (szT f q.v) t) (L : List ((Int × Int) × (Int × Int))) (hL : ∀ x,x∈L→CondOk f.shape q.v x.1 x.2) :
  Pur Tryz.prog B 127 [mL (hcE f) L,.fn (.func 102) [.ptr [iL t]]] (.int .i64 (idxR (L.findIdx? fun x=>dec (¬ holdT f t x.1 x.2)))):=by
 refine ⟨fun H0=>c127 (by simp) fun ⟨hfi,_⟩=>?_⟩
 have hll:=fine_mL_le hfi;simp only [maxL] at hll;unfold s127;refine tt ?_;refine awp_for [0,1,7] (fun k _=>[(8,some (.int .i64 (k : Int)))]) (fun k _ H=>H=H0∧∀ i,i<k→dec (¬ holdT f t (L.getD i default).1 (L.getD i default).2)=false) L.length () ⟨rfl,by simp⟩ rfl ?_
 rintro k _ H hk ⟨rfl,hall⟩;refine tt ?_;apply bk <;> intro h1
 ·refine tt ?_
  have h1p:=dd h1
  have w1:=wsucc (k:=k) (by omega);refine ⟨h1p,tt ?_⟩;refine (show CallH Tryz.prog B 102 _ _ _ from (ncond_ok B f hf q hq t ht _ (hL _ (mem_getD.mpr ⟨k,h1p,rfl⟩))).go fun _=>?_);refine tt ?_;apply bk <;> intro h2
  ·refine tt ?_;refine pure_ret ?_ (.refl _)
   have : (L.findIdx? fun x=>dec (¬ holdT f t x.1 x.2))=some k:=by
    rw [List.findIdx?_eq_some_iff_getElem];refine ⟨h1p,by simpa [List.getD_eq_getElem?_getD,h1p] using h2,fun j hj=>?_⟩
    have:=hall j hj
    simpa [List.getD_eq_getElem?_getD,show j<L.length by omega] using this
   rw [this]; rfl
  ·refine tw w1 ?_;exact for_next () (by omega) ⟨rfl,lt_succ_all hall h2⟩ rfl
 ·refine tt ?_
  have h1p:=dd h1;refine pure_ret ?_ (.refl _)
  have : (L.findIdx? fun x=>dec (¬ holdT f t x.1 x.2))=none:=by
   rw [List.findIdx?_eq_none_iff]
   intro x hx
   obtain ⟨i,hi,rfl⟩:=mem_getD.mp hx;exact hall i (by omega)
  rw [this]; rfl
theorem cdL_all {q : QS} {c : Cat} (hq : q.Ok c) : ∀ x,x∈cdL q q.l.length→CondOk c q.v x.1 x.2:=by
 intro x hx
 obtain ⟨i,hi,rfl⟩:=List.mem_map.mp hx;exact hq.cond i (List.mem_range.mp hi)
theorem containsCond_ok (B : Nat) (f : SF) (hf : f.Is) (q : QS) (hq : q.Ok f.shape) (t : List Int) (ht : InB (szT f q.v) t) :
  Pur Tryz.prog B 101 [mL (hcE f) (cdL q q.l.length),.fn (.func 102) [.ptr [iL t]]] (.bool (dec (¬ solvT f q t))):=by
 refine ⟨fun H0=>c101 (by simp) fun _=>?_⟩;unfold s101;refine tt ?_;refine (indexCond_ok B f hf q hq t ht _ (cdL_all hq)).go fun _=>tt ?_;refine pure_ret ?_ (.refl _)
 congr 1
 rw [decide_dec];refine dec_congr ?_
 cases e : (cdL q q.l.length).findIdx? fun x=>dec (¬ holdT f t x.1 x.2) with
 | some k =>
  rw [List.findIdx?_eq_some_iff_getElem] at e
  obtain ⟨h1,h2,_⟩:=e
  have hk : k<q.l.length:=by simpa [cdL] using h1
  refine ⟨fun _ h=>?_,fun _=>by simp [idxR]⟩
  have:=dec_iff.mp h2;simp only [cdL,List.getElem_map,List.getElem_range] at this;exact this (h k hk)
 | none =>
  rw [List.findIdx?_eq_none_iff] at e;refine ⟨fun h=>by simp [idxR] at h,fun h=>absurd ?_ h⟩
  intro i hi
  have:=dec_niff.mp (e (q.l.getD i default,q.r.getD i default) (List.mem_map.mpr ⟨i,List.mem_range.mpr hi,rfl⟩))
  simpa using this
theorem cdL_succ (q : QS) (k : Nat) : cdL q (k+1)=cdL q k++[(q.l.getD k default,q.r.getD k default)]:=map_range_succ _ _
theorem conditions_ok (B : Nat) (f : SF) (q : QS) (hl : q.l.length≤6) (hr : q.r.length=q.l.length) : Pur Tryz.prog B 99 [.ptr q.cells,.ptr f.cells] (mL (hcE f) (cdL q q.l.length)):=by
 refine ⟨fun H0=>c99p (by simp) fun _=>?_⟩;unfold s99p
 have o : Owns H0 H0 []:=.nil _;refine tt ?_;refine new_list (hcE f) o fun id5 H o=>tt ?_
 refine awp_for [0,3,14] (G:=Nat × List ((Int × Int) × (Int × Int))) (fun k g=>[(5,some (.buf g.1 g.2.length)),(15,some (.int .i64 (k : Int)))])
  (fun k g H=>g.2=cdL q k∧Owns H0 H [(g.1,.cells 1 (g.2.map (hcE f)) 0)]) q.l.length (id5,[]) ⟨rfl,o⟩ rfl ?_
 clear o
 rintro k ⟨id5,out⟩ H hk ⟨hout,o⟩;dsimp only at hout o
 have hol : out.length=k:=by rw [hout]; simp [cdL]
 refine tt ?_;apply bk <;> intro h1
 ·have h1p:=of_decide h1
  have w1:=wsucc (k:=k) (by omega);refine tt ?_;refine ⟨prE_at h1p, ?_⟩;rw [prE_get h1p];refine tt ?_;refine ⟨prE_at (by omega), ?_⟩;rw [prE_get (by omega)];refine tt ?_;refine ⟨?_, ?_⟩
  focus
   refine newRef_own o fun id7 H o=>tt ?_;refine newRef_own o fun id8 H o=>tt ?_;refine sw o.swap fun H o=>tt ?_;refine sw o.swap fun H o=>tt ?_
  rotate_left 1
  focus
   refine newRef_own o fun id8 H o=>tt ?_;refine newRef_own o fun id7 H o=>tt ?_;refine sw o fun H o=>tt ?_;refine sw o.swap fun H o=>tt ?_
  all_goals
   refine wk_ref 8 o rfl fun H o=>wk_ref 7 o rfl fun H o=>wkW_done ?_;refine tt ?_;refine ⟨⟨rfl,fun c hc=>by obtain rfl:=List.mem_singleton.mp (show c∈[_] from hc); rfl⟩, ?_⟩;refine app_own (f:=hcE f) (q.l.getD k default,q.r.getD k default) o rfl rfl (by simp only [maxL]; omega) fun id5 H o=>?_;refine tw w1 ?_;exact for_next (id5,out++[(q.l.getD k default,q.r.getD k default)]) h1p ⟨by rw [hout,cdL_succ],o⟩ rfl
 ·have h1p:=of_ndecide h1
  obtain rfl : k=q.l.length:=by omega
  refine tt ?_;refine fz_own o rfl fun H o=>tt ?_;rw [hout];exact pure_ret rfl o.sub
theorem solutions_ok (B : Nat) (f : SF) (hf : f.Is) (q : QS) (hq : q.Ok f.shape) : Pur Tryz.prog B 64 [.ptr q.cells,.ptr f.cells] (.tup [iLL (if prodT (szT f q.v)≤4096 then solQ f q else []),.bool (decide (prodT (szT f q.v)≤4096))]):=by
 refine ⟨fun H0=>c64p (by simp) fun _=>?_⟩
 have hsm:=sm_sz hf hq
 have hP0:=hsm.prod;unfold s64p
 have o : Owns H0 H0 []:=.nil _;refine tt ?_;refine ⟨_,(show Pur Tryz.prog B 22 [iL q.v,iL f.sizes] (iL (szT f q.v)) from then_ok B q.v f.sizes fun y hy=>hf.1.inX (hq.vo y hy)).run,tt ?_⟩;refine (tupleCount_ok B _ hsm).go fun _=>tt ?_
 by_cases hP : prodT (szT f q.v)≤4096
 rotate_left 1
 ·rw [decide_eq_true (show (4096 : Int)<prodT (szT f q.v) by omega)];refine tt ?_;exact pure_ret (by rw [if_neg hP,decide_eq_false hP]; rfl) (.refl _)
 rw [decide_eq_false (show ¬ (4096 : Int)<prodT (szT f q.v) by omega),decide_eq_true hP,if_pos hP];refine tt ?_;refine (conditions_ok B f q hq.l6 hq.rl).go fun _=>tt ?_;refine new_list iL o fun id9 H o=>?_
 obtain ⟨n,hn⟩ : ∃ n : Nat,prodT (szT f q.v)=n:=⟨_,(Int.toNat_of_nonneg hP0.1).symm⟩;rw [hn] at hP hP0 ⊢;refine tt ?_
 refine awp_for [6,8,30] (G:=Nat × List (List Int)) (fun k g=>[(9,some (.buf g.1 g.2.length)),(31,some (.int .i64 (k : Int)))])
  (fun k g H=>g.2=solK f q k∧Owns H0 H [(g.1,.cells 1 (g.2.map iL) 0)]) n (id9,[]) ⟨rfl,o⟩ rfl ?_
 clear o
 rintro k ⟨id9,out⟩ H hk ⟨hout,o⟩;dsimp only at hout o
 have hol:=solK_len f q k;rw [← hout] at hol;refine tt ?_;apply bk <;> intro h1
 ·have h1p : k<n:=of_decide h1
  have w1:=wsucc (k:=k) (by omega)
  have hkP : 0≤(k : Int)∧(k : Int)<prodT (szT f q.v):=by omega
  have hpos:=atT_smT hsm hkP;refine tt ?_;refine (tupleAt_ok B _ hsm k hkP).go fun _=>?_
  have htb:=atT_in hpos (k : Int)
  generalize ht : atT (szT f q.v) (k : Int)=t at *;refine tt ?_;refine newRef_own o fun id11 H o=>tt ?_;refine sw o fun H o=>tt ?_;refine wk_ref 11 o rfl fun H o=>wkW_done ?_;refine tt ?_;refine (containsCond_ok B f hf q hq t htb).go fun _=>?_
  by_cases hs : solvT f q t
  ·rw [dec_f fun h=>h hs];refine tt ?_;refine app_own t o rfl rfl (by simp only [maxL]; omega) fun id9 H o=>?_;refine tw w1 ?_;exact for_next (id9,out++[t]) h1p ⟨by rw [solK_succ,ht,dec_t hs,hout]; rfl,o⟩ rfl
  ·rw [dec_t hs];refine tw w1 ?_;exact for_next (id9,out) h1p ⟨by rw [solK_succ,ht,dec_f hs,hout]; simp,o⟩ rfl
 ·have h1p : ¬ k<n:=of_ndecide h1
  obtain rfl : k=n:=by omega
  refine tt ?_;refine fz_own o rfl fun H o=>tt ?_
  have e : solQ f q=out:=by rw [hout,← solK_all,hn]; rfl
  rw [e];exact pure_ret rfl o.sub
end Go.Proofs.Shf
