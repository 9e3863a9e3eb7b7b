/- Contracts, part 3. -/
import Derived.Test.YthflgdphhajkbaaGreatF2
set_option linter.unusedVariables false
set_option linter.unusedSimpArgs false
set_option linter.unusedSectionVars false
open Nat (reduceEqDiff reduceAdd reduceMul reduceLeDiff reduceLT)
namespace Go.Proofs.Shf
open Go.AW Go.Proofs Go.Shf
@[go_sem] noncomputable def stepCells (f : SF) (V : List (List Int)) : List AV:=[iI f.shape.objs,iL f.shape.frm,iL f.shape.to,iL f.shape.idn,iLL f.shape.comp,iL (stepSizes f V),iLL (stepActs f V),iLLL (famsOf f V)]
end Go.Proofs.Shf
namespace Go.AW
open Go.Proofs Go.Proofs.Shf
theorem Owns.subl {H0 H : Heap} {l l' : List (Nat × MObj)} (h : Owns H0 H l) (k : l'.Sublist l) : Owns H0 H l' :=
 ⟨h.sub,fun x hx=>h.get x (k.subset hx),h.nd.sublist (k.map _),fun x hx=>h.out x (k.subset hx)⟩
end Go.AW
namespace Go.Proofs.Shf
open Go.AW Go.Proofs Go.Shf
end Go.Proofs.Shf
namespace Go.AW
def iB (b : UInt8) : AV:=.int .u8 (b.toNat : Int)
instance : One iB:=⟨fun _=>rfl,fun _=>rfl⟩
structure Src where
 code : List UInt8
 pl : Int
 hash : Int
def Src.cells (s : Src) : List AV:=[mL iB s.code,.int .i64 s.pl,.int .u64 s.hash]
def Src.Ok (s : Src) : Prop:=0≤s.pl∧s.code.length≤maxL
def Src.obj (s : Src) : MObj:=.cells 3 s.cells 0
def SrcK (id : Nat) (H0 : Heap) (Q : AV→Prop) : Kont:=fun r H'=>Q r∧∃ s' : Src,s'.Ok∧Owns H0 H' [(id,s'.obj)]
theorem Owns.self {H0 H : Heap} {id : Nat} {o : MObj} {l : List (Nat × MObj)} (h : Owns H0 H ((id,o)::l)) : Owns (H.del id) H [(id,o)] where
 sub:=fun i x hx=>by
  by_cases e : i=id
  ·subst e; rw [Heap.get_del_same] at hx; cases hx
  ·rwa [Heap.get_del_ne _ e] at hx
 get:=fun x hx=>by
  rw [List.mem_singleton] at hx; subst hx;exact h.get _ (by simp)
 nd:=by simp
 out:=fun x hx=>by
  rw [List.mem_singleton] at hx; subst hx;exact Heap.get_del_same _ _
end Go.AW
namespace Go.Proofs.Shf
open Go.AW Go.Proofs Go.Shf
theorem masked_ran {a x : Int} (h : IntKind.i64.wrap (IntKind.u64.wrap ((BitVec.ofInt IntKind.u64.bits a &&& BitVec.ofInt IntKind.u64.bits 16777215).toNat : Int))=x) : 0≤x∧x≤16777215:=by
 have h1 : (BitVec.ofInt IntKind.u64.bits a &&& BitVec.ofInt IntKind.u64.bits 16777215).toNat≤16777215:=by
  rw [BitVec.toNat_and]
  have : (BitVec.ofInt IntKind.u64.bits 16777215).toNat=16777215:=rfl;rw [this];exact Nat.and_le_right
 generalize (BitVec.ofInt IntKind.u64.bits a &&& BitVec.ofInt IntKind.u64.bits 16777215).toNat=m at h h1
 have e : IntKind.u64.wrap (m : Int)=m:=by
  have : IntKind.u64.wrap (m : Int)=(m : Int) % 18446744073709551616:=by simp only [IntKind.wrap]; rfl
  omega
 rw [e,wrap_i64 (by omega) (by omega)] at h;omega
def Rd (B : Nat) (fn : FuncId) (args : List AV) (Q : AV→Prop) : Prop :=
 ∀ (id : Nat) (s : Src) (H0 H : Heap),s.Ok→Owns H0 H [(id,s.obj)]→CallH Tryz.prog B fn (.ref id 0::args) H (SrcK id H0 Q)
theorem Rd.go {B : Nat} {fn : FuncId} {args : List AV} {Q : AV→Prop} {id : Nat} {s : Src} {H0 H : Heap} {l : List (Nat × MObj)} {K : Kont} (h : Rd B fn args Q) (hs : s.Ok) (o : Owns H0 H ((id,s.obj)::l))
  (hk : ∀ (r : AV) (s' : Src) (H' : Heap),r.fine→Q r→s'.Ok→Owns H0 H' ((id,s'.obj)::l)→K r H') : CallH Tryz.prog B fn (.ref id 0::args) H K :=
 (h id s _ H hs o.self).mono' fun r H' hf ⟨q,s',hs',o'⟩=>hk r s' H' hf q hs' (o.del.trans o')
theorem src_ret {id : Nat} {s : Src} {H0 H : Heap} {l : List (Nat × MObj)} {Q : AV→Prop} {v : AV} (q : Q v) (hs : s.Ok) (o : Owns H0 H ((id,s.obj)::l)) : subW (SrcK id H0 Q) v H :=
 ⟨H,.refl H,q,s,hs,o.subl (by simp)⟩
def Rets (B : Nat) (fn : FuncId) (args : List AV) (Q : AV→Prop) : Prop:=∀ H,CallH Tryz.prog B fn args H fun r H'=>Q r∧H'=H
theorem Rets.go {B : Nat} {fn : FuncId} {args : List AV} {Q : AV→Prop} {H : Heap} {K : Kont} (h : Rets B fn args Q) (hk : ∀ r,r.fine→Q r→K r H) : CallH Tryz.prog B fn args H K :=
 (h H).mono' fun r H' hf ⟨q,e⟩=>by subst e; exact hk r hf q
theorem rets_ret {H0 H : Heap} {Q : AV→Prop} {v : AV} (q : Q v) (h : H0.sub H) : subW (fun r H'=>Q r∧H'=H0) v H:=⟨H0,h,q,rfl⟩
theorem l01Next_ok (B : Nat) (n : Int) : Rd B 85 [iI n] fun r=>∃ k : Int,r=iI k∧0≤k∧(1≤n→k<n)∧(n<1→k=0):=by
 intro id s H0 H hs o;refine c85 (by simp) fun hf=>?_;unfold s85;refine tt ?_;apply bk <;> intro h1
 ·have h1p:=of_decide h1;refine tt ?_;exact src_ret ⟨0,rfl,by omega,by omega,fun _=>rfl⟩ hs o
 ·have h1p:=of_ndecide h1;refine tt ?_
  obtain ⟨code,pl,hash⟩:=s;simp only [Src.obj,Src.cells] at o;simp only [Src.Ok,maxL] at hs;refine rd_cells o (by simp) ?_;refine tt ?_;refine sw o fun H o=>tt ?_;refine rd_cells o (by simp) ?_;refine tt ?_
  generalize hx : IntKind.i64.wrap (IntKind.u64.wrap _)=x
  have hx2:=masked_ran hx;clear hx;refine ⟨by omega,rd_cells o (by simp) ?_⟩;refine tt ?_;refine rd_cells o (by simp) ?_;refine tt ?_;apply bk <;> intro h2
  ·have h2p:=of_decide h2;refine tt ?_;refine rd_cells o (by simp) ?_;refine tt ?_;refine rd_cells o (by simp) ?_;refine tt ?_;refine ⟨⟨hs.1,by omega⟩, ?_⟩
   have hb:=(ix code pl).toNat_lt;try simp only [go_sem,↓reduceIte,reduceEqDiff,reduceAdd,reduceMul,reduceLeDiff,reduceLT,iB]
   generalize (ix code pl).toNat=b at hb ⊢
   have e1 : IntKind.i64.wrap (b : Int)=b:=wrap_i64 (by omega) (by omega)
   have e2 : IntKind.i64.wrap (x+b)=x+b:=wrap_i64 (by omega) (by omega)
   have e3 : IntKind.i64.wrap (pl+1)=pl+1:=wrap_i64 (by omega) (by omega);try simp only [go_sem,↓reduceIte,reduceEqDiff,reduceAdd,reduceMul,reduceLeDiff,reduceLT,e1,e2]
   refine rd_cells o (by simp) ?_;refine tw e3 ?_;refine sw o fun H o=>tt ?_;refine ⟨by omega,src_ret (s:=⟨code,pl+1,_⟩) ⟨(x+b).tmod n,rfl, ?_, ?_, ?_⟩ ⟨by show 0≤pl+1; omega,hs.2⟩ o⟩
   ·exact Int.tmod_nonneg _ (by omega)
   ·intro h; exact Int.tmod_lt_of_pos _ (by omega)
   ·intro h; omega
  ·refine tt ?_;refine ⟨by omega,src_ret (s:=⟨code,pl,_⟩) ⟨x.tmod n,rfl, ?_, ?_, ?_⟩ hs o⟩
   ·exact Int.tmod_nonneg _ (by omega)
   ·intro h; exact Int.tmod_lt_of_pos _ (by omega)
   ·intro h; omega
theorem l01Pick_ok (B : Nat) (l : List Int) (hl : l≠[]) : Rd B 162 [iL l] fun r=>∃ k : Int,r=iI k∧k∈l:=by
 intro id s H0 H hs o;refine c162 (by simp) fun hf=>?_
 have hp : 0<l.length:=List.length_pos_iff.mpr hl;unfold s162;refine tt ?_;refine (l01Next_ok B l.length).go hs o fun r s' H hr ⟨k,e,h0,h1,_⟩ hs o=>?_;subst e
 have h1:=h1 (by omega);refine tt ?_;refine ⟨⟨h0,by omega⟩,tt ?_⟩;exact src_ret ⟨_,rfl,ix_mem (by omega)⟩ hs o
def MadeK (H0 : Heap) : Kont:=fun r H'=>∃ (id : Nat) (s : Src),r=.ref id 0∧s.Ok∧Owns H0 H' [(id,s.obj)]
theorem l01From_ok (B : Nat) (code : List UInt8) (H0 : Heap) : CallH Tryz.prog B 56 [mL iB code] H0 (MadeK H0):=by
 refine c56p (by simp) fun ⟨hf,_⟩=>?_
 have hl:=fine_mL_le hf
 have hl':=hl;simp only [maxL] at hl';unfold s56p;refine tt ?_;refine nb (.nil _) fun id H o=>tt ?_;refine awp_for [0,3] (G:=Int) (fun k _=>[(4,some (.int .i64 (k : Int)))]) (fun k h H=>Owns H0 H [(id,.cells 3 [mL iB code,.int .i64 0,.int .u64 h] 0)]) code.length _ o rfl ?_;clear o
 rintro k h H hk o
 have o : Owns H0 H [(id,.cells 3 [mL iB code,.int .i64 0,.int .u64 h] 0)]:=o
 have hend : MadeK H0 (.ref id 0) H:=⟨id,⟨code,0,h⟩,rfl,⟨Int.le_refl 0,hl⟩,o⟩;refine tt ?_;apply bk <;> intro h1
 ·have h1p:=of_decide h1;refine tw h1 ?_;apply bk <;> intro h2
  ·refine tt ?_;refine rd_cells o (by simp) ?_
   have w:=wsucc (k:=k) (by omega);try simp only [go_sem,↓reduceIte,reduceEqDiff,reduceAdd,reduceMul,reduceLeDiff,reduceLT,iB]
   refine ⟨by omega, ?_⟩;try simp only [go_sem,↓reduceIte,reduceEqDiff,reduceAdd,reduceMul,reduceLeDiff,reduceLT,iB]
   refine sw o fun H o=>?_;refine tw w ?_;exact for_next _ (by omega) o rfl
  ·refine tt ?_;exact ⟨H,.refl H,hend⟩
 ·refine tw h1 ?_;exact ⟨H,.refl H,hend⟩
theorem big_ok (B : Nat) (code : List UInt8) : Pur Tryz.prog B 8 [mL iB code] (.bool (decide (4096<code.length))):=by
 refine ⟨fun H0=>c8 (by simp) fun hf=>?_⟩;unfold s8;refine tt ?_;refine pure_ret ?_ (.refl _)
 congr 1
 exact decide_eq_decide.mpr (by omega)
theorem likeInts_ok (B : Nat) (a b : List Int) : Pur Tryz.prog B 24 [iL a,iL b] (.bool (dec (a=b))):=by
 refine ⟨fun H0=>c24 (by simp) fun ⟨hf,hg,_⟩=>?_⟩
 have hl:=fine_mL_le hf
 have hl2:=fine_mL_le hg;simp only [maxL] at hl hl2;unfold s24;refine tt ?_;apply bk <;> intro h0
 ·refine tt ?_
  have h0p : a.length≠b.length:=by simpa using h0
  exact pure_ret (by rw [dec_f]; rintro rfl; exact h0p rfl) (.refl _)
 have h0p : a.length=b.length:=by simpa using h0
 refine tt ?_;refine awp_for [0,1] (fun k _=>[(5,some (.int .i64 (k : Int)))]) (fun k _ H=>H=H0∧∀ i,i<k→a.getD i default=b.getD i default) a.length () ⟨rfl,by simp⟩ rfl ?_
 rintro k _ H hk ⟨rfl,hall⟩;refine tt ?_;apply bk <;> intro h1
 ·have h1:=of_decide h1
  have w1:=wsucc (k:=k) (by omega);refine tt ?_;refine ⟨h1,by omega,tt ?_⟩;apply bk <;> intro h2
  ·refine tt ?_
   have h2p : a.getD k default≠b.getD k default:=by simpa using h2
   exact pure_ret (by rw [dec_f]; rintro rfl; exact h2p rfl) (.refl _)
  ·refine tw w1 ?_
   have h2p : a.getD k default=b.getD k default:=by simpa using h2
   exact for_next () (by omega) ⟨rfl,lt_succ_all hall h2p⟩ rfl
 ·refine tt ?_
  have h1:=of_ndecide h1;refine pure_ret ?_ (.refl _);rw [dec_t];refine List.ext_getElem h0p fun i hi hj=>?_
  have:=hall i (by omega)
  simpa [List.getD_eq_getElem?_getD,hi,hj] using this
end Go.Proofs.Shf
namespace Go.AW
@[go_sem] theorem cells_emsl : AV.emsl.cells=[.emsl]:=rfl
@[go_sem] theorem one_emsl : AV.emsl.one=true:=rfl
@[go_sem] theorem le_maxL3 : (3≤maxL)=True:=by simp [maxL]
@[go_sem] theorem le_maxL4 : (4≤maxL)=True:=by simp [maxL]
@[go_sem] theorem le_maxL5 : (5≤maxL)=True:=by simp [maxL]
theorem permC {l r : Ob} (h : ∀ x,@List.count _ (@instBEqOfDecidableEq _ (Classical.typeDecidableEq _)) x l=@List.count _ (@instBEqOfDecidableEq _ (Classical.typeDecidableEq _)) x r) : l.Perm r:=by
 letI : DecidableEq (Nat × MObj):=Classical.typeDecidableEq _
 exact List.perm_iff_count.mpr h
def EmP {α : Type} (f : α→AV) (p : List (Nat × MObj)) (X : AV) (A : List α) : Prop :=
 (p=[]∧X=.emsl∧A=[])∨∃ id,p=[(id,.cells 1 (A.map f) 0)]∧X=.buf id A.length
theorem EmP.o {α : Type} {f : α→AV} {H0 H : Heap} {l p : List (Nat × MObj)} {X : AV} {A : List α} (h : EmP f p X A) (o : Owns H0 H (p++l)) : EmO f H0 H l X A:=by
 rcases h with ⟨rfl,h1,h2⟩ | ⟨id,rfl,h1⟩
 ·exact .inl ⟨h1,h2,o⟩
 ·exact .inr ⟨id,h1,o⟩
theorem wk_emc {F : Env→Heap→Prop} {σ : Env} {H0 H : Heap} {l : List (Nat × MObj)} {id sz fr : Nat} {cs : List AV} (k : Nat)
  (o : Owns H0 H ((id,.cells sz cs fr)::l)) (hc : cs[k]? = some .emsl) (hk : ∀ H',Owns H0 H' ((id,.cells sz (cs.set k (.sl [])) fr)::l)→wkW F σ H') : wkW F σ H:=by
 have h1:=o.h0;simp only at h1;refine wkW_step (σ1:=σ) ?_ (hk _ (o.put (.cells sz (cs.set k (.sl [])) fr)))
 intro g B w tm hW hE;refine ⟨g,.refl g,hW.recell h1 (by simp) fun j v hj hv=>?_,hE⟩
 by_cases e : j=k
 ·subst e
  have e1 : cs.getD j nv=.emsl:=by rw [List.getD_eq_getElem?_getD,hc]; rfl
  have e2 : (cs.set j (.sl [])).getD j nv=.sl []:=by simp [List.getD_eq_getElem?_getD,hj]
  rw [e1] at hv; rw [e2]
  cases hv; exact .slnil _ 0
 ·have e2 : (cs.set k (.sl [])).getD j nv=cs.getD j nv:=by
   rw [List.getD_eq_getElem?_getD,List.getElem?_set_ne (by omega),← List.getD_eq_getElem?_getD]
  rw [e2]; exact hv
theorem wk_em {α : Type} [Inhabited α] {f : α→AV} [One f] {F : Env→Heap→Prop} {σ : Env} {H0 H : Heap} {l p : List (Nat × MObj)} {id sz fr : Nat} {cs : List AV} {X : AV} {A : List α} (k : Nat)
  (h : EmP f p X A) (o : Owns H0 H (p++((id,.cells sz cs fr)::l))) (hc : cs[k]? = some X)
  (hk : ∀ H',Owns H0 H' ((id,.cells sz (cs.set k (mL f A)) fr)::l)→wkW F σ H') : wkW F σ H:=by
 rcases h with ⟨rfl,rfl,rfl⟩ | ⟨id2,rfl,rfl⟩
 ·exact wk_emc k o hc hk
 ·exact wk_cell k o.swap hc rfl hk
end Go.AW
namespace Go.Shf
open Go.AW
structure Cat.Sh (N : Nat) (c : Cat) : Prop where
 ob : 0≤c.objs∧c.objs≤N
 il : (c.idn.length : Int)=c.objs
 ml : c.frm.length≤N
 tl : c.to.length=c.frm.length
 cl : c.comp.length=c.frm.length
 row : ∀ f : Nat,f<c.frm.length→(c.comp.getD f default).length=c.frm.length
theorem Cat.Sh.mono {N M : Nat} {c : Cat} (h : c.Sh N) (hm : N≤M) : c.Sh M:=⟨by have:=h.ob; omega,h.il,by have:=h.ml; omega,h.tl,h.cl,h.row⟩
def CatQ (N : Nat) (r : AV) : Prop:=∃ c : Cat,r=.agg c.cells∧c.Sh N
def SqT (n : Nat) (T : List (List Int)) : Prop:=T.length≤n∧∀ i,i<T.length→(T.getD i default).length=T.length
def SqQ (n : Nat) (r : AV) : Prop:=∃ T : List (List Int),r=iLL T∧SqT n T
end Go.Shf
namespace Go.Proofs.Shf
open Go.AW Go.Proofs Go.Shf
theorem l02Monoid_ok (B : Nat) : Rd B 272 [] (SqQ 4):=by
 intro id s H0 H hs o;refine c272 (by simp) fun hf=>?_;unfold s272;refine tt ?_;refine (l01Next_ok B 8).go hs o fun r s' H hr ⟨k,e,h0,h1,_⟩ hs o=>?_;subst e;refine tt ?_;apply bk <;> intro q0
 ·refine tt ?_;exact src_ret ⟨[[0]],rfl,by decide,by decide⟩ hs o
 refine tt ?_;apply bk <;> intro q1
 ·refine tt ?_;exact src_ret ⟨[[0,1],[1,0]],rfl,by decide,by decide⟩ hs o
 refine tt ?_;apply bk <;> intro q2
 ·refine tt ?_;exact src_ret ⟨[[0,1],[1,1]],rfl,by decide,by decide⟩ hs o
 refine tt ?_;apply bk <;> intro q3
 ·refine tt ?_;exact src_ret ⟨[[0,1,2],[1,2,0],[2,0,1]],rfl,by decide,by decide⟩ hs o
 refine tt ?_;apply bk <;> intro q4
 ·refine tt ?_;exact src_ret ⟨[[0,1,2],[1,1,2],[2,2,2]],rfl,by decide,by decide⟩ hs o
 refine tt ?_;apply bk <;> intro q5
 ·refine tt ?_;exact src_ret ⟨[[0,1,2],[1,1,2],[2,1,2]],rfl,by decide,by decide⟩ hs o
 refine tt ?_;apply bk <;> intro q6
 ·refine tt ?_;exact src_ret ⟨[[0,1,2,3],[1,0,2,3],[2,3,2,3],[3,2,2,3]],rfl,by decide,by decide⟩ hs o
 refine tt ?_;exact src_ret ⟨[[0,1,2],[1,2,2],[2,2,2]],rfl,by decide,by decide⟩ hs o
theorem l02Split_ok (B : Nat) : Rets B 273 [] (CatQ 6):=by
 intro H0;refine c273 (by simp) fun hf=>?_;unfold s273;refine tt ?_;refine fun i1 n1=>tt ?_;refine rets_ret ⟨⟨2,[0,1,0,0,1],[0,1,0,1,0],[0,1],[[0,-1,2,3,-1],[-1,1,-1,-1,4],[2,-1,2,3,-1],[-1,3,-1,-1,2],[4,-1,4,1,-1]]⟩,rfl,by decide,by decide,by decide,by decide,by decide,by decide⟩ ?_
 repeat (first | exact .refl _ | refine sub_set ?_ n1)
theorem l02Fits_ok (B : Nat) (c : Cat) : Pur Tryz.prog B 209 [.agg c.cells] (.bool (dec (c.objs≤8∧c.frm.length≤40))):=by
 refine ⟨fun H0=>c209 (by simp) fun hf=>?_⟩;unfold s209;refine tt ?_;apply bk <;> intro h1
 ·refine tw h1 ?_
  exact pure_ret (by
   have h1p:=of_decide h1
   congr 1
   rw [decide_dec];exact dec_congr ⟨fun h=>⟨h1p,by omega⟩,fun h=>by have:=h.2; omega⟩) (.refl _)
 ·refine tw h1 ?_;exact pure_ret (by rw [dec_f (fun h=>of_ndecide h1 h.1)]) (.refl _)
theorem l03Monoid_ok (B : Nat) (T : List (List Int)) (hT : SqT 4 T) : Rets B 271 [iLL T] (CatQ 4):=by
 intro H0;refine c271p (by simp) fun hf=>?_;unfold s271p;refine tt ?_;refine newRef_own (.nil _) fun id H o=>tt ?_;refine ⟨_,(l01Own2_ok ..).run,tt ?_⟩
 have hT4:=hT.1
 have hc : (T.length : Int)≤T.length∧T.length≤maxL∧T.length≤maxL:=⟨by omega,by simp only [maxL]; omega,by simp only [maxL]; omega⟩;refine ⟨?_, ?_⟩
 ·refine ⟨hc,mks_list iI 0 rfl o fun i7 H o=>?_⟩;refine tt ?_;refine ⟨hc,mks_list iI 0 rfl o fun i9 H o=>?_⟩;refine tt ?_
  have o:=o.pull [_,_];simp only [List.cons_append,List.nil_append] at o;refine sw o fun H o=>tt ?_;refine wk_cell 2 o rfl (by simp) fun H o=>?_;simp only [List.set_cons_zero,List.set_cons_succ] at o;refine wk_cell 1 o rfl (by simp) fun H o=>wkW_done ?_;simp only [List.set_cons_zero,List.set_cons_succ] at o;refine tt ?_
  have hr:=o.rc 5 0 (by simp);simp only [List.drop_zero] at hr;rw [hr];refine tt ?_;exact rets_ret ⟨⟨1,List.replicate T.length 0,List.replicate T.length 0,[0],T⟩,rfl,by simp,by simp,by simpa using hT4,by simp,by simp,fun f hf=>by simpa using hT.2 f (by simpa using hf)⟩ o.sub
 ·refine ⟨hc,mks_list iI 0 rfl o fun i9 H o=>?_⟩;refine tt ?_;refine ⟨hc,mks_list iI 0 rfl o fun i7 H o=>?_⟩;refine tt ?_
  have o:=o.pull [_,_];simp only [List.cons_append,List.nil_append] at o;refine sw o fun H o=>tt ?_;refine wk_cell 1 o rfl (by simp) fun H o=>?_;simp only [List.set_cons_zero,List.set_cons_succ] at o;refine wk_cell 2 o rfl (by simp) fun H o=>wkW_done ?_;simp only [List.set_cons_zero,List.set_cons_succ] at o;refine tt ?_
  have hr:=o.rc 5 0 (by simp);simp only [List.drop_zero] at hr;rw [hr];refine tt ?_;exact rets_ret ⟨⟨1,List.replicate T.length 0,List.replicate T.length 0,[0],T⟩,rfl,by simp,by simp,by simpa using hT4,by simp,by simp,fun f hf=>by simpa using hT.2 f (by simpa using hf)⟩ o.sub
theorem l03Op_ok (B : Nat) (N : Nat) (hN : N≤4096) (c : Cat) (hc : c.Sh N) : Rets B 274 [.agg c.cells] (CatQ N):=by
 intro H0;refine c274p (by simp) fun hf=>?_
 have hob:=hc.ob
 have hml:=hc.ml
 have htl:=hc.tl
 have hcl:=hc.cl
 have hrow:=hc.row;unfold s274p;refine tt ?_;refine newRef_own (.nil _) fun id2 H o=>tt ?_;refine ⟨_,(l01Own_ok ..).run,tt ?_⟩;refine ⟨_,(l01Own_ok ..).run,tt ?_⟩;refine ⟨_,(l01Own_ok ..).run,tt ?_⟩;refine newRef_own o fun id3 H o=>tt ?_;refine sw o fun H o=>tt ?_
 refine awp_for [1,2,3] (G:=AV × Ob × List (List Int)) (fun k _=>[(4,some (.int .i64 (k : Int)))])
  (fun k g H=>EmP iL g.2.1 g.1 g.2.2∧g.2.2.length=k∧(∀ r,r∈g.2.2→r.length=c.frm.length)∧Owns H0 H (g.2.1++[(id3,MObj.cells 5 [iI c.objs,iL c.to,iL c.frm,iL c.idn,g.1] 0),(id2,MObj.cells 5 [iI 0,.nilsl,.nilsl,.nilsl,.nilsl] 0)])) c.frm.length (.emsl,[],[])
  ⟨.inl ⟨rfl,rfl,rfl⟩,rfl,by simp,o⟩ rfl ?_
 clear o
 rintro k ⟨X,p,A⟩ H hk ⟨hX,hA,hr,o⟩;dsimp only at hX hA hr o;refine tt ?_;apply bk <;> intro h1
 ·have h1p:=of_decide h1;refine tt ?_;refine newBuf_own o fun idr H o=>tt ?_
  refine awp_for [1,2,3,4] (G:=Nat × List Int) (fun j g=>[(5,some (.buf g.1 g.2.length)),(6,some (.int .i64 (j : Int)))])
   (fun j g H=>g.2.length=j∧Owns H0 H ((g.1,.cells 1 (g.2.map iI) 0)::(p++[(id3,MObj.cells 5 [iI c.objs,iL c.to,iL c.frm,iL c.idn,X] 0),(id2,MObj.cells 5 [iI 0,.nilsl,.nilsl,.nilsl,.nilsl] 0)]))) c.frm.length (idr,[]) ⟨rfl,o⟩ rfl ?_
  clear o
  rintro j ⟨idr,row⟩ H hj ⟨hrl,o⟩;dsimp only at hrl o;refine tt ?_;apply bk <;> intro h2
  ·have h2p:=of_decide h2
   have w:=wsucc (k:=j) (by omega)
   have hrj:=hrow j h2p;refine tt ?_;refine ⟨by omega,by omega, ?_⟩;refine app_own _ o rfl rfl (by simp only [maxL]; omega) fun idr H o=>?_;refine tw w ?_;exact for_next (idr,_) h2p ⟨by simp [hrl],o⟩ rfl
  ·have h2p:=of_ndecide h2;refine tt ?_;refine fz_own o rfl fun H o=>tt ?_;refine rd_get (o.get (id3,MObj.cells 5 [iI c.objs,iL c.to,iL c.frm,iL c.idn,X] 0) (by simp)) (by simp) ?_;refine tt ?_;refine (hX.o o).app row rfl (by simp only [maxL]; omega) fun id' H o=>tt ?_;refine sw o.swap fun H o=>?_
   have w:=wsucc (k:=k) (by omega);refine tw w ?_
   exact for_next (_,[(id',.cells 1 ((A++[row]).map iL) 0)],A++[row]) h1p ⟨.inr ⟨id',rfl,rfl⟩,by simp [hA],by
    intro r hr'
    rcases List.mem_append.mp hr' with h | h
    ·exact hr r h
    ·rw [List.mem_singleton] at h; subst h; omega,o.swap⟩ rfl
 ·have h1p:=of_ndecide h1;refine tt ?_;refine wk_em 4 hX o rfl fun H o=>wkW_done ?_;simp only [List.set_cons_zero,List.set_cons_succ] at o;refine tt ?_;refine rd_celln o (by simp) ?_;refine tt ?_;refine sw o.swap fun H o=>tt ?_
  have hr2:=o.rc 5 0 (by simp);simp only [List.drop_zero] at hr2;rw [hr2];refine tt ?_
  exact rets_ret ⟨⟨c.objs,c.to,c.frm,c.idn,A⟩,rfl,hob,hc.il,by show c.to.length≤N; omega,by show c.frm.length=c.to.length; omega,by show A.length=c.to.length; omega,fun f hf=>by
   show (A.getD f default).length=c.to.length
   rw [hr _ (mem_getD.mpr ⟨f,by have : f<c.to.length:=hf; omega,rfl⟩)]; omega⟩ o.sub
theorem l03Poset_ok (B : Nat) (R : List (List Int)) (hR : SqT 4 R) : Rets B 210 [iLL R] (CatQ 16):=by
 intro H0;refine c210p (by simp) fun hf=>?_
 obtain ⟨hR4,hrow⟩:=hR;unfold s210p;refine tt ?_;refine newRef_own (.nil _) fun id2 H o=>tt ?_;refine newBuf_own o fun idN H o=>tt ?_;refine newBuf_own o fun a H o=>tt ?_;refine newBuf_own o fun b H o=>tt ?_;refine newBuf_own o fun i H o=>tt ?_;refine newBuf_own o fun d H o=>tt ?_;refine newRef_own o fun id5 H o=>tt ?_;refine sw o fun H o=>tt ?_
 generalize hn : R.length=n at *
 refine awp_for [0,2,3,5] (G:=(Nat × List Int) × (Nat × List Int) × (Nat × List (List Int))) (fun k g=>[(4,some (.buf g.2.2.1 g.2.2.2.length)),(6,some (.int .i64 (k : Int)))])
  (fun k g H=>g.2.1.2.length=g.1.2.length∧g.1.2.length≤k*n∧(∀ y,y∈g.1.2→0≤y∧y<n)∧(∀ y,y∈g.2.1.2→0≤y∧y<n)∧g.2.2.2.length=k∧(∀ r,r∈g.2.2.2→r.length=n) ∧
   Owns H0 H [(id5,MObj.cells 5 [iI n,.buf g.1.1 g.1.2.length,.buf g.2.1.1 g.2.1.2.length,.buf i 0,.buf d 0] 0),(g.1.1,MObj.cells 1 (g.1.2.map iI) 0),(g.2.1.1,MObj.cells 1 (g.2.1.2.map iI) 0),(g.2.2.1,MObj.cells 1 (g.2.2.2.map iL) 0),
    (i,MObj.cells 1 [] 0),(d,MObj.cells 1 [] 0),(id2,MObj.cells 5 [iI 0,.nilsl,.nilsl,.nilsl,.nilsl] 0)]) n ((a,[]),(b,[]),(idN,[]))
  ⟨rfl,by simp,by simp,by simp,rfl,by simp,o.pm⟩ rfl ?_
 clear o
 rintro k ⟨⟨a,A⟩,⟨b,C⟩,⟨idN,rows⟩⟩ H hk ⟨hC,hA,hAr,hCr,hrl,hrr,o⟩;dsimp only at hC hA hAr hCr hrl hrr
 replace o : Owns H0 H [(id5,MObj.cells 5 [iI n,.buf a A.length,.buf b C.length,.buf i 0,.buf d 0] 0),(a,MObj.cells 1 (A.map iI) 0),(b,MObj.cells 1 (C.map iI) 0),(idN,MObj.cells 1 (rows.map iL) 0),
    (i,MObj.cells 1 [] 0),(d,MObj.cells 1 [] 0),(id2,MObj.cells 5 [iI 0,.nilsl,.nilsl,.nilsl,.nilsl] 0)]:=o
 refine tt ?_;apply bk <;> intro h1
 ·have h1p:=of_decide h1;refine tt ?_;refine newBuf_own o fun idr H o=>tt ?_
  have hkn : k*n+n≤16:=by
   have : (k+1)*n≤4*4:=Nat.mul_le_mul (by omega) (by omega);rw [Nat.succ_mul] at this; omega
  refine awp_for [0,2,3,4,5,6] (G:=(Nat × List Int) × (Nat × List Int) × (Nat × List Int)) (fun j g=>[(7,some (.buf g.1.1 g.1.2.length)),(8,some (.int .i64 (j : Int)))])
   (fun j g H=>g.1.2.length=j∧g.2.2.2.length=g.2.1.2.length∧g.2.1.2.length≤k*n+j∧(∀ y,y∈g.2.1.2→0≤y∧y<n)∧(∀ y,y∈g.2.2.2→0≤y∧y<n) ∧
    Owns H0 H [(g.1.1,MObj.cells 1 (g.1.2.map iI) 0),(id5,MObj.cells 5 [iI n,.buf g.2.1.1 g.2.1.2.length,.buf g.2.2.1 g.2.2.2.length,.buf i 0,.buf d 0] 0),(g.2.1.1,MObj.cells 1 (g.2.1.2.map iI) 0),(g.2.2.1,MObj.cells 1 (g.2.2.2.map iI) 0),(idN,MObj.cells 1 (rows.map iL) 0),
    (i,MObj.cells 1 [] 0),(d,MObj.cells 1 [] 0),(id2,MObj.cells 5 [iI 0,.nilsl,.nilsl,.nilsl,.nilsl] 0)]) n ((idr,[]),(a,A),(b,C))
   ⟨rfl,hC,by omega,hAr,hCr,o⟩ rfl ?_
  clear o hA hAr hCr hC
  rintro j ⟨⟨idr,row⟩,⟨a,A⟩,⟨b,C⟩⟩ H hj ⟨hrow',hC,hA,hAr,hCr,o⟩
  replace hrow' : row.length=j:=hrow';dsimp only at hC hA hAr hCr
  replace o : Owns H0 H [(idr,MObj.cells 1 (row.map iI) 0),(id5,MObj.cells 5 [iI n,.buf a A.length,.buf b C.length,.buf i 0,.buf d 0] 0),(a,MObj.cells 1 (A.map iI) 0),(b,MObj.cells 1 (C.map iI) 0),(idN,MObj.cells 1 (rows.map iL) 0),
    (i,MObj.cells 1 [] 0),(d,MObj.cells 1 [] 0),(id2,MObj.cells 5 [iI 0,.nilsl,.nilsl,.nilsl,.nilsl] 0)]:=o
  refine tt ?_;apply bk <;> intro h2
  ·have h2p:=of_decide h2
   have w:=wsucc (k:=j) (by omega);refine tt ?_;refine rd_cells o.tl (by simp) ?_;refine tt ?_;refine app_own _ o rfl rfl (by simp only [maxL]; omega) fun idr H o=>?_
   have hR1:=hrow k (by omega);refine tt ?_;refine ⟨by omega,by omega, ?_⟩;apply bk <;> intro h3
   ·refine tt ?_;refine rd_cells o.tl (by simp) ?_;refine tt ?_;refine app_own _ (o.pull [_,_]) rfl rfl (by simp only [maxL]; omega) fun a H o=>tt ?_;refine sw (o.pull [_,_]) fun H o=>tt ?_;refine rd_cells o (by simp) ?_;refine tt ?_;refine app_own _ (o.pull [_,_,_]) rfl rfl (by simp only [maxL]; omega) fun b H o=>tt ?_;refine sw o.swap fun H o=>?_;refine tw w ?_;refine for_next ((idr,_),(a,A++[(k : Int)]),(b,C++[(j : Int)])) h2p ⟨by simp [hrow'],by simp [hC],by simp; omega, ?_, ?_,o.pm⟩ rfl
    ·intro y hy
     rcases List.mem_append.mp hy with h | h
     ·exact hAr y h
     ·rw [List.mem_singleton] at h; subst h; omega
    ·intro y hy
     rcases List.mem_append.mp hy with h | h
     ·exact hCr y h
     ·rw [List.mem_singleton] at h; subst h; omega
   ·refine tw w ?_;exact for_next ((idr,_),(a,A),(b,C)) h2p ⟨by simp [hrow'],hC,by show A.length≤_; omega,hAr,hCr,o⟩ rfl
  ·have h2p:=of_ndecide h2;refine tt ?_;refine fz_own o rfl fun H o=>tt ?_;refine app_own row (o.pull [_,_,_]) rfl rfl (by simp only [maxL]; omega) fun idN H o=>?_
   have w:=wsucc (k:=k) (by omega);refine tw w ?_;refine for_next ((a,A),(b,C),(idN,rows++[row])) h1p ⟨hC,by show A.length≤_; rw [Nat.succ_mul]; omega,hAr,hCr,by simp [hrl], ?_,o.pm⟩ rfl
   intro r hr
   rcases List.mem_append.mp hr with h | h
   ·exact hrr r h
   ·rw [List.mem_singleton] at h; subst h; omega
 ·have h1p:=of_ndecide h1
  have hkn : k=n:=by omega
  subst hkn
  have hA16 : A.length≤16:=Nat.le_trans hA (Nat.mul_le_mul hR4 hR4);refine tt ?_;refine fz_own (o.pull [_,_,_]) rfl fun H o=>tt ?_
  refine awp_for [2,3,4,5] (G:=(Nat × List Int)) (fun j g=>[(9,some (.int .i64 (j : Int)))])
   (fun j g H=>g.2.length=j∧Owns H0 H [(id5,MObj.cells 5 [iI k,.buf a A.length,.buf b C.length,.buf g.1 g.2.length,.buf d 0] 0),(g.1,MObj.cells 1 (g.2.map iI) 0),(a,MObj.cells 1 (A.map iI) 0),(b,MObj.cells 1 (C.map iI) 0),
    (d,MObj.cells 1 [] 0),(id2,MObj.cells 5 [iI 0,.nilsl,.nilsl,.nilsl,.nilsl] 0)]) k (i,[]) ⟨rfl,o.pm⟩ rfl ?_
  clear o
  rintro j ⟨i,I⟩ H hj ⟨hI,o⟩;dsimp only at hI
  replace o : Owns H0 H [(id5,MObj.cells 5 [iI k,.buf a A.length,.buf b C.length,.buf i I.length,.buf d 0] 0),(i,MObj.cells 1 (I.map iI) 0),(a,MObj.cells 1 (A.map iI) 0),(b,MObj.cells 1 (C.map iI) 0),
    (d,MObj.cells 1 [] 0),(id2,MObj.cells 5 [iI 0,.nilsl,.nilsl,.nilsl,.nilsl] 0)]:=o
  refine tt ?_;apply bk <;> intro h2
  ·have h2p:=of_decide h2
   have w:=wsucc (k:=j) (by omega)
   have hrj:=hrr (rows.getD j default) (mem_getD.mpr ⟨j,by omega,rfl⟩);refine tt ?_;refine rd_cells o (by simp) ?_;refine tt ?_;refine ⟨by omega,by omega,tt ?_⟩;refine app_own _ o.swap rfl rfl (by simp only [maxL]; omega) fun i H o=>tt ?_;refine sw o.swap fun H o=>?_;refine tw w ?_;exact for_next (i,_) h2p ⟨by simp [hI],o⟩ rfl
  ·have h2p:=of_ndecide h2
   have hIk : I.length=k:=by omega
   refine tt ?_;refine wk_cell 3 o rfl rfl fun H o=>?_;simp only [List.set_cons_zero,List.set_cons_succ] at o;refine wk_cell 1 o rfl rfl fun H o=>?_;simp only [List.set_cons_zero,List.set_cons_succ] at o;refine wk_cell 2 o rfl rfl fun H o=>wkW_done ?_;simp only [List.set_cons_zero,List.set_cons_succ] at o;clear h2 h2p hj hI;refine tt ?_
   refine awp_for [2,4,5] (G:=(Nat × List (List Int))) (fun j g=>[(10,some (.int .i64 (j : Int)))])
    (fun j g H=>g.2.length=j∧(∀ r,r∈g.2→r.length=A.length)∧Owns H0 H [(id5,MObj.cells 5 [iI k,iL A,iL C,iL I,.buf g.1 g.2.length] 0),(g.1,MObj.cells 1 (g.2.map iL) 0),(id2,MObj.cells 5 [iI 0,.nilsl,.nilsl,.nilsl,.nilsl] 0)]) A.length (d,[]) ⟨rfl,by simp,o⟩ rfl ?_
   clear o
   rintro f ⟨d,D⟩ H hf' ⟨hD,hDr,o⟩;dsimp only at hD hDr o;refine tt ?_;refine rd_cells o (by simp) ?_;refine tt ?_;apply bk <;> intro h2
   ·have h2p:=of_decide h2;refine tt ?_;refine newBuf_own o fun idr H o=>tt ?_
    refine awp_for [2,4,5,10] (G:=Nat × List Int) (fun g r=>[(11,some (.buf r.1 r.2.length)),(12,some (.int .i64 (g : Int)))])
     (fun g r H=>r.2.length=g∧Owns H0 H [(r.1,MObj.cells 1 (r.2.map iI) 0),(id5,MObj.cells 5 [iI k,iL A,iL C,iL I,.buf d D.length] 0),(d,MObj.cells 1 (D.map iL) 0),(id2,MObj.cells 5 [iI 0,.nilsl,.nilsl,.nilsl,.nilsl] 0)]) A.length (idr,[]) ⟨rfl,o⟩ rfl ?_
    clear o
    rintro g ⟨idr,row⟩ H hg ⟨hrl',o⟩
    replace hrl' : row.length=g:=hrl';dsimp only at o;refine tt ?_;refine rd_cells o.tl (by simp) ?_;refine tt ?_;apply bk <;> intro h3
    ·have h3p:=of_decide h3
     have w:=wsucc (k:=g) (by omega);refine tt ?_;refine rd_cells o.tl (by simp) ?_;refine tt ?_;refine ⟨by omega, ?_⟩;refine rd_cells o.tl (by simp) ?_;refine tt ?_;refine ⟨by omega,tt ?_⟩
     have hAf:=hAr (A.getD f default) (mem_getD.mpr ⟨f,h2p,rfl⟩)
     have hCg:=hCr (C.getD g default) (mem_getD.mpr ⟨g,by omega,rfl⟩)
     have hrx:=hrr (ix rows (A.getD f default)) (ix_mem (by omega));apply bk <;> intro h4
     ·refine tt ?_;refine rd_cells o.tl (by simp) ?_;refine tt ?_;refine ⟨h2p,⟨by omega,by omega⟩, ?_⟩;refine rd_cells o.tl (by simp) ?_;refine tt ?_;refine ⟨by omega,⟨by omega,by omega⟩, ?_⟩;refine app_own _ o rfl rfl (by simp only [maxL]; omega) fun idr H o=>?_;refine tw w ?_;exact for_next (idr,_) h3p ⟨by simp [hrl'],o⟩ rfl
     ·refine tt ?_;refine app_own _ o rfl rfl (by simp only [maxL]; omega) fun idr H o=>?_;refine tw w ?_;exact for_next (idr,_) h3p ⟨by simp [hrl'],o⟩ rfl
    ·have h3p:=of_ndecide h3
     have w:=wsucc (k:=f) (by omega);refine tt ?_;refine fz_own o rfl fun H o=>tt ?_;refine rd_cells o (by simp) ?_;refine tt ?_;refine app_own row o.swap rfl rfl (by simp only [maxL]; omega) fun d H o=>tt ?_;refine sw o.swap fun H o=>?_;refine tw w ?_;refine for_next (d,D++[row]) h2p ⟨by simp [hD], ?_,o⟩ rfl
     intro r hr
     rcases List.mem_append.mp hr with h | h
     ·exact hDr r h
     ·rw [List.mem_singleton] at h; subst h; omega
   ·have h2p:=of_ndecide h2;refine tt ?_;refine wk_cell 4 o rfl rfl fun H o=>wkW_done ?_;simp only [List.set_cons_zero,List.set_cons_succ] at o;refine tt ?_;refine rd_celln o (by simp) ?_;refine tt ?_;refine sw o.swap fun H o=>tt ?_
    have hr2:=o.rc 5 0 (by simp);simp only [List.drop_zero] at hr2;rw [hr2];refine tt ?_
    have hDA : D.length=A.length:=by omega
    refine rets_ret ⟨⟨k,A,C,I,D⟩,rfl,⟨by show (0 : Int)≤(k : Int); omega,by show (k : Int)≤((16 : Nat) : Int); omega⟩,by show (I.length : Int)=k; omega,hA16,hC,hDA,fun x hx=>?_⟩ o.sub;exact hDr _ (mem_getD.mpr ⟨x,by rw [hDA]; exact hx,rfl⟩)
end Go.Proofs.Shf
namespace Go.AW
theorem LsR.inner {α : Type} {f : α→AV} : ∀ (ms : List (Nat × List α)),LsR f (ms.map bufE) (ms.map Prod.snd) (inner f ms)
 | []=>.nil
 | m::ms=>LsR.cons (p:=[(m.1,.cells 1 (m.2.map f) 0)]) (.inr ⟨m.1,rfl,rfl⟩) (LsR.inner ms)
theorem app_own' {α : Type} [Inhabited α] {f : α→AV} [One f] {H0 H : Heap} {l : Ob} {K : Kont} {id fr n : Nat} {out : List α} (a : α) {v : AV} (h : Owns H0 H ((id,.cells 1 (out.map f) fr)::l)) (hv : v=f a) (hn : n=out.length) (hm : out.length+1≤maxL)
  (hk : ∀ id' H' A,A=out++[a]→A.length=out.length+1→Owns H0 H' ((id',.cells 1 (A.map f) fr)::l)→K (.buf id' A.length) H') : appW 1 (some (.buf id n)) (some (.sl [v])) K H :=
 app_own a h hv hn hm fun id' H' o=>hk id' H' _ rfl (by simp) o
end Go.AW
namespace Go.Proofs.Shf
open Go.AW Go.Proofs Go.Shf
theorem l01Own2_own (B : Nat) (T : List (List Int)) (H0 H : Heap) (l : Ob) (o : Owns H0 H l) :
  CallH Tryz.prog B 183 [iLL T] H (fun r H'=>∃ d Xs ob,r=.buf d Xs.length∧LsR iI Xs T ob∧Owns H0 H' ((d,.cells 1 Xs 0)::(ob++l))):=by
 refine c183p (by simp) fun ⟨hf,_⟩=>?_
 have hl:=fine_mL_le hf;simp only [maxL] at hl;unfold s183p;refine tt ?_;refine newBuf_own o fun d H o=>tt ?_
 refine awp_for [0] (G:=Nat × List (Nat × List Int)) (fun k g=>[(3,some (.buf g.1 g.2.length)),(4,some (.int .i64 (k : Int)))])
  (fun k g H=>g.2.map Prod.snd=T.take k∧Owns H0 H ((g.1,MObj.cells 1 (g.2.map bufE) 0)::(inner iI g.2++l))) T.length (d,[]) ⟨by simp,o⟩ rfl ?_
 clear o
 rintro k ⟨d,ms⟩ H hk ⟨hms,o⟩;dsimp only at hms o
 have hml : ms.length=k:=by
  have:=congrArg List.length hms
  simpa [Nat.min_eq_left hk] using this
 refine tt ?_;apply bk <;> intro h1
 ·have h1p:=of_decide h1
  have w:=wsucc (k:=k) (by omega);refine tt ?_;refine ⟨h1p, ?_⟩;refine (l01Own_own B (T.getD k default) H0 H _ o).own fun id A H o hA=>?_;subst hA;refine tt ?_;refine app_own (f:=bufE) (id,T.getD k default) o.swap rfl rfl (by simp only [maxL]; omega) fun d H o=>?_;refine tw w ?_;refine for_next (d,ms++[(id,T.getD k default)]) h1p ⟨by rw [List.map_append,hms,take_succ' T h1p]; rfl, ?_⟩ rfl;refine o.perm (.cons _ ?_);simp only [inner,List.map_append,List.map_cons,List.map_nil,List.append_assoc,List.cons_append,List.nil_append];exact List.perm_middle.symm
 ·have h1p:=of_ndecide h1
  obtain rfl : k=T.length:=by omega
  rw [List.take_length] at hms;refine tt ?_;refine ⟨H,.refl H,d,ms.map bufE,inner iI ms,by simp, ?_,o⟩;rw [← hms]; exact LsR.inner ms
theorem New.go' {P : Program} {B : Nat} {fn : FuncId} {args : List AV} {O : Ob→AV→Prop} {H0 H : Heap} {l : Ob} {K : Kont} (h : New P B fn args O) (o : Owns H0 H l) (hk : ∀ r p H',O p r→Owns H0 H' (p++l)→H.sub H'→K r H') : CallH P B fn args H K :=
 (h.run H).mono fun r H' ⟨p,q1,q2⟩=>hk r p H' q1 (o.trans q2) q2.sub
def OLb (l : List Int) (p : Ob) (X : AV) : Prop:=∃ id,X=.buf id l.length∧p=[(id,.cells 1 (l.map iI) 0)]
theorem l01Own_new (B : Nat) (l : List Int) : New Tryz.prog B 84 [iL l] (OLb l) :=
 ⟨fun H=>(l01Own_own B l H H [] (.nil H)).mono fun r H' ⟨id,A,e,o,q⟩=>by
  subst e q;exact ⟨_,⟨id,rfl,rfl⟩,o⟩⟩
def OLLb (T : List (List Int)) (p : Ob) (X : AV) : Prop:=∃ d Xs ob,X=.buf d Xs.length∧LsR iI Xs T ob∧p=(d,.cells 1 Xs 0)::ob
theorem l01Own2_new (B : Nat) (T : List (List Int)) : New Tryz.prog B 183 [iLL T] (OLLb T) :=
 ⟨fun H=>(l01Own2_own B T H H [] (.nil H)).mono fun r H' ⟨d,Xs,ob,e,h,o⟩=>by
  rw [List.append_nil] at o;exact ⟨_,⟨d,Xs,ob,e,h,rfl⟩,o⟩⟩
def OCb (c : Cat) (p : Ob) (X : AV) : Prop:=∃ a b i d Xs ob,X=.agg [iI c.objs,.buf a c.frm.length,.buf b c.to.length,.buf i c.idn.length,.buf d Xs.length]∧LsR iI Xs c.comp ob ∧
 p=(a,.cells 1 (c.frm.map iI) 0)::(b,.cells 1 (c.to.map iI) 0)::(i,.cells 1 (c.idn.map iI) 0)::(d,.cells 1 Xs 0)::ob
theorem l02Own_new (B : Nat) (c : Cat) : New Tryz.prog B 144 [.agg c.cells] (OCb c):=by
 refine ⟨fun H0=>c144p (by simp) fun _=>?_⟩;unfold s144p;refine tt ?_;refine newRef_own (.nil _) fun id H o=>tt ?_;refine New.go' (l01Own_new B c.frm) o fun X1 p1 H ⟨a,e1,e2⟩ o hs=>⟨hs, ?_⟩;subst e1 e2;refine tt ?_;refine New.go' (l01Own_new B c.to) o fun X1 p1 H ⟨b,e1,e2⟩ o hs=>⟨hs, ?_⟩;subst e1 e2;refine tt ?_;refine New.go' (l01Own_new B c.idn) o fun X1 p1 H ⟨i,e1,e2⟩ o hs=>⟨hs, ?_⟩;subst e1 e2;refine tt ?_;refine New.go' (l01Own2_new B c.comp) o fun X1 p1 H ⟨d,Xs,ob,e1,h,e2⟩ o hs=>⟨hs, ?_⟩;subst e1 e2;refine tt ?_
 have o : Owns H0 H ((id,MObj.cells 5 [iI 0,.nilsl,.nilsl,.nilsl,.nilsl] 0)::(a,MObj.cells 1 (c.frm.map iI) 0)::(b,MObj.cells 1 (c.to.map iI) 0)::(i,MObj.cells 1 (c.idn.map iI) 0)::(d,MObj.cells 1 Xs 0)::ob):=o.pm;refine sw o fun H o=>tt ?_
 have hr:=o.rc 5 0 (by simp);simp only [List.drop_zero] at hr;rw [hr];exact ⟨H,.refl H,_,⟨a,b,i,d,Xs,ob,rfl,h,rfl⟩,o.tl⟩
end Go.Proofs.Shf
namespace Go.AW
theorem LsR.snoc' {α : Type} {f : α→AV} {Xs : List AV} {As : List (List α)} {o p : List (Nat × MObj)} {X : AV} {A : List α} (h : LsR f Xs As o) (hp : LsP f p X A) : LsR f (Xs++[X]) (As++[A]) (o++p):=by
 induction h with
 | nil=>simpa using LsR.cons hp .nil
 | cons q _ ih=>simpa using LsR.cons q ih
theorem app_raw {H0 H : Heap} {l : Ob} {K : Kont} {id n : Nat} {Xs : List AV} {Y : AV} (o : Owns H0 H ((id,.cells 1 Xs 0)::l)) (hn : n=Xs.length) (h1 : Y.cells=[Y]) (h2 : Y.one=true) (hm : Xs.length+1≤maxL)
  (hk : ∀ id' H',Owns H0 H' ((id',.cells 1 (Xs++[Y]) 0)::l)→K (.buf id' (Xs.length+1)) H') : appW 1 (some (.buf id n)) (some (.sl [Y])) K H:=by
 subst hn
 have hok : okEls 1 [Y]:=by
  intro e he;rw [List.mem_singleton] at he; subst he;rw [h1];exact ⟨rfl,fun c hc=>by rw [List.mem_singleton] at hc; subst hc; exact h2⟩
 have h0:=o.h0;simp only at h0;simp only [appW,h0,srcOf,app2];refine ⟨⟨trivial,by simp,by simp; omega,by simp; omega,hok⟩,fun id' hn=>?_⟩
 have hfl : flat [Y]=[Y]:=by simp [flat,h1]
 rw [hfl];exact hk id' _ (o.mv hn (.cells 1 (Xs++[Y]) 0))
end Go.AW
namespace Go.Proofs.Shf
open Go.AW Go.Proofs Go.Shf
@[go_sem] def sumO (id7 id4 : Nat) (x0 : Int) (a : Nat) (A : List Int) (b : Nat) (C : List Int) (i : Nat) (I : List Int) (d : Nat) (Xs : List AV) (ob : Ob) : Ob :=
 (id7,.cells 5 [iI x0,.buf a A.length,.buf b C.length,.buf i I.length,.buf d Xs.length] 0)::(a,.cells 1 (A.map iI) 0)::(b,.cells 1 (C.map iI) 0)::(i,.cells 1 (I.map iI) 0)::(d,.cells 1 Xs 0)::(ob++[(id4,.cells 5 [iI 0,.nilsl,.nilsl,.nilsl,.nilsl] 0)])
theorem l03Sum_new (B N M : Nat) (hNM : N+M≤4096) (c e : Cat) (hc : c.Sh N) (he : e.Sh M) : New Tryz.prog B 207 [.agg c.cells,.agg e.cells] (fun p X=>∃ c' : Cat,c'.Sh (N+M)∧OCb c' p X):=by
 refine ⟨fun H0=>c207p (by simp) fun _=>?_⟩
 obtain ⟨cob,cil,cml,ctl,ccl,crow⟩:=hc
 obtain ⟨eob,eil,eml,etl,ecl,erow⟩:=he;unfold s207p;refine tt ?_;refine newRef_own (.nil _) fun id4 H o=>tt ?_;refine New.go' (l02Own_new B c) o fun X1 p1 H ⟨a,b,i,d,Xs,ob,e1,hX,e2⟩ o _=>?_;subst e1 e2
 have hXl:=hX.len;refine tt ?_;refine newRef_own o fun id7 H o=>tt ?_;refine sw o fun H o=>tt ?_
 have wo : IntKind.i64.wrap (c.objs+e.objs)=c.objs+e.objs:=wrap_i64 (by omega) (by omega);refine tw wo ?_;refine sw o fun H o=>tt ?_
 have o : Owns H0 H (sumO id7 id4 (c.objs+e.objs) a c.frm b c.to i c.idn d Xs ob):=o
 refine awp_for [3,4,5,6,7] (G:=Nat × List Int) (fun k _=>[(8,some (.int .i64 (k : Int)))])
  (fun k g H=>g.2.length=c.idn.length+k∧Owns H0 H (sumO id7 id4 (c.objs+e.objs) a c.frm b c.to g.1 g.2 d Xs ob)) e.objs.toNat (i,c.idn) ⟨rfl,o⟩ rfl ?_
 clear o
 rintro k ⟨i,I⟩ H hk ⟨hI,o⟩;dsimp only at hI o;unfold sumO at o;refine tt ?_;apply bk <;> intro h1
 ·have h1p:=of_decide h1
  have w:=wsucc (k:=k) (by omega);refine tt ?_;refine rd_cells o (by simp) ?_;refine tt ?_;refine ⟨by omega, ?_⟩;refine app_own' _ (o.pull [_,_,_]) rfl rfl (by simp only [maxL]; omega) fun i H I2 _ hI2 o=>tt ?_;refine sw o.swap fun H o=>?_;refine tw w ?_;refine for_next (i,I2) (by omega) ⟨by show I2.length=_; omega, ?_⟩ rfl
  try unfold sumO
  exact o.pm
 ·have h1p:=of_ndecide h1
  have hIl : I.length=c.idn.length+e.objs.toNat:=by omega
  clear h1 h1p hk hI;refine tt ?_
  refine awp_for [3,4,5,6,7] (G:=List AV × Ob × List (List Int)) (fun f _=>[(9,some (.int .i64 (f : Int)))])
   (fun f g H=>LsR iI g.1 g.2.2 g.2.1∧g.2.2.length=c.frm.length∧(∀ x,x<c.frm.length→(g.2.2.getD x []).length=c.frm.length+if x<f then e.frm.length else 0) ∧
    Owns H0 H (sumO id7 id4 (c.objs+e.objs) a c.frm b c.to i I d g.1 g.2.1)) c.frm.length (Xs,ob,c.comp) ⟨hX,ccl,fun x hx=>by rw [if_neg (by omega)]; exact crow x hx,o⟩ rfl ?_
  clear o hX hXl
  rintro f ⟨Xs,ob,As⟩ H hf ⟨hX,hAl,hAr,o⟩;dsimp only at hX hAl hAr o
  have hXl:=hX.len;unfold sumO at o;refine tt ?_;refine rd_cells o (by simp) ?_;refine tt ?_;apply bk <;> intro h1
  ·have h1p:=of_decide h1
   have hf1 : f<c.frm.length:=by omega
   clear h1 h1p;refine tt ?_
   refine awp_for [3,4,5,6,7,9] (G:=List AV × Ob × List (List Int)) (fun j _=>[(10,some (.int .i64 (j : Int)))])
    (fun j g H=>LsR iI g.1 g.2.2 g.2.1∧g.2.2.length=c.frm.length∧(∀ x,x<c.frm.length→(g.2.2.getD x []).length=c.frm.length+if x<f then e.frm.length else if x=f then j else 0) ∧
     Owns H0 H (sumO id7 id4 (c.objs+e.objs) a c.frm b c.to i I d g.1 g.2.1)) e.frm.length (Xs,ob,As) ⟨hX,hAl,fun x hx=>by rw [hAr x hx]; split <;> simp,o⟩ rfl ?_
   clear o hX hXl hAl hAr
   rintro j ⟨Xs,ob,As⟩ H hj ⟨hX,hAl,hAr,o⟩;dsimp only at hX hAl hAr o
   have hXl:=hX.len;unfold sumO at o;refine tt ?_;apply bk <;> intro h2
   ·have h2p:=of_decide h2
    have w:=wsucc (k:=j) (by omega);refine tt ?_;refine ⟨⟨_,_,o.h0⟩,rd_cells o (by simp) ?_⟩;refine tt ?_;refine ⟨⟨_,_,o.h0⟩,rd_cells o (by simp) ?_⟩;refine tt ?_;refine ⟨by omega, ?_⟩
    have od:=o.pull [_,_,_,_];simp only [List.cons_append,List.nil_append] at od;refine rd_cells od (by omega) ?_;refine tt ?_
    have od2 : Owns H0 H ((d,MObj.cells 1 Xs 0)::(ob++[(id7,MObj.cells 5 [iI (c.objs+e.objs),.buf a c.frm.length,.buf b c.to.length,.buf i I.length,.buf d Xs.length] 0),(a,MObj.cells 1 (c.frm.map iI) 0),(b,MObj.cells 1 (c.to.map iI) 0),(i,MObj.cells 1 (I.map iI) 0),(id4,MObj.cells 5 [iI 0,.nilsl,.nilsl,.nilsl,.nilsl] 0)])):=od.pm
    have hrow:=hAr f hf1;rw [if_neg (by omega),if_pos rfl] at hrow;refine rows_app od2 hX (by omega) (-1) rfl (by simp only [maxL]; omega) fun X' ob' H hX1 hX' o=>?_;try simp only [go_sem,↓reduceIte,reduceEqDiff,reduceAdd,reduceMul,reduceLeDiff,reduceLT,AV.cells_one hX1]
    refine ⟨by omega,st_cells o (by omega) (by (try simp only [go_sem]); (try simp)) (by simp [hX1]) fun H o=>?_⟩
    have hw : wr Xs f [X']=Xs.set f X':=rfl;rw [hw] at o;refine tw w ?_
    have hXl2 : (Xs.set f X').length=Xs.length:=by simp
    refine for_next (Xs.set f X',ob',As.set f (As.getD f []++[-1])) h2p ⟨hX',by simp [hAl],fun x hx=>?_, ?_⟩ rfl
    ·show ((As.set f (As.getD f []++[-1])).getD x []).length=_
     rw [getD_set]
     by_cases hxf : f=x
     ·subst hxf;rw [if_pos ⟨rfl,by omega⟩,List.length_append,hrow,if_neg (by omega),if_pos rfl]; simp; omega
     ·rw [if_neg (fun q=>hxf q.1),hAr x hx]
      by_cases hx2 : x<f
      ·rw [if_pos hx2,if_pos hx2]
      ·rw [if_neg hx2,if_neg hx2,if_neg (by omega),if_neg (by omega)]
    ·try unfold sumO
     try rw [hXl2]
     exact o.pm
   ·have h2p:=of_ndecide h2
    have w:=wsucc (k:=f) (by omega);refine tw w ?_;refine for_next (Xs,ob,As) hf1 ⟨hX,hAl,fun x hx=>?_,o⟩ rfl
    have:=hAr x hx
    show (As.getD x []).length=_
    rw [this]
    by_cases hx2 : x<f
    ·rw [if_pos hx2,if_pos (by omega)]
    ·by_cases hx3 : x=f
     ·rw [if_neg hx2,if_pos hx3,if_pos (by omega)]; omega
     ·rw [if_neg hx2,if_neg hx3,if_neg (by omega)]
  ·have h1p:=of_ndecide h1
   have hAr2 : ∀ x,x<c.frm.length→(As.getD x []).length=c.frm.length+e.frm.length:=fun x hx=>by rw [hAr x hx,if_pos (by omega)]
   clear h1 h1p hf hAr;refine tt ?_
   refine awp_for [3,4,5,6,7] (G:=(Nat × List Int) × (Nat × List Int) × Nat × List AV × Ob × List (List Int)) (fun f _=>[(11,some (.int .i64 (f : Int)))])
    (fun f g H=>g.1.2.length=c.frm.length+f∧g.2.1.2.length=c.frm.length+f∧LsR iI g.2.2.2.1 g.2.2.2.2.2 g.2.2.2.2.1∧g.2.2.2.2.2.length=c.frm.length+f∧(∀ x,x<c.frm.length+f→(g.2.2.2.2.2.getD x []).length=c.frm.length+e.frm.length) ∧
     Owns H0 H (sumO id7 id4 (c.objs+e.objs) g.1.1 g.1.2 g.2.1.1 g.2.1.2 i I g.2.2.1 g.2.2.2.1 g.2.2.2.2.1)) e.frm.length ((a,c.frm),(b,c.to),d,Xs,ob,As) ⟨rfl,ctl,hX,hAl,hAr2,o⟩ rfl ?_
   clear o hX hXl hAl hAr2
   rintro f ⟨⟨a,A⟩,⟨b,C⟩,d,Xs,ob,As⟩ H hf ⟨hA,hC,hX,hAl,hAr,o⟩;dsimp only at hA hC hX hAl hAr o
   have hXl:=hX.len;unfold sumO at o;refine tt ?_;apply bk <;> intro h1
   ·have h1p:=of_decide h1;refine tt ?_;refine rd_cells o (by simp) ?_;refine tt ?_;refine ⟨h1p,app_own' _ o.swap rfl rfl (by simp only [maxL]; omega) fun a H A2 _ hA2 o=>?_⟩;refine tt ?_;refine sw o.swap fun H o=>tt ?_;refine rd_cells o (by simp) ?_;refine tt ?_;refine ⟨by omega,app_own' _ (o.pull [_,_]) rfl rfl (by simp only [maxL]; omega) fun b H C2 _ hC2 o=>?_⟩;refine tt ?_;refine sw o.swap fun H o=>tt ?_
    have o : Owns H0 H (sumO id7 id4 (c.objs+e.objs) a A2 b C2 i I d Xs ob):=by
     try unfold sumO
     exact o.pm
    refine newBuf_own o fun idr H o=>tt ?_
    refine awp_for [3,4,5,6,7,11] (G:=Nat × List Int) (fun j g=>[(12,some (.buf g.1 g.2.length)),(13,some (.int .i64 (j : Int)))])
     (fun j g H=>g.2.length=j∧Owns H0 H ((g.1,MObj.cells 1 (g.2.map iI) 0)::sumO id7 id4 (c.objs+e.objs) a A2 b C2 i I d Xs ob)) c.frm.length (idr,[]) ⟨rfl,o⟩ rfl ?_
    clear o
    rintro j ⟨idr,row⟩ H hj ⟨hr,o⟩;dsimp only at hr o;refine tt ?_;apply bk <;> intro h2
    ·have h2p:=of_decide h2
     have w:=wsucc (k:=j) (by omega);refine tt ?_;refine app_own' _ o rfl rfl (by simp only [maxL]; omega) fun idr H row2 _ hrow2 o=>?_;refine tw w ?_;exact for_next (idr,row2) h2p ⟨by show row2.length=_; omega,o⟩ rfl
    ·have h2p:=of_ndecide h2
     have hrm : row.length=c.frm.length:=by omega
     clear h2 h2p hj hr;refine tt ?_
     refine awp_for [3,4,5,6,7,11] (G:=Nat × List Int) (fun j g=>[(12,some (.buf g.1 g.2.length)),(14,some (.int .i64 (j : Int)))])
      (fun j g H=>g.2.length=c.frm.length+j∧Owns H0 H ((g.1,MObj.cells 1 (g.2.map iI) 0)::sumO id7 id4 (c.objs+e.objs) a A2 b C2 i I d Xs ob)) e.frm.length (idr,row) ⟨hrm,o⟩ rfl ?_
     clear o hrm
     rintro j ⟨idr,row⟩ H hj ⟨hr,o⟩;dsimp only at hr o;refine tt ?_;apply bk <;> intro h3
     ·have h3p:=of_decide h3
      have w:=wsucc (k:=j) (by omega)
      have her:=erow f (by omega);refine tt ?_;refine ⟨by omega,by omega, ?_⟩;apply bk <;> intro h4
      ·refine tt ?_;refine app_own' _ o rfl rfl (by simp only [maxL]; omega) fun idr H row2 _ hrow2 o=>?_;refine tw w ?_;exact for_next (idr,row2) h3p ⟨by show row2.length=_; omega,o⟩ rfl
      ·refine tt ?_;refine app_own' _ o rfl rfl (by simp only [maxL]; omega) fun idr H row2 _ hrow2 o=>?_;refine tw w ?_;exact for_next (idr,row2) h3p ⟨by show row2.length=_; omega,o⟩ rfl
     ·have h3p:=of_ndecide h3
      have w:=wsucc (k:=f) (by omega);unfold sumO at o;refine tt ?_;refine rd_cells o.tl (by simp) ?_;refine tt ?_;refine app_raw (o.pull [_,_,_,_,_]) rfl rfl rfl (by simp only [maxL]; omega) fun d H o=>tt ?_
      have o:=o.pull [_,_];simp only [List.cons_append,List.nil_append] at o;refine sw o fun H o=>?_;refine tw w ?_
      have hXl2 : (Xs++[AV.buf idr row.length]).length=Xs.length+1:=by simp
      refine for_next ((a,A2),(b,C2),d,Xs++[AV.buf idr row.length],ob++[(idr,MObj.cells 1 (row.map iI) 0)],As++[row]) h1p ⟨by show A2.length=_; omega,by show C2.length=_; omega,hX.snoc' (.inr ⟨idr,rfl,rfl⟩),by simp; omega,fun x hx=>?_, ?_⟩ rfl
      ·show ((As++[row]).getD x []).length=_
       by_cases hx2 : x<c.frm.length+f
       ·have e1 : (As++[row]).getD x []=As.getD x []:=by rw [List.getD_eq_getElem?_getD,List.getElem?_append_left (by omega),← List.getD_eq_getElem?_getD]
        rw [e1]; exact hAr x hx2
       ·have e1 : (As++[row]).getD x []=row:=by
         have : x=As.length:=by omega
         subst this; simp
        rw [e1]; omega
      ·try unfold sumO
       try rw [hXl2]
       exact o.pm
   ·have h1p:=of_ndecide h1
    obtain rfl : f=e.frm.length:=by omega
    refine tt ?_;refine rd_celln o (by simp) ?_;refine tt ?_
    have o : Owns H0 H ((id4,MObj.cells 5 [iI 0,.nilsl,.nilsl,.nilsl,.nilsl] 0)::(id7,MObj.cells 5 [iI (c.objs+e.objs),.buf a A.length,.buf b C.length,.buf i I.length,.buf d Xs.length] 0)::(a,MObj.cells 1 (A.map iI) 0)::(b,MObj.cells 1 (C.map iI) 0)::(i,MObj.cells 1 (I.map iI) 0)::(d,MObj.cells 1 Xs 0)::ob):=o.pm;refine sw o fun H o=>tt ?_
    have hr2:=o.rc 5 0 (by simp);simp only [List.drop_zero] at hr2;rw [hr2];refine tt ?_
    refine ⟨H,.refl H,_,⟨⟨c.objs+e.objs,A,C,I,As⟩,⟨⟨by show 0≤c.objs+e.objs; omega,by show c.objs+e.objs≤((N+M : Nat) : Int); omega⟩,by show (I.length : Int)=c.objs+e.objs; omega,by show A.length≤N+M; omega,by show C.length=A.length; omega,by show As.length=A.length; omega,fun x hx=>?_⟩,
     a,b,i,d,Xs,ob,rfl,hX,rfl⟩,o.tl.tl⟩
    show (As.getD x []).length=A.length
    rw [hAr x (by have : x<A.length:=hx; omega)]; omega
theorem l03Join_ok (B N M : Nat) (hNM : N+M≤4096) (hNM2 : N*M≤65536) (c e : Cat) (hc : c.Sh N) (he : e.Sh M) : Rets B 275 [.agg c.cells,.agg e.cells] (CatQ (N+M+N*M)):=by
 intro H0;refine c275p (by simp) fun _=>?_
 have cob:=hc.ob
 have eob:=he.ob;unfold s275p;refine tt ?_;refine newRef_own (.nil _) fun id4 H o=>tt ?_;refine New.go' (l03Sum_new B N M hNM c e hc he) o fun X1 p1 H ⟨q,hq,a,b,i,d,Xs,ob,e1,hX,e2⟩ o _=>?_;subst e1 e2
 have hXl:=hX.len
 obtain ⟨qob,qil,qml,qtl,qcl,qrow⟩:=hq
 obtain ⟨qo,A,C,I,As⟩:=q;simp only at qob qil qml qtl qcl qrow hX hXl;refine tt ?_;refine newRef_own o fun id5 H o=>tt ?_;refine sw o fun H o=>tt ?_
 have o : Owns H0 H (sumO id5 id4 qo a A b C i I d Xs ob):=o;unfold sumO at o;refine rd_cells o (by simp) ?_;refine tt ?_
 generalize hm : A.length=m at *
 refine awp_for [2,3,4,5,6] (G:=(Nat × List Int) × (Nat × List Int)) (fun k _=>[(7,some (.int .i64 (k : Int)))])
  (fun k g H=>g.2.2.length=g.1.2.length∧m≤g.1.2.length∧g.1.2.length=m+k*e.objs.toNat∧Owns H0 H (sumO id5 id4 qo g.1.1 g.1.2 g.2.1 g.2.2 i I d Xs ob)) c.objs.toNat ((a,A),(b,C)) ⟨by simp only; omega,by simp only; omega,by simp [hm],by unfold sumO; rw [hm]; exact o⟩ rfl ?_
 clear o hm qtl
 rintro k ⟨⟨a,A⟩,⟨b,C⟩⟩ H hk ⟨hC,hA1,hA,o⟩;dsimp only at hC hA1 hA o
 have hMe : ∀ x,x≤c.objs.toNat→x*e.objs.toNat≤N*M:=fun x hx=>Nat.mul_le_mul (by omega) (by omega);refine tt ?_;apply bk <;> intro h1
 ·have h1p:=of_decide h1
  have hk1 : k+1≤c.objs.toNat:=by omega
  refine tt ?_
  refine awp_for [2,3,4,5,6,7] (G:=(Nat × List Int) × (Nat × List Int)) (fun j _=>[(8,some (.int .i64 (j : Int)))])
   (fun j g H=>g.2.2.length=g.1.2.length∧m≤g.1.2.length∧g.1.2.length=m+k*e.objs.toNat+j∧Owns H0 H (sumO id5 id4 qo g.1.1 g.1.2 g.2.1 g.2.2 i I d Xs ob)) e.objs.toNat ((a,A),(b,C)) ⟨hC,hA1,hA,o⟩ rfl ?_
  clear o hC hA1 hA
  rintro j ⟨⟨a,A⟩,⟨b,C⟩⟩ H hj ⟨hC,hA1,hA,o⟩;dsimp only at hC hA1 hA o
  have hM1:=hMe (k+1) hk1;rw [Nat.succ_mul] at hM1;refine tt ?_;apply bk <;> intro h2
  ·have h2p:=of_decide h2
   have w:=wsucc (k:=j) (by omega);unfold sumO at o;refine tt ?_;refine rd_cells o (by simp) ?_;refine tt ?_;refine app_own' _ o.swap rfl rfl (by simp only [maxL]; omega) fun a H A2 _ hA2 o=>tt ?_;refine sw o.swap fun H o=>tt ?_;refine rd_cells o (by simp) ?_;refine tt ?_;refine app_own' _ (o.pull [_,_]) rfl rfl (by simp only [maxL]; omega) fun b H C2 _ hC2 o=>tt ?_;refine sw o.swap fun H o=>?_;refine tw w ?_;refine for_next ((a,A2),(b,C2)) (by omega) ⟨by show C2.length=A2.length; omega,by show m≤A2.length; omega,by show A2.length=_; omega, ?_⟩ rfl
   try unfold sumO
   exact o.pm
  ·have h2p:=of_ndecide h2
   have w:=wsucc (k:=k) (by omega);refine tw w ?_;exact for_next ((a,A),(b,C)) (by omega) ⟨hC,hA1,by show A.length=_; rw [Nat.succ_mul]; omega,o⟩ rfl
 ·have h1p:=of_ndecide h1
  have hAb : A.length≤N+M+N*M:=by have:=hMe k hk; omega
  clear h1 h1p hk hA;unfold sumO at o;refine tt ?_
  have od : Owns H0 H ((d,MObj.cells 1 Xs 0)::(ob++[(id5,MObj.cells 5 [iI qo,.buf a A.length,.buf b C.length,.buf i I.length,.buf d Xs.length] 0),(a,MObj.cells 1 (A.map iI) 0),(b,MObj.cells 1 (C.map iI) 0),(i,MObj.cells 1 (I.map iI) 0),(id4,MObj.cells 5 [iI 0,.nilsl,.nilsl,.nilsl,.nilsl] 0)])):=o.pm;refine wk_rows hX [] H od fun H o=>?_;simp only [List.nil_append] at o
  have o : Owns H0 H [(id5,MObj.cells 5 [iI qo,.buf a A.length,.buf b C.length,.buf i I.length,.buf d Xs.length] 0),(d,MObj.cells 1 (As.map iL) 0),(a,MObj.cells 1 (A.map iI) 0),(b,MObj.cells 1 (C.map iI) 0),(i,MObj.cells 1 (I.map iI) 0),(id4,MObj.cells 5 [iI 0,.nilsl,.nilsl,.nilsl,.nilsl] 0)]:=o.pm;refine wk_cell 4 o rfl hXl fun H o=>?_;simp only [List.set_cons_zero,List.set_cons_succ] at o;refine wk_cell 1 o rfl rfl fun H o=>?_;simp only [List.set_cons_zero,List.set_cons_succ] at o;refine wk_cell 2 o rfl rfl fun H o=>?_;simp only [List.set_cons_zero,List.set_cons_succ] at o;refine wk_cell 3 o rfl rfl fun H o=>wkW_done ?_;simp only [List.set_cons_zero,List.set_cons_succ] at o;clear od;refine tt ?_;refine newBuf_own o fun idt H o=>tt ?_
  refine awp_for [2,3,4,5,6] (G:=Nat × List (List Int)) (fun f g=>[(9,some (.buf g.1 g.2.length)),(10,some (.int .i64 (f : Int)))])
   (fun f g H=>g.2.length=f∧(∀ r,r∈g.2→r.length=A.length)∧Owns H0 H [(g.1,MObj.cells 1 (g.2.map iL) 0),(id5,MObj.cells 5 [iI qo,iL A,iL C,iL I,iLL As] 0),(id4,MObj.cells 5 [iI 0,.nilsl,.nilsl,.nilsl,.nilsl] 0)]) A.length (idt,[]) ⟨rfl,by simp,o⟩ rfl ?_
  clear o
  rintro f ⟨idt,T⟩ H hf ⟨hT,hTr,o⟩;dsimp only at hT hTr o;refine tt ?_;refine rd_cells o.tl (by simp) ?_;refine tt ?_;apply bk <;> intro h2
  ·have h2p:=of_decide h2;refine tt ?_;refine newBuf_own o fun idr H o=>tt ?_
   refine awp_for [2,3,4,5,6,9,10] (G:=Nat × List Int) (fun g r=>[(11,some (.buf r.1 r.2.length)),(12,some (.int .i64 (g : Int)))])
    (fun g r H=>r.2.length=g∧Owns H0 H [(r.1,MObj.cells 1 (r.2.map iI) 0),(idt,MObj.cells 1 (T.map iL) 0),(id5,MObj.cells 5 [iI qo,iL A,iL C,iL I,iLL As] 0),(id4,MObj.cells 5 [iI 0,.nilsl,.nilsl,.nilsl,.nilsl] 0)]) A.length (idr,[]) ⟨rfl,o⟩ rfl ?_
   clear o
   rintro g ⟨idr,row⟩ H hg ⟨hr,o⟩;dsimp only at hr o;refine tt ?_;refine rd_cells o.tl.tl (by simp) ?_;refine tt ?_;apply bk <;> intro h3
   ·have h3p:=of_decide h3
    have w:=wsucc (k:=g) (by omega);refine tt ?_;refine rd_cells o.tl.tl (by simp) ?_;refine tt ?_;refine ⟨by omega,rd_cells o.tl.tl (by simp) ?_⟩;refine tt ?_;refine ⟨by omega,tt ?_⟩;apply bk <;> intro h4
    ·refine tt ?_;refine app_own' _ o rfl rfl (by simp only [maxL]; omega) fun idr H row2 _ hrow2 o=>?_;refine tw w ?_;exact for_next (idr,row2) h3p ⟨by show row2.length=_; omega,o⟩ rfl
    ·refine tt ?_;apply bk <;> intro h5
     ·have h5p:=of_decide h5;refine tw h5 ?_;apply bk <;> intro h6
      ·have h6p:=of_decide h6
       have hq:=qrow f h5p;refine tt ?_;refine rd_cells o.tl.tl (by simp) ?_;refine tt ?_;refine ⟨by omega,by omega, ?_⟩;refine app_own' _ o rfl rfl (by simp only [maxL]; omega) fun idr H row2 _ hrow2 o=>?_;refine tw w ?_;exact for_next (idr,row2) h3p ⟨by show row2.length=_; omega,o⟩ rfl
      ·refine tt ?_;refine rd_cells o.tl.tl (by simp) ?_;refine tt ?_;refine ⟨by omega,tt ?_⟩;refine rd_cells o.tl.tl (by simp) ?_;refine tt ?_;refine ⟨by omega,tt ?_⟩;refine app_own' _ o rfl rfl (by simp only [maxL]; omega) fun idr H row2 _ hrow2 o=>?_;refine tw w ?_;exact for_next (idr,row2) h3p ⟨by show row2.length=_; omega,o⟩ rfl
     ·refine tw h5 ?_;refine rd_cells o.tl.tl (by simp) ?_;refine tt ?_;refine ⟨by omega,tt ?_⟩;refine rd_cells o.tl.tl (by simp) ?_;refine tt ?_;refine ⟨by omega,tt ?_⟩;refine app_own' _ o rfl rfl (by simp only [maxL]; omega) fun idr H row2 _ hrow2 o=>?_;refine tw w ?_;exact for_next (idr,row2) h3p ⟨by show row2.length=_; omega,o⟩ rfl
   ·have h3p:=of_ndecide h3
    have w:=wsucc (k:=f) (by omega);refine tt ?_;refine fz_own o rfl fun H o=>tt ?_;refine app_own row o rfl rfl (by simp only [maxL]; omega) fun idt H o=>?_;refine tw w ?_;refine for_next (idt,T++[row]) h2p ⟨by simp [hT], ?_,o⟩ rfl
    intro r hr2
    rcases List.mem_append.mp hr2 with h | h
    ·exact hTr r h
    ·rw [List.mem_singleton] at h; subst h; omega
  ·have h2p:=of_ndecide h2;refine tt ?_;refine fz_own o rfl fun H o=>tt ?_;refine sw o fun H o=>tt ?_;refine rd_celln o (by simp) ?_;refine tt ?_;refine sw o.swap fun H o=>tt ?_
   have hr2:=o.rc 5 0 (by simp);simp only [List.drop_zero] at hr2;rw [hr2];refine tt ?_
   have hTA : T.length=A.length:=by omega
   refine rets_ret ⟨⟨qo,A,C,I,T⟩,rfl,⟨qob.1,Int.le_trans qob.2 (Int.ofNat_le.mpr (Nat.le_add_right _ _))⟩,qil,hAb,hC,hTA,fun x hx=>?_⟩ o.sub;exact hTr _ (mem_getD.mpr ⟨x,by rw [hTA]; exact hx,rfl⟩)
@[go_sem] def prodO (id7 id4 : Nat) (x0 : Int) (a : Nat) (A : List Int) (b : Nat) (C : List Int) (i : Nat) (I : List Int) (d : Nat) (D : List (List Int)) : Ob :=
 [(id7,.cells 5 [iI x0,.buf a A.length,.buf b C.length,.buf i I.length,.buf d D.length] 0),(a,.cells 1 (A.map iI) 0),(b,.cells 1 (C.map iI) 0),(i,.cells 1 (I.map iI) 0),(d,.cells 1 (D.map iL) 0),(id4,.cells 5 [iI 0,.nilsl,.nilsl,.nilsl,.nilsl] 0)]
theorem l03Product_ok (B N M : Nat) (hN : N≤65536) (hM : M≤65536) (hNM : N*M≤65536) (c e : Cat) (hc : c.Sh N) (he : e.Sh M) : Rets B 208 [.agg c.cells,.agg e.cells] (CatQ (N*M)):=by
 intro H0;refine c208p (by simp) fun _=>?_
 obtain ⟨cob,cil,cml,ctl,ccl,crow⟩:=hc
 obtain ⟨eob,eil,eml,etl,ecl,erow⟩:=he
 have hp0 : 0≤c.objs*e.objs:=Int.mul_nonneg cob.1 eob.1
 have hpN : c.objs*e.objs≤(N : Int)*(M : Int):=Int.mul_le_mul cob.2 eob.2 eob.1 (Int.natCast_nonneg N)
 have hpe : ((N*M : Nat) : Int)=(N : Int)*(M : Int):=Int.natCast_mul N M
 have wo : IntKind.i64.wrap (c.objs*e.objs)=c.objs*e.objs:=wrap_i64 (by omega) (by omega)
 have hoe : c.objs*e.objs=((c.objs.toNat*e.objs.toNat : Nat) : Int):=by rw [Int.natCast_mul,Int.toNat_of_nonneg cob.1,Int.toNat_of_nonneg eob.1]
 have hMo : ∀ x,x≤c.objs.toNat→x*e.objs.toNat≤N*M:=fun x hx=>Nat.mul_le_mul (by omega) (by omega)
 have hMf : ∀ x,x≤c.frm.length→x*e.frm.length≤N*M:=fun x hx=>Nat.mul_le_mul (by omega) (by omega);unfold s208p;refine tw wo ?_;refine newRef_own (.nil _) fun id4 H o=>?_;refine tw wo ?_;refine newBuf_own o fun a H o=>tt ?_;refine newBuf_own o fun b H o=>tt ?_;refine newBuf_own o fun i H o=>tt ?_;refine newBuf_own o fun d H o=>tt ?_;refine newRef_own o fun id7 H o=>tt ?_;refine sw o fun H o=>tt ?_
 refine awp_for [2,3,4,5,6,7] (G:=Nat × List Int) (fun k _=>[(8,some (.int .i64 (k : Int)))])
  (fun k g H=>g.2.length=k*e.objs.toNat∧Owns H0 H (prodO id7 id4 (c.objs*e.objs) a [] b [] g.1 g.2 d [])) c.objs.toNat (i,[]) ⟨by simp,by unfold prodO; exact o.pm⟩ rfl ?_
 clear o
 rintro k ⟨i,I⟩ H hk ⟨hI,o⟩;dsimp only at hI o;refine tt ?_;apply bk <;> intro h1
 ·have h1p:=of_decide h1
  have hk1:=hMo (k+1) (by omega);rw [Nat.succ_mul] at hk1;refine tt ?_
  refine awp_for [2,3,4,5,6,7,8] (G:=Nat × List Int) (fun j _=>[(9,some (.int .i64 (j : Int)))])
   (fun j g H=>g.2.length=k*e.objs.toNat+j∧Owns H0 H (prodO id7 id4 (c.objs*e.objs) a [] b [] g.1 g.2 d [])) e.objs.toNat (i,I) ⟨hI,o⟩ rfl ?_
  clear o hI
  rintro j ⟨i,I⟩ H hj ⟨hI,o⟩;dsimp only at hI o;refine tt ?_;apply bk <;> intro h2
  ·have h2p:=of_decide h2
   have w:=wsucc (k:=j) (by omega);unfold prodO at o;refine tt ?_;refine rd_cells o (by simp) ?_;refine tt ?_;refine ⟨by omega,by omega, ?_⟩;refine app_own' _ (o.pull [_,_,_]) rfl rfl (by simp only [maxL]; omega) fun i H I2 _ hI2 o=>tt ?_;refine sw o.swap fun H o=>?_;refine tw w ?_;refine for_next (i,I2) (by omega) ⟨by show I2.length=_; omega, ?_⟩ rfl
   try unfold prodO
   exact o.pm
  ·have h2p:=of_ndecide h2
   have w:=wsucc (k:=k) (by omega);refine tw w ?_;exact for_next (i,I) (by omega) ⟨by show I.length=_; rw [Nat.succ_mul]; omega,o⟩ rfl
 ·have h1p:=of_ndecide h1
  obtain rfl : k=c.objs.toNat:=by omega
  clear h1 h1p hk;refine tt ?_
  refine awp_for [2,3,4,5,6,7] (G:=(Nat × List Int) × (Nat × List Int) × (Nat × List (List Int))) (fun k _=>[(10,some (.int .i64 (k : Int)))])
   (fun k g H=>g.1.2.length=k*e.frm.length∧g.2.1.2.length=k*e.frm.length∧g.2.2.2.length=k*e.frm.length∧(∀ r,r∈g.2.2.2→r.length=c.frm.length*e.frm.length) ∧
    Owns H0 H (prodO id7 id4 (c.objs*e.objs) g.1.1 g.1.2 g.2.1.1 g.2.1.2 i I g.2.2.1 g.2.2.2)) c.frm.length ((a,[]),(b,[]),(d,[])) ⟨by simp,by simp,by simp,by simp,o⟩ rfl ?_
  clear o
  rintro k ⟨⟨a,A⟩,⟨b,C⟩,⟨d,D⟩⟩ H hk ⟨hA,hC,hD,hDr,o⟩;dsimp only at hA hC hD hDr o;refine tt ?_;apply bk <;> intro h1
  ·have h1p:=of_decide h1
   have hk1:=hMf (k+1) (by omega);rw [Nat.succ_mul] at hk1
   have crk:=crow k h1p;refine tt ?_
   refine awp_for [2,3,4,5,6,7,10] (G:=(Nat × List Int) × (Nat × List Int) × (Nat × List (List Int))) (fun j _=>[(11,some (.int .i64 (j : Int)))])
    (fun j g H=>g.1.2.length=k*e.frm.length+j∧g.2.1.2.length=k*e.frm.length+j∧g.2.2.2.length=k*e.frm.length+j∧(∀ r,r∈g.2.2.2→r.length=c.frm.length*e.frm.length) ∧
     Owns H0 H (prodO id7 id4 (c.objs*e.objs) g.1.1 g.1.2 g.2.1.1 g.2.1.2 i I g.2.2.1 g.2.2.2)) e.frm.length ((a,A),(b,C),(d,D)) ⟨hA,hC,hD,hDr,o⟩ rfl ?_
   clear o hA hC hD hDr
   rintro j ⟨⟨a,A⟩,⟨b,C⟩,⟨d,D⟩⟩ H hj ⟨hA,hC,hD,hDr,o⟩;dsimp only at hA hC hD hDr o;refine tt ?_;apply bk <;> intro h2
   ·have h2p:=of_decide h2
    have erj:=erow j h2p;unfold prodO at o;refine tt ?_;refine rd_cells o (by simp) ?_;refine tt ?_;refine ⟨by omega,by omega, ?_⟩;refine app_own' _ o.swap rfl rfl (by simp only [maxL]; omega) fun a H A2 _ hA2 o=>tt ?_;refine sw o.swap fun H o=>tt ?_;refine rd_cells o (by simp) ?_;refine tt ?_;refine ⟨by omega,by omega, ?_⟩;refine app_own' _ (o.pull [_,_]) rfl rfl (by simp only [maxL]; omega) fun b H C2 _ hC2 o=>tt ?_;refine sw o.swap fun H o=>tt ?_
    have o : Owns H0 H (prodO id7 id4 (c.objs*e.objs) a A2 b C2 i I d D):=by
     try unfold prodO
     exact o.pm
    refine newBuf_own o fun idr H o=>tt ?_
    refine awp_for [2,3,4,5,6,7,10,11] (G:=Nat × List Int) (fun f g=>[(12,some (.buf g.1 g.2.length)),(13,some (.int .i64 (f : Int)))])
     (fun f g H=>g.2.length=f*e.frm.length∧Owns H0 H ((g.1,MObj.cells 1 (g.2.map iI) 0)::prodO id7 id4 (c.objs*e.objs) a A2 b C2 i I d D)) c.frm.length (idr,[]) ⟨by simp,o⟩ rfl ?_
    clear o
    rintro f ⟨idr,row⟩ H hf ⟨hr,o⟩;dsimp only at hr o;refine tt ?_;apply bk <;> intro h3
    ·have h3p:=of_decide h3
     have hf1:=hMf (f+1) (by omega);rw [Nat.succ_mul] at hf1;refine tt ?_
     refine awp_for [2,3,4,5,6,7,10,11,13] (G:=Nat × List Int) (fun g r=>[(12,some (.buf r.1 r.2.length)),(14,some (.int .i64 (g : Int)))])
      (fun g r H=>r.2.length=f*e.frm.length+g∧Owns H0 H ((r.1,MObj.cells 1 (r.2.map iI) 0)::prodO id7 id4 (c.objs*e.objs) a A2 b C2 i I d D)) e.frm.length (idr,row) ⟨hr,o⟩ rfl ?_
     clear o hr
     rintro g ⟨idr,row⟩ H hg ⟨hr,o⟩;dsimp only at hr o;refine tt ?_;apply bk <;> intro h4
     ·have h4p:=of_decide h4
      have w:=wsucc (k:=g) (by omega);refine tt ?_;refine ⟨by omega,by omega,tt ?_⟩;apply bk <;> intro h5
      ·refine tw h5 ?_;refine ⟨by omega,by omega,tt ?_⟩;apply bk <;> intro h6
       ·refine tt ?_;refine ⟨by omega,by omega,by omega,by omega, ?_⟩;refine app_own' _ o rfl rfl (by simp only [maxL]; omega) fun idr H row2 _ hrow2 o=>?_;refine tw w ?_;exact for_next (idr,row2) h4p ⟨by show row2.length=_; omega,o⟩ rfl
       ·refine tt ?_;refine app_own' _ o rfl rfl (by simp only [maxL]; omega) fun idr H row2 _ hrow2 o=>?_;refine tw w ?_;exact for_next (idr,row2) h4p ⟨by show row2.length=_; omega,o⟩ rfl
      ·refine tw h5 ?_;refine app_own' _ o rfl rfl (by simp only [maxL]; omega) fun idr H row2 _ hrow2 o=>?_;refine tw w ?_;exact for_next (idr,row2) h4p ⟨by show row2.length=_; omega,o⟩ rfl
     ·have h4p:=of_ndecide h4
      have w:=wsucc (k:=f) (by omega);refine tw w ?_;exact for_next (idr,row) h3p ⟨by show row.length=_; rw [Nat.succ_mul]; omega,o⟩ rfl
    ·have h3p:=of_ndecide h3
     obtain rfl : f=c.frm.length:=by omega
     have w:=wsucc (k:=j) (by omega);unfold prodO at o;refine tt ?_;refine fz_own o rfl fun H o=>tt ?_;refine rd_cells o (by simp) ?_;refine tt ?_;refine app_own' row (o.pull [_,_,_,_]) rfl rfl (by simp only [maxL]; omega) fun d H D2 eD hD2 o=>tt ?_;refine sw o.swap fun H o=>?_;refine tw w ?_;refine for_next ((a,A2),(b,C2),(d,D2)) h2p ⟨by show A2.length=_; omega,by show C2.length=_; omega,by show D2.length=_; omega,fun r hr2=>?_, ?_⟩ rfl
     ·dsimp only at hr2;rw [eD] at hr2
      rcases List.mem_append.mp hr2 with h | h
      ·exact hDr r h
      ·rw [List.mem_singleton] at h; subst h; exact hr
     ·try unfold prodO
      exact o.pm
   ·have h2p:=of_ndecide h2
    have w:=wsucc (k:=k) (by omega);refine tw w ?_;exact for_next ((a,A),(b,C),(d,D)) h1p ⟨by show A.length=_; rw [Nat.succ_mul]; omega,by show C.length=_; rw [Nat.succ_mul]; omega,by show D.length=_; rw [Nat.succ_mul]; omega,hDr,o⟩ rfl
  ·have h1p:=of_ndecide h1
   obtain rfl : k=c.frm.length:=by omega
   have hAb : A.length≤N*M:=by rw [hA]; exact hMf _ (Nat.le_refl _)
   unfold prodO at o;refine tt ?_
   have o : Owns H0 H [(id7,MObj.cells 5 [iI (c.objs*e.objs),.buf a A.length,.buf b C.length,.buf i I.length,.buf d D.length] 0),(d,MObj.cells 1 (D.map iL) 0),(a,MObj.cells 1 (A.map iI) 0),(b,MObj.cells 1 (C.map iI) 0),(i,MObj.cells 1 (I.map iI) 0),(id4,MObj.cells 5 [iI 0,.nilsl,.nilsl,.nilsl,.nilsl] 0)]:=o.pm;refine wk_cell 4 o rfl rfl fun H o=>?_;simp only [List.set_cons_zero,List.set_cons_succ] at o;refine wk_cell 1 o rfl rfl fun H o=>?_;simp only [List.set_cons_zero,List.set_cons_succ] at o;refine wk_cell 2 o rfl rfl fun H o=>?_;simp only [List.set_cons_zero,List.set_cons_succ] at o;refine wk_cell 3 o rfl rfl fun H o=>wkW_done ?_;simp only [List.set_cons_zero,List.set_cons_succ] at o;refine tt ?_;refine rd_celln o (by simp) ?_;refine tt ?_;refine sw o.swap fun H o=>tt ?_
   have hr2:=o.rc 5 0 (by simp);simp only [List.drop_zero] at hr2;rw [hr2];refine tt ?_
   have hDA : D.length=A.length:=by omega
   refine rets_ret ⟨⟨c.objs*e.objs,A,C,I,D⟩,rfl,⟨hp0,by show c.objs*e.objs≤_; omega⟩,by show (I.length : Int)=c.objs*e.objs; omega,hAb,by show C.length=A.length; omega,hDA,fun x hx=>?_⟩ o.sub;rw [hDr _ (mem_getD.mpr ⟨x,by rw [hDA]; exact hx,rfl⟩)]; exact hA.symm
end Go.Proofs.Shf
namespace Go.AW
theorem inner_set {α : Type} {f : α→AV} : ∀ (ms : List (Nat × List α)) (x : Nat) (h : x<ms.length),∃ r,(inner f ms).Perm (((ms.getD x default).1,MObj.cells 1 ((ms.getD x default).2.map f) 0)::r) ∧
  ∀ m : Nat × List α,(inner f (ms.set x m)).Perm ((m.1,MObj.cells 1 (m.2.map f) 0)::r)
 | [],x,h=>by simp at h
 | m::ms,0,h=>⟨inner f ms,.refl _,fun m'=>.refl _⟩
 | m::ms,x+1,h=>by
  obtain ⟨r,h1,h2⟩:=inner_set ms x (by simpa using h);refine ⟨(m.1,MObj.cells 1 (m.2.map f) 0)::r, ?_,fun m'=>?_⟩
  ·exact (List.Perm.cons _ h1).trans (.swap _ _ _)
  ·exact (List.Perm.cons _ (h2 m')).trans (.swap _ _ _)
theorem st_inner {α : Type} [Inhabited α] {f : α→AV} [One f] {H0 H : Heap} {l : Ob} {K : Kont} {id fr : Nat} {ms : List (Nat × List α)} (o : Owns H0 H ((id,.cells 1 (ms.map bufE) fr)::(inner f ms++l))) {x y : Nat} (hx : x<ms.length) (hy : y<(ms.getD x default).2.length) (v : α) {c : AV} (hc : c=f v)
  (hk : ∀ H',Owns H0 H' ((id,.cells 1 ((ms.set x ((ms.getD x default).1,(ms.getD x default).2.set y v)).map bufE) fr)::(inner f (ms.set x ((ms.getD x default).1,(ms.getD x default).2.set y v))++l))→K nv H') :
  st1 (H.get (ms.getD x default).1) (ms.getD x default).1 y 1 [c] K H:=by
 subst hc
 obtain ⟨r,h1,h2⟩:=inner_set (f:=f) ms x hx
 have o1 : Owns H0 H (((ms.getD x default).1,MObj.cells 1 ((ms.getD x default).2.map f) 0)::(id,.cells 1 (ms.map bufE) fr)::(r++l)):=by
  refine o.perm (((List.Perm.append_right l h1).cons _).trans ?_);simp only [List.cons_append];exact .swap _ _ _
 refine st_cells o1 (by rw [List.length_map]; omega) rfl (by simp [One.one]) fun H' o2=>?_
 have e1 : wr ((ms.getD x default).2.map f) y [f v]=((ms.getD x default).2.set y v).map f:=by
  simp [wr,List.map_set]
 have e2 : (ms.set x ((ms.getD x default).1,(ms.getD x default).2.set y v)).map bufE=ms.map (bufE (α:=α)):=by
  rw [List.map_set];apply List.ext_getElem?
  intro j
  by_cases hj : x=j
  ·subst hj;rw [List.getElem?_set_self (by simpa using hx)]
   simp [hx,bufE,List.getD_eq_getElem?_getD]
  ·rw [List.getElem?_set_ne hj]
 rw [e1] at o2;refine hk H' ?_;rw [e2];refine o2.perm ((List.Perm.swap _ _ _).trans (.cons _ ?_))
 have:=List.Perm.append_right l (h2 ((ms.getD x default).1,(ms.getD x default).2.set y v)).symm
 simpa using this
end Go.AW
namespace Go.Proofs.Shf
open Go.AW Go.Proofs Go.Shf
theorem Rd.goZ {B : Nat} {fn : FuncId} {args : List AV} {Q : AV→Prop} {id : Nat} {s : Src} {H0 H : Heap} {l : List (Nat × MObj)} {K : Kont} (h : Rd B fn args Q) (hs : s.Ok) (o : Owns H0 H ((id,s.obj)::l))
  (hk : ∀ (r : AV) (s' : Src) (H' : Heap),r.fine→Q r→s'.Ok→Owns H0 H' ((id,s'.obj)::l)→(∀ z,z≠3→H.subZ z H')→K r H') : CallH Tryz.prog B fn (.ref id 0::args) H K :=
 (h id s _ H hs o.self).mono' fun r H' hf ⟨q,s',hs',o'⟩=>hk r s' H' hf q hs' (o.del.trans o') fun z hz i cs f e=>by
  have h0:=o.h0;refine o'.sub i _ ?_;rw [Heap.get_del_ne]
  ·exact e
  ·rintro rfl;simp only at h0;rw [h0] at e;simp only [Src.obj] at e
   cases e;exact hz rfl
theorem l02Relation_ok (B n : Nat) (hn : n≤4) : Rd B 269 [iI n] (SqQ 4):=by
 intro id s H0 H hs o;refine c269p (by simp) fun _=>?_;unfold s269p;refine tt ?_;refine newBuf_own o fun idR H o=>tt ?_
 refine awp_for [0,1] (G:=Src × Nat × List (Nat × List Int)) (fun k g=>[(5,some (.buf g.2.1 g.2.2.length)),(6,some (.int .i64 (k : Int)))])
  (fun k g H=>g.1.Ok∧g.2.2.length=k∧(∀ m,m∈g.2.2→m.2.length=n)∧Owns H0 H ((g.2.1,MObj.cells 1 (g.2.2.map bufE) 0)::(inner iI g.2.2++[(id,g.1.obj)]))) n (s,idR,[]) ⟨hs,rfl,by simp,o⟩ rfl ?_
 clear o hs
 rintro k ⟨s,idR,ms⟩ H hk ⟨hs,hml,hmr,o⟩;dsimp only at hs hml hmr o;refine tt ?_;refine ⟨fun h1=>At.mk ?_,fun h1=>At.mk ?_⟩
 ·have h1p:=of_decide h1;refine tt ?_;refine ⟨by simp only [maxL]; omega, ?_⟩;refine mks_list iI 0 rfl o fun idr H o=>tt ?_;refine ⟨by omega,set_own 1 o rfl (by simp; omega) fun H o=>?_⟩
  have wk1:=wsucc (k:=k) (by omega);refine tw wk1 ?_
  refine awp_for [0,1,5,6,7] (G:=Src × List Int) (fun q g=>[(8,some (.int .i64 ((k+1+q : Nat) : Int)))])
   (fun q g H=>g.1.Ok∧g.2.length=n∧Owns H0 H ((idr,MObj.cells 1 (g.2.map iI) 0)::(idR,MObj.cells 1 (ms.map bufE) 0)::(inner iI ms++[(id,g.1.obj)]))) (n - (k+1)) (s,(List.replicate n 0).set k 1) ⟨hs,by simp,o⟩ rfl ?_
  clear o hs
  rintro q ⟨s,row⟩ H hq ⟨hs,hr,o⟩;dsimp only at hs hr o;refine tt ?_;refine ⟨fun h2=>At.mk ?_,fun h2=>At.mk ?_⟩
  ·have h2p:=of_decide h2
   have w:=wsucc (k:=k+1+q) (by omega);refine tt ?_
   have o : Owns H0 H ((id,s.obj)::(idr,MObj.cells 1 (row.map iI) 0)::(idR,MObj.cells 1 (ms.map bufE) 0)::inner iI ms):=o.pm;refine (l01Next_ok B 2).go hs o fun r s H _ ⟨v,e,_⟩ hs o=>?_;subst e;refine tt ?_;refine ⟨by omega, ?_⟩
   have o:=o.swap;refine set_own v o rfl (by omega) fun H o=>?_;refine tw w ?_;refine for_next (s,row.set (k+1+q) v) (by omega) ⟨hs,by simp [hr],o.pm⟩ rfl
  ·have h2p:=of_ndecide h2
   have w:=wsucc (k:=k) (by omega);refine tt ?_;refine app_own (f:=bufE) (idr,row) o.swap (by simp [bufE,hr]) rfl (by simp only [maxL]; omega) fun idR H o=>?_;refine tw w ?_;refine for_next (s,idR,ms++[(idr,row)]) h1p ⟨hs,by simp [hml], ?_, ?_⟩ rfl
   ·intro m hm
    rcases List.mem_append.mp hm with h | h
    ·exact hmr m h
    ·rw [List.mem_singleton] at h; subst h; exact hr
   ·refine o.perm (.cons _ ?_);simp only [inner,List.map_append,List.map_cons,List.map_nil,List.append_assoc,List.cons_append,List.nil_append];exact List.perm_middle.symm
 ·have h1p:=of_ndecide h1
  obtain rfl : k=n:=by omega
  clear h1 h1p hk;refine tt ?_
  have o : Owns H0 H ((id,s.obj)::(idR,MObj.cells 1 (ms.map bufE) 0)::inner iI ms):=o.pm;refine ⟨fun h2=>At.mk ?_,fun h2=>At.mk ?_⟩
  case' refine_1 =>
   have h2p:=of_decide h2;refine tw h2 ?_;refine (l01Next_ok B 4).go hs o fun r s H _ ⟨v,e,_⟩ hs o=>?_;subst e;refine tt ?_;refine ⟨fun h3=>At.mk ?_,fun h3=>At.mk ?_⟩
   case' refine_1 =>
    have wp : IntKind.i64.wrap ((k : Int) - 1)=((k - 1 : Nat) : Int):=wpred (by omega) (by omega);refine tw wp ?_;refine ⟨by omega,⟨_,_,o.tl.h0⟩,rd_cells o.tl (by simp; omega) ?_⟩;refine tt ?_;refine (l01Next_ok B k).goZ hs o fun r s H _ ⟨v,e,hv0,hv1,_⟩ hs o hz=>⟨hz, ?_⟩;subst e
    have hv1:=hv1 (by omega)
    have hrk:=hmr (ms.getD (k - 1) default) (mem_getD.mpr ⟨k - 1,by omega,rfl⟩);rw [getD_map ms (by omega)];refine tt ?_;refine ⟨by omega, ?_⟩
    have o : Owns H0 H ((idR,MObj.cells 1 (ms.map bufE) 0)::(inner iI ms++[(id,s.obj)])):=o.pm;refine st_inner o (by omega) (by omega) 1 rfl fun H o=>?_
    have hml : (ms.set (k - 1) ((ms.getD (k - 1) default).1,(ms.getD (k - 1) default).2.set v.toNat 1)).length=k:=by simp [hml]
    have hmr : ∀ m,m∈ms.set (k - 1) ((ms.getD (k - 1) default).1,(ms.getD (k - 1) default).2.set v.toNat 1)→m.2.length=k:=by
     intro m hm
     rcases List.mem_or_eq_of_mem_set hm with h | h
     ·exact hmr m h
     ·rw [h]; simpa using hrk
    generalize ms.set (k - 1) ((ms.getD (k - 1) default).1,(ms.getD (k - 1) default).2.set v.toNat 1)=ms at hml hmr o
    have o : Owns H0 H ((id,s.obj)::(idR,MObj.cells 1 (ms.map bufE) 0)::inner iI ms):=o.pm
  all_goals
   try (try simp only [go_sem,↓reduceIte,reduceEqDiff,reduceAdd,reduceMul,reduceLeDiff,reduceLT,h2])
   clear h2
   have o : Owns H0 H ((idR,MObj.cells 1 (ms.map bufE) 0)::(inner iI ms++[(id,s.obj)])):=o.pm
   generalize hm0 : ms.length=m0
   replace hm0 : m0=k:=by omega
   refine awp_for [1,5] (G:=List (Nat × List Int)) (fun x _=>[(9,some (.int .i64 (x : Int)))]) (fun _ ms H=>ms.length=k∧(∀ m,m∈ms→m.2.length=k)∧Owns H0 H ((idR,MObj.cells 1 (ms.map bufE) 0)::(inner iI ms++[(id,s.obj)]))) k ms ⟨hml,hmr,o⟩ rfl ?_;clear o hml hmr
   rintro x ms H hx ⟨hml,hmr,o⟩
   replace hml : ms.length=k:=hml
   replace hmr : ∀ m,m∈ms→m.2.length=k:=hmr
   replace o : Owns H0 H ((idR,MObj.cells 1 (ms.map bufE) 0)::(inner iI ms++[(id,s.obj)])):=o;refine tt ?_;refine ⟨fun g1=>At.mk ?_,fun g1=>At.mk ?_⟩
   ·have g1p:=of_decide g1
    have wx:=wsucc (k:=x) (by omega);refine tt ?_;refine awp_for [1,5,9] (G:=List (Nat × List Int)) (fun y _=>[(10,some (.int .i64 (y : Int)))]) (fun _ ms H=>ms.length=k∧(∀ m,m∈ms→m.2.length=k)∧Owns H0 H ((idR,MObj.cells 1 (ms.map bufE) 0)::(inner iI ms++[(id,s.obj)]))) k ms ⟨hml,hmr,o⟩ rfl ?_;clear o hml hmr
    rintro y ms H hy ⟨hml,hmr,o⟩
    replace hml : ms.length=k:=hml
    replace hmr : ∀ m,m∈ms→m.2.length=k:=hmr
    replace o : Owns H0 H ((idR,MObj.cells 1 (ms.map bufE) 0)::(inner iI ms++[(id,s.obj)])):=o;refine tt ?_;refine ⟨fun g2=>At.mk ?_,fun g2=>At.mk ?_⟩
    ·have g2p:=of_decide g2
     have wy:=wsucc (k:=y) (by omega);refine tt ?_;refine awp_for [1,5,9,10] (G:=List (Nat × List Int)) (fun z _=>[(11,some (.int .i64 (z : Int)))]) (fun _ ms H=>ms.length=k∧(∀ m,m∈ms→m.2.length=k)∧Owns H0 H ((idR,MObj.cells 1 (ms.map bufE) 0)::(inner iI ms++[(id,s.obj)]))) k ms ⟨hml,hmr,o⟩ rfl ?_;clear o hml hmr
     rintro z ms H hz ⟨hml,hmr,o⟩
     replace hml : ms.length=k:=hml
     replace hmr : ∀ m,m∈ms→m.2.length=k:=hmr
     replace o : Owns H0 H ((idR,MObj.cells 1 (ms.map bufE) 0)::(inner iI ms++[(id,s.obj)])):=o;refine tt ?_;refine ⟨fun g3=>At.mk ?_,fun g3=>At.mk ?_⟩
     ·have g3p:=of_decide g3
      have wz:=wsucc (k:=z) (by omega)
      have hry:=hmr (ms.getD y default) (mem_getD.mpr ⟨y,by omega,rfl⟩)
      have hrx:=hmr (ms.getD x default) (mem_getD.mpr ⟨x,by omega,rfl⟩);refine tt ?_;refine ⟨by omega,rd_cells o (by simp; omega) ?_⟩;rw [getD_map ms (by omega)];refine tt ?_;refine ⟨by omega,rd_inner (o.inner_get (by omega)) (by omega) ?_⟩;refine tt ?_;refine ⟨fun g4=>At.mk ?_,fun g4=>At.mk ?_⟩
      case' refine_1 =>
       refine tw g4 ?_;refine ⟨by omega,rd_cells o (by simp; omega) ?_⟩;rw [getD_map ms (by omega)];refine tt ?_;refine ⟨by omega,rd_inner (o.inner_get (by omega)) (by omega) ?_⟩;refine tt ?_;refine ⟨fun g5=>At.mk ?_,fun g5=>At.mk ?_⟩
       case' refine_1 =>
        refine tt ?_;refine ⟨by omega,rd_cells o (by simp; omega) ?_⟩;rw [getD_map ms (by omega)];refine tt ?_;refine ⟨by omega, ?_⟩;refine st_inner o (by omega) (by omega) 1 rfl fun H o=>?_
        have hml : (ms.set y ((ms.getD y default).1,(ms.getD y default).2.set z 1)).length=k:=by simp [hml]
        have hmr : ∀ m,m∈ms.set y ((ms.getD y default).1,(ms.getD y default).2.set z 1)→m.2.length=k:=by
         intro m hm
         rcases List.mem_or_eq_of_mem_set hm with h | h
         ·exact hmr m h
         ·rw [h]; simpa using hry
        generalize ms.set y ((ms.getD y default).1,(ms.getD y default).2.set z 1)=ms at hml hmr o
      all_goals
       try (try simp only [go_sem,↓reduceIte,reduceEqDiff,reduceAdd,reduceMul,reduceLeDiff,reduceLT,g4])
       try (try simp only [go_sem,↓reduceIte,reduceEqDiff,reduceAdd,reduceMul,reduceLeDiff,reduceLT,wz])
       exact for_next ms g3p ⟨hml,hmr,o⟩ rfl
     ·refine tw wy ?_;exact for_next ms g2p ⟨hml,hmr,o⟩ rfl
    ·refine tw wx ?_;exact for_next ms g1p ⟨hml,hmr,o⟩ rfl
   ·refine tt ?_;refine wk_nest (f:=iI) ms [] H o fun H o=>wkW_done ?_;simp only [List.nil_append] at o;refine tt ?_;refine fz_own (f:=iL) o (by simp; omega) fun H o=>tt ?_;refine src_ret ⟨ms.map Prod.snd,rfl,by simp; omega,fun i hi=>?_⟩ hs o
    have hi' : i<ms.length:=by simpa using hi
    have e1 : (ms.map Prod.snd).getD i default=(ms.getD i default).2:=by simp [List.getD_eq_getElem?_getD,hi']
    rw [e1,hmr _ (mem_getD.mpr ⟨i,hi',rfl⟩)]; simp [hml]
end Go.Proofs.Shf
namespace Go.AW
section
variable {α : Type} [Inhabited α] {f : α→AV} {n : Nat} [h : AggN n f] {H0 H : Heap} {l : Ob} {K : Kont}
theorem flat_drop : ∀ (l : List α) (x : Nat),(flat (l.map f)).drop (x*n)=flat ((l.drop x).map f)
 | l,0=>by simp
 | [],x+1=>by simp [flat]
 | a::r,x+1=>by
  have e : (x+1)*n=(f a).cells.length+x*n:=by rw [h.len a,Nat.succ_mul,Nat.add_comm]
  simp only [List.map_cons,flat,List.drop_succ_cons];rw [e,← List.drop_drop,List.drop_left];exact flat_drop r x
theorem flat_slice {A : List α} {x : Nat} (hx : x<A.length) : ((flat (A.map f)).drop (x*n)).take n=(f (A.getD x default)).cells:=by
 rw [flat_drop,List.drop_eq_getElem_cons hx,List.map_cons,flat,List.take_left' (h.len _)]
 congr 2
 simp [List.getD_eq_getElem?_getD,hx]
theorem flat_get {A : List α} {x off : Nat} (hx : x<A.length) (ho : off<n) : (flat (A.map f)).getD (x*n+off) nv=(f (A.getD x default)).cells.getD off nv:=by
 rw [← flat_slice (f:=f) (n:=n) hx];simp only [List.getD_eq_getElem?_getD,List.getElem?_take,List.getElem?_drop];rw [if_pos ho]
theorem flat_bound {A : List α} {x off m : Nat} (hx : x<A.length) (ho : off+m≤n) : x*n+off+m≤(flat (A.map f)).length:=by
 rw [flat_len (f:=f) (n:=n)]
 have:=Nat.mul_le_mul_right n (show x+1≤A.length by omega);rw [Nat.succ_mul] at this; omega
theorem wr_app : ∀ (vs a b c : List AV),vs.length=b.length→wr (a++(b++c)) a.length vs=a++(vs++c)
 | [],a,[],c,_=>by simp [wr]
 | v::vs,a,[],c,hl=>by simp at hl
 | [],a,d::b,c,hl=>by simp at hl
 | v::vs,a,d::b,c,hl=>by
  rw [wr]
  have e : (a++(d::b++c)).set a.length v=(a++[v])++(b++c):=by simp
  rw [e]
  have:=wr_app vs (a++[v]) b c (by simpa using hl)
  simpa using this
theorem flat_wr {A : List α} {x : Nat} (hx : x<A.length) (a : α) : wr (flat (A.map f)) (x*n) (f a).cells=flat ((A.set x a).map f):=by
 have e1 : A=A.take x++(A.getD x default::A.drop (x+1)):=by
  conv=>lhs; rw [← List.take_append_drop x A,List.drop_eq_getElem_cons hx]
  simp [List.getD_eq_getElem?_getD,hx]
 have e2 : A.set x a=A.take x++(a::A.drop (x+1)):=by rw [List.set_eq_take_append_cons_drop,if_pos hx]
 have hl : (flat ((A.take x).map f)).length=x*n:=by rw [flat_len (f:=f) (n:=n),List.length_take,Nat.min_eq_left (by omega)]
 rw [e2]
 conv=>lhs; rw [e1]
 rw [List.map_append,List.map_append,flat_app,flat_app,List.map_cons,List.map_cons,flat,flat,← hl];exact wr_app _ _ _ _ (by rw [h.len,h.len])
theorem rd_elN {id x off fr : Nat} {A : List α} (o : Owns H0 H ((id,.cells n (flat (A.map f)) fr)::l)) (hx : x<A.length) (ho : off<n) (hk : K ((f (A.getD x default)).cells.getD off nv) H) : rd1 (H.get id) none (x*n+off) K H:=by
 refine rd_cells o ?_ ?_
 ·have:=flat_bound (f:=f) (n:=n) hx (show off+1≤n by omega); omega
 ·rw [flat_get hx ho]; exact hk
theorem rd_elA {id x fr : Nat} {A : List α} (o : Owns H0 H ((id,.cells n (flat (A.map f)) fr)::l)) (hx : x<A.length) (hk : K (f (A.getD x default)) H) : rd1 (H.get id) (some n) (x*n) K H:=by
 refine rd_celln o ?_ ?_
 ·have:=flat_bound (f:=f) (n:=n) hx (show 0+n≤n by omega); omega
 ·rw [flat_slice hx,← h.agg]; exact hk
theorem st_elN {id x : Nat} {A : List α} (o : Owns H0 H ((id,.cells n (flat (A.map f)) 0)::l)) (hx : x<A.length) (a : α) {cs : List AV} (hc : cs=(f a).cells) (hk : ∀ H',Owns H0 H' ((id,.cells n (flat ((A.set x a).map f)) 0)::l)→K nv H') : st1 (H.get id) id (x*n) n cs K H:=by
 subst hc;refine st_cells o ?_ (h.len a) (h.one a) fun H' o'=>hk H' ?_
 ·have:=flat_bound (f:=f) (n:=n) hx (show 0+n≤n by omega); omega
 ·rw [flat_wr hx] at o'; exact o'
theorem app_rawN {id m : Nat} {A : List α} {cs : List AV} (o : Owns H0 H ((id,.cells n (flat (A.map f)) 0)::l)) (hn : m=A.length) (h1 : cs.length=n) (h2 : ∀ c,c∈cs→c.one=true) (hm : (A.length+1)*n≤maxL)
  (hk : ∀ id' H',Owns H0 H' ((id',.cells n (flat (A.map f)++cs) 0)::l)→K (.buf id' (A.length+1)) H') : appW n (some (.buf id m)) (some (.sl [.agg cs])) K H:=by
 subst hn
 have h0:=o.h0;simp only at h0
 have h3:=h.two;simp only [appW,h0,srcOf,app2]
 have hle : A.length+1≤maxL:=Nat.le_trans (Nat.le_mul_of_pos_right _ (by omega)) hm;refine ⟨⟨trivial,flat_len A,hle,hm,fun e he=>?_⟩,fun id' hn=>?_⟩
 ·simp only [List.mem_singleton] at he; subst he; exact ⟨h1,h2⟩
 ·have hfl : flat [AV.agg cs]=cs:=by simp [flat,AV.cells]
  rw [hfl];exact hk id' _ (o.mv hn _)
end
structure Pt where
 frm : Int
 to : Int
 edges : List Int
 deriving Inhabited
@[go_sem] def ptE (p : Pt) : AV:=.agg [iI p.frm,iI p.to,iL p.edges]
instance : AggN 3 ptE:=⟨by omega,fun _=>rfl,fun _=>rfl,fun a c hc=>by
 simp only [ptE,AV.cells,List.mem_cons,List.not_mem_nil,or_false] at hc
 rcases hc with rfl | rfl | rfl <;> rfl⟩
@[go_sem] theorem idxE_pt (l : List Pt) (k : IntKind) (i : Int) {d : Option Nat} {F : Env→Heap→Prop} {σ : Env} {H : Heap} :
  pE d F σ H (idxE 3 (some (mL ptE l)) (some (.int k i)))=((0≤i∧i.toNat<l.length)∧putK d F σ (.ptr [iI (ix l i).frm,iI (ix l i).to,iL (ix l i).edges]) H):=idxE_mLN (f:=ptE) l k i
@[go_sem] theorem lenE_pt (l : List Pt) : lenE (some (mL ptE l))=some (True,.int .i64 l.length):=by simp [mL,lenE]
end Go.AW
namespace Go.Proofs.Shf
open Go.AW Go.Proofs Go.Shf
theorem l03Before_ok (B : Nat) (p q : Pt) : PureF Tryz.prog B 319 [ptE p,ptE q] (.bool (dec (p.frm<q.frm∨p.frm=q.frm∧(p.to<q.to∨p.to=q.to∧cmp p.edges q.edges<0)))):=by
 intro H0;refine c319 (by simp) fun hf=>?_;unfold s319;refine tt ?_;apply bk <;> intro h1
 ·refine tt ?_
  have h1p : p.frm≠q.frm:=by simpa using h1
  refine pure_ret ?_ (.refl _)
  congr 1; rw [decide_dec]
  exact dec_congr ⟨fun h=>.inl h,fun h=>h.elim id fun h=>absurd h.1 h1p⟩
 ·have h1p : p.frm=q.frm:=by simpa using h1
  refine tt ?_;apply bk <;> intro h2
  ·refine tt ?_
   have h2p : p.to≠q.to:=by simpa using h2
   refine pure_ret ?_ (.refl _)
   congr 1; rw [decide_dec]
   exact dec_congr ⟨fun h=>.inr ⟨h1p,.inl h⟩,fun h=>h.elim (fun h=>by omega) fun h=>h.2.elim id fun h=>absurd h.1 h2p⟩
  ·have h2p : p.to=q.to:=by simpa using h2
   refine tt ?_;refine (l01Less_ok ..).go fun _=>tt ?_;refine pure_ret ?_ (.refl _)
   congr 1
   exact dec_congr ⟨fun h=>.inr ⟨h1p,.inr ⟨h2p,h⟩⟩,fun h=>h.elim (fun h=>by omega) fun h=>h.2.elim (fun h=>by omega) fun h=>h.2⟩
end Go.Proofs.Shf
namespace Go.Shf
open Go.AW
structure Gr (n : Nat) (F T : List Int) : Prop where
 n3 : n≤3
 l3 : F.length≤3
 tl : T.length=F.length
 up : ∀ e,e<F.length→0≤F.getD e default∧F.getD e default<T.getD e default∧T.getD e default<n
def pW3 (v : Int) : Nat:=if v=0 then 13 else if v=1 then 4 else 1
def pU3 (v : Int) : Nat:=if v=0 then 4 else if v=1 then 1 else 0
theorem pW3_pos (v : Int) : 1≤pW3 v:=by unfold pW3; split <;> (try split) <;> omega
theorem pW3_U (v : Int) : 1+3*pU3 v≤pW3 v:=by unfold pW3 pU3; split <;> (try split) <;> omega
theorem pW3_lt {v t : Int} (h0 : 0≤v) (h1 : v<t) (h2 : t<3) : pW3 t≤pU3 v:=by
 unfold pW3 pU3
 by_cases e0 : v=0
 ·rw [if_pos e0]; split <;> (try split) <;> omega
 ·by_cases e1 : v=1
  ·rw [if_neg e0,if_pos e1,if_neg (by omega),if_neg (by omega)]; omega
  ·omega
def wsum (P : List Pt) : Nat:=(P.map fun p=>pW3 p.to).sum
theorem wsum_app (P Q : List Pt) : wsum (P++Q)=wsum P+wsum Q:=by simp [wsum]
theorem wsum_len : ∀ (P : List Pt),P.length≤wsum P
 | []=>by simp [wsum]
 | p::P=>by
  have:=wsum_len P
  have:=pW3_pos p.to;simp only [wsum,List.map_cons,List.sum_cons,List.length_cons] at *;omega
def _root_.Go.AW.Pt.Ok (n : Nat) (p : Pt) : Prop:=(0≤p.frm∧p.frm<n)∧0≤p.to∧p.to<n
def PtQ (n : Nat) (r : AV) : Prop:=∃ P : List Pt,r=mL ptE P∧P.length≤18∧∀ p,p∈P→p.Ok n∧p.edges.length≤18
def PsOk (n : Nat) (P : List Pt) : Prop:=∀ p,p∈P→p.Ok n∧p.edges.length≤P.length
theorem PsOk.snoc {n : Nat} {P : List Pt} (h : PsOk n P) {p : Pt} (hp : p.Ok n) (hl : p.edges.length≤P.length+1) : PsOk n (P++[p]):=fun q hq=>by
 rw [List.length_append,List.length_singleton]
 rcases List.mem_append.mp hq with h1 | h1
 ·exact ⟨(h q h1).1,by have:=(h q h1).2; omega⟩
 ·rw [List.mem_singleton] at h1; subst h1; exact ⟨hp,hl⟩
theorem PsOk.set {n : Nat} {P : List Pt} (h : PsOk n P) {x y : Nat} (hy : y<P.length) : PsOk n (P.set x (P.getD y default)):=fun q hq=>by
 rw [List.length_set]
 rcases List.mem_or_eq_of_mem_set hq with h1 | h1
 ·exact h q h1
 ·subst h1; exact h _ (mem_getD.mpr ⟨y,hy,rfl⟩)
theorem PsOk.set' {n : Nat} {P Q : List Pt} (h : PsOk n P) (hq : PsOk n Q) (hl : P.length=Q.length) {x y : Nat} (hy : y<P.length) : PsOk n (Q.set x (P.getD y default)):=fun q hm=>by
 rw [List.length_set]
 rcases List.mem_or_eq_of_mem_set hm with h1 | h1
 ·exact hq q h1
 ·subst h1; rw [← hl]; exact h _ (mem_getD.mpr ⟨y,hy,rfl⟩)
theorem flat_snoc (P : List Pt) (a b : Int) (E : List Int) : flat (P.map ptE)++[iI a,iI b,iL E]=flat ((P++[(⟨a,b,E⟩ : Pt)]).map ptE):=by
 rw [List.map_append,flat_app]; rfl
end Go.Shf
namespace Go.Proofs.Shf
open Go.AW Go.Proofs Go.Shf
theorem l03All_ok (B n : Nat) (F T : List Int) (g : Gr n F T) : Rets B 302 [iI n,iL F,iL T] (PtQ n):=by
 intro H0;refine c302p (by simp) fun _=>?_
 obtain ⟨gn,gl,gt,gu⟩:=g;unfold s302p;refine tt ?_;refine newBuf_own (.nil _) fun idL H o=>tt ?_
 refine awp_for [0,1,2] (G:=Nat × List Pt) (fun k g=>[(7,some (.buf g.1 g.2.length)),(8,some (.int .i64 (k : Int)))])
  (fun k g H=>g.2.length=k∧PsOk n g.2∧wsum g.2≤(if k=0 then 0 else if k=1 then 13 else if k=2 then 17 else 18)∧Owns H0 H [(g.1,MObj.cells 3 (flat (g.2.map ptE)) 0)]) n (idL,[]) ⟨rfl,fun p hp=>by simp at hp,by simp [wsum],o⟩ rfl ?_
 clear o
 rintro k ⟨idL,P⟩ H hk ⟨hP,hok,hw,o⟩;dsimp only at hP hok hw o;refine tt ?_;refine ⟨fun h1=>At.mk ?_,fun h1=>At.mk ?_⟩
 ·have h1p:=of_decide h1
  have w:=wsucc (k:=k) (by omega);refine tt ?_;refine app_ownN (f:=ptE) (n:=3) ⟨(k : Int),(k : Int),[]⟩ o rfl rfl (by simp only [maxL]; omega) fun idL H o=>?_;refine tw w ?_;refine for_next (idL,P++[⟨(k : Int),(k : Int),[]⟩]) h1p ⟨by simp [hP], ?_, ?_,o⟩ rfl
  ·exact hok.snoc ⟨⟨by show (0 : Int)≤(k : Int); omega,by show (k : Int)<n; omega⟩,by show (0 : Int)≤(k : Int); omega,by show (k : Int)<n; omega⟩ (Nat.zero_le _)
  ·show wsum (P++[⟨(k : Int),(k : Int),[]⟩])≤_
   rw [wsum_app]
   have e : wsum [(⟨(k : Int),(k : Int),[]⟩ : Pt)]=pW3 k:=by simp [wsum]
   rw [e]
   have : k=0∨k=1∨k=2:=by omega
   rcases this with rfl | rfl | rfl
   ·simp [pW3] at hw ⊢; omega
   ·simp [pW3] at hw ⊢; omega
   ·simp [pW3] at hw ⊢; omega
 ·have h1p:=of_ndecide h1
  obtain rfl : k=n:=by omega
  have hw18 : wsum P≤18:=by
   refine Nat.le_trans hw ?_
   split <;> (try split) <;> (try split) <;> omega
  clear hw h1 h1p hk;refine tt ?_
  refine awp_for [1,2] (G:=Nat × List Pt) (fun k g=>[(7,some (.buf g.1 g.2.length)),(9,some (.int .i64 (k : Int)))])
   (fun j g H=>PsOk k g.2∧j≤g.2.length∧wsum (g.2.drop j)+j≤18∧Owns H0 H [(g.1,MObj.cells 3 (flat (g.2.map ptE)) 0)]) 18 (idL,P) ⟨hok,by simp,by simpa using hw18,o⟩ rfl ?_
  clear o hok hw18 hP
  rintro j ⟨idL,P⟩ H hj ⟨hok,hjl,hw,o⟩;dsimp only at hok hjl hw o
  have hlen : P.length≤18:=by
   have:=wsum_len (P.drop j);rw [List.length_drop] at this; omega
  refine tt ?_;refine ⟨fun h1=>At.mk ?_,fun h1=>At.mk ?_⟩
  case' refine_1 =>
   have h1p:=of_decide h1
   have h2p : decide ((P.length : Int)≤40)=true:=decide_eq_true (by omega);try simp only [go_sem,↓reduceIte,reduceEqDiff,reduceAdd,reduceMul,reduceLeDiff,reduceLT,h1,h2p]
   obtain ⟨pk,hpk⟩ : ∃ pk,P.getD j default=pk:=⟨_,rfl⟩
   have hw1 : wsum (P.drop (j+1))+(j+1)+F.length*pU3 pk.to≤18:=by
    have e1 : P.drop j=[pk]++P.drop (j+1):=by
     rw [List.drop_eq_getElem_cons (by omega),← hpk]
     simp [List.getD_eq_getElem?_getD,show j<P.length by omega]
    rw [e1,wsum_app] at hw
    have e2 : wsum [pk]=pW3 pk.to:=by simp [wsum]
    have e3:=pW3_U pk.to
    have e4 : F.length*pU3 pk.to≤3*pU3 pk.to:=Nat.mul_le_mul_right _ gl;omega
   have hjl1 : j<P.length:=by omega
   refine awp_for [1,2,9] (G:=Nat × List Pt) (fun k g=>[(7,some (.buf g.1 g.2.length)),(10,some (.int .i64 (k : Int)))])
    (fun e g H=>PsOk k g.2∧j<g.2.length∧g.2.getD j default=pk∧wsum (g.2.drop (j+1))+(j+1)+(F.length - e)*pU3 pk.to≤18∧Owns H0 H [(g.1,MObj.cells 3 (flat (g.2.map ptE)) 0)]) F.length (idL,P) ⟨hok,hjl1,hpk,hw1,o⟩ rfl ?_
   clear o hok hjl hw hlen hpk hw1 hjl1 h1 h2p h1p
   rintro e ⟨idL,P⟩ H he ⟨hok,hjl,hpk,hw,o⟩;dsimp only at hok hjl hpk hw o
   have hlen : P.length≤18:=by
    have:=wsum_len (P.drop (j+1));rw [List.length_drop] at this; omega
   refine tt ?_;refine ⟨fun h2=>At.mk ?_,fun h2=>At.mk ?_⟩
   ·have h2p:=of_decide h2
    have gue:=gu e h2p
    have we:=wsucc (k:=e) (by omega)
    have hsub : (F.length - e)*pU3 pk.to=(F.length - (e+1))*pU3 pk.to+pU3 pk.to:=by
     rw [show F.length - e=(F.length - (e+1))+1 by omega,Nat.succ_mul]
    refine tt ?_;refine ⟨by omega,by omega,rd_elN (f:=ptE) (n:=3) o hjl (by omega) ?_⟩;rw [hpk];refine tt ?_;refine ⟨fun h3=>At.mk ?_,fun h3=>At.mk ?_⟩
    ·have h3p:=of_decide h3;refine tt ?_
     have hpo:=hok pk (by rw [← hpk]; exact mem_getD.mpr ⟨j,hjl,rfl⟩)
     have hpo2:=hpo.2;refine ⟨hjl,⟨_,_,o.h0⟩,rd_elN (f:=ptE) (n:=3) o hjl (by omega) ?_⟩;rw [hpk];refine tt ?_;refine ⟨by omega,hjl,⟨_,_,o.h0⟩,rd_elN (f:=ptE) (n:=3) o hjl (by omega) ?_⟩;rw [hpk];refine tt ?_;refine New.go' (l01Own_new B pk.edges) o fun X1 p1 H ⟨ide,e1,e2⟩ o hs=>⟨hs, ?_⟩;subst e1 e2;refine tt ?_;refine app_own' _ o rfl rfl (by simp only [maxL]; omega) fun ide H E _ hE o=>tt ?_;refine app_rawN (f:=ptE) (n:=3) o.swap rfl rfl (by first | (simp only [go_sem]; done) | ((try simp only [go_sem]); simp [AV.one,one_mL])) (by simp only [maxL]; omega) fun idL H o=>tt ?_;refine wk_cell (f:=iI) ((flat (P.map ptE)).length+2) o (by rw [List.getElem?_append_right (by omega)]; simp) rfl fun H o=>wkW_done ?_;rw [List.set_append_right _ _ (by omega),show (flat (P.map ptE)).length+2 - (flat (P.map ptE)).length=2 by omega] at o;simp only [List.set_cons_zero,List.set_cons_succ] at o
     have o : Owns H0 H [(idL,MObj.cells 3 (flat ((P++[(⟨pk.frm,T.getD e default,E⟩ : Pt)]).map ptE)) 0)]:=by rw [← flat_snoc]; exact o
     refine tw we ?_
     have hlt:=pW3_lt gue.1 gue.2.1 (by omega);rw [h3p] at hlt;refine for_next (idL,P++[(⟨pk.frm,T.getD e default,E⟩ : Pt)]) h2p ⟨?_,by simp; omega, ?_, ?_,o⟩ (by simp)
     ·exact hok.snoc ⟨hpo.1.1,by show 0≤T.getD e default; omega,by show T.getD e default<k; omega⟩ (by show E.length≤_; omega)
     ·show (P++[_]).getD j default=pk
      rw [List.getD_eq_getElem?_getD,List.getElem?_append_left hjl,← List.getD_eq_getElem?_getD]; exact hpk
     ·show wsum ((P++[_]).drop (j+1))+(j+1)+(F.length - (e+1))*pU3 pk.to≤18
      rw [List.drop_append_of_le_length (by omega),wsum_app]
      have e2 : wsum [(⟨pk.frm,T.getD e default,E⟩ : Pt)]=pW3 (T.getD e default):=by simp [wsum]
      rw [e2]; omega
    ·refine tt ?_;refine wkW_done ?_;refine tw we ?_;exact for_next (idL,P) h2p ⟨hok,hjl,hpk,by show wsum (P.drop (j+1))+(j+1)+_≤18; omega,o⟩ rfl
   ·have wj:=wsucc (k:=j) (by omega);refine tw wj ?_;exact for_next (idL,P) (by omega) ⟨hok,hjl,by show wsum (P.drop (j+1))+(j+1)≤18; omega,o⟩ rfl
  case' refine_2 =>
   refine tw h1 ?_;clear hw hj hjl h1
   generalize hL : P.length=L at *;refine awp_for [7] (G:=List Pt) (fun x _=>[(11,some (.int .i64 ((1+x : Nat) : Int)))]) (fun x P H=>P.length=L∧PsOk k P∧Owns H0 H [(idL,MObj.cells 3 (flat (P.map ptE)) 0)]) L P ⟨hL,hok,o⟩ rfl ?_;clear o hok hL
   rintro x P H hx ⟨hL,hok,o⟩
   replace hL : P.length=L:=hL
   replace hok : PsOk k P:=hok
   replace o : Owns H0 H [(idL,MObj.cells 3 (flat (P.map ptE)) 0)]:=o;refine tt ?_;refine ⟨fun h1=>At.mk ?_,fun h1=>At.mk ?_⟩
   ·have h1p:=of_decide h1
    have wx:=wsucc (k:=1+x) (by omega);refine tt ?_;refine awp_while [7,11] (G:=Nat × List Pt) (fun g=>[(12,some (.int .i64 (g.1 : Int)))]) (fun m g H=>m=g.1∧g.1<L∧g.2.length=L∧PsOk k g.2∧Owns H0 H [(idL,MObj.cells 3 (flat (g.2.map ptE)) 0)]) (1+x) (1+x,P) ⟨rfl,by simp only; omega,hL,hok,o⟩ rfl ?_;clear o hok hL
    rintro m ⟨y,P⟩ H ⟨hm,hy,hL,hok,o⟩;dsimp only at hm;subst hm;dsimp only at hy hL hok o;refine tt ?_;refine ⟨fun h2=>At.mk ?_,fun h2=>At.mk ?_⟩
    case' refine_1 =>
     have h2p:=of_decide h2
     have wp : IntKind.i64.wrap ((m : Int) - 1)=((m - 1 : Nat) : Int):=wpred (by omega) (by omega);refine tw h2 ?_;refine ⟨by omega,rd_elA (f:=ptE) (n:=3) o (by omega) ?_⟩;refine tw wp ?_;refine ⟨by omega,rd_elA (f:=ptE) (n:=3) o (by omega) ?_⟩;refine tt ?_;refine ⟨_,l03Before_ok B _ _,tt ?_⟩;refine ⟨fun h3=>At.mk ?_,fun h3=>At.mk ?_⟩
     case' refine_1 =>
      refine tt ?_;refine ⟨by omega,rd_elA (f:=ptE) (n:=3) o (by omega) ?_⟩;refine tt ?_;refine newRef_own o fun id13 H o=>tt ?_;refine sw o fun H o=>?_;refine tw wp ?_;refine ⟨by omega,rd_elA (f:=ptE) (n:=3) o.tl (by omega) ?_⟩;refine tt ?_;refine ⟨by omega, ?_⟩;refine st_elN (f:=ptE) (n:=3) o.swap (by omega) (P.getD (m - 1) default) rfl fun H o=>?_;refine tw wp ?_
      have hr2:=o.tl.rc 3 0 (by simp);refine rd_celln o.tl (by simp) ?_;refine tt ?_;refine ⟨by omega, ?_⟩;refine st_elN (f:=ptE) (n:=3) o (by simp; omega) (P.getD m default) rfl fun H o=>?_;refine tw wp ?_
      have hp1 : PsOk k (P.set m (P.getD (m - 1) default)):=hok.set (by omega);exact while_next (m - 1) (m - 1,(P.set m (P.getD (m - 1) default)).set (m - 1) (P.getD m default)) (by omega) ⟨rfl,by show m - 1<L; omega,by simp [hL],hok.set' hp1 (by simp) (by omega),o.swap.tl⟩ rfl
    all_goals
     try (try simp only [go_sem,↓reduceIte,reduceEqDiff,reduceAdd,reduceMul,reduceLeDiff,reduceLT,h2])
     refine tw wx ?_;exact for_next P (by omega) ⟨hL,hok,o⟩ rfl
   ·refine tt ?_;refine fz_ownN (f:=ptE) (n:=3) o hL.symm fun H o=>tt ?_;exact rets_ret ⟨P,rfl,by omega,fun p hp=>⟨(hok p hp).1,by have:=(hok p hp).2; omega⟩⟩ o.sub
theorem l03Paths_ok (B n : Nat) (F T : List Int) (g : Gr n F T) : Rets B 270 [iI n,iL F,iL T] (CatQ 18):=by
 intro H0;refine c270p (by simp) fun _=>?_
 have gn:=g.n3;unfold s270p;refine tt ?_;refine newRef_own (.nil _) fun id6 H o=>tt ?_;refine (l03All_ok B n F T g).go fun r _ ⟨P,e,hP18,hPok⟩=>?_;subst e;refine tt ?_;refine newBuf_own o fun a H o=>tt ?_;refine newBuf_own o fun b H o=>tt ?_;refine ⟨by simp only [maxL]; omega, ?_⟩;refine mks_list iI 0 rfl o fun i H o=>tt ?_;refine newBuf_own o fun d H o=>tt ?_;refine newRef_own o fun id8 H o=>tt ?_;refine sw o fun H o=>tt ?_
 refine awp_for [6,7,8] (G:=(Nat × List Int) × (Nat × List Int) × List Int) (fun k _=>[(9,some (.int .i64 (k : Int)))])
  (fun k g H=>g.1.2.length=k∧g.2.1.2.length=k∧g.2.2.length=n∧Owns H0 H (prodO id8 id6 n g.1.1 g.1.2 g.2.1.1 g.2.1.2 i g.2.2 d [])) P.length ((a,[]),(b,[]),List.replicate n 0) ⟨rfl,rfl,by simp,by unfold prodO; simp only [List.length_replicate]; exact o.pm⟩ rfl ?_
 clear o
 rintro k ⟨⟨a,A⟩,⟨b,C⟩,I⟩ H hk ⟨hA,hC,hI,o⟩;dsimp only at hA hC hI o;refine tt ?_;refine ⟨fun h1=>At.mk ?_,fun h1=>At.mk ?_⟩
 ·have h1p:=of_decide h1
  have w:=wsucc (k:=k) (by omega)
  have hpk:=hPok (P.getD k default) (mem_getD.mpr ⟨k,h1p,rfl⟩)
  have hpf:=hpk.1.1;unfold prodO at o;refine tt ?_;refine rd_cells o (by simp) ?_;refine tt ?_;refine ⟨h1p,app_own' _ o.swap rfl rfl (by simp only [maxL]; omega) fun a H A2 _ hA2 o=>?_⟩;refine tt ?_;refine sw o.swap fun H o=>tt ?_;refine rd_cells o (by simp) ?_;refine tt ?_;refine ⟨h1p,app_own' _ (o.pull [_,_]) rfl rfl (by simp only [maxL]; omega) fun b H C2 _ hC2 o=>?_⟩;refine tt ?_;refine sw o.swap fun H o=>tt ?_;refine ⟨h1p, ?_⟩
  have o : Owns H0 H (prodO id8 id6 n a A2 b C2 i I d []):=by
   try unfold prodO
   exact o.pm
  refine ⟨fun h2=>At.mk ?_,fun h2=>At.mk ?_⟩
  ·unfold prodO at o;refine tt ?_;refine rd_cells o (by simp) ?_;refine tt ?_;refine ⟨h1p,by omega, ?_⟩;refine set_own (k : Int) (o.pull [_,_,_]) rfl (by omega) fun H o=>?_;refine tw w ?_;refine for_next ((a,A2),(b,C2),I.set (P.getD k default).frm.toNat k) h1p ⟨by show A2.length=_; omega,by show C2.length=_; omega,by simp [hI], ?_⟩ rfl
   try unfold prodO
   simp only [List.length_set];exact o.pm
  ·refine tw w ?_;exact for_next ((a,A2),(b,C2),I) h1p ⟨by show A2.length=_; omega,by show C2.length=_; omega,hI,o⟩ rfl
 ·have h1p:=of_ndecide h1
  obtain rfl : k=P.length:=by omega
  clear h1 h1p hk;unfold prodO at o;refine tt ?_;refine wk_cell 1 o rfl rfl fun H o=>?_;simp only [List.set_cons_zero,List.set_cons_succ] at o;refine wk_cell 2 o rfl rfl fun H o=>?_;simp only [List.set_cons_zero,List.set_cons_succ] at o;refine wk_cell 3 o rfl rfl fun H o=>wkW_done ?_;simp only [List.set_cons_zero,List.set_cons_succ] at o
  have o : Owns H0 H [(id8,MObj.cells 5 [iI n,iL A,iL C,iL I,.buf d 0] 0),(d,MObj.cells 1 [] 0),(id6,MObj.cells 5 [iI 0,.nilsl,.nilsl,.nilsl,.nilsl] 0)]:=o;refine tt ?_;refine rd_celln o (by simp) ?_;refine tt ?_;refine CallH.lentPure (es:=[.agg (Cat.cells ⟨n,A,C,I,[]⟩)]) (.bool _) rfl (fun j hj=>?_) (l02Fits_ok B ⟨n,A,C,I,[]⟩).run ?_
  ·have : j=0:=by simp at hj; omega
   subst this;refine Tr.arg (.agg _ _ rfl fun q hq=>?_)
   match q,hq with
   | 0,_=>exact .val _
   | 1,_=>exact .val _
   | 2,_=>exact .val _
   | 3,_=>exact .val _
   | 4,_=>exact .buf d 0 [] [] o.tl.h0 rfl (by simp) (by simp)
  rw [dec_t (show (n : Int)≤8∧A.length≤40 from ⟨by omega,by omega⟩)];refine tt ?_
  refine awp_for [6,7,8] (G:=Nat × List (List Int)) (fun k _=>[(10,some (.int .i64 (k : Int)))])
   (fun k g H=>g.2.length=k∧(∀ r,r∈g.2→r.length=P.length)∧Owns H0 H [(id8,MObj.cells 5 [iI n,iL A,iL C,iL I,.buf g.1 g.2.length] 0),(g.1,MObj.cells 1 (g.2.map iL) 0),(id6,MObj.cells 5 [iI 0,.nilsl,.nilsl,.nilsl,.nilsl] 0)]) P.length (d,[]) ⟨rfl,by simp,o⟩ rfl ?_
  clear o
  rintro x ⟨d,D⟩ H hx ⟨hD,hDr,o⟩;dsimp only at hD hDr o;refine tt ?_;refine ⟨fun h1=>At.mk ?_,fun h1=>At.mk ?_⟩
  ·have h1p:=of_decide h1
   have hpx:=hPok (P.getD x default) (mem_getD.mpr ⟨x,h1p,rfl⟩);refine tt ?_;refine newBuf_own o fun idr H o=>tt ?_
   refine awp_for [6,7,8,10] (G:=Nat × List Int) (fun y g=>[(11,some (.buf g.1 g.2.length)),(12,some (.int .i64 (y : Int)))])
    (fun y g H=>g.2.length=y∧Owns H0 H [(g.1,MObj.cells 1 (g.2.map iI) 0),(id8,MObj.cells 5 [iI n,iL A,iL C,iL I,.buf d D.length] 0),(d,MObj.cells 1 (D.map iL) 0),(id6,MObj.cells 5 [iI 0,.nilsl,.nilsl,.nilsl,.nilsl] 0)]) P.length (idr,[]) ⟨rfl,o⟩ rfl ?_
   clear o
   rintro y ⟨idr,row⟩ H hy ⟨hr,o⟩;dsimp only at hr o;refine tt ?_;refine ⟨fun h2=>At.mk ?_,fun h2=>At.mk ?_⟩
   ·have h2p:=of_decide h2
    have w:=wsucc (k:=y) (by omega)
    have hpy:=hPok (P.getD y default) (mem_getD.mpr ⟨y,h2p,rfl⟩);refine tt ?_;refine ⟨h1p,h2p, ?_⟩;refine ⟨fun h3=>At.mk ?_,fun h3=>At.mk ?_⟩
    ·refine tt ?_;refine ⟨h1p,h2p, ?_⟩;refine New.go' (l01Own_new B (P.getD x default).edges) o fun X1 p1 H ⟨ide,e1,e2⟩ o hs=>⟨hs, ?_⟩;subst e1 e2;refine tt ?_;refine app_list (f:=iI) (r:=(P.getD y default).edges) o rfl (by simp only [maxL]; omega) fun ide H o=>tt ?_;refine fz_own o rfl fun H o=>tt ?_
     generalize (P.getD x default).edges++(P.getD y default).edges=both
     refine awp_for [6,7,8,10,11,12,14] (G:=Int) (fun z h=>[(13,some (.int .i64 h)),(15,some (.int .i64 (z : Int)))])
      (fun z h H=>Owns H0 H [(idr,MObj.cells 1 (row.map iI) 0),(id8,MObj.cells 5 [iI n,iL A,iL C,iL I,.buf d D.length] 0),(d,MObj.cells 1 (D.map iL) 0),(id6,MObj.cells 5 [iI 0,.nilsl,.nilsl,.nilsl,.nilsl] 0)]) P.length (-1) o rfl ?_
     clear o
     rintro z h H hz o;refine tt ?_;refine ⟨fun h4=>At.mk ?_,fun h4=>At.mk ?_⟩
     ·have h4p:=of_decide h4
      have wz:=wsucc (k:=z) (by omega);refine tt ?_;refine ⟨h4p,h1p, ?_⟩;refine ⟨fun h5=>At.mk ?_,fun h5=>At.mk ?_⟩
      case' refine_1 =>
       refine tw h5 ?_;refine ⟨h4p,_,(l01Same_ok ..).run,tt ?_⟩;refine ⟨fun h6=>At.mk ?_,fun h6=>At.mk ?_⟩
       case' refine_1 =>
        refine tt ?_
      all_goals
       try (try simp only [go_sem,↓reduceIte,reduceEqDiff,reduceAdd,reduceMul,reduceLeDiff,reduceLT,h5])
       try (try simp only [go_sem,↓reduceIte,reduceEqDiff,reduceAdd,reduceMul,reduceLeDiff,reduceLT,wz])
       exact for_next _ h4p o rfl
     ·refine tt ?_;refine app_own' _ o rfl rfl (by simp only [maxL]; omega) fun idr H row2 _ hrow2 o=>?_;refine tw w ?_;exact for_next (idr,row2) h2p ⟨by show row2.length=_; omega,o⟩ rfl
    ·refine tt ?_;refine app_own' _ o rfl rfl (by simp only [maxL]; omega) fun idr H row2 _ hrow2 o=>?_;refine tw w ?_;exact for_next (idr,row2) h2p ⟨by show row2.length=_; omega,o⟩ rfl
   ·have h2p:=of_ndecide h2
    have w:=wsucc (k:=x) (by omega);refine tt ?_;refine fz_own o rfl fun H o=>tt ?_;refine rd_cells o (by simp) ?_;refine tt ?_;refine app_own' row o.swap rfl rfl (by simp only [maxL]; omega) fun d H D2 eD hD2 o=>tt ?_;refine sw o.swap fun H o=>?_;refine tw w ?_;refine for_next (d,D2) h1p ⟨by show D2.length=_; omega,fun r hr2=>?_,o⟩ rfl;dsimp only at hr2;rw [eD] at hr2
    rcases List.mem_append.mp hr2 with h | h
    ·exact hDr r h
    ·rw [List.mem_singleton] at h; subst h; omega
  ·have h1p:=of_ndecide h1;refine tt ?_;refine wk_cell 4 o rfl rfl fun H o=>wkW_done ?_;simp only [List.set_cons_zero,List.set_cons_succ] at o;refine tt ?_;refine rd_celln o (by simp) ?_;refine tt ?_;refine sw o.swap fun H o=>tt ?_
   have hr2:=o.rc 5 0 (by simp);simp only [List.drop_zero] at hr2;rw [hr2];refine tt ?_
   have hDA : D.length=A.length:=by omega
   refine rets_ret ⟨⟨n,A,C,I,D⟩,rfl,⟨by show (0 : Int)≤(n : Int); omega,by show (n : Int)≤((18 : Nat) : Int); omega⟩,by show (I.length : Int)=n; omega,by show A.length≤18; omega,by show C.length=A.length; omega,hDA,fun q hq=>?_⟩ o.sub;rw [hDr _ (mem_getD.mpr ⟨q,by rw [hDA]; exact hq,rfl⟩)]; exact hA.symm
end Go.Proofs.Shf
