/- Contracts, part 3. -/
import Derived.Test.YtnpimpkmgmnhhaaGreatF2
set_option linter.unusedVariables false
set_option linter.unusedSimpArgs false
set_option linter.unusedSectionVars false
set_option maxRecDepth 100000
open Nat (reduceEqDiff reduceAdd reduceMul reduceLeDiff reduceLT)
namespace Go.Proofs.Shf
open Go.AW Go.Proofs Go.Shf
@[go_sem] noncomputable def stepCells (f : SF) (V : List (List Int)) : List AV:=[iI f.shape.objs,iL f.shape.frm,iL f.shape.to,iL f.shape.idn,iLL f.shape.comp,iL (stepSizes f V),iLL (stepActs f V),iLLL (famsOf f V)]
end Go.Proofs.Shf
namespace Go.AW
open Go.Proofs Go.Proofs.Shf
theorem Owns.ext {H0 H H' : Heap} {l : List (Nat × MObj)} (h : Owns H0 H l) (k : H.sub H') : Owns H0 H' l :=
 ⟨h.sub.trans k,fun x hx=>k _ _ (h.get x hx),h.nd,h.out⟩
theorem Owns.subl {H0 H : Heap} {l l' : List (Nat × MObj)} (h : Owns H0 H l) (k : l'.Sublist l) : Owns H0 H l' :=
 ⟨h.sub,fun x hx=>h.get x (k.subset hx),h.nd.sublist (k.map _),fun x hx=>h.out x (k.subset hx)⟩
end Go.AW
namespace Go.Proofs.Shf
open Go.AW Go.Proofs Go.Shf
end Go.Proofs.Shf
namespace Go.AW
def iB (b : UInt8) : AV:=.int .u8 (b.toNat : Int)
instance : One iB:=⟨fun _=>rfl,fun _=>rfl⟩
structure Src where
 code : List UInt8
 pl : Int
 hash : Int
def Src.cells (s : Src) : List AV:=[mL iB s.code,.int .i64 s.pl,.int .u64 s.hash]
def Src.Ok (s : Src) : Prop:=0≤s.pl∧s.code.length≤maxL
def Src.obj (s : Src) : MObj:=.cells 3 s.cells 0
def SrcK (id : Nat) (H0 : Heap) (Q : AV→Prop) : Kont:=fun r H'=>Q r∧∃ s' : Src,s'.Ok∧Owns H0 H' [(id,s'.obj)]
theorem Owns.self {H0 H : Heap} {id : Nat} {o : MObj} {l : List (Nat × MObj)} (h : Owns H0 H ((id,o)::l)) : Owns (H.del id) H [(id,o)] where
 sub:=fun i x hx=>by
  by_cases e : i=id
  ·subst e; rw [Heap.get_del_same] at hx; cases hx
  ·rwa [Heap.get_del_ne _ e] at hx
 get:=fun x hx=>by
  rw [List.mem_singleton] at hx; subst hx;exact h.get _ (by simp)
 nd:=by simp
 out:=fun x hx=>by
  rw [List.mem_singleton] at hx; subst hx;exact Heap.get_del_same _ _
end Go.AW
namespace Go.Proofs.Shf
open Go.AW Go.Proofs Go.Shf
theorem masked_ran {a x : Int} (h : IntKind.i64.wrap (IntKind.u64.wrap ((BitVec.ofInt IntKind.u64.bits a &&& BitVec.ofInt IntKind.u64.bits 16777215).toNat : Int))=x) : 0≤x∧x≤16777215:=by
 have h1 : (BitVec.ofInt IntKind.u64.bits a &&& BitVec.ofInt IntKind.u64.bits 16777215).toNat≤16777215:=by
  rw [BitVec.toNat_and]
  have : (BitVec.ofInt IntKind.u64.bits 16777215).toNat=16777215:=rfl;rw [this];exact Nat.and_le_right
 generalize (BitVec.ofInt IntKind.u64.bits a &&& BitVec.ofInt IntKind.u64.bits 16777215).toNat=m at h h1
 have e : IntKind.u64.wrap (m : Int)=m:=by
  have : IntKind.u64.wrap (m : Int)=(m : Int) % 18446744073709551616:=by simp only [IntKind.wrap]; rfl
  omega
 rw [e,wrap_i64 (by omega) (by omega)] at h;omega
def Rd (B : Nat) (fn : FuncId) (args : List AV) (Q : AV→Prop) : Prop :=
 ∀ (id : Nat) (s : Src) (H0 H : Heap),s.Ok→Owns H0 H [(id,s.obj)]→CallH Tryz.prog B fn (.ref id 0::args) H (SrcK id H0 Q)
theorem Rd.go {B : Nat} {fn : FuncId} {args : List AV} {Q : AV→Prop} {id : Nat} {s : Src} {H0 H : Heap} {l : List (Nat × MObj)} {K : Kont} (h : Rd B fn args Q) (hs : s.Ok) (o : Owns H0 H ((id,s.obj)::l))
  (hk : ∀ (r : AV) (s' : Src) (H' : Heap),r.fine→Q r→s'.Ok→Owns H0 H' ((id,s'.obj)::l)→K r H') : CallH Tryz.prog B fn (.ref id 0::args) H K :=
 (h id s _ H hs o.self).mono' fun r H' hf ⟨q,s',hs',o'⟩=>hk r s' H' hf q hs' (o.del.trans o')
theorem src_ret {id : Nat} {s : Src} {H0 H : Heap} {l : List (Nat × MObj)} {Q : AV→Prop} {v : AV} (q : Q v) (hs : s.Ok) (o : Owns H0 H ((id,s.obj)::l)) : subW (SrcK id H0 Q) v H :=
 ⟨H,.refl H,q,s,hs,o.subl (by simp)⟩
def Rets (B : Nat) (fn : FuncId) (args : List AV) (Q : AV→Prop) : Prop:=∀ H,CallH Tryz.prog B fn args H fun r H'=>Q r∧H'=H
theorem Rets.go {B : Nat} {fn : FuncId} {args : List AV} {Q : AV→Prop} {H : Heap} {K : Kont} (h : Rets B fn args Q) (hk : ∀ r,r.fine→Q r→K r H) : CallH Tryz.prog B fn args H K :=
 (h H).mono' fun r H' hf ⟨q,e⟩=>by subst e; exact hk r hf q
theorem rets_ret {H0 H : Heap} {Q : AV→Prop} {v : AV} (q : Q v) (h : H0.sub H) : subW (fun r H'=>Q r∧H'=H0) v H:=⟨H0,h,q,rfl⟩
theorem l01Next_ok (B : Nat) (n : Int) : Rd B 64 [iI n] fun r=>∃ k : Int,r=iI k∧0≤k∧(1≤n→k<n)∧(n<1→k=0):=by
 intro id s H0 H hs o;refine c64 (by simp) fun hf=>?_;unfold s64;refine tt ?_;apply bk <;> intro h1
 ·have h1p:=of_decide h1;refine tt ?_;exact src_ret ⟨0,rfl,by omega,by omega,fun _=>rfl⟩ hs o
 ·have h1p:=of_ndecide h1;refine tt ?_
  obtain ⟨code,pl,hash⟩:=s;simp only [Src.obj,Src.cells] at o;simp only [Src.Ok,maxL] at hs;refine rd_cells o (by simp) ?_;refine tt ?_;refine sw o fun H o=>tt ?_;refine rd_cells o (by simp) ?_;refine tt ?_
  generalize hx : IntKind.i64.wrap (IntKind.u64.wrap _)=x
  have hx2:=masked_ran hx;clear hx;refine ⟨by omega,rd_cells o (by simp) ?_⟩;refine tt ?_;refine rd_cells o (by simp) ?_;refine tt ?_;apply bk <;> intro h2
  ·have h2p:=of_decide h2;refine tt ?_;refine rd_cells o (by simp) ?_;refine tt ?_;refine rd_cells o (by simp) ?_;refine tt ?_;refine ⟨⟨hs.1,by omega⟩, ?_⟩
   have hb:=(ix code pl).toNat_lt;try simp only [go_sem,↓reduceIte,reduceEqDiff,reduceAdd,reduceMul,reduceLeDiff,reduceLT,iB]
   generalize (ix code pl).toNat=b at hb ⊢
   have e1 : IntKind.i64.wrap (b : Int)=b:=wrap_i64 (by omega) (by omega)
   have e2 : IntKind.i64.wrap (x+b)=x+b:=wrap_i64 (by omega) (by omega)
   have e3 : IntKind.i64.wrap (pl+1)=pl+1:=wrap_i64 (by omega) (by omega);try simp only [go_sem,↓reduceIte,reduceEqDiff,reduceAdd,reduceMul,reduceLeDiff,reduceLT,e1,e2]
   refine rd_cells o (by simp) ?_;refine tw e3 ?_;refine sw o fun H o=>tt ?_;refine ⟨by omega,src_ret (s:=⟨code,pl+1,_⟩) ⟨(x+b).tmod n,rfl, ?_, ?_, ?_⟩ ⟨by show 0≤pl+1; omega,hs.2⟩ o⟩
   ·exact Int.tmod_nonneg _ (by omega)
   ·intro h; exact Int.tmod_lt_of_pos _ (by omega)
   ·intro h; omega
  ·refine tt ?_;refine ⟨by omega,src_ret (s:=⟨code,pl,_⟩) ⟨x.tmod n,rfl, ?_, ?_, ?_⟩ hs o⟩
   ·exact Int.tmod_nonneg _ (by omega)
   ·intro h; exact Int.tmod_lt_of_pos _ (by omega)
   ·intro h; omega
theorem below_ok (B : Nat) (n : Int) : Rd B 24 [iI n] fun r=>∃ k : Int,r=iI k∧0≤k∧(1≤n→k<n)∧(n<1→k=0):=by
 intro id s H0 H hs o;refine c24 (by simp) fun hf=>?_;unfold s24;refine tt ?_;apply bk <;> intro h1
 ·have h1p:=of_decide h1;refine tt ?_;exact src_ret ⟨0,rfl,by omega,by omega,fun _=>rfl⟩ hs o
 ·have h1p:=of_ndecide h1;refine tt ?_
  obtain ⟨code,pl,hash⟩:=s;simp only [Src.obj,Src.cells] at o;simp only [Src.Ok,maxL] at hs;refine rd_cells o (by simp) ?_;refine tt ?_;refine sw o fun H o=>tt ?_;refine rd_cells o (by simp) ?_;refine tt ?_
  generalize hx : IntKind.i64.wrap (IntKind.u64.wrap _)=x
  have hx2:=masked_ran hx;clear hx;refine ⟨by omega,rd_cells o (by simp) ?_⟩;refine tt ?_;refine rd_cells o (by simp) ?_;refine tt ?_;apply bk <;> intro h2
  ·have h2p:=of_decide h2;refine tt ?_;refine rd_cells o (by simp) ?_;refine tt ?_;refine rd_cells o (by simp) ?_;refine tt ?_;refine ⟨⟨hs.1,by omega⟩, ?_⟩
   have hb:=(ix code pl).toNat_lt;try simp only [go_sem,↓reduceIte,reduceEqDiff,reduceAdd,reduceMul,reduceLeDiff,reduceLT,iB]
   generalize (ix code pl).toNat=b at hb ⊢
   have e1 : IntKind.i64.wrap (b : Int)=b:=wrap_i64 (by omega) (by omega)
   have e2 : IntKind.i64.wrap (x+b)=x+b:=wrap_i64 (by omega) (by omega)
   have e3 : IntKind.i64.wrap (pl+1)=pl+1:=wrap_i64 (by omega) (by omega);try simp only [go_sem,↓reduceIte,reduceEqDiff,reduceAdd,reduceMul,reduceLeDiff,reduceLT,e1,e2]
   refine rd_cells o (by simp) ?_;refine tw e3 ?_;refine sw o fun H o=>tt ?_;refine ⟨by omega,src_ret (s:=⟨code,pl+1,_⟩) ⟨(x+b).tmod n,rfl, ?_, ?_, ?_⟩ ⟨by show 0≤pl+1; omega,hs.2⟩ o⟩
   ·exact Int.tmod_nonneg _ (by omega)
   ·intro h; exact Int.tmod_lt_of_pos _ (by omega)
   ·intro h; omega
  ·refine tt ?_;refine ⟨by omega,src_ret (s:=⟨code,pl,_⟩) ⟨x.tmod n,rfl, ?_, ?_, ?_⟩ hs o⟩
   ·exact Int.tmod_nonneg _ (by omega)
   ·intro h; exact Int.tmod_lt_of_pos _ (by omega)
   ·intro h; omega
theorem l01Pick_ok (B : Nat) (l : List Int) (hl : l≠[]) : Rd B 196 [iL l] fun r=>∃ k : Int,r=iI k∧k∈l:=by
 intro id s H0 H hs o;refine c196 (by simp) fun hf=>?_
 have hp : 0<l.length:=List.length_pos_iff.mpr hl;unfold s196;refine tt ?_;refine (l01Next_ok B l.length).go hs o fun r s' H hr ⟨k,e,h0,h1,_⟩ hs o=>?_;subst e
 have h1:=h1 (by omega);refine tt ?_;refine ⟨⟨h0,by omega⟩,tt ?_⟩;exact src_ret ⟨_,rfl,ix_mem (by omega)⟩ hs o
def MadeK (H0 : Heap) : Kont:=fun r H'=>∃ (id : Nat) (s : Src),r=.ref id 0∧s.Ok∧Owns H0 H' [(id,s.obj)]
theorem l01From_ok (B : Nat) (code : List UInt8) (H0 : Heap) : CallH Tryz.prog B 48 [mL iB code] H0 (MadeK H0):=by
 refine c48p (by simp) fun ⟨hf,_⟩=>?_
 have hl:=fine_mL_le hf
 have hl':=hl;simp only [maxL] at hl';unfold s48p;refine tt ?_;refine nb (.nil _) fun id H o=>tt ?_;refine awp_for [0,3] (G:=Int) (fun k _=>[(4,some (.int .i64 (k : Int)))]) (fun k h H=>Owns H0 H [(id,.cells 3 [mL iB code,.int .i64 0,.int .u64 h] 0)]) code.length _ o rfl ?_;clear o
 rintro k h H hk o
 have o : Owns H0 H [(id,.cells 3 [mL iB code,.int .i64 0,.int .u64 h] 0)]:=o
 have hend : MadeK H0 (.ref id 0) H:=⟨id,⟨code,0,h⟩,rfl,⟨Int.le_refl 0,hl⟩,o⟩;refine tt ?_;apply bk <;> intro h1
 ·have h1p:=of_decide h1;refine tw h1 ?_;apply bk <;> intro h2
  ·refine tt ?_;refine rd_cells o (by simp) ?_
   have w:=wsucc (k:=k) (by omega);try simp only [go_sem,↓reduceIte,reduceEqDiff,reduceAdd,reduceMul,reduceLeDiff,reduceLT,iB]
   refine ⟨by omega, ?_⟩;try simp only [go_sem,↓reduceIte,reduceEqDiff,reduceAdd,reduceMul,reduceLeDiff,reduceLT,iB]
   refine sw o fun H o=>?_;refine tw w ?_;exact for_next _ (by omega) o rfl
  ·refine tt ?_;exact ⟨H,.refl H,hend⟩
 ·refine tw h1 ?_;exact ⟨H,.refl H,hend⟩
theorem roll_ok (B : Nat) (code : List UInt8) (z : Int) (H0 : Heap) : CallH Tryz.prog B 23 [mL iB code,.int .u64 z] H0 (MadeK H0):=by
 refine c23p (by simp) fun ⟨hf,_⟩=>?_
 have hl:=fine_mL_le hf
 have hl':=hl;simp only [maxL] at hl';unfold s23p;refine tt ?_;refine nb (.nil _) fun id H o=>tt ?_;refine awp_for [0,5] (G:=Int) (fun k _=>[(6,some (.int .i64 (k : Int)))]) (fun k h H=>Owns H0 H [(id,.cells 3 [mL iB code,.int .i64 0,.int .u64 h] 0)]) code.length _ o rfl ?_;clear o
 rintro k h H hk o
 have o : Owns H0 H [(id,.cells 3 [mL iB code,.int .i64 0,.int .u64 h] 0)]:=o
 have hend : MadeK H0 (.ref id 0) H:=⟨id,⟨code,0,h⟩,rfl,⟨Int.le_refl 0,hl⟩,o⟩;refine tt ?_;apply bk <;> intro h1
 ·have h1p:=of_decide h1;refine tt ?_;refine rd_cells o (by simp) ?_
  have w:=wsucc (k:=k) (by omega);try simp only [go_sem,↓reduceIte,reduceEqDiff,reduceAdd,reduceMul,reduceLeDiff,reduceLT,iB]
  refine ⟨by omega, ?_⟩;try simp only [go_sem,↓reduceIte,reduceEqDiff,reduceAdd,reduceMul,reduceLeDiff,reduceLT,iB]
  refine sw o fun H o=>?_;refine tw w ?_;exact for_next _ (by omega) o rfl
 ·refine tt ?_;exact ⟨H,.refl H,hend⟩
theorem big_ok (B : Nat) (code : List UInt8) : Pur Tryz.prog B 8 [mL iB code] (.bool (decide (4096<code.length))):=by
 refine ⟨fun H0=>c8 (by simp) fun hf=>?_⟩;unfold s8;refine tt ?_;refine pure_ret ?_ (.refl _)
 congr 1
 exact decide_eq_decide.mpr (by omega)
theorem likeInts_ok (B : Nat) (a b : List Int) : Pur Tryz.prog B 12 [iL a,iL b] (.bool (dec (a=b))):=by
 refine ⟨fun H0=>c12 (by simp) fun ⟨hf,hg,_⟩=>?_⟩
 have hl:=fine_mL_le hf
 have hl2:=fine_mL_le hg;simp only [maxL] at hl hl2;unfold s12;refine tt ?_;apply bk <;> intro h0
 ·refine tt ?_
  have h0p : a.length≠b.length:=by simpa using h0
  exact pure_ret (by rw [dec_f]; rintro rfl; exact h0p rfl) (.refl _)
 have h0p : a.length=b.length:=by simpa using h0
 refine tt ?_;refine awp_for [0,1] (fun k _=>[(5,some (.int .i64 (k : Int)))]) (fun k _ H=>H=H0∧∀ i,i<k→a.getD i default=b.getD i default) a.length () ⟨rfl,by simp⟩ rfl ?_
 rintro k _ H hk ⟨rfl,hall⟩;refine tt ?_;apply bk <;> intro h1
 ·have h1:=of_decide h1
  have w1:=wsucc (k:=k) (by omega);refine tt ?_;refine ⟨h1,by omega,tt ?_⟩;apply bk <;> intro h2
  ·refine tt ?_
   have h2p : a.getD k default≠b.getD k default:=by simpa using h2
   exact pure_ret (by rw [dec_f]; rintro rfl; exact h2p rfl) (.refl _)
  ·refine tw w1 ?_
   have h2p : a.getD k default=b.getD k default:=by simpa using h2
   exact for_next () (by omega) ⟨rfl,lt_succ_all hall h2p⟩ rfl
 ·refine tt ?_
  have h1:=of_ndecide h1;refine pure_ret ?_ (.refl _);rw [dec_t];refine List.ext_getElem h0p fun i hi hj=>?_
  have:=hall i (by omega)
  simpa [List.getD_eq_getElem?_getD,hi,hj] using this
end Go.Proofs.Shf
namespace Go.AW
@[go_sem] theorem cells_emsl : AV.emsl.cells=[.emsl]:=rfl
@[go_sem] theorem one_emsl : AV.emsl.one=true:=rfl
@[go_sem] theorem le_maxL3 : (3≤maxL)=True:=by simp [maxL]
@[go_sem] theorem le_maxL4 : (4≤maxL)=True:=by simp [maxL]
@[go_sem] theorem le_maxL5 : (5≤maxL)=True:=by simp [maxL]
theorem permC {l r : Ob} (h : ∀ x,@List.count _ (@instBEqOfDecidableEq _ (Classical.typeDecidableEq _)) x l=@List.count _ (@instBEqOfDecidableEq _ (Classical.typeDecidableEq _)) x r) : l.Perm r:=by
 letI : DecidableEq (Nat × MObj):=Classical.typeDecidableEq _
 exact List.perm_iff_count.mpr h
def EmP {α : Type} (f : α→AV) (p : List (Nat × MObj)) (X : AV) (A : List α) : Prop :=
 (p=[]∧X=.emsl∧A=[])∨∃ id,p=[(id,.cells 1 (A.map f) 0)]∧X=.buf id A.length
theorem EmP.o {α : Type} {f : α→AV} {H0 H : Heap} {l p : List (Nat × MObj)} {X : AV} {A : List α} (h : EmP f p X A) (o : Owns H0 H (p++l)) : EmO f H0 H l X A:=by
 rcases h with ⟨rfl,h1,h2⟩ | ⟨id,rfl,h1⟩
 ·exact .inl ⟨h1,h2,o⟩
 ·exact .inr ⟨id,h1,o⟩
theorem wk_emc {F : Env→Heap→Prop} {σ : Env} {H0 H : Heap} {l : List (Nat × MObj)} {id sz fr : Nat} {cs : List AV} (k : Nat)
  (o : Owns H0 H ((id,.cells sz cs fr)::l)) (hc : cs[k]? = some .emsl) (hk : ∀ H',Owns H0 H' ((id,.cells sz (cs.set k (.sl [])) fr)::l)→wkW F σ H') : wkW F σ H:=by
 have h1:=o.h0;simp only at h1;refine wkW_step (σ1:=σ) ?_ (hk _ (o.put (.cells sz (cs.set k (.sl [])) fr)))
 intro g B w tm hW hE;refine ⟨g,.refl g,hW.recell h1 (by simp) fun j v hj hv=>?_,hE⟩
 by_cases e : j=k
 ·subst e
  have e1 : cs.getD j nv=.emsl:=by rw [List.getD_eq_getElem?_getD,hc]; rfl
  have e2 : (cs.set j (.sl [])).getD j nv=.sl []:=by simp [List.getD_eq_getElem?_getD,hj]
  rw [e1] at hv; rw [e2]
  cases hv; exact .slnil _ 0
 ·have e2 : (cs.set k (.sl [])).getD j nv=cs.getD j nv:=by
   rw [List.getD_eq_getElem?_getD,List.getElem?_set_ne (by omega),← List.getD_eq_getElem?_getD]
  rw [e2]; exact hv
theorem wk_em {α : Type} [Inhabited α] {f : α→AV} [One f] {F : Env→Heap→Prop} {σ : Env} {H0 H : Heap} {l p : List (Nat × MObj)} {id sz fr : Nat} {cs : List AV} {X : AV} {A : List α} (k : Nat)
  (h : EmP f p X A) (o : Owns H0 H (p++((id,.cells sz cs fr)::l))) (hc : cs[k]? = some X)
  (hk : ∀ H',Owns H0 H' ((id,.cells sz (cs.set k (mL f A)) fr)::l)→wkW F σ H') : wkW F σ H:=by
 rcases h with ⟨rfl,rfl,rfl⟩ | ⟨id2,rfl,rfl⟩
 ·exact wk_emc k o hc hk
 ·exact wk_cell k o.swap hc rfl hk
end Go.AW
namespace Go.Shf
open Go.AW
def CatQ (N : Nat) (r : AV) : Prop:=∃ c : Cat,r=.agg c.cells∧c.Good N
def MonQ (r : AV) : Prop:=∃ T : List (List Int),r=iLL T∧MonT T
def PoQ (r : AV) : Prop:=∃ T : List (List Int),r=iLL T∧PoR T
def SqT (n : Nat) (T : List (List Int)) : Prop:=T.length≤n∧∀ i,i<T.length→(T.getD i default).length=T.length
def SqQ (n : Nat) (r : AV) : Prop:=∃ T : List (List Int),r=iLL T∧SqT n T
end Go.Shf
namespace Go.Proofs.Shf
open Go.AW Go.Proofs Go.Shf
theorem l02Monoid_ok (B : Nat) : Rd B 214 [] MonQ:=by
 intro id s H0 H hs o;refine c214 (by simp) fun hf=>?_;unfold s214;refine tt ?_;refine (l01Next_ok B 8).go hs o fun r s' H hr ⟨k,e,h0,h1,_⟩ hs o=>?_;subst e;refine tt ?_;apply bk <;> intro q0
 ·refine tt ?_;exact src_ret ⟨[[0]],rfl,by decide,by decide,by decide,by decide⟩ hs o
 refine tt ?_;apply bk <;> intro q1
 ·refine tt ?_;exact src_ret ⟨[[0,1],[1,0]],rfl,by decide,by decide,by decide,by decide⟩ hs o
 refine tt ?_;apply bk <;> intro q2
 ·refine tt ?_;exact src_ret ⟨[[0,1],[1,1]],rfl,by decide,by decide,by decide,by decide⟩ hs o
 refine tt ?_;apply bk <;> intro q3
 ·refine tt ?_;exact src_ret ⟨[[0,1,2],[1,2,0],[2,0,1]],rfl,by decide,by decide,by decide,by decide⟩ hs o
 refine tt ?_;apply bk <;> intro q4
 ·refine tt ?_;exact src_ret ⟨[[0,1,2],[1,1,2],[2,2,2]],rfl,by decide,by decide,by decide,by decide⟩ hs o
 refine tt ?_;apply bk <;> intro q5
 ·refine tt ?_;exact src_ret ⟨[[0,1,2],[1,1,2],[2,1,2]],rfl,by decide,by decide,by decide,by decide⟩ hs o
 refine tt ?_;apply bk <;> intro q6
 ·refine tt ?_;exact src_ret ⟨[[0,1,2,3],[1,0,2,3],[2,3,2,3],[3,2,2,3]],rfl,by decide,by decide,by decide,by decide⟩ hs o
 refine tt ?_;exact src_ret ⟨[[0,1,2],[1,2,2],[2,2,2]],rfl,by decide,by decide,by decide,by decide⟩ hs o
theorem l02Split_ok (B : Nat) : Rets B 215 [] (CatQ 6):=by
 intro H0;refine c215 (by simp) fun hf=>?_;unfold s215;refine tt ?_;refine fun i1 n1=>tt ?_;refine rets_ret ⟨⟨2,[0,1,0,0,1],[0,1,0,1,0],[0,1],[[0,-1,2,3,-1],[-1,1,-1,-1,4],[2,-1,2,3,-1],[-1,3,-1,-1,2],[4,-1,4,1,-1]]⟩,rfl,⟨by decide,by decide,by decide,by decide,by decide,by decide⟩,.of (by decide) (by decide) (by decide) (by decide)⟩ ?_
 repeat (first | exact .refl _ | refine sub_set ?_ n1)
theorem l02Fits_ok (B : Nat) (c : Cat) : Pur Tryz.prog B 167 [.agg c.cells] (.bool (dec (c.objs≤8∧c.frm.length≤40))):=by
 refine ⟨fun H0=>c167 (by simp) fun hf=>?_⟩;unfold s167;refine tt ?_;apply bk <;> intro h1
 ·refine tw h1 ?_
  exact pure_ret (by
   have h1p:=of_decide h1
   congr 1
   rw [decide_dec];exact dec_congr ⟨fun h=>⟨h1p,by omega⟩,fun h=>by have:=h.2; omega⟩) (.refl _)
 ·refine tw h1 ?_;exact pure_ret (by rw [dec_f (fun h=>of_ndecide h1 h.1)]) (.refl _)
theorem l03Monoid_ok (B : Nat) (T : List (List Int)) (hT : MonT T) : Rets B 213 [iLL T] (CatQ 4):=by
 intro H0;refine c213p (by simp) fun hf=>?_;unfold s213p;refine tt ?_;refine newRef_own (.nil _) fun id H o=>tt ?_;refine ⟨_,(l01Own2_ok ..).run,tt ?_⟩
 have hT4:=hT.l4
 have hc : (T.length : Int)≤T.length∧T.length≤maxL∧T.length≤maxL:=⟨by omega,by simp only [maxL]; omega,by simp only [maxL]; omega⟩;refine ⟨?_, ?_⟩
 ·refine ⟨hc,mks_list iI 0 rfl o fun i7 H o=>?_⟩;refine tt ?_;refine ⟨hc,mks_list iI 0 rfl o fun i9 H o=>?_⟩;refine tt ?_
  have o:=o.pull [_,_];simp only [List.cons_append,List.nil_append] at o;refine sw o fun H o=>tt ?_;refine wk_cell 2 o rfl (by simp) fun H o=>?_;simp only [List.set_cons_zero,List.set_cons_succ] at o;refine wk_cell 1 o rfl (by simp) fun H o=>wkW_done ?_;simp only [List.set_cons_zero,List.set_cons_succ] at o;refine tt ?_
  have hr:=o.rc 5 0 (by simp);simp only [List.drop_zero] at hr;rw [hr];refine tt ?_;exact rets_ret ⟨monC T,rfl,monC_good hT⟩ o.sub
 ·refine ⟨hc,mks_list iI 0 rfl o fun i9 H o=>?_⟩;refine tt ?_;refine ⟨hc,mks_list iI 0 rfl o fun i7 H o=>?_⟩;refine tt ?_
  have o:=o.pull [_,_];simp only [List.cons_append,List.nil_append] at o;refine sw o fun H o=>tt ?_;refine wk_cell 1 o rfl (by simp) fun H o=>?_;simp only [List.set_cons_zero,List.set_cons_succ] at o;refine wk_cell 2 o rfl (by simp) fun H o=>wkW_done ?_;simp only [List.set_cons_zero,List.set_cons_succ] at o;refine tt ?_
  have hr:=o.rc 5 0 (by simp);simp only [List.drop_zero] at hr;rw [hr];refine tt ?_;exact rets_ret ⟨monC T,rfl,monC_good hT⟩ o.sub
theorem l03Op_ok (B : Nat) (N : Nat) (hN : N≤4096) (c : Cat) (hg : c.Good N) : Rets B 216 [.agg c.cells] (CatQ N):=by
 intro H0;refine c216p (by simp) fun hf=>?_
 have hc:=hg.1
 have hob:=hc.ob
 have hml:=hc.ml
 have htl:=hc.tl
 have hcl:=hc.cl
 have hrow:=hc.row;unfold s216p;refine tt ?_;refine newRef_own (.nil _) fun id2 H o=>tt ?_;refine ⟨_,(l01Own_ok ..).run,tt ?_⟩;refine ⟨_,(l01Own_ok ..).run,tt ?_⟩;refine ⟨_,(l01Own_ok ..).run,tt ?_⟩;refine newRef_own o fun id3 H o=>tt ?_;refine sw o fun H o=>tt ?_
 refine awp_for [1,2,3] (G:=AV × Ob × List (List Int)) (fun k _=>[(4,some (.int .i64 (k : Int)))])
  (fun k g H=>EmP iL g.2.1 g.1 g.2.2∧g.2.2=(List.range k).map (fun f=>(List.range c.frm.length).map fun g=>(c.comp.getD g default).getD f default)∧Owns H0 H (g.2.1++[(id3,MObj.cells 5 [iI c.objs,iL c.to,iL c.frm,iL c.idn,g.1] 0),(id2,MObj.cells 5 [iI 0,.nilsl,.nilsl,.nilsl,.nilsl] 0)])) c.frm.length (.emsl,[],[])
  ⟨.inl ⟨rfl,rfl,rfl⟩,rfl,o⟩ rfl ?_
 clear o
 rintro k ⟨X,p,A⟩ H hk ⟨hX,hE,o⟩;dsimp only at hX hE
 have hA : A.length=k:=by rw [hE]; simp
 dsimp only at o;refine tt ?_;apply bk <;> intro h1
 ·have h1p:=of_decide h1;refine tt ?_;refine newBuf_own o fun idr H o=>tt ?_
  refine awp_for [1,2,3,4] (G:=Nat × List Int) (fun j g=>[(5,some (.buf g.1 g.2.length)),(6,some (.int .i64 (j : Int)))])
   (fun j g H=>g.2=(List.range j).map (fun g=>(c.comp.getD g default).getD k default)∧Owns H0 H ((g.1,.cells 1 (g.2.map iI) 0)::(p++[(id3,MObj.cells 5 [iI c.objs,iL c.to,iL c.frm,iL c.idn,X] 0),(id2,MObj.cells 5 [iI 0,.nilsl,.nilsl,.nilsl,.nilsl] 0)]))) c.frm.length (idr,[]) ⟨rfl,o⟩ rfl ?_
  clear o
  rintro j ⟨idr,row⟩ H hj ⟨hrE,o⟩;dsimp only at hrE
  have hrl : row.length=j:=by rw [hrE]; simp
  dsimp only at o;refine tt ?_;apply bk <;> intro h2
  ·have h2p:=of_decide h2
   have w:=wsucc (k:=j) (by omega)
   have hrj:=hrow j h2p;refine tt ?_;refine ⟨by omega,by omega, ?_⟩;refine app_own _ o rfl rfl (by simp only [maxL]; omega) fun idr H o=>?_;refine tw w ?_;exact for_next (idr,_) h2p ⟨by rw [hrE,List.range_succ,List.map_append]; simp [ix],o⟩ rfl
  ·have h2p:=of_ndecide h2
   have hje : j=c.frm.length:=by omega
   refine tt ?_;refine fz_own o rfl fun H o=>tt ?_;refine rd_get (o.get (id3,MObj.cells 5 [iI c.objs,iL c.to,iL c.frm,iL c.idn,X] 0) (by simp)) (by simp) ?_;refine tt ?_;refine (hX.o o).app row rfl (by simp only [maxL]; omega) fun id' H o=>tt ?_;refine sw o.swap fun H o=>?_
   have w:=wsucc (k:=k) (by omega);refine tw w ?_
   exact for_next (_,[(id',.cells 1 ((A++[row]).map iL) 0)],A++[row]) h1p ⟨.inr ⟨id',rfl,rfl⟩,by
    show A++[row]=_
    rw [hE,hrE,hje,List.range_succ (n:=k),List.map_append]; simp,o.swap⟩ rfl
 ·have h1p:=of_ndecide h1;refine tt ?_;refine wk_em 4 hX o rfl fun H o=>wkW_done ?_;simp only [List.set_cons_zero,List.set_cons_succ] at o;refine tt ?_;refine rd_celln o (by simp) ?_;refine tt ?_;refine sw o.swap fun H o=>tt ?_
  have hr2:=o.rc 5 0 (by simp);simp only [List.drop_zero] at hr2;rw [hr2];refine tt ?_
  have hke : k=c.frm.length:=by omega
  exact rets_ret ⟨opC c,by rw [hE,hke]; rfl,opC_good hg⟩ o.sub
theorem l03PosetX_ok (B : Nat) (R : List (List Int)) (hR : PoR R) : Rets B 141 [iLL R] (fun r=>r=.agg (orC R).cells):=by
 intro H0;refine c141p (by simp) fun hf=>?_
 have hR4:=hR.l4
 have hrow:=hR.row;unfold s141p;refine tt ?_;refine newRef_own (.nil _) fun id2 H o=>tt ?_;refine newBuf_own o fun idN H o=>tt ?_;refine newBuf_own o fun a H o=>tt ?_;refine newBuf_own o fun b H o=>tt ?_;refine newBuf_own o fun i H o=>tt ?_;refine newBuf_own o fun d H o=>tt ?_;refine newRef_own o fun id5 H o=>tt ?_;refine sw o fun H o=>tt ?_
 obtain ⟨n,hn⟩ : ∃ n,R.length=n:=⟨_,rfl⟩;rw [hn] at hR4 hrow o;rw [hn]
 refine awp_for [0,2,3,5] (G:=(Nat × List Int) × (Nat × List Int) × (Nat × List (List Int))) (fun k g=>[(4,some (.buf g.2.2.1 g.2.2.2.length)),(6,some (.int .i64 (k : Int)))])
  (fun k g H=>g.1.2=fsts (prI R k)∧g.2.1.2=snds (prI R k)∧g.2.2.2=(List.range k).map (fun i=>(List.range n).map fun j=>(numR R i j : Int)) ∧
   Owns H0 H [(id5,MObj.cells 5 [iI n,.buf g.1.1 g.1.2.length,.buf g.2.1.1 g.2.1.2.length,.buf i 0,.buf d 0] 0),(g.1.1,MObj.cells 1 (g.1.2.map iI) 0),(g.2.1.1,MObj.cells 1 (g.2.1.2.map iI) 0),(g.2.2.1,MObj.cells 1 (g.2.2.2.map iL) 0),
    (i,MObj.cells 1 [] 0),(d,MObj.cells 1 [] 0),(id2,MObj.cells 5 [iI 0,.nilsl,.nilsl,.nilsl,.nilsl] 0)]) n ((a,[]),(b,[]),(idN,[]))
  ⟨rfl,rfl,rfl,o.pm⟩ rfl ?_
 clear o
 rintro k ⟨⟨a,A⟩,⟨b,C⟩,⟨idN,rows⟩⟩ H hk ⟨hAe,hCe,hre,o⟩;dsimp only at hAe hCe hre
 have hC : C.length=A.length:=by rw [hAe,hCe]; simp [fsts,snds]
 have hA : A.length≤k*n:=by rw [hAe,fsts,List.length_map,← hn]; exact prI_len k
 have hrl : rows.length=k:=by rw [hre]; simp
 have hrr : ∀ r,r∈rows→r.length=n:=fun r hr=>by
  rw [hre] at hr
  obtain ⟨i,_,rfl⟩:=List.mem_map.mp hr
  simp
 replace o : Owns H0 H [(id5,MObj.cells 5 [iI n,.buf a A.length,.buf b C.length,.buf i 0,.buf d 0] 0),(a,MObj.cells 1 (A.map iI) 0),(b,MObj.cells 1 (C.map iI) 0),(idN,MObj.cells 1 (rows.map iL) 0),
    (i,MObj.cells 1 [] 0),(d,MObj.cells 1 [] 0),(id2,MObj.cells 5 [iI 0,.nilsl,.nilsl,.nilsl,.nilsl] 0)]:=o
 refine tt ?_;apply bk <;> intro h1
 ·have h1p:=of_decide h1;refine tt ?_;refine newBuf_own o fun idr H o=>tt ?_
  have hkn : k*n+n≤16:=by
   have : (k+1)*n≤4*4:=Nat.mul_le_mul (by omega) (by omega);rw [Nat.succ_mul] at this; omega
  refine awp_for [0,2,3,4,5,6] (G:=(Nat × List Int) × (Nat × List Int) × (Nat × List Int)) (fun j g=>[(7,some (.buf g.1.1 g.1.2.length)),(8,some (.int .i64 (j : Int)))])
   (fun j g H=>g.1.2=(List.range j).map (fun j=>(numR R k j : Int))∧g.2.1.2=fsts (prI R k++prJ R k j)∧g.2.2.2=snds (prI R k++prJ R k j) ∧
    Owns H0 H [(g.1.1,MObj.cells 1 (g.1.2.map iI) 0),(id5,MObj.cells 5 [iI n,.buf g.2.1.1 g.2.1.2.length,.buf g.2.2.1 g.2.2.2.length,.buf i 0,.buf d 0] 0),(g.2.1.1,MObj.cells 1 (g.2.1.2.map iI) 0),(g.2.2.1,MObj.cells 1 (g.2.2.2.map iI) 0),(idN,MObj.cells 1 (rows.map iL) 0),
    (i,MObj.cells 1 [] 0),(d,MObj.cells 1 [] 0),(id2,MObj.cells 5 [iI 0,.nilsl,.nilsl,.nilsl,.nilsl] 0)]) n ((idr,[]),(a,A),(b,C))
   ⟨rfl,by rw [prJ,List.append_nil]; exact hAe,by rw [prJ,List.append_nil]; exact hCe,o⟩ rfl ?_
  clear o hA hAe hCe hC
  rintro j ⟨⟨idr,row⟩,⟨a,A⟩,⟨b,C⟩⟩ H hj ⟨hrE,hAe,hCe,o⟩;dsimp only at hrE hAe hCe
  have hrow' : row.length=j:=by rw [hrE]; simp
  have hC : C.length=A.length:=by rw [hAe,hCe]; simp [fsts,snds]
  have hAn : A.length=numR R k j:=by rw [hAe,fsts,List.length_map]; rfl
  have hA : A.length≤k*n+j:=by
   rw [hAn,numR,List.length_append,← hn]
   have:=prI_len (R:=R) k
   have:=prJ_len (R:=R) k j;omega
  have hrs : row++[(A.length : Int)]=(List.range (j+1)).map (fun j=>(numR R k j : Int)):=by rw [hrE,List.range_succ,List.map_append,hAn]; rfl
  replace o : Owns H0 H [(idr,MObj.cells 1 (row.map iI) 0),(id5,MObj.cells 5 [iI n,.buf a A.length,.buf b C.length,.buf i 0,.buf d 0] 0),(a,MObj.cells 1 (A.map iI) 0),(b,MObj.cells 1 (C.map iI) 0),(idN,MObj.cells 1 (rows.map iL) 0),
    (i,MObj.cells 1 [] 0),(d,MObj.cells 1 [] 0),(id2,MObj.cells 5 [iI 0,.nilsl,.nilsl,.nilsl,.nilsl] 0)]:=o
  refine tt ?_;apply bk <;> intro h2
  ·have h2p:=of_decide h2
   have w:=wsucc (k:=j) (by omega);refine tt ?_;refine rd_cells o.tl (by simp) ?_;refine tt ?_;refine app_own _ o rfl rfl (by simp only [maxL]; omega) fun idr H o=>?_
   have hR1:=hrow k (by omega);refine tt ?_;refine ⟨by omega,by omega, ?_⟩;apply bk <;> intro h3
   ·refine tt ?_;refine rd_cells o.tl (by simp) ?_;refine tt ?_;refine app_own _ (o.pull [_,_]) rfl rfl (by simp only [maxL]; omega) fun a H o=>tt ?_;refine sw (o.pull [_,_]) fun H o=>tt ?_;refine rd_cells o (by simp) ?_;refine tt ?_;refine app_own _ (o.pull [_,_,_]) rfl rfl (by simp only [maxL]; omega) fun b H o=>tt ?_;refine sw o.swap fun H o=>?_;refine tw w ?_
    have h3p : relE R k j=1:=of_decide h3;refine for_next ((idr,_),(a,A++[(k : Int)]),(b,C++[(j : Int)])) h2p ⟨hrs, ?_, ?_,o.pm⟩ rfl
    ·show A++[(k : Int)]=_
     rw [hAe,prJ,if_pos h3p]; simp [fsts]
    ·show C++[(j : Int)]=_
     rw [hCe,prJ,if_pos h3p]; simp [snds]
   ·refine tw w ?_
    have h3p : ¬ relE R k j=1:=of_ndecide h3;exact for_next ((idr,_),(a,A),(b,C)) h2p ⟨hrs,by show A=_; rw [hAe,prJ,if_neg h3p,List.append_nil],by show C=_; rw [hCe,prJ,if_neg h3p,List.append_nil],o⟩ rfl
  ·have h2p:=of_ndecide h2;refine tt ?_;refine fz_own o rfl fun H o=>tt ?_;refine app_own row (o.pull [_,_,_]) rfl rfl (by simp only [maxL]; omega) fun idN H o=>?_
   have w:=wsucc (k:=k) (by omega);refine tw w ?_
   have hje : j=n:=by omega
   refine for_next ((a,A),(b,C),(idN,rows++[row])) h1p ⟨by show A=_; rw [hAe,prI,hje,hn],by show C=_; rw [hCe,prI,hje,hn], ?_,o.pm⟩ rfl
   show rows++[row]=_
   rw [hre,hrE,hje,List.range_succ (n:=k),List.map_append]; rfl
 ·have h1p:=of_ndecide h1
  have hkn : k=n:=by omega
  subst hkn
  have hAr : ∀ y,y∈A→0≤y∧y<(k : Int):=fun y hy=>by
   rw [hAe] at hy
   obtain ⟨⟨p,q⟩,hp,rfl⟩:=List.mem_map.mp hy
   have:=mem_prI.mp hp
   simp only; omega
  have hCr : ∀ y,y∈C→0≤y∧y<(k : Int):=fun y hy=>by
   rw [hCe] at hy
   obtain ⟨⟨p,q⟩,hp,rfl⟩:=List.mem_map.mp hy
   have:=mem_prI.mp hp
   simp only; omega
  have hrat : ∀ i j : Nat,i<k→j<k→(rows.getD i default).getD j default=(numR R i j : Int):=fun i j hi hj=>by
   rw [hre,getD_map_range _ _ hi,getD_map_range _ _ hj]
  have hpos : ∀ f g,C.getD f default=A.getD g default→orT R f g=(numR R (A.getD f default).toNat (C.getD g default).toNat : Int):=fun f g h=>by
   rw [hAe,hCe] at h ⊢; rw [orT,hn,if_pos h]
  have hneg : ∀ f g,C.getD f default≠A.getD g default→orT R f g=-1:=fun f g h=>by
   rw [hAe,hCe] at h; rw [orT,hn,if_neg h]
  have hA16 : A.length≤16:=Nat.le_trans hA (Nat.mul_le_mul hR4 hR4);refine tt ?_;refine fz_own (o.pull [_,_,_]) rfl fun H o=>tt ?_
  refine awp_for [2,3,4,5] (G:=(Nat × List Int)) (fun j g=>[(9,some (.int .i64 (j : Int)))])
   (fun j g H=>g.2=(List.range j).map (fun i=>(numR R i i : Int))∧Owns H0 H [(id5,MObj.cells 5 [iI k,.buf a A.length,.buf b C.length,.buf g.1 g.2.length,.buf d 0] 0),(g.1,MObj.cells 1 (g.2.map iI) 0),(a,MObj.cells 1 (A.map iI) 0),(b,MObj.cells 1 (C.map iI) 0),
    (d,MObj.cells 1 [] 0),(id2,MObj.cells 5 [iI 0,.nilsl,.nilsl,.nilsl,.nilsl] 0)]) k (i,[]) ⟨rfl,o.pm⟩ rfl ?_
  clear o
  rintro j ⟨i,I⟩ H hj ⟨hIe,o⟩;dsimp only at hIe
  have hI : I.length=j:=by rw [hIe]; simp
  replace o : Owns H0 H [(id5,MObj.cells 5 [iI k,.buf a A.length,.buf b C.length,.buf i I.length,.buf d 0] 0),(i,MObj.cells 1 (I.map iI) 0),(a,MObj.cells 1 (A.map iI) 0),(b,MObj.cells 1 (C.map iI) 0),
    (d,MObj.cells 1 [] 0),(id2,MObj.cells 5 [iI 0,.nilsl,.nilsl,.nilsl,.nilsl] 0)]:=o
  refine tt ?_;apply bk <;> intro h2
  ·have h2p:=of_decide h2
   have w:=wsucc (k:=j) (by omega)
   have hrj:=hrr (rows.getD j default) (mem_getD.mpr ⟨j,by omega,rfl⟩);refine tt ?_;refine rd_cells o (by simp) ?_;refine tt ?_;refine ⟨by omega,by omega,tt ?_⟩;refine app_own _ o.swap rfl rfl (by simp only [maxL]; omega) fun i H o=>tt ?_;refine sw o.swap fun H o=>?_;refine tw w ?_;exact for_next (i,_) h2p ⟨by rw [hIe,List.range_succ,List.map_append]; simp only [ix,Int.toNat_natCast]; rw [hrat j j h2p h2p]; rfl,o⟩ rfl
  ·have h2p:=of_ndecide h2
   have hIk : I.length=k:=by omega
   refine tt ?_;refine wk_cell 3 o rfl rfl fun H o=>?_;simp only [List.set_cons_zero,List.set_cons_succ] at o;refine wk_cell 1 o rfl rfl fun H o=>?_;simp only [List.set_cons_zero,List.set_cons_succ] at o;refine wk_cell 2 o rfl rfl fun H o=>wkW_done ?_;simp only [List.set_cons_zero,List.set_cons_succ] at o
   have hje : j=k:=by omega
   clear h2 h2p hj hI;refine tt ?_
   refine awp_for [2,4,5] (G:=(Nat × List (List Int))) (fun j g=>[(10,some (.int .i64 (j : Int)))])
    (fun j g H=>g.2=(List.range j).map (fun f=>(List.range A.length).map (orT R f))∧Owns H0 H [(id5,MObj.cells 5 [iI k,iL A,iL C,iL I,.buf g.1 g.2.length] 0),(g.1,MObj.cells 1 (g.2.map iL) 0),(id2,MObj.cells 5 [iI 0,.nilsl,.nilsl,.nilsl,.nilsl] 0)]) A.length (d,[]) ⟨rfl,o⟩ rfl ?_
   clear o
   rintro f ⟨d,D⟩ H hf' ⟨hDe,o⟩;dsimp only at hDe
   have hD : D.length=f:=by rw [hDe]; simp
   dsimp only at o;refine tt ?_;refine rd_cells o (by simp) ?_;refine tt ?_;apply bk <;> intro h2
   ·have h2p:=of_decide h2;refine tt ?_;refine newBuf_own o fun idr H o=>tt ?_
    refine awp_for [2,4,5,10] (G:=Nat × List Int) (fun g r=>[(11,some (.buf r.1 r.2.length)),(12,some (.int .i64 (g : Int)))])
     (fun g r H=>r.2=(List.range g).map (orT R f)∧Owns H0 H [(r.1,MObj.cells 1 (r.2.map iI) 0),(id5,MObj.cells 5 [iI k,iL A,iL C,iL I,.buf d D.length] 0),(d,MObj.cells 1 (D.map iL) 0),(id2,MObj.cells 5 [iI 0,.nilsl,.nilsl,.nilsl,.nilsl] 0)]) A.length (idr,[]) ⟨rfl,o⟩ rfl ?_
    clear o
    rintro g ⟨idr,row⟩ H hg ⟨hrE,o⟩;dsimp only at hrE
    have hrl' : row.length=g:=by rw [hrE]; simp
    dsimp only at o;refine tt ?_;refine rd_cells o.tl (by simp) ?_;refine tt ?_;apply bk <;> intro h3
    ·have h3p:=of_decide h3
     have w:=wsucc (k:=g) (by omega);refine tt ?_;refine rd_cells o.tl (by simp) ?_;refine tt ?_;refine ⟨by omega, ?_⟩;refine rd_cells o.tl (by simp) ?_;refine tt ?_;refine ⟨by omega,tt ?_⟩
     have hAf:=hAr (A.getD f default) (mem_getD.mpr ⟨f,h2p,rfl⟩)
     have hCg:=hCr (C.getD g default) (mem_getD.mpr ⟨g,by omega,rfl⟩)
     have hrx:=hrr (ix rows (A.getD f default)) (ix_mem (by omega));apply bk <;> intro h4
     ·refine tt ?_;refine rd_cells o.tl (by simp) ?_;refine tt ?_;refine ⟨h2p,⟨by omega,by omega⟩, ?_⟩;refine rd_cells o.tl (by simp) ?_;refine tt ?_;refine ⟨by omega,⟨by omega,by omega⟩, ?_⟩;refine app_own _ o rfl rfl (by simp only [maxL]; omega) fun idr H o=>?_;refine tw w ?_;refine for_next (idr,_) h3p ⟨?_,o⟩ rfl
      have h4p:=of_decide h4;rw [hrE,List.range_succ,List.map_append,List.map_singleton,hpos f g h4p,← hrat (A.getD f default).toNat (C.getD g default).toNat (by omega) (by omega)]
      rfl
     ·refine tt ?_;refine app_own _ o rfl rfl (by simp only [maxL]; omega) fun idr H o=>?_;refine tw w ?_;refine for_next (idr,_) h3p ⟨?_,o⟩ rfl
      have h4p:=of_ndecide h4;rw [hrE,List.range_succ,List.map_append,List.map_singleton,hneg f g h4p]
    ·have h3p:=of_ndecide h3
     have w:=wsucc (k:=f) (by omega);refine tt ?_;refine fz_own o rfl fun H o=>tt ?_;refine rd_cells o (by simp) ?_;refine tt ?_;refine app_own row o.swap rfl rfl (by simp only [maxL]; omega) fun d H o=>tt ?_;refine sw o.swap fun H o=>?_;refine tw w ?_
     have hge : g=A.length:=by omega
     refine for_next (d,D++[row]) h2p ⟨?_,o⟩ rfl
     show D++[row]=_
     rw [hDe,hrE,hge,List.range_succ (n:=f),List.map_append]; rfl
   ·have h2p:=of_ndecide h2;refine tt ?_;refine wk_cell 4 o rfl rfl fun H o=>wkW_done ?_;simp only [List.set_cons_zero,List.set_cons_succ] at o;refine tt ?_;refine rd_celln o (by simp) ?_;refine tt ?_;refine sw o.swap fun H o=>tt ?_
    have hr2:=o.rc 5 0 (by simp);simp only [List.drop_zero] at hr2;rw [hr2];refine tt ?_
    have hfe : f=A.length:=by omega
    refine rets_ret ?_ o.sub
    have hAl : A.length=(prI R k).length:=by rw [hAe]; simp [fsts]
    rw [hfe] at hDe;rw [hDe,hIe,hje,hAl,hAe,hCe,orC,← hn]; rfl
theorem l03Poset_ok (B : Nat) (R : List (List Int)) (hR : PoR R) : Rets B 141 [iLL R] (CatQ 16):=fun H0 =>
 (l03PosetX_ok B R hR H0).mono fun r H' ⟨q,e⟩=>⟨⟨orC R,q,orC_good hR⟩,e⟩
end Go.Proofs.Shf
namespace Go.AW
theorem LsR.inner {α : Type} {f : α→AV} : ∀ (ms : List (Nat × List α)),LsR f (ms.map bufE) (ms.map Prod.snd) (inner f ms)
 | []=>.nil
 | m::ms=>LsR.cons (p:=[(m.1,.cells 1 (m.2.map f) 0)]) (.inr ⟨m.1,rfl,rfl⟩) (LsR.inner ms)
theorem app_own' {α : Type} [Inhabited α] {f : α→AV} [One f] {H0 H : Heap} {l : Ob} {K : Kont} {id fr n : Nat} {out : List α} (a : α) {v : AV} (h : Owns H0 H ((id,.cells 1 (out.map f) fr)::l)) (hv : v=f a) (hn : n=out.length) (hm : out.length+1≤maxL)
  (hk : ∀ id' H' A,A=out++[a]→A.length=out.length+1→Owns H0 H' ((id',.cells 1 (A.map f) fr)::l)→K (.buf id' A.length) H') : appW 1 (some (.buf id n)) (some (.sl [v])) K H :=
 app_own a h hv hn hm fun id' H' o=>hk id' H' _ rfl (by simp) o
end Go.AW
namespace Go.Proofs.Shf
open Go.AW Go.Proofs Go.Shf
theorem l01Own2_own (B : Nat) (T : List (List Int)) (H0 H : Heap) (l : Ob) (o : Owns H0 H l) :
  CallH Tryz.prog B 208 [iLL T] H (fun r H'=>∃ d Xs ob,r=.buf d Xs.length∧LsR iI Xs T ob∧Owns H0 H' ((d,.cells 1 Xs 0)::(ob++l))):=by
 refine c208p (by simp) fun ⟨hf,_⟩=>?_
 have hl:=fine_mL_le hf;simp only [maxL] at hl;unfold s208p;refine tt ?_;refine newBuf_own o fun d H o=>tt ?_
 refine awp_for [0] (G:=Nat × List (Nat × List Int)) (fun k g=>[(3,some (.buf g.1 g.2.length)),(4,some (.int .i64 (k : Int)))])
  (fun k g H=>g.2.map Prod.snd=T.take k∧Owns H0 H ((g.1,MObj.cells 1 (g.2.map bufE) 0)::(inner iI g.2++l))) T.length (d,[]) ⟨by simp,o⟩ rfl ?_
 clear o
 rintro k ⟨d,ms⟩ H hk ⟨hms,o⟩;dsimp only at hms o
 have hml : ms.length=k:=by
  have:=congrArg List.length hms
  simpa [Nat.min_eq_left hk] using this
 refine tt ?_;apply bk <;> intro h1
 ·have h1p:=of_decide h1
  have w:=wsucc (k:=k) (by omega);refine tt ?_;refine ⟨h1p, ?_⟩;refine (l01Own_own B (T.getD k default) H0 H _ o).own fun id A H o hA=>?_;subst hA;refine tt ?_;refine app_own (f:=bufE) (id,T.getD k default) o.swap rfl rfl (by simp only [maxL]; omega) fun d H o=>?_;refine tw w ?_;refine for_next (d,ms++[(id,T.getD k default)]) h1p ⟨by rw [List.map_append,hms,take_succ' T h1p]; rfl, ?_⟩ rfl;refine o.perm (.cons _ ?_);simp only [inner,List.map_append,List.map_cons,List.map_nil,List.append_assoc,List.cons_append,List.nil_append];exact List.perm_middle.symm
 ·have h1p:=of_ndecide h1
  obtain rfl : k=T.length:=by omega
  rw [List.take_length] at hms;refine tt ?_;refine ⟨H,.refl H,d,ms.map bufE,inner iI ms,by simp, ?_,o⟩;rw [← hms]; exact LsR.inner ms
theorem New.go' {P : Program} {B : Nat} {fn : FuncId} {args : List AV} {O : Ob→AV→Prop} {H0 H : Heap} {l : Ob} {K : Kont} (h : New P B fn args O) (o : Owns H0 H l) (hk : ∀ r p H',O p r→Owns H0 H' (p++l)→H.sub H'→K r H') : CallH P B fn args H K :=
 (h.run H).mono fun r H' ⟨p,q1,q2⟩=>hk r p H' q1 (o.trans q2) q2.sub
def OLb (l : List Int) (p : Ob) (X : AV) : Prop:=∃ id,X=.buf id l.length∧p=[(id,.cells 1 (l.map iI) 0)]
theorem l01Own_new (B : Nat) (l : List Int) : New Tryz.prog B 118 [iL l] (OLb l) :=
 ⟨fun H=>(l01Own_own B l H H [] (.nil H)).mono fun r H' ⟨id,A,e,o,q⟩=>by
  subst e q;exact ⟨_,⟨id,rfl,rfl⟩,o⟩⟩
def OLLb (T : List (List Int)) (p : Ob) (X : AV) : Prop:=∃ d Xs ob,X=.buf d Xs.length∧LsR iI Xs T ob∧p=(d,.cells 1 Xs 0)::ob
theorem l01Own2_new (B : Nat) (T : List (List Int)) : New Tryz.prog B 208 [iLL T] (OLLb T) :=
 ⟨fun H=>(l01Own2_own B T H H [] (.nil H)).mono fun r H' ⟨d,Xs,ob,e,h,o⟩=>by
  rw [List.append_nil] at o;exact ⟨_,⟨d,Xs,ob,e,h,rfl⟩,o⟩⟩
def OCb (c : Cat) (p : Ob) (X : AV) : Prop:=∃ a b i d Xs ob,X=.agg [iI c.objs,.buf a c.frm.length,.buf b c.to.length,.buf i c.idn.length,.buf d Xs.length]∧LsR iI Xs c.comp ob ∧
 p=(a,.cells 1 (c.frm.map iI) 0)::(b,.cells 1 (c.to.map iI) 0)::(i,.cells 1 (c.idn.map iI) 0)::(d,.cells 1 Xs 0)::ob
theorem l02Own_new (B : Nat) (c : Cat) : New Tryz.prog B 159 [.agg c.cells] (OCb c):=by
 refine ⟨fun H0=>c159p (by simp) fun _=>?_⟩;unfold s159p;refine tt ?_;refine newRef_own (.nil _) fun id H o=>tt ?_;refine New.go' (l01Own_new B c.frm) o fun X1 p1 H ⟨a,e1,e2⟩ o hs=>⟨hs, ?_⟩;subst e1 e2;refine tt ?_;refine New.go' (l01Own_new B c.to) o fun X1 p1 H ⟨b,e1,e2⟩ o hs=>⟨hs, ?_⟩;subst e1 e2;refine tt ?_;refine New.go' (l01Own_new B c.idn) o fun X1 p1 H ⟨i,e1,e2⟩ o hs=>⟨hs, ?_⟩;subst e1 e2;refine tt ?_;refine New.go' (l01Own2_new B c.comp) o fun X1 p1 H ⟨d,Xs,ob,e1,h,e2⟩ o hs=>⟨hs, ?_⟩;subst e1 e2;refine tt ?_
 have o : Owns H0 H ((id,MObj.cells 5 [iI 0,.nilsl,.nilsl,.nilsl,.nilsl] 0)::(a,MObj.cells 1 (c.frm.map iI) 0)::(b,MObj.cells 1 (c.to.map iI) 0)::(i,MObj.cells 1 (c.idn.map iI) 0)::(d,MObj.cells 1 Xs 0)::ob):=o.pm;refine sw o fun H o=>tt ?_
 have hr:=o.rc 5 0 (by simp);simp only [List.drop_zero] at hr;rw [hr];exact ⟨H,.refl H,_,⟨a,b,i,d,Xs,ob,rfl,h,rfl⟩,o.tl⟩
end Go.Proofs.Shf
namespace Go.AW
theorem LsR.snoc' {α : Type} {f : α→AV} {Xs : List AV} {As : List (List α)} {o p : List (Nat × MObj)} {X : AV} {A : List α} (h : LsR f Xs As o) (hp : LsP f p X A) : LsR f (Xs++[X]) (As++[A]) (o++p):=by
 induction h with
 | nil=>simpa using LsR.cons hp .nil
 | cons q _ ih=>simpa using LsR.cons q ih
theorem app_raw {H0 H : Heap} {l : Ob} {K : Kont} {id n : Nat} {Xs : List AV} {Y : AV} (o : Owns H0 H ((id,.cells 1 Xs 0)::l)) (hn : n=Xs.length) (h1 : Y.cells=[Y]) (h2 : Y.one=true) (hm : Xs.length+1≤maxL)
  (hk : ∀ id' H',Owns H0 H' ((id',.cells 1 (Xs++[Y]) 0)::l)→K (.buf id' (Xs.length+1)) H') : appW 1 (some (.buf id n)) (some (.sl [Y])) K H:=by
 subst hn
 have hok : okEls 1 [Y]:=by
  intro e he;rw [List.mem_singleton] at he; subst he;rw [h1];exact ⟨rfl,fun c hc=>by rw [List.mem_singleton] at hc; subst hc; exact h2⟩
 have h0:=o.h0;simp only at h0;simp only [appW,h0,srcOf,app2];refine ⟨⟨trivial,by simp,by simp; omega,by simp; omega,hok⟩,fun id' hn=>?_⟩
 have hfl : flat [Y]=[Y]:=by simp [flat,h1]
 rw [hfl];exact hk id' _ (o.mv hn (.cells 1 (Xs++[Y]) 0))
end Go.AW
namespace Go.Proofs.Shf
open Go.AW Go.Proofs Go.Shf
@[go_sem] def sumO (id7 id4 : Nat) (x0 : Int) (a : Nat) (A : List Int) (b : Nat) (C : List Int) (i : Nat) (I : List Int) (d : Nat) (Xs : List AV) (ob : Ob) : Ob :=
 (id7,.cells 5 [iI x0,.buf a A.length,.buf b C.length,.buf i I.length,.buf d Xs.length] 0)::(a,.cells 1 (A.map iI) 0)::(b,.cells 1 (C.map iI) 0)::(i,.cells 1 (I.map iI) 0)::(d,.cells 1 Xs 0)::(ob++[(id4,.cells 5 [iI 0,.nilsl,.nilsl,.nilsl,.nilsl] 0)])
theorem l03Sum_new (B N M : Nat) (hNM : N+M≤4096) (c e : Cat) (hc : c.Good N) (he : e.Good M) : New Tryz.prog B 165 [.agg c.cells,.agg e.cells] (OCb (sumC c e)):=by
 refine ⟨fun H0=>c165p (by simp) fun _=>?_⟩
 obtain ⟨⟨cob,cil,cml,ctl,ccl,crow⟩,ct⟩:=hc
 obtain ⟨⟨eob,eil,eml,etl,ecl,erow⟩,et⟩:=he;unfold s165p;refine tt ?_;refine newRef_own (.nil _) fun id4 H o=>tt ?_;refine New.go' (l02Own_new B c) o fun X1 p1 H ⟨a,b,i,d,Xs,ob,e1,hX,e2⟩ o _=>?_;subst e1 e2
 have hXl:=hX.len;refine tt ?_;refine newRef_own o fun id7 H o=>tt ?_;refine sw o fun H o=>tt ?_
 have wo : IntKind.i64.wrap (c.objs+e.objs)=c.objs+e.objs:=wrap_i64 (by omega) (by omega);refine tw wo ?_;refine sw o fun H o=>tt ?_
 have o : Owns H0 H (sumO id7 id4 (c.objs+e.objs) a c.frm b c.to i c.idn d Xs ob):=o
 refine awp_for [3,4,5,6,7] (G:=Nat × List Int) (fun k _=>[(8,some (.int .i64 (k : Int)))])
  (fun k g H=>g.2=c.idn++shI c.frm.length (e.idn.take k)∧Owns H0 H (sumO id7 id4 (c.objs+e.objs) a c.frm b c.to g.1 g.2 d Xs ob)) e.objs.toNat (i,c.idn) ⟨by simp [shI],o⟩ rfl ?_
 clear o
 rintro k ⟨i,I⟩ H hk ⟨hIe,o⟩;dsimp only at hIe
 have hI : I.length=c.idn.length+k:=by rw [hIe,List.length_append,shI_len,List.length_take]; omega
 dsimp only at o;unfold sumO at o;refine tt ?_;apply bk <;> intro h1
 ·have h1p:=of_decide h1
  have w:=wsucc (k:=k) (by omega);refine tt ?_;refine rd_cells o (by simp) ?_;refine tt ?_;refine ⟨by omega, ?_⟩
  have ei:=(et.idn k (by omega)).1
  have w2 : IntKind.i64.wrap (e.idn.getD k default+c.frm.length)=e.idn.getD k default+c.frm.length:=wrap_i64 (by omega) (by omega);refine tw w2 ?_;refine app_own' _ (o.pull [_,_,_]) rfl rfl (by simp only [maxL]; omega) fun i H I2 eI hI2 o=>tt ?_;refine sw o.swap fun H o=>?_;refine tw w ?_;refine for_next (i,I2) (by omega) ⟨by show I2=_; rw [eI,hIe,List.append_assoc,shI_take (by omega)], ?_⟩ rfl
  try unfold sumO
  exact o.pm
 ·have h1p:=of_ndecide h1
  have hIl : I.length=c.idn.length+e.objs.toNat:=by omega
  have hke : k=e.objs.toNat:=by omega
  have hIe2 : I=c.idn++shI c.frm.length e.idn:=by rw [hIe,List.take_of_length_le (by omega)]
  clear h1 h1p hk hI hIe;refine tt ?_
  refine awp_for [3,4,5,6,7] (G:=List AV × Ob × List (List Int)) (fun f _=>[(9,some (.int .i64 (f : Int)))])
   (fun f g H=>LsR iI g.1 g.2.2 g.2.1∧g.2.2.length=c.frm.length∧(∀ x,x<c.frm.length→g.2.2.getD x []=c.comp.getD x default++List.replicate (if x<f then e.frm.length else 0) (-1)) ∧
    Owns H0 H (sumO id7 id4 (c.objs+e.objs) a c.frm b c.to i I d g.1 g.2.1)) c.frm.length (Xs,ob,c.comp) ⟨hX,ccl,fun x hx=>by rw [if_neg (by omega),List.replicate_zero,List.append_nil]; rfl,o⟩ rfl ?_
  clear o hX hXl
  rintro f ⟨Xs,ob,As⟩ H hf ⟨hX,hAl,hAr,o⟩;dsimp only at hX hAl hAr o
  have hXl:=hX.len;unfold sumO at o;refine tt ?_;refine rd_cells o (by simp) ?_;refine tt ?_;apply bk <;> intro h1
  ·have h1p:=of_decide h1
   have hf1 : f<c.frm.length:=by omega
   clear h1 h1p;refine tt ?_
   refine awp_for [3,4,5,6,7,9] (G:=List AV × Ob × List (List Int)) (fun j _=>[(10,some (.int .i64 (j : Int)))])
    (fun j g H=>LsR iI g.1 g.2.2 g.2.1∧g.2.2.length=c.frm.length∧(∀ x,x<c.frm.length→g.2.2.getD x []=c.comp.getD x default++List.replicate (if x<f then e.frm.length else if x=f then j else 0) (-1)) ∧
     Owns H0 H (sumO id7 id4 (c.objs+e.objs) a c.frm b c.to i I d g.1 g.2.1)) e.frm.length (Xs,ob,As) ⟨hX,hAl,fun x hx=>by rw [hAr x hx]; split <;> simp,o⟩ rfl ?_
   clear o hX hXl hAl hAr
   rintro j ⟨Xs,ob,As⟩ H hj ⟨hX,hAl,hAr,o⟩;dsimp only at hX hAl hAr o
   have hXl:=hX.len;unfold sumO at o;refine tt ?_;apply bk <;> intro h2
   ·have h2p:=of_decide h2
    have w:=wsucc (k:=j) (by omega);refine tt ?_;refine ⟨⟨_,_,o.h0⟩,rd_cells o (by simp) ?_⟩;refine tt ?_;refine ⟨⟨_,_,o.h0⟩,rd_cells o (by simp) ?_⟩;refine tt ?_;refine ⟨by omega, ?_⟩
    have od:=o.pull [_,_,_,_];simp only [List.cons_append,List.nil_append] at od;refine rd_cells od (by omega) ?_;refine tt ?_
    have od2 : Owns H0 H ((d,MObj.cells 1 Xs 0)::(ob++[(id7,MObj.cells 5 [iI (c.objs+e.objs),.buf a c.frm.length,.buf b c.to.length,.buf i I.length,.buf d Xs.length] 0),(a,MObj.cells 1 (c.frm.map iI) 0),(b,MObj.cells 1 (c.to.map iI) 0),(i,MObj.cells 1 (I.map iI) 0),(id4,MObj.cells 5 [iI 0,.nilsl,.nilsl,.nilsl,.nilsl] 0)])):=od.pm
    have hrowE:=hAr f hf1;rw [if_neg (by omega),if_pos rfl] at hrowE
    have hrow : (As.getD f []).length=c.frm.length+j:=by rw [hrowE,List.length_append,crow f hf1,List.length_replicate]
    refine rows_app od2 hX (by omega) (-1) rfl (by simp only [maxL]; omega) fun X' ob' H hX1 hX' o=>?_;try simp only [go_sem,↓reduceIte,reduceEqDiff,reduceAdd,reduceMul,reduceLeDiff,reduceLT,AV.cells_one hX1]
    refine ⟨by omega,st_cells o (by omega) (by (try simp only [go_sem]); (try simp)) (by simp [hX1]) fun H o=>?_⟩
    have hw : wr Xs f [X']=Xs.set f X':=rfl;rw [hw] at o;refine tw w ?_
    have hXl2 : (Xs.set f X').length=Xs.length:=by simp
    refine for_next (Xs.set f X',ob',As.set f (As.getD f []++[-1])) h2p ⟨hX',by simp [hAl],fun x hx=>?_, ?_⟩ rfl
    ·show (As.set f (As.getD f []++[-1])).getD x []=_
     rw [getD_set]
     by_cases hxf : f=x
     ·subst hxf;rw [if_pos ⟨rfl,by omega⟩,hrowE,if_neg (by omega),if_pos rfl,List.append_assoc,← List.replicate_succ']
     ·rw [if_neg (fun q=>hxf q.1),hAr x hx]
      by_cases hx2 : x<f
      ·rw [if_pos hx2,if_pos hx2]
      ·rw [if_neg hx2,if_neg hx2,if_neg (by omega),if_neg (by omega)]
    ·try unfold sumO
     try rw [hXl2]
     exact o.pm
   ·have h2p:=of_ndecide h2
    have w:=wsucc (k:=f) (by omega);refine tw w ?_;refine for_next (Xs,ob,As) hf1 ⟨hX,hAl,fun x hx=>?_,o⟩ rfl
    have:=hAr x hx
    show As.getD x []=_
    rw [this]
    by_cases hx2 : x<f
    ·rw [if_pos hx2,if_pos (by omega)]
    ·by_cases hx3 : x=f
     ·rw [if_neg hx2,if_pos hx3,if_pos (by omega),show j=e.frm.length by omega]
     ·rw [if_neg hx2,if_neg hx3,if_neg (by omega)]
  ·have h1p:=of_ndecide h1
   have hAr2 : ∀ x,x<c.frm.length→As.getD x []=c.comp.getD x default++List.replicate e.frm.length (-1):=fun x hx=>by rw [hAr x hx,if_pos (by omega)]
   clear h1 h1p hf hAr;refine tt ?_
   refine awp_for [3,4,5,6,7] (G:=(Nat × List Int) × (Nat × List Int) × Nat × List AV × Ob × List (List Int)) (fun f _=>[(11,some (.int .i64 (f : Int)))])
    (fun f g H=>g.1.2=c.frm++shI c.objs (e.frm.take f)∧g.2.1.2=c.to++shI c.objs (e.to.take f)∧LsR iI g.2.2.2.1 g.2.2.2.2.2 g.2.2.2.2.1∧g.2.2.2.2.2.length=c.frm.length+f∧(∀ x,x<c.frm.length→g.2.2.2.2.2.getD x []=c.comp.getD x default++List.replicate e.frm.length (-1)) ∧
     (∀ x,x<f→g.2.2.2.2.2.getD (c.frm.length+x) []=List.replicate c.frm.length (-1)++(List.range e.frm.length).map (psiS c e x)) ∧
     Owns H0 H (sumO id7 id4 (c.objs+e.objs) g.1.1 g.1.2 g.2.1.1 g.2.1.2 i I g.2.2.1 g.2.2.2.1 g.2.2.2.2.1)) e.frm.length ((a,c.frm),(b,c.to),d,Xs,ob,As) ⟨by simp [shI],by simp [shI],hX,hAl,hAr2,fun x hx=>by omega,o⟩ rfl ?_
   clear o hX hXl hAl hAr2
   rintro f ⟨⟨a,A⟩,⟨b,C⟩,d,Xs,ob,As⟩ H hf ⟨hAe,hCe,hX,hAl,hAr,hBr,o⟩;dsimp only at hAe hCe
   have hA : A.length=c.frm.length+f:=by rw [hAe,List.length_append,shI_len,List.length_take]; omega
   have hC : C.length=c.frm.length+f:=by rw [hCe,List.length_append,shI_len,List.length_take]; omega
   dsimp only at hX hAl hAr hBr o
   have hXl:=hX.len;unfold sumO at o;refine tt ?_;apply bk <;> intro h1
   ·have h1p:=of_decide h1
    have ef:=et.frm f h1p
    have eto:=et.to f h1p
    have wf : IntKind.i64.wrap (e.frm.getD f default+c.objs)=e.frm.getD f default+c.objs:=wrap_i64 (by omega) (by omega)
    have wt : IntKind.i64.wrap (e.to.getD f default+c.objs)=e.to.getD f default+c.objs:=wrap_i64 (by omega) (by omega);refine tt ?_;refine rd_cells o (by simp) ?_;refine tw wf ?_;refine ⟨h1p,app_own' _ o.swap rfl rfl (by simp only [maxL]; omega) fun a H A2 eA2 hA2 o=>?_⟩;refine tt ?_;refine sw o.swap fun H o=>tt ?_;refine rd_cells o (by simp) ?_;refine tw wt ?_;refine ⟨by omega,app_own' _ (o.pull [_,_]) rfl rfl (by simp only [maxL]; omega) fun b H C2 eC2 hC2 o=>?_⟩;refine tt ?_;refine sw o.swap fun H o=>tt ?_
    have o : Owns H0 H (sumO id7 id4 (c.objs+e.objs) a A2 b C2 i I d Xs ob):=by
     try unfold sumO
     exact o.pm
    refine newBuf_own o fun idr H o=>tt ?_
    refine awp_for [3,4,5,6,7,11] (G:=Nat × List Int) (fun j g=>[(12,some (.buf g.1 g.2.length)),(13,some (.int .i64 (j : Int)))])
     (fun j g H=>g.2=List.replicate j (-1)∧Owns H0 H ((g.1,MObj.cells 1 (g.2.map iI) 0)::sumO id7 id4 (c.objs+e.objs) a A2 b C2 i I d Xs ob)) c.frm.length (idr,[]) ⟨rfl,o⟩ rfl ?_
    clear o
    rintro j ⟨idr,row⟩ H hj ⟨hrE,o⟩;dsimp only at hrE
    have hr : row.length=j:=by rw [hrE]; simp
    dsimp only at o;refine tt ?_;apply bk <;> intro h2
    ·have h2p:=of_decide h2
     have w:=wsucc (k:=j) (by omega);refine tt ?_;refine app_own' _ o rfl rfl (by simp only [maxL]; omega) fun idr H row2 er2 hrow2 o=>?_;refine tw w ?_;exact for_next (idr,row2) h2p ⟨by show row2=_; rw [er2,hrE,← List.replicate_succ'],o⟩ rfl
    ·have h2p:=of_ndecide h2
     have hrm : row=List.replicate c.frm.length (-1):=by rw [hrE,show j=c.frm.length by omega]
     clear h2 h2p hj hr hrE;refine tt ?_
     refine awp_for [3,4,5,6,7,11] (G:=Nat × List Int) (fun j g=>[(12,some (.buf g.1 g.2.length)),(14,some (.int .i64 (j : Int)))])
      (fun j g H=>g.2=List.replicate c.frm.length (-1)++(List.range j).map (psiS c e f)∧Owns H0 H ((g.1,MObj.cells 1 (g.2.map iI) 0)::sumO id7 id4 (c.objs+e.objs) a A2 b C2 i I d Xs ob)) e.frm.length (idr,row) ⟨by simp [hrm],o⟩ rfl ?_
     clear o hrm
     rintro j ⟨idr,row⟩ H hj ⟨hrE,o⟩;dsimp only at hrE
     have hr : row.length=c.frm.length+j:=by rw [hrE]; simp
     dsimp only at o;refine tt ?_;apply bk <;> intro h3
     ·have h3p:=of_decide h3
      have w:=wsucc (k:=j) (by omega)
      have her:=erow f (by omega);refine tt ?_;refine ⟨by omega,by omega, ?_⟩
      have hbd:=et.bound (f:=f) (g:=j) h1p h3p
      have ecE : compE e f j=(e.comp.getD f default).getD j default:=rfl;rw [ecE] at hbd
      have wh : IntKind.i64.wrap ((e.comp.getD f default).getD j default+c.frm.length)=(e.comp.getD f default).getD j default+c.frm.length:=wrap_i64 (by omega) (by omega);apply bk <;> intro h4
      ·have h4p : 0≤compE e f j:=by rw [ecE]; have:=of_decide h4; exact this
       refine tw wh ?_;refine app_own' _ o rfl rfl (by simp only [maxL]; omega) fun idr H row2 er2 hrow2 o=>?_;refine tw w ?_;exact for_next (idr,row2) h3p ⟨by show row2=_; rw [er2,hrE,List.append_assoc,List.range_succ,List.map_append,List.map_singleton,psiS,if_pos h4p]; rfl,o⟩ rfl
      ·have h4p : ¬ 0≤compE e f j:=by rw [ecE]; have:=of_ndecide h4; exact this
       refine tt ?_;refine app_own' _ o rfl rfl (by simp only [maxL]; omega) fun idr H row2 er2 hrow2 o=>?_;refine tw w ?_;exact for_next (idr,row2) h3p ⟨by show row2=_; rw [er2,hrE,List.append_assoc,List.range_succ,List.map_append,List.map_singleton,psiS,if_neg h4p]; rfl,o⟩ rfl
     ·have h3p:=of_ndecide h3
      have w:=wsucc (k:=f) (by omega);unfold sumO at o;refine tt ?_;refine rd_cells o.tl (by simp) ?_;refine tt ?_;refine app_raw (o.pull [_,_,_,_,_]) rfl rfl rfl (by simp only [maxL]; omega) fun d H o=>tt ?_
      have o:=o.pull [_,_];simp only [List.cons_append,List.nil_append] at o;refine sw o fun H o=>?_;refine tw w ?_
      have hXl2 : (Xs++[AV.buf idr row.length]).length=Xs.length+1:=by simp
      refine for_next ((a,A2),(b,C2),d,Xs++[AV.buf idr row.length],ob++[(idr,MObj.cells 1 (row.map iI) 0)],As++[row]) h1p ⟨by show A2=_; rw [eA2,hAe,List.append_assoc,shI_take h1p],by show C2=_; rw [eC2,hCe,List.append_assoc,shI_take (by omega)],hX.snoc' (.inr ⟨idr,rfl,rfl⟩),by simp; omega,fun x hx=>?_,fun x hx=>?_, ?_⟩ rfl
      ·show (As++[row]).getD x []=_
       rw [getD_l (by omega)]; exact hAr x hx
      ·show (As++[row]).getD (c.frm.length+x) []=_
       by_cases hx2 : x<f
       ·rw [getD_l (by omega)]; exact hBr x hx2
       ·have hxf : x=f:=by omega
        rw [getD_r (by omega),hxf,hAl,Nat.sub_self]
        show row=_
        rw [hrE,show j=e.frm.length by omega]
      ·try unfold sumO
       try rw [hXl2]
       exact o.pm
   ·have h1p:=of_ndecide h1
    obtain rfl : f=e.frm.length:=by omega
    refine tt ?_;refine rd_celln o (by simp) ?_;refine tt ?_
    have o : Owns H0 H ((id4,MObj.cells 5 [iI 0,.nilsl,.nilsl,.nilsl,.nilsl] 0)::(id7,MObj.cells 5 [iI (c.objs+e.objs),.buf a A.length,.buf b C.length,.buf i I.length,.buf d Xs.length] 0)::(a,MObj.cells 1 (A.map iI) 0)::(b,MObj.cells 1 (C.map iI) 0)::(i,MObj.cells 1 (I.map iI) 0)::(d,MObj.cells 1 Xs 0)::ob):=o.pm;refine sw o fun H o=>tt ?_
    have hr2:=o.rc 5 0 (by simp);simp only [List.drop_zero] at hr2;rw [hr2];refine tt ?_
    have hAf : A=(sumC c e).frm:=by rw [hAe,List.take_length]; rfl
    have hCf : C=(sumC c e).to:=by rw [hCe,List.take_of_length_le (by omega)]; rfl
    have hIf : I=(sumC c e).idn:=hIe2
    have hDf : As=(sumC c e).comp:=sum_comp hAl crow hAr hBr;subst hAf hCf hIf hDf;exact ⟨H,.refl H,_,⟨a,b,i,d,Xs,ob,rfl,hX,rfl⟩,o.tl.tl⟩
theorem l03Join_ok (B N M : Nat) (hNM : N+M≤4096) (hNM2 : N*M≤65536) (c e : Cat) (hc : c.Good N) (he : e.Good M) : Rets B 217 [.agg c.cells,.agg e.cells] (CatQ (N+M+N*M)):=by
 intro H0;refine c217p (by simp) fun _=>?_
 have cob:=hc.1.ob
 have eob:=he.1.ob;unfold s217p;refine tt ?_;refine newRef_own (.nil _) fun id4 H o=>tt ?_;refine New.go' (l03Sum_new B N M hNM c e hc he) o fun X1 p1 H ⟨a,b,i,d,Xs,ob,e1,hX,e2⟩ o _=>?_;subst e1 e2
 have hXl:=hX.len
 have hgq:=sumC_good hc he
 obtain ⟨q,hq⟩ : ∃ q,sumC c e=q:=⟨_,rfl⟩;rw [hq] at o hX hXl hgq;rw [hq]
 obtain ⟨⟨qob,qil,qml,qtl,qcl,qrow⟩,qt⟩:=hgq
 obtain ⟨qo,A,C,I,As⟩:=q
 have hqA : (sumC c e).frm=A:=by rw [hq]
 have hqC : (sumC c e).to=C:=by rw [hq]
 have hqI : (sumC c e).idn=I:=by rw [hq]
 have hqo : c.objs+e.objs=qo:=congrArg Cat.objs hq
 have hqD : ∀ f g,compE (sumC c e) f g=(As.getD f default).getD g default:=fun f g=>by rw [hq]; rfl
 have qbd:=fun f g hf hg=>qt.bound (f:=f) (g:=g) hf hg;simp only at qob qil qml qtl qcl qrow hX hXl qbd;refine tt ?_;refine newRef_own o fun id5 H o=>tt ?_;refine sw o fun H o=>tt ?_
 have o : Owns H0 H (sumO id5 id4 qo a A b C i I d Xs ob):=o;unfold sumO at o;refine rd_cells o (by simp) ?_;refine tt ?_
 obtain ⟨m,hm⟩ : ∃ m,A.length=m:=⟨_,rfl⟩
 have hCl : C.length=m:=by omega
 rw [hm]
 refine awp_for [2,3,4,5,6] (G:=(Nat × List Int) × (Nat × List Int)) (fun k _=>[(7,some (.int .i64 (k : Int)))])
  (fun k g H=>g.1.2=(sumC c e).frm++(crF c.objs.toNat e.objs.toNat).take (k*e.objs.toNat)∧g.2.2=(sumC c e).to++(crT c.objs.toNat e.objs.toNat).take (k*e.objs.toNat)∧Owns H0 H (sumO id5 id4 qo g.1.1 g.1.2 g.2.1 g.2.2 i I d Xs ob)) c.objs.toNat ((a,A),(b,C)) ⟨by simp [hqA],by simp [hqC],by unfold sumO; exact o⟩ rfl ?_
 clear o
 have hcF : (crF c.objs.toNat e.objs.toNat).length=c.objs.toNat*e.objs.toNat:=by simp [crF]
 have hcT : (crT c.objs.toNat e.objs.toNat).length=c.objs.toNat*e.objs.toNat:=by simp [crT]
 have qml0:=qml
 rintro k ⟨⟨a,A'⟩,⟨b,C'⟩⟩ H hk ⟨hAe,hCe,o⟩;dsimp only at hAe hCe
 have hkk : k*e.objs.toNat≤c.objs.toNat*e.objs.toNat:=Nat.mul_le_mul_right _ hk
 have hA : A'.length=m+k*e.objs.toNat:=by rw [hAe,List.length_append,List.length_take,hqA,hm,hcF]; omega
 have hC : C'.length=A'.length:=by rw [hA,hCe,List.length_append,List.length_take,hqC,hCl,hcT]; omega
 have hA1 : m≤A'.length:=by omega
 dsimp only at o
 have hMe : ∀ x,x≤c.objs.toNat→x*e.objs.toNat≤N*M:=fun x hx=>Nat.mul_le_mul (by omega) (by omega);refine tt ?_;apply bk <;> intro h1
 ·have h1p:=of_decide h1
  have hk1 : k+1≤c.objs.toNat:=by omega
  have h1k : k<c.objs.toNat:=hk1;refine tt ?_
  refine awp_for [2,3,4,5,6,7] (G:=(Nat × List Int) × (Nat × List Int)) (fun j _=>[(8,some (.int .i64 (j : Int)))])
   (fun j g H=>g.1.2=(sumC c e).frm++(crF c.objs.toNat e.objs.toNat).take (k*e.objs.toNat+j)∧g.2.2=(sumC c e).to++(crT c.objs.toNat e.objs.toNat).take (k*e.objs.toNat+j)∧Owns H0 H (sumO id5 id4 qo g.1.1 g.1.2 g.2.1 g.2.2 i I d Xs ob)) e.objs.toNat ((a,A'),(b,C')) ⟨hAe,hCe,o⟩ rfl ?_
  clear o hC hA1 hA hAe hCe
  rintro j ⟨⟨a,A'⟩,⟨b,C'⟩⟩ H hj ⟨hAe,hCe,o⟩;dsimp only at hAe hCe
  have hkk1 : (k+1)*e.objs.toNat≤c.objs.toNat*e.objs.toNat:=Nat.mul_le_mul_right _ hk1;rw [Nat.succ_mul] at hkk1
  have hA : A'.length=m+k*e.objs.toNat+j:=by rw [hAe,List.length_append,List.length_take,hqA,hm,hcF]; omega
  have hC : C'.length=A'.length:=by rw [hA,hCe,List.length_append,List.length_take,hqC,hCl,hcT]; omega
  have hA1 : m≤A'.length:=by omega
  dsimp only at o
  have hM1:=hMe (k+1) hk1;rw [Nat.succ_mul] at hM1;refine tt ?_;apply bk <;> intro h2
  ·have h2p:=of_decide h2
   have w:=wsucc (k:=j) (by omega)
   have hjl : j<e.objs.toNat:=by omega
   have wc : IntKind.i64.wrap (c.objs+(j : Int))=c.objs+(j : Int):=wrap_i64 (by omega) (by omega);unfold sumO at o;refine tt ?_;refine rd_cells o (by simp) ?_;refine tt ?_;refine app_own' _ o.swap rfl rfl (by simp only [maxL]; omega) fun a H A2 eA2 hA2 o=>tt ?_;refine sw o.swap fun H o=>tt ?_;refine rd_cells o (by simp) ?_;refine tw wc ?_;refine app_own' _ (o.pull [_,_]) rfl rfl (by simp only [maxL]; omega) fun b H C2 eC2 hC2 o=>tt ?_;refine sw o.swap fun H o=>?_;refine tw w ?_;refine for_next ((a,A2),(b,C2)) (by omega) ⟨?_, ?_, ?_⟩ rfl
   ·show A2=_
    rw [eA2,hAe,List.append_assoc,← Nat.add_assoc,take_succ' _ (by omega),crF,getD_map_range _ _ (mk_lt h1k hjl),(div_mk hjl).1]
   ·show C2=_
    rw [eC2,hCe,List.append_assoc,← Nat.add_assoc,take_succ' _ (by omega),crT,getD_map_range _ _ (mk_lt h1k hjl),(div_mk hjl).2,Int.natCast_add,Int.toNat_of_nonneg cob.1]
   try unfold sumO
   exact o.pm
  ·have h2p:=of_ndecide h2
   have w:=wsucc (k:=k) (by omega);refine tw w ?_
   have hje : j=e.objs.toNat:=by omega
   exact for_next ((a,A'),(b,C')) (by omega) ⟨by show A'=_; rw [hAe,hje,Nat.succ_mul],by show C'=_; rw [hCe,hje,Nat.succ_mul],o⟩ rfl
 ·have h1p:=of_ndecide h1
  have hke : k=c.objs.toNat:=by omega
  have hAF : A'=jnF c e:=by rw [hAe,hke,← hcF,List.take_length]; rfl
  have hCF : C'=joinT c e:=by rw [hCe,hke,← hcT,List.take_length]; rfl
  have hgj:=joinC_good hc he
  have hAb : A'.length≤N+M+N*M:=by have:=hMe k hk; omega
  have hAm : A'.length=(sumC c e).frm.length+c.objs.toNat*e.objs.toNat:=by rw [hA,hke,hqA,hm]
  have hAr : ∀ f,f<A'.length→0≤A'.getD f default∧A'.getD f default<c.objs+e.objs:=fun f hf=>by
   have:=hgj.2.frm f (by show f<(jnF c e).length; rw [← hAF]; exact hf);rw [hAF]; exact this
  have hCr : ∀ f,f<A'.length→0≤C'.getD f default∧C'.getD f default<c.objs+e.objs:=fun f hf=>by
   have:=hgj.2.to f (by show f<(jnF c e).length; rw [← hAF]; exact hf);rw [hCF]; exact this
  clear h1 h1p hk hA hAe hCe;unfold sumO at o;refine tt ?_
  have od : Owns H0 H ((d,MObj.cells 1 Xs 0)::(ob++[(id5,MObj.cells 5 [iI qo,.buf a A'.length,.buf b C'.length,.buf i I.length,.buf d Xs.length] 0),(a,MObj.cells 1 (A'.map iI) 0),(b,MObj.cells 1 (C'.map iI) 0),(i,MObj.cells 1 (I.map iI) 0),(id4,MObj.cells 5 [iI 0,.nilsl,.nilsl,.nilsl,.nilsl] 0)])):=o.pm;refine wk_rows hX [] H od fun H o=>?_;simp only [List.nil_append] at o
  have o : Owns H0 H [(id5,MObj.cells 5 [iI qo,.buf a A'.length,.buf b C'.length,.buf i I.length,.buf d Xs.length] 0),(d,MObj.cells 1 (As.map iL) 0),(a,MObj.cells 1 (A'.map iI) 0),(b,MObj.cells 1 (C'.map iI) 0),(i,MObj.cells 1 (I.map iI) 0),(id4,MObj.cells 5 [iI 0,.nilsl,.nilsl,.nilsl,.nilsl] 0)]:=o.pm;refine wk_cell 4 o rfl hXl fun H o=>?_;simp only [List.set_cons_zero,List.set_cons_succ] at o;refine wk_cell 1 o rfl rfl fun H o=>?_;simp only [List.set_cons_zero,List.set_cons_succ] at o;refine wk_cell 2 o rfl rfl fun H o=>?_;simp only [List.set_cons_zero,List.set_cons_succ] at o;refine wk_cell 3 o rfl rfl fun H o=>wkW_done ?_;simp only [List.set_cons_zero,List.set_cons_succ] at o;clear od;refine tt ?_;refine newBuf_own o fun idt H o=>tt ?_
  refine awp_for [2,3,4,5,6] (G:=Nat × List (List Int)) (fun f g=>[(9,some (.buf g.1 g.2.length)),(10,some (.int .i64 (f : Int)))])
   (fun f g H=>g.2=(List.range f).map (fun f=>(List.range A'.length).map (joinP c e f))∧Owns H0 H [(g.1,MObj.cells 1 (g.2.map iL) 0),(id5,MObj.cells 5 [iI qo,iL A',iL C',iL I,iLL As] 0),(id4,MObj.cells 5 [iI 0,.nilsl,.nilsl,.nilsl,.nilsl] 0)]) A'.length (idt,[]) ⟨rfl,o⟩ rfl ?_
  clear o
  rintro f ⟨idt,T⟩ H hf ⟨hTe,o⟩;dsimp only at hTe
  have hT : T.length=f:=by rw [hTe]; simp
  dsimp only at o;refine tt ?_;refine rd_cells o.tl (by simp) ?_;refine tt ?_;apply bk <;> intro h2
  ·have h2p:=of_decide h2;refine tt ?_;refine newBuf_own o fun idr H o=>tt ?_
   refine awp_for [2,3,4,5,6,9,10] (G:=Nat × List Int) (fun g r=>[(11,some (.buf r.1 r.2.length)),(12,some (.int .i64 (g : Int)))])
    (fun g r H=>r.2=(List.range g).map (joinP c e f)∧Owns H0 H [(r.1,MObj.cells 1 (r.2.map iI) 0),(idt,MObj.cells 1 (T.map iL) 0),(id5,MObj.cells 5 [iI qo,iL A',iL C',iL I,iLL As] 0),(id4,MObj.cells 5 [iI 0,.nilsl,.nilsl,.nilsl,.nilsl] 0)]) A'.length (idr,[]) ⟨rfl,o⟩ rfl ?_
   clear o
   rintro g ⟨idr,row⟩ H hg ⟨hrE,o⟩;dsimp only at hrE
   have hr : row.length=g:=by rw [hrE]; simp
   dsimp only at o;refine tt ?_;refine rd_cells o.tl.tl (by simp) ?_;refine tt ?_;apply bk <;> intro h3
   ·have h3p:=of_decide h3
    have w:=wsucc (k:=g) (by omega)
    have hfa:=hAr f h2p
    have hga:=hAr g h3p
    have hgc:=hCr g h3p
    have hmA : m+c.objs.toNat*e.objs.toNat=A'.length:=by rw [hAm,hqA,hm]
    refine tt ?_;refine rd_cells o.tl.tl (by simp) ?_;refine tt ?_;refine ⟨by omega,rd_cells o.tl.tl (by simp) ?_⟩;refine tt ?_;refine ⟨by omega,tt ?_⟩;apply bk <;> intro h4
    ·have jp : joinP c e f g=-1:=if_pos (by rw [← hAF,← hCF]; simpa using h4);refine tt ?_;refine app_own' _ o rfl rfl (by simp only [maxL]; omega) fun idr H row2 er2 hrow2 o=>?_;refine tw w ?_;exact for_next (idr,row2) h3p ⟨by show row2=_; rw [er2,hrE,List.range_succ,List.map_append,List.map_singleton,jp],o⟩ rfl
    ·have h4p : ¬ (joinT c e).getD f default≠(jnF c e).getD g default:=by rw [← hAF,← hCF]; simpa using h4
     have jp0 : joinP c e f g=if f<m∧g<m then (As.getD f default).getD g default else (m : Int)+A'.getD f default*e.objs+C'.getD g default - c.objs:=by
      rw [joinP,if_neg h4p,hqD,hqA,hm,hAF,hCF]
     have mb : 0≤A'.getD f default*e.objs∧A'.getD f default*e.objs≤65536*65536:=⟨Int.mul_nonneg hfa.1 eob.1,Int.mul_le_mul (by omega) (by omega) eob.1 (by omega)⟩
     have w1 : IntKind.i64.wrap (A'.getD f default*e.objs)=A'.getD f default*e.objs:=wrap_i64 (by omega) (by omega)
     have w2 : IntKind.i64.wrap ((m : Int)+A'.getD f default*e.objs)=(m : Int)+A'.getD f default*e.objs:=wrap_i64 (by omega) (by omega)
     have w3 : IntKind.i64.wrap ((m : Int)+A'.getD f default*e.objs+C'.getD g default)=(m : Int)+A'.getD f default*e.objs+C'.getD g default:=wrap_i64 (by omega) (by omega)
     have w4 : IntKind.i64.wrap ((m : Int)+A'.getD f default*e.objs+C'.getD g default - c.objs)=(m : Int)+A'.getD f default*e.objs+C'.getD g default - c.objs:=wrap_i64 (by omega) (by omega);refine tt ?_;apply bk <;> intro h5
     ·have h5p:=of_decide h5;refine tw h5 ?_;apply bk <;> intro h6
      ·have h6p:=of_decide h6
       have hq:=qrow f (by omega);refine tt ?_;refine rd_cells o.tl.tl (by simp) ?_;refine tt ?_;refine ⟨by omega,by omega, ?_⟩;refine app_own' _ o rfl rfl (by simp only [maxL]; omega) fun idr H row2 er2 hrow2 o=>?_;refine tw w ?_;exact for_next (idr,row2) h3p ⟨by show row2=_; rw [er2,hrE,List.range_succ,List.map_append,List.map_singleton,jp0,if_pos ⟨by omega,by omega⟩],o⟩ rfl
      ·have h6p:=of_ndecide h6;refine tt ?_;refine rd_cells o.tl.tl (by simp) ?_;refine tt ?_;refine ⟨by omega,tt ?_⟩;refine rd_cells o.tl.tl (by simp) ?_;refine tt ?_;refine ⟨by omega,tt ?_⟩;refine app_own' _ o rfl rfl (by simp only [maxL]; omega) fun idr H row2 er2 hrow2 o=>?_;refine tw w ?_;exact for_next (idr,row2) h3p ⟨by show row2=_; rw [er2,hrE,List.range_succ,List.map_append,List.map_singleton,jp0,if_neg (by omega),w1,w2,w3,w4],o⟩ rfl
     ·have h5p:=of_ndecide h5;refine tw h5 ?_;refine rd_cells o.tl.tl (by simp) ?_;refine tt ?_;refine ⟨by omega,tt ?_⟩;refine rd_cells o.tl.tl (by simp) ?_;refine tt ?_;refine ⟨by omega,tt ?_⟩;refine app_own' _ o rfl rfl (by simp only [maxL]; omega) fun idr H row2 er2 hrow2 o=>?_;refine tw w ?_;exact for_next (idr,row2) h3p ⟨by show row2=_; rw [er2,hrE,List.range_succ,List.map_append,List.map_singleton,jp0,if_neg (by omega),w1,w2,w3,w4],o⟩ rfl
   ·have h3p:=of_ndecide h3
    have w:=wsucc (k:=f) (by omega);refine tt ?_;refine fz_own o rfl fun H o=>tt ?_;refine app_own row o rfl rfl (by simp only [maxL]; omega) fun idt H o=>?_;refine tw w ?_
    have hge : g=A'.length:=by omega
    refine for_next (idt,T++[row]) h2p ⟨?_,o⟩ rfl
    show T++[row]=_
    rw [hTe,hrE,hge,List.range_succ (n:=f),List.map_append]; rfl
  ·have h2p:=of_ndecide h2;refine tt ?_;refine fz_own o rfl fun H o=>tt ?_;refine sw o fun H o=>tt ?_;refine rd_celln o (by simp) ?_;refine tt ?_;refine sw o.swap fun H o=>tt ?_
   have hr2:=o.rc 5 0 (by simp);simp only [List.drop_zero] at hr2;rw [hr2];refine tt ?_
   have hfe : f=A'.length:=by omega
   rw [hfe] at hTe
   have hD : T=(joinC c e).comp:=by rw [hTe,hAm]; rfl
   exact rets_ret ⟨joinC c e,by rw [hD,hAF,hCF,← hqI,← hqo]; rfl,hgj⟩ o.sub
@[go_sem] def prodO (id7 id4 : Nat) (x0 : Int) (a : Nat) (A : List Int) (b : Nat) (C : List Int) (i : Nat) (I : List Int) (d : Nat) (D : List (List Int)) : Ob :=
 [(id7,.cells 5 [iI x0,.buf a A.length,.buf b C.length,.buf i I.length,.buf d D.length] 0),(a,.cells 1 (A.map iI) 0),(b,.cells 1 (C.map iI) 0),(i,.cells 1 (I.map iI) 0),(d,.cells 1 (D.map iL) 0),(id4,.cells 5 [iI 0,.nilsl,.nilsl,.nilsl,.nilsl] 0)]
theorem l03ProductP (B N M : Nat) (hN : N≤65536) (hM : M≤65536) (hNM : N*M≤65536) (c e : Cat) (hc : c.Good N) (he : e.Good M) : Pur Tryz.prog B 166 [.agg c.cells,.agg e.cells] (.agg (prodC c e).cells):=by
 refine ⟨fun H0=>c166p (by simp) fun _=>?_⟩
 have hgood:=prodC_good hc he
 obtain ⟨⟨cob,cil,cml,ctl,ccl,crow⟩,ct⟩:=hc
 obtain ⟨⟨eob,eil,eml,etl,ecl,erow⟩,et⟩:=he
 have hei : e.idn.length=e.objs.toNat:=by omega
 have hci : c.idn.length=c.objs.toNat:=by omega
 have wpr : ∀ {a b p q : Int},0≤a∧a<p→p≤N→0≤b∧b<q→q≤M→IntKind.i64.wrap (a*q)=a*q∧IntKind.i64.wrap (a*q+b)=a*q+b:=fun {a b p q} ha hp hb hq=>by
  have h1:=pair_lt ha hb
  have h2 : p*q≤(N : Int)*(M : Int):=Int.mul_le_mul hp hq (by omega) (by omega)
  have h3 : ((N*M : Nat) : Int)=(N : Int)*(M : Int):=Int.natCast_mul N M
  have h4 : 0≤a*q:=Int.mul_nonneg ha.1 (by omega);exact ⟨wrap_i64 (by omega) (by omega),wrap_i64 (by omega) (by omega)⟩
 have hp0 : 0≤c.objs*e.objs:=Int.mul_nonneg cob.1 eob.1
 have hpN : c.objs*e.objs≤(N : Int)*(M : Int):=Int.mul_le_mul cob.2 eob.2 eob.1 (Int.natCast_nonneg N)
 have hpe : ((N*M : Nat) : Int)=(N : Int)*(M : Int):=Int.natCast_mul N M
 have wo : IntKind.i64.wrap (c.objs*e.objs)=c.objs*e.objs:=wrap_i64 (by omega) (by omega)
 have hoe : c.objs*e.objs=((c.objs.toNat*e.objs.toNat : Nat) : Int):=by rw [Int.natCast_mul,Int.toNat_of_nonneg cob.1,Int.toNat_of_nonneg eob.1]
 have hMo : ∀ x,x≤c.objs.toNat→x*e.objs.toNat≤N*M:=fun x hx=>Nat.mul_le_mul (by omega) (by omega)
 have hMf : ∀ x,x≤c.frm.length→x*e.frm.length≤N*M:=fun x hx=>Nat.mul_le_mul (by omega) (by omega);unfold s166p;refine tw wo ?_;refine newRef_own (.nil _) fun id4 H o=>?_;refine tw wo ?_;refine newBuf_own o fun a H o=>tt ?_;refine newBuf_own o fun b H o=>tt ?_;refine newBuf_own o fun i H o=>tt ?_;refine newBuf_own o fun d H o=>tt ?_;refine newRef_own o fun id7 H o=>tt ?_;refine sw o fun H o=>tt ?_
 refine awp_for [2,3,4,5,6,7] (G:=Nat × List Int) (fun k _=>[(8,some (.int .i64 (k : Int)))])
  (fun k g H=>g.2=(prL c.idn e.idn e.frm.length).take (k*e.objs.toNat)∧Owns H0 H (prodO id7 id4 (c.objs*e.objs) a [] b [] g.1 g.2 d [])) c.objs.toNat (i,[]) ⟨by simp,by unfold prodO; exact o.pm⟩ rfl ?_
 clear o
 rintro k ⟨i,I⟩ H hk ⟨hIe,o⟩;dsimp only at hIe
 have hpl : (prL c.idn e.idn e.frm.length).length=c.objs.toNat*e.objs.toNat:=by rw [prL_len,hci,hei]
 dsimp only at o;refine tt ?_;apply bk <;> intro h1
 ·have h1p:=of_decide h1
  have hk1:=hMo (k+1) (by omega);rw [Nat.succ_mul] at hk1;refine tt ?_
  refine awp_for [2,3,4,5,6,7,8] (G:=Nat × List Int) (fun j _=>[(9,some (.int .i64 (j : Int)))])
   (fun j g H=>g.2=(prL c.idn e.idn e.frm.length).take (k*e.objs.toNat+j)∧Owns H0 H (prodO id7 id4 (c.objs*e.objs) a [] b [] g.1 g.2 d [])) e.objs.toNat (i,I) ⟨hIe,o⟩ rfl ?_
  clear o hIe
  rintro j ⟨i,I⟩ H hj ⟨hIe,o⟩;dsimp only at hIe
  have hI : I.length≤k*e.objs.toNat+j:=by rw [hIe,List.length_take]; omega
  dsimp only at o;refine tt ?_;apply bk <;> intro h2
  ·have h2p:=of_decide h2
   have w:=wsucc (k:=j) (by omega)
   have h1k : k<c.objs.toNat:=by omega
   have h2j : j<e.objs.toNat:=by omega
   have wi:=wpr (ct.idn k (by omega)).1 (by omega) (et.idn j (by omega)).1 (by omega);unfold prodO at o;refine tt ?_;refine rd_cells o (by simp) ?_;try simp only [go_sem,↓reduceIte,reduceEqDiff,reduceAdd,reduceMul,reduceLeDiff,reduceLT,wi.1,wi.2]
   refine ⟨by omega,by omega, ?_⟩;refine app_own' _ (o.pull [_,_,_]) rfl rfl (by simp only [maxL]; omega) fun i H I2 eI2 hI2 o=>tt ?_;refine sw o.swap fun H o=>?_;refine tw w ?_;refine for_next (i,I2) (by omega) ⟨by show I2=_; rw [eI2,hIe,prL_take hei (by omega) h2j]; rfl, ?_⟩ rfl
   try unfold prodO
   exact o.pm
  ·have h2p:=of_ndecide h2
   have w:=wsucc (k:=k) (by omega);refine tw w ?_;exact for_next (i,I) (by omega) ⟨by show I=_; rw [hIe,show j=e.objs.toNat by omega,Nat.succ_mul],o⟩ rfl
 ·have h1p:=of_ndecide h1
  obtain rfl : k=c.objs.toNat:=by omega
  have hIf : I=(prodC c e).idn:=by rw [hIe,← hpl,List.take_length]; rfl
  have hI : I.length=c.objs.toNat*e.objs.toNat:=by rw [hIf]; exact hpl
  clear h1 h1p hk;refine tt ?_
  refine awp_for [2,3,4,5,6,7] (G:=(Nat × List Int) × (Nat × List Int) × (Nat × List (List Int))) (fun k _=>[(10,some (.int .i64 (k : Int)))])
   (fun k g H=>g.1.2=(prL c.frm e.frm e.objs).take (k*e.frm.length)∧g.2.1.2=(prL c.to e.to e.objs).take (k*e.frm.length)∧g.2.2.2=(List.range (k*e.frm.length)).map (fun f=>(List.range (c.frm.length*e.frm.length)).map (prodP c e f)) ∧
    Owns H0 H (prodO id7 id4 (c.objs*e.objs) g.1.1 g.1.2 g.2.1.1 g.2.1.2 i I g.2.2.1 g.2.2.2)) c.frm.length ((a,[]),(b,[]),(d,[])) ⟨by simp,by simp,by simp,o⟩ rfl ?_
  clear o
  rintro k ⟨⟨a,A⟩,⟨b,C⟩,⟨d,D⟩⟩ H hk ⟨hAe,hCe,hDe,o⟩;dsimp only at hAe hCe hDe
  have hAl : (prL c.frm e.frm e.objs).length=c.frm.length*e.frm.length:=prL_len _ _ _
  have hCl : (prL c.to e.to e.objs).length=c.frm.length*e.frm.length:=by rw [prL_len,ctl,etl]
  have hkm : k*e.frm.length≤c.frm.length*e.frm.length:=Nat.mul_le_mul_right _ hk
  have hA : A.length=k*e.frm.length:=by rw [hAe,List.length_take]; omega
  have hC : C.length=k*e.frm.length:=by rw [hCe,List.length_take]; omega
  have hD : D.length=k*e.frm.length:=by rw [hDe]; simp
  dsimp only at o;refine tt ?_;apply bk <;> intro h1
  ·have h1p:=of_decide h1
   have hk1:=hMf (k+1) (by omega);rw [Nat.succ_mul] at hk1
   have crk:=crow k h1p;refine tt ?_
   refine awp_for [2,3,4,5,6,7,10] (G:=(Nat × List Int) × (Nat × List Int) × (Nat × List (List Int))) (fun j _=>[(11,some (.int .i64 (j : Int)))])
    (fun j g H=>g.1.2=(prL c.frm e.frm e.objs).take (k*e.frm.length+j)∧g.2.1.2=(prL c.to e.to e.objs).take (k*e.frm.length+j)∧g.2.2.2=(List.range (k*e.frm.length+j)).map (fun f=>(List.range (c.frm.length*e.frm.length)).map (prodP c e f)) ∧
     Owns H0 H (prodO id7 id4 (c.objs*e.objs) g.1.1 g.1.2 g.2.1.1 g.2.1.2 i I g.2.2.1 g.2.2.2)) e.frm.length ((a,A),(b,C),(d,D)) ⟨hAe,hCe,hDe,o⟩ rfl ?_
   clear o hA hC hD hAe hCe hDe
   rintro j ⟨⟨a,A⟩,⟨b,C⟩,⟨d,D⟩⟩ H hj ⟨hAe,hCe,hDe,o⟩;dsimp only at hAe hCe hDe
   have hkm1 : (k+1)*e.frm.length≤c.frm.length*e.frm.length:=Nat.mul_le_mul_right _ h1p;rw [Nat.succ_mul] at hkm1
   have hA : A.length=k*e.frm.length+j:=by rw [hAe,List.length_take]; omega
   have hC : C.length=k*e.frm.length+j:=by rw [hCe,List.length_take]; omega
   have hD : D.length=k*e.frm.length+j:=by rw [hDe]; simp
   dsimp only at o;refine tt ?_;apply bk <;> intro h2
   ·have h2p:=of_decide h2
    have erj:=erow j h2p
    have wf:=wpr (ct.frm k h1p) (by omega) (et.frm j h2p) (by omega)
    have wt:=wpr (ct.to k h1p) (by omega) (et.to j h2p) (by omega);unfold prodO at o;refine tt ?_;refine rd_cells o (by simp) ?_;try simp only [go_sem,↓reduceIte,reduceEqDiff,reduceAdd,reduceMul,reduceLeDiff,reduceLT,wf.1,wf.2]
    refine ⟨by omega,by omega, ?_⟩;refine app_own' _ o.swap rfl rfl (by simp only [maxL]; omega) fun a H A2 eA2 hA2 o=>tt ?_;refine sw o.swap fun H o=>tt ?_;refine rd_cells o (by simp) ?_;try simp only [go_sem,↓reduceIte,reduceEqDiff,reduceAdd,reduceMul,reduceLeDiff,reduceLT,wt.1,wt.2]
    refine ⟨by omega,by omega, ?_⟩;refine app_own' _ (o.pull [_,_]) rfl rfl (by simp only [maxL]; omega) fun b H C2 eC2 hC2 o=>tt ?_;refine sw o.swap fun H o=>tt ?_
    have o : Owns H0 H (prodO id7 id4 (c.objs*e.objs) a A2 b C2 i I d D):=by
     try unfold prodO
     exact o.pm
    refine newBuf_own o fun idr H o=>tt ?_
    refine awp_for [2,3,4,5,6,7,10,11] (G:=Nat × List Int) (fun f g=>[(12,some (.buf g.1 g.2.length)),(13,some (.int .i64 (f : Int)))])
     (fun f g H=>g.2=(List.range (f*e.frm.length)).map (prodP c e (k*e.frm.length+j))∧Owns H0 H ((g.1,MObj.cells 1 (g.2.map iI) 0)::prodO id7 id4 (c.objs*e.objs) a A2 b C2 i I d D)) c.frm.length (idr,[]) ⟨by simp,o⟩ rfl ?_
    clear o
    rintro f ⟨idr,row⟩ H hf ⟨hrE,o⟩;dsimp only at hrE
    have hr : row.length=f*e.frm.length:=by rw [hrE]; simp
    dsimp only at o;refine tt ?_;apply bk <;> intro h3
    ·have h3p:=of_decide h3
     have hf1:=hMf (f+1) (by omega);rw [Nat.succ_mul] at hf1;refine tt ?_
     refine awp_for [2,3,4,5,6,7,10,11,13] (G:=Nat × List Int) (fun g r=>[(12,some (.buf r.1 r.2.length)),(14,some (.int .i64 (g : Int)))])
      (fun g r H=>r.2=(List.range (f*e.frm.length+g)).map (prodP c e (k*e.frm.length+j))∧Owns H0 H ((r.1,MObj.cells 1 (r.2.map iI) 0)::prodO id7 id4 (c.objs*e.objs) a A2 b C2 i I d D)) e.frm.length (idr,row) ⟨hrE,o⟩ rfl ?_
     clear o hr hrE
     rintro g ⟨idr,row⟩ H hg ⟨hrE,o⟩;dsimp only at hrE
     have hr : row.length=f*e.frm.length+g:=by rw [hrE]; simp
     dsimp only at o;refine tt ?_;apply bk <;> intro h4
     ·have h4p:=of_decide h4
      have w:=wsucc (k:=g) (by omega)
      have pp:=prodP_at (c:=c) (e:=e) (k:=k) (f:=f) h2p h4p
      have cbd:=ct.bound (f:=k) (g:=f) h1p h3p
      have ebd:=et.bound (f:=j) (g:=g) h2p h4p
      have cE : compE c k f=(c.comp.getD k default).getD f default:=rfl
      have eE : compE e j g=(e.comp.getD j default).getD g default:=rfl;rw [cE] at cbd;rw [eE] at ebd;refine tt ?_;refine ⟨by omega,by omega,tt ?_⟩;apply bk <;> intro h5
      ·have h5p : 0≤compE c k f:=by rw [cE]; have:=of_decide h5; exact this
       refine tw h5 ?_;refine ⟨by omega,by omega,tt ?_⟩;apply bk <;> intro h6
       ·have h6p : 0≤compE e j g:=by rw [eE]; have:=of_decide h6; exact this
        have wh:=wpr (a:=(c.comp.getD k default).getD f default) (b:=(e.comp.getD j default).getD g default) (p:=c.frm.length) (q:=e.frm.length) ⟨by rw [← cE]; exact h5p,cbd.2⟩ (by omega) ⟨by rw [← eE]; exact h6p,ebd.2⟩ (by omega);try simp only [go_sem,↓reduceIte,reduceEqDiff,reduceAdd,reduceMul,reduceLeDiff,reduceLT,wh.1,wh.2]
        refine ⟨by omega,by omega,by omega,by omega, ?_⟩;refine app_own' _ o rfl rfl (by simp only [maxL]; omega) fun idr H row2 er2 hrow2 o=>?_;refine tw w ?_;exact for_next (idr,row2) h4p ⟨by show row2=_; rw [er2,hrE,← Nat.add_assoc,List.range_succ,List.map_append,List.map_singleton,pp,if_pos ⟨h5p,h6p⟩]; rfl,o⟩ rfl
       ·have h6p : ¬ 0≤compE e j g:=by rw [eE]; have:=of_ndecide h6; exact this
        refine tt ?_;refine app_own' _ o rfl rfl (by simp only [maxL]; omega) fun idr H row2 er2 hrow2 o=>?_;refine tw w ?_;exact for_next (idr,row2) h4p ⟨by show row2=_; rw [er2,hrE,← Nat.add_assoc,List.range_succ,List.map_append,List.map_singleton,pp,if_neg fun q=>h6p q.2],o⟩ rfl
      ·have h5p : ¬ 0≤compE c k f:=by rw [cE]; have:=of_ndecide h5; exact this
       refine tw h5 ?_;refine app_own' _ o rfl rfl (by simp only [maxL]; omega) fun idr H row2 er2 hrow2 o=>?_;refine tw w ?_;exact for_next (idr,row2) h4p ⟨by show row2=_; rw [er2,hrE,← Nat.add_assoc,List.range_succ,List.map_append,List.map_singleton,pp,if_neg fun q=>h5p q.1],o⟩ rfl
     ·have h4p:=of_ndecide h4
      have w:=wsucc (k:=f) (by omega);refine tw w ?_;exact for_next (idr,row) h3p ⟨by show row=_; rw [hrE,show g=e.frm.length by omega,Nat.succ_mul],o⟩ rfl
    ·have h3p:=of_ndecide h3
     obtain rfl : f=c.frm.length:=by omega
     have w:=wsucc (k:=j) (by omega);unfold prodO at o;refine tt ?_;refine fz_own o rfl fun H o=>tt ?_;refine rd_cells o (by simp) ?_;refine tt ?_;refine app_own' row (o.pull [_,_,_,_]) rfl rfl (by simp only [maxL]; omega) fun d H D2 eD hD2 o=>tt ?_;refine sw o.swap fun H o=>?_;refine tw w ?_;refine for_next ((a,A2),(b,C2),(d,D2)) h2p ⟨by show A2=_; rw [eA2,hAe,prL_take rfl h1p h2p]; rfl,by show C2=_; rw [eC2,hCe,prL_take etl (by omega) h2p]; rfl, ?_, ?_⟩ rfl
     ·show D2=_
      rw [eD,hDe,hrE,← Nat.add_assoc,List.range_succ (n:=k*e.frm.length+j),List.map_append]; rfl
     ·try unfold prodO
      exact o.pm
   ·have h2p:=of_ndecide h2
    have w:=wsucc (k:=k) (by omega);refine tw w ?_
    have hje : j=e.frm.length:=by omega
    exact for_next ((a,A),(b,C),(d,D)) h1p ⟨by show A=_; rw [hAe,hje,Nat.succ_mul],by show C=_; rw [hCe,hje,Nat.succ_mul],by show D=_; rw [hDe,hje,Nat.succ_mul],o⟩ rfl
  ·have h1p:=of_ndecide h1
   obtain rfl : k=c.frm.length:=by omega
   have hAb : A.length≤N*M:=by rw [hA]; exact hMf _ (Nat.le_refl _)
   unfold prodO at o;refine tt ?_
   have o : Owns H0 H [(id7,MObj.cells 5 [iI (c.objs*e.objs),.buf a A.length,.buf b C.length,.buf i I.length,.buf d D.length] 0),(d,MObj.cells 1 (D.map iL) 0),(a,MObj.cells 1 (A.map iI) 0),(b,MObj.cells 1 (C.map iI) 0),(i,MObj.cells 1 (I.map iI) 0),(id4,MObj.cells 5 [iI 0,.nilsl,.nilsl,.nilsl,.nilsl] 0)]:=o.pm;refine wk_cell 4 o rfl rfl fun H o=>?_;simp only [List.set_cons_zero,List.set_cons_succ] at o;refine wk_cell 1 o rfl rfl fun H o=>?_;simp only [List.set_cons_zero,List.set_cons_succ] at o;refine wk_cell 2 o rfl rfl fun H o=>?_;simp only [List.set_cons_zero,List.set_cons_succ] at o;refine wk_cell 3 o rfl rfl fun H o=>wkW_done ?_;simp only [List.set_cons_zero,List.set_cons_succ] at o;refine tt ?_;refine rd_celln o (by simp) ?_;refine tt ?_;refine sw o.swap fun H o=>tt ?_
   have hr2:=o.rc 5 0 (by simp);simp only [List.drop_zero] at hr2;rw [hr2];refine tt ?_
   have hAf : A=(prodC c e).frm:=by rw [hAe,← hAl,List.take_length]; rfl
   have hCf : C=(prodC c e).to:=by rw [hCe,← hCl,List.take_length]; rfl
   have hDf : D=(prodC c e).comp:=by rw [hDe]; rfl
   exact pure_ret (by rw [hAf,hCf,hIf,hDf]; rfl) o.sub
theorem l03Product_ok (B N M : Nat) (hN : N≤65536) (hM : M≤65536) (hNM : N*M≤65536) (c e : Cat) (hc : c.Good N) (he : e.Good M) : Rets B 166 [.agg c.cells,.agg e.cells] (CatQ (N*M)) :=
 fun H0=>((l03ProductP B N M hN hM hNM c e hc he).run H0).mono fun _ _ ⟨e1,e2⟩=>⟨⟨_,e1,prodC_good hc he⟩,e2⟩
end Go.Proofs.Shf
namespace Go.AW
theorem inner_set {α : Type} {f : α→AV} : ∀ (ms : List (Nat × List α)) (x : Nat) (h : x<ms.length),∃ r,(inner f ms).Perm (((ms.getD x default).1,MObj.cells 1 ((ms.getD x default).2.map f) 0)::r) ∧
  ∀ m : Nat × List α,(inner f (ms.set x m)).Perm ((m.1,MObj.cells 1 (m.2.map f) 0)::r)
 | [],x,h=>by simp at h
 | m::ms,0,h=>⟨inner f ms,.refl _,fun m'=>.refl _⟩
 | m::ms,x+1,h=>by
  obtain ⟨r,h1,h2⟩:=inner_set ms x (by simpa using h);refine ⟨(m.1,MObj.cells 1 (m.2.map f) 0)::r, ?_,fun m'=>?_⟩
  ·exact (List.Perm.cons _ h1).trans (.swap _ _ _)
  ·exact (List.Perm.cons _ (h2 m')).trans (.swap _ _ _)
theorem st_inner {α : Type} [Inhabited α] {f : α→AV} [One f] {H0 H : Heap} {l : Ob} {K : Kont} {id fr : Nat} {ms : List (Nat × List α)} (o : Owns H0 H ((id,.cells 1 (ms.map bufE) fr)::(inner f ms++l))) {x y : Nat} (hx : x<ms.length) (hy : y<(ms.getD x default).2.length) (v : α) {c : AV} (hc : c=f v)
  (hk : ∀ H',Owns H0 H' ((id,.cells 1 ((ms.set x ((ms.getD x default).1,(ms.getD x default).2.set y v)).map bufE) fr)::(inner f (ms.set x ((ms.getD x default).1,(ms.getD x default).2.set y v))++l))→K nv H') :
  st1 (H.get (ms.getD x default).1) (ms.getD x default).1 y 1 [c] K H:=by
 subst hc
 obtain ⟨r,h1,h2⟩:=inner_set (f:=f) ms x hx
 have o1 : Owns H0 H (((ms.getD x default).1,MObj.cells 1 ((ms.getD x default).2.map f) 0)::(id,.cells 1 (ms.map bufE) fr)::(r++l)):=by
  refine o.perm (((List.Perm.append_right l h1).cons _).trans ?_);simp only [List.cons_append];exact .swap _ _ _
 refine st_cells o1 (by rw [List.length_map]; omega) rfl (by simp [One.one]) fun H' o2=>?_
 have e1 : wr ((ms.getD x default).2.map f) y [f v]=((ms.getD x default).2.set y v).map f:=by
  simp [wr,List.map_set]
 have e2 : (ms.set x ((ms.getD x default).1,(ms.getD x default).2.set y v)).map bufE=ms.map (bufE (α:=α)):=by
  rw [List.map_set];apply List.ext_getElem?
  intro j
  by_cases hj : x=j
  ·subst hj;rw [List.getElem?_set_self (by simpa using hx)]
   simp [hx,bufE,List.getD_eq_getElem?_getD]
  ·rw [List.getElem?_set_ne hj]
 rw [e1] at o2;refine hk H' ?_;rw [e2];refine o2.perm ((List.Perm.swap _ _ _).trans (.cons _ ?_))
 have:=List.Perm.append_right l (h2 ((ms.getD x default).1,(ms.getD x default).2.set y v)).symm
 simpa using this
end Go.AW
namespace Go.Shf
open Go.AW
def eM (ms : List (Nat × List Int)) (a b : Nat) : Int:=((ms.getD a default).2).getD b default
theorem eM_set {ms : List (Nat × List Int)} {n y z : Nat} (hl : ms.length=n) (hr : ∀ m,m∈ms→m.2.length=n) (hy : y<n) (hz : z<n) (v : Int) (a b : Nat) :
  eM (ms.set y ((ms.getD y default).1,(ms.getD y default).2.set z v)) a b=if a=y∧b=z then v else eM ms a b:=by
 have hry:=hr (ms.getD y default) (mem_getD.mpr ⟨y,by omega,rfl⟩);simp only [eM];rw [getD_set]
 by_cases h : y=a
 ·subst h;rw [if_pos ⟨rfl,by omega⟩]
  simp only;rw [getD_set]
  by_cases h2 : z=b
  ·subst h2; rw [if_pos ⟨rfl,by omega⟩,if_pos (by simp)]
  ·rw [if_neg fun q=>h2 q.1,if_neg fun q=>h2 q.2.symm]
 ·rw [if_neg fun q=>h q.1,if_neg fun q=>h q.1.symm]
def MidR (ms : List (Nat × List Int)) (n x y z : Nat) (r : Nat→Nat→Prop) : Prop:=∀ a b,a<n→b<n→(eM ms a b=1↔r a b∨((a<y∨a=y∧b<z)∧r a x∧r x b))
theorem MidR.row {ms : List (Nat × List Int)} {n x y : Nat} {r : Nat→Nat→Prop} (h : MidR ms n x y n r) : MidR ms n x (y+1) 0 r:=fun a b ha hb=>by
 rw [h a b ha hb,show (a<y∨a=y∧b<n)↔(a<y+1∨a=y+1∧b<0) by omega]
theorem MidR.rd1 {ms : List (Nat × List Int)} {n x y z : Nat} {r : Nat→Nat→Prop} (h : MidR ms n x y z r) (hx : x<n) {a : Nat} (ha : a<n) : eM ms a x=1↔r a x:=by
 rw [h a x ha hx]; exact ⟨fun q=>q.elim id fun q=>q.2.1,.inl⟩
theorem MidR.rd2 {ms : List (Nat × List Int)} {n x y z : Nat} {r : Nat→Nat→Prop} (h : MidR ms n x y z r) (hx : x<n) {b : Nat} (hb : b<n) : eM ms x b=1↔r x b:=by
 rw [h x b hx hb]; exact ⟨fun q=>q.elim id fun q=>q.2.2,.inl⟩
theorem MidR.no {ms : List (Nat × List Int)} {n x y z : Nat} {r : Nat→Nat→Prop} (h : MidR ms n x y z r) (hn : ¬ (r y x∧r x z)) : MidR ms n x y (z+1) r:=fun a b ha hb=>by
 rw [h a b ha hb]
 constructor
 ·rintro (q | ⟨q,p⟩)
  ·exact .inl q
  ·exact .inr ⟨by omega,p⟩
 ·rintro (q | ⟨q,p⟩)
  ·exact .inl q
  ·by_cases e : a=y∧b=z
   ·exact absurd (e.1 ▸ e.2 ▸ p) hn
   ·exact .inr ⟨by omega,p⟩
theorem MidR.yes {ms : List (Nat × List Int)} {n x y z : Nat} {r : Nat→Nat→Prop} (h : MidR ms n x y z r) (hl : ms.length=n) (hr : ∀ m,m∈ms→m.2.length=n) (hy : y<n) (hz : z<n) (hn : r y x∧r x z) :
  MidR (ms.set y ((ms.getD y default).1,(ms.getD y default).2.set z 1)) n x y (z+1) r:=fun a b ha hb=>by
 rw [eM_set hl hr hy hz]
 by_cases e : a=y∧b=z
 ·rw [if_pos e]
  obtain ⟨rfl,rfl⟩:=e;exact ⟨fun _=>.inr ⟨by omega,hn⟩,fun _=>rfl⟩
 ·rw [if_neg e,h a b ha hb,show (a<y∨a=y∧b<z+1)↔(a<y∨a=y∧b<z) by omega]
theorem relE_snd {ms : List (Nat × List Int)} {a b : Nat} (ha : a<ms.length) : relE (ms.map Prod.snd) a b=eM ms a b:=by
 rw [relE,eM,map_getD _ ha]
end Go.Shf
namespace Go.Proofs.Shf
open Go.AW Go.Proofs Go.Shf
theorem Rd.goZ {B : Nat} {fn : FuncId} {args : List AV} {Q : AV→Prop} {id : Nat} {s : Src} {H0 H : Heap} {l : List (Nat × MObj)} {K : Kont} (h : Rd B fn args Q) (hs : s.Ok) (o : Owns H0 H ((id,s.obj)::l))
  (hk : ∀ (r : AV) (s' : Src) (H' : Heap),r.fine→Q r→s'.Ok→Owns H0 H' ((id,s'.obj)::l)→(∀ z,z≠3→H.subZ z H')→K r H') : CallH Tryz.prog B fn (.ref id 0::args) H K :=
 (h id s _ H hs o.self).mono' fun r H' hf ⟨q,s',hs',o'⟩=>hk r s' H' hf q hs' (o.del.trans o') fun z hz i cs f e=>by
  have h0:=o.h0;refine o'.sub i _ ?_;rw [Heap.get_del_ne]
  ·exact e
  ·rintro rfl;simp only at h0;rw [h0] at e;simp only [Src.obj] at e
   cases e;exact hz rfl
theorem l02Relation_ok (B n : Nat) (hn : n≤4) : Rd B 211 [iI n] PoQ:=by
 intro id s H0 H hs o;refine c211p (by simp) fun _=>?_;unfold s211p;refine tt ?_;refine newBuf_own o fun idR H o=>tt ?_
 refine awp_for [0,1] (G:=Src × Nat × List (Nat × List Int)) (fun k g=>[(5,some (.buf g.2.1 g.2.2.length)),(6,some (.int .i64 (k : Int)))])
  (fun k g H=>g.1.Ok∧g.2.2.length=k∧(∀ m,m∈g.2.2→m.2.length=n)∧(∀ i,i<k→eM g.2.2 i i=1)∧Owns H0 H ((g.2.1,MObj.cells 1 (g.2.2.map bufE) 0)::(inner iI g.2.2++[(id,g.1.obj)]))) n (s,idR,[]) ⟨hs,rfl,by simp,fun i hi=>by omega,o⟩ rfl ?_
 clear o hs
 rintro k ⟨s,idR,ms⟩ H hk ⟨hs,hml,hmr,hrf,o⟩;dsimp only at hs hml hmr hrf o;refine tt ?_;refine ⟨fun h1=>At.mk ?_,fun h1=>At.mk ?_⟩
 ·have h1p:=of_decide h1;refine tt ?_;refine ⟨by simp only [maxL]; omega, ?_⟩;refine mks_list iI 0 rfl o fun idr H o=>tt ?_;refine ⟨by omega,set_own 1 o rfl (by simp; omega) fun H o=>?_⟩
  have wk1:=wsucc (k:=k) (by omega);refine tw wk1 ?_
  refine awp_for [0,1,5,6,7] (G:=Src × List Int) (fun q g=>[(8,some (.int .i64 ((k+1+q : Nat) : Int)))])
   (fun q g H=>g.1.Ok∧g.2.length=n∧g.2.getD k default=1∧Owns H0 H ((idr,MObj.cells 1 (g.2.map iI) 0)::(idR,MObj.cells 1 (ms.map bufE) 0)::(inner iI ms++[(id,g.1.obj)]))) (n - (k+1)) (s,(List.replicate n 0).set k 1) ⟨hs,by simp,by rw [getD_set,if_pos ⟨rfl,by simpa using h1p⟩],o⟩ rfl ?_
  clear o hs
  rintro q ⟨s,row⟩ H hq ⟨hs,hr,hrk,o⟩;dsimp only at hs hr hrk o;refine tt ?_;refine ⟨fun h2=>At.mk ?_,fun h2=>At.mk ?_⟩
  ·have h2p:=of_decide h2
   have w:=wsucc (k:=k+1+q) (by omega);refine tt ?_
   have o : Owns H0 H ((id,s.obj)::(idr,MObj.cells 1 (row.map iI) 0)::(idR,MObj.cells 1 (ms.map bufE) 0)::inner iI ms):=o.pm;refine (l01Next_ok B 2).go hs o fun r s H _ ⟨v,e,_⟩ hs o=>?_;subst e;refine tt ?_;refine ⟨by omega, ?_⟩
   have o:=o.swap;refine set_own v o rfl (by omega) fun H o=>?_;refine tw w ?_;refine for_next (s,row.set (k+1+q) v) (by omega) ⟨hs,by simp [hr],by show (row.set (k+1+q) v).getD k default=1; rw [getD_set,if_neg fun z=>by omega]; exact hrk,o.pm⟩ rfl
  ·have h2p:=of_ndecide h2
   have w:=wsucc (k:=k) (by omega);refine tt ?_;refine app_own (f:=bufE) (idr,row) o.swap (by simp [bufE,hr]) rfl (by simp only [maxL]; omega) fun idR H o=>?_;refine tw w ?_;refine for_next (s,idR,ms++[(idr,row)]) h1p ⟨hs,by simp [hml], ?_,fun i hi=>?_, ?_⟩ rfl
   ·intro m hm
    rcases List.mem_append.mp hm with h | h
    ·exact hmr m h
    ·rw [List.mem_singleton] at h; subst h; exact hr
   ·show eM (ms++[(idr,row)]) i i=1
    rw [eM]
    by_cases e : i<k
    ·rw [getD_l (by omega)]; exact hrf i e
    ·have ei : i=k:=by omega
     rw [getD_r (by omega),ei,hml,Nat.sub_self]; exact hrk
   ·refine o.perm (.cons _ ?_);simp only [inner,List.map_append,List.map_cons,List.map_nil,List.append_assoc,List.cons_append,List.nil_append];exact List.perm_middle.symm
 ·have h1p:=of_ndecide h1
  obtain rfl : k=n:=by omega
  clear h1 h1p hk;refine tt ?_
  have o : Owns H0 H ((id,s.obj)::(idR,MObj.cells 1 (ms.map bufE) 0)::inner iI ms):=o.pm;refine ⟨fun h2=>At.mk ?_,fun h2=>At.mk ?_⟩
  case' refine_1 =>
   have h2p:=of_decide h2;refine tw h2 ?_;refine (l01Next_ok B 4).go hs o fun r s H _ ⟨v,e,_⟩ hs o=>?_;subst e;refine tt ?_;refine ⟨fun h3=>At.mk ?_,fun h3=>At.mk ?_⟩
   case' refine_1 =>
    have wp : IntKind.i64.wrap ((k : Int) - 1)=((k - 1 : Nat) : Int):=wpred (by omega) (by omega);refine tw wp ?_;refine ⟨by omega,⟨_,_,o.tl.h0⟩,rd_cells o.tl (by simp; omega) ?_⟩;refine tt ?_;refine (l01Next_ok B k).goZ hs o fun r s H _ ⟨v,e,hv0,hv1,_⟩ hs o hz=>⟨hz, ?_⟩;subst e
    have hv1:=hv1 (by omega)
    have hrk:=hmr (ms.getD (k - 1) default) (mem_getD.mpr ⟨k - 1,by omega,rfl⟩);rw [getD_map ms (by omega)];refine tt ?_;refine ⟨by omega, ?_⟩
    have o : Owns H0 H ((idR,MObj.cells 1 (ms.map bufE) 0)::(inner iI ms++[(id,s.obj)])):=o.pm;refine st_inner o (by omega) (by omega) 1 rfl fun H o=>?_
    have hml0:=hml
    have hmr0:=hmr
    have hml : (ms.set (k - 1) ((ms.getD (k - 1) default).1,(ms.getD (k - 1) default).2.set v.toNat 1)).length=k:=by simp [hml]
    have hmr : ∀ m,m∈ms.set (k - 1) ((ms.getD (k - 1) default).1,(ms.getD (k - 1) default).2.set v.toNat 1)→m.2.length=k:=by
     intro m hm
     rcases List.mem_or_eq_of_mem_set hm with h | h
     ·exact hmr m h
     ·rw [h]; simpa using hrk
    have hrf : ∀ i,i<k→eM (ms.set (k - 1) ((ms.getD (k - 1) default).1,(ms.getD (k - 1) default).2.set v.toNat 1)) i i=1:=fun i hi=>by
     rw [eM_set hml0 hmr0 (by omega) (by omega)]; split
     ·rfl
     ·exact hrf i hi
    generalize ms.set (k - 1) ((ms.getD (k - 1) default).1,(ms.getD (k - 1) default).2.set v.toNat 1)=ms at hml hmr hrf o
    have o : Owns H0 H ((id,s.obj)::(idR,MObj.cells 1 (ms.map bufE) 0)::inner iI ms):=o.pm
  all_goals
   try (try simp only [go_sem,↓reduceIte,reduceEqDiff,reduceAdd,reduceMul,reduceLeDiff,reduceLT,h2])
   clear h2
   have o : Owns H0 H ((idR,MObj.cells 1 (ms.map bufE) 0)::(inner iI ms++[(id,s.obj)])):=o.pm
   generalize hm0 : ms.length=m0
   replace hm0 : m0=k:=by omega
   refine awp_for [1,5] (G:=List (Nat × List Int)) (fun x _=>[(9,some (.int .i64 (x : Int)))]) (fun x ms H=>ms.length=k∧(∀ m,m∈ms→m.2.length=k)∧Clo k x (fun a b=>eM ms a b=1)∧Owns H0 H ((idR,MObj.cells 1 (ms.map bufE) 0)::(inner iI ms++[(id,s.obj)]))) k ms ⟨hml,hmr,⟨hrf,fun m a b hm=>by omega⟩,o⟩ rfl ?_;clear o hml hmr hrf
   rintro x ms H hx ⟨hml,hmr,hclo,o⟩
   replace hclo : Clo k x (fun a b=>eM ms a b=1):=hclo
   replace hml : ms.length=k:=hml
   replace hmr : ∀ m,m∈ms→m.2.length=k:=hmr
   replace o : Owns H0 H ((idR,MObj.cells 1 (ms.map bufE) 0)::(inner iI ms++[(id,s.obj)])):=o;refine tt ?_;refine ⟨fun g1=>At.mk ?_,fun g1=>At.mk ?_⟩
   ·have g1p:=of_decide g1
    have wx:=wsucc (k:=x) (by omega)
    obtain ⟨r,hre⟩ : ∃ r : Nat→Nat→Prop,(fun a b=>eM ms a b=1)=r:=⟨_,rfl⟩;rw [hre] at hclo;refine tt ?_;refine awp_for [1,5,9] (G:=List (Nat × List Int)) (fun y _=>[(10,some (.int .i64 (y : Int)))]) (fun y ms H=>ms.length=k∧(∀ m,m∈ms→m.2.length=k)∧MidR ms k x y 0 r∧Owns H0 H ((idR,MObj.cells 1 (ms.map bufE) 0)::(inner iI ms++[(id,s.obj)]))) k ms ⟨hml,hmr,fun a b ha hb=>by rw [← hre]; simp,o⟩ rfl ?_;clear o hml hmr hre
    rintro y ms H hy ⟨hml,hmr,hmid,o⟩
    replace hmid : MidR ms k x y 0 r:=hmid
    replace hml : ms.length=k:=hml
    replace hmr : ∀ m,m∈ms→m.2.length=k:=hmr
    replace o : Owns H0 H ((idR,MObj.cells 1 (ms.map bufE) 0)::(inner iI ms++[(id,s.obj)])):=o;refine tt ?_;refine ⟨fun g2=>At.mk ?_,fun g2=>At.mk ?_⟩
    ·have g2p:=of_decide g2
     have wy:=wsucc (k:=y) (by omega);refine tt ?_;refine awp_for [1,5,9,10] (G:=List (Nat × List Int)) (fun z _=>[(11,some (.int .i64 (z : Int)))]) (fun z ms H=>ms.length=k∧(∀ m,m∈ms→m.2.length=k)∧MidR ms k x y z r∧Owns H0 H ((idR,MObj.cells 1 (ms.map bufE) 0)::(inner iI ms++[(id,s.obj)]))) k ms ⟨hml,hmr,hmid,o⟩ rfl ?_;clear o hml hmr hmid
     rintro z ms H hz ⟨hml,hmr,hmid,o⟩
     replace hmid : MidR ms k x y z r:=hmid
     replace hml : ms.length=k:=hml
     replace hmr : ∀ m,m∈ms→m.2.length=k:=hmr
     replace o : Owns H0 H ((idR,MObj.cells 1 (ms.map bufE) 0)::(inner iI ms++[(id,s.obj)])):=o;refine tt ?_;refine ⟨fun g3=>At.mk ?_,fun g3=>At.mk ?_⟩
     ·have g3p:=of_decide g3
      have wz:=wsucc (k:=z) (by omega)
      have hry:=hmr (ms.getD y default) (mem_getD.mpr ⟨y,by omega,rfl⟩)
      have hrx:=hmr (ms.getD x default) (mem_getD.mpr ⟨x,by omega,rfl⟩);refine tt ?_;refine ⟨by omega,rd_cells o (by simp; omega) ?_⟩;rw [getD_map ms (by omega)];refine tt ?_;refine ⟨by omega,rd_inner (o.inner_get (by omega)) (by omega) ?_⟩;refine tt ?_;refine ⟨fun g4=>At.mk ?_,fun g4=>At.mk ?_⟩
      case' refine_1 =>
       refine tw g4 ?_;refine ⟨by omega,rd_cells o (by simp; omega) ?_⟩;rw [getD_map ms (by omega)];refine tt ?_;refine ⟨by omega,rd_inner (o.inner_get (by omega)) (by omega) ?_⟩;refine tt ?_;refine ⟨fun g5=>At.mk ?_,fun g5=>At.mk ?_⟩
       case' refine_1 =>
        refine tt ?_;refine ⟨by omega,rd_cells o (by simp; omega) ?_⟩;rw [getD_map ms (by omega)];refine tt ?_;refine ⟨by omega, ?_⟩;refine st_inner o (by omega) (by omega) 1 rfl fun H o=>?_
        have hmid2 : MidR (ms.set y ((ms.getD y default).1,(ms.getD y default).2.set z 1)) k x y (z+1) r :=
         hmid.yes hml hmr g2p g3p ⟨(hmid.rd1 g1p g2p).mp (of_decide g4),(hmid.rd2 g1p g3p).mp (of_decide g5)⟩
        have hml : (ms.set y ((ms.getD y default).1,(ms.getD y default).2.set z 1)).length=k:=by simp [hml]
        have hmr : ∀ m,m∈ms.set y ((ms.getD y default).1,(ms.getD y default).2.set z 1)→m.2.length=k:=by
         intro m hm
         rcases List.mem_or_eq_of_mem_set hm with h | h
         ·exact hmr m h
         ·rw [h]; simpa using hry
        generalize ms.set y ((ms.getD y default).1,(ms.getD y default).2.set z 1)=ms at hml hmr hmid2 o
      all_goals
       try (try simp only [go_sem,↓reduceIte,reduceEqDiff,reduceAdd,reduceMul,reduceLeDiff,reduceLT,g4])
       try (try simp only [go_sem,↓reduceIte,reduceEqDiff,reduceAdd,reduceMul,reduceLeDiff,reduceLT,wz])
       first
       | exact for_next ms g3p ⟨hml,hmr,hmid2,o⟩ rfl
       | exact for_next ms g3p ⟨hml,hmr,hmid.no fun q=>of_ndecide g5 ((hmid.rd2 g1p g3p).mpr q.2),o⟩ rfl
       | exact for_next ms g3p ⟨hml,hmr,hmid.no fun q=>of_ndecide g4 ((hmid.rd1 g1p g2p).mpr q.1),o⟩ rfl
     ·refine tw wy ?_
      have g3q:=of_ndecide g3
      have hze : z=k:=by omega
      exact for_next ms g2p ⟨hml,hmr,MidR.row (hze ▸ hmid),o⟩ rfl
    ·refine tw wx ?_
     have g2q:=of_ndecide g2
     have hye : y=k:=by omega
     have hnew : Clo k (x+1) (fun a b=>eM ms a b=1):=by
      have hs:=hclo.step g1p;refine ⟨fun a ha=>(hmid a a ha ha).mpr (.inl (hclo.refl a ha)),fun m a b hm ha hb q1 q2=>?_⟩
      have e1 : ∀ a b,a<k→b<k→(eM ms a b=1↔r a b∨r a x∧r x b):=fun a b ha hb=>by
       rw [hmid a b ha hb];exact ⟨fun q=>q.imp (fun z=>z) fun q=>q.2,fun q=>q.imp (fun z=>z) fun q=>⟨by omega,q⟩⟩
      rw [e1 a b ha hb];exact hs.tr m a b hm ha hb ((e1 a m ha (by omega)).mp q1) ((e1 m b (by omega) hb).mp q2)
     exact for_next ms g1p ⟨hml,hmr,hnew,o⟩ rfl
   ·refine tt ?_;refine wk_nest (f:=iI) ms [] H o fun H o=>wkW_done ?_;simp only [List.nil_append] at o;refine tt ?_;refine fz_own (f:=iL) o (by simp; omega) fun H o=>tt ?_
    have g1q:=of_ndecide g1
    have hxe : x=k:=by omega
    rw [hxe] at hclo
    have hl2 : (ms.map Prod.snd).length=k:=by simp; omega
    refine src_ret ⟨ms.map Prod.snd,rfl,by omega,fun i hi=>?_,fun i hi=>?_,fun i j l hi hj hl=>?_⟩ hs o
    ·have hi' : i<ms.length:=by omega
     rw [map_getD _ hi',hmr _ (mem_getD.mpr ⟨i,hi',rfl⟩),hl2]
    ·rw [relE_snd (by omega)]; exact hclo.refl i (by omega)
    ·rw [relE_snd (by omega),relE_snd (by omega),relE_snd (by omega)];exact hclo.tr j i l (by omega) (by omega) (by omega)
end Go.Proofs.Shf
namespace Go.AW
section
variable {α : Type} [Inhabited α] {f : α→AV} {n : Nat} [h : AggN n f] {H0 H : Heap} {l : Ob} {K : Kont}
theorem flat_drop : ∀ (l : List α) (x : Nat),(flat (l.map f)).drop (x*n)=flat ((l.drop x).map f)
 | l,0=>by simp
 | [],x+1=>by simp [flat]
 | a::r,x+1=>by
  have e : (x+1)*n=(f a).cells.length+x*n:=by rw [h.len a,Nat.succ_mul,Nat.add_comm]
  simp only [List.map_cons,flat,List.drop_succ_cons];rw [e,← List.drop_drop,List.drop_left];exact flat_drop r x
theorem flat_slice {A : List α} {x : Nat} (hx : x<A.length) : ((flat (A.map f)).drop (x*n)).take n=(f (A.getD x default)).cells:=by
 rw [flat_drop,List.drop_eq_getElem_cons hx,List.map_cons,flat,List.take_left' (h.len _)]
 congr 2
 simp [List.getD_eq_getElem?_getD,hx]
theorem flat_get {A : List α} {x off : Nat} (hx : x<A.length) (ho : off<n) : (flat (A.map f)).getD (x*n+off) nv=(f (A.getD x default)).cells.getD off nv:=by
 rw [← flat_slice (f:=f) (n:=n) hx];simp only [List.getD_eq_getElem?_getD,List.getElem?_take,List.getElem?_drop];rw [if_pos ho]
theorem flat_bound {A : List α} {x off m : Nat} (hx : x<A.length) (ho : off+m≤n) : x*n+off+m≤(flat (A.map f)).length:=by
 rw [flat_len (f:=f) (n:=n)]
 have:=Nat.mul_le_mul_right n (show x+1≤A.length by omega);rw [Nat.succ_mul] at this; omega
theorem wr_app : ∀ (vs a b c : List AV),vs.length=b.length→wr (a++(b++c)) a.length vs=a++(vs++c)
 | [],a,[],c,_=>by simp [wr]
 | v::vs,a,[],c,hl=>by simp at hl
 | [],a,d::b,c,hl=>by simp at hl
 | v::vs,a,d::b,c,hl=>by
  rw [wr]
  have e : (a++(d::b++c)).set a.length v=(a++[v])++(b++c):=by simp
  rw [e]
  have:=wr_app vs (a++[v]) b c (by simpa using hl)
  simpa using this
theorem flat_wr {A : List α} {x : Nat} (hx : x<A.length) (a : α) : wr (flat (A.map f)) (x*n) (f a).cells=flat ((A.set x a).map f):=by
 have e1 : A=A.take x++(A.getD x default::A.drop (x+1)):=by
  conv=>lhs; rw [← List.take_append_drop x A,List.drop_eq_getElem_cons hx]
  simp [List.getD_eq_getElem?_getD,hx]
 have e2 : A.set x a=A.take x++(a::A.drop (x+1)):=by rw [List.set_eq_take_append_cons_drop,if_pos hx]
 have hl : (flat ((A.take x).map f)).length=x*n:=by rw [flat_len (f:=f) (n:=n),List.length_take,Nat.min_eq_left (by omega)]
 rw [e2]
 conv=>lhs; rw [e1]
 rw [List.map_append,List.map_append,flat_app,flat_app,List.map_cons,List.map_cons,flat,flat,← hl];exact wr_app _ _ _ _ (by rw [h.len,h.len])
theorem rd_elN {id x off fr : Nat} {A : List α} (o : Owns H0 H ((id,.cells n (flat (A.map f)) fr)::l)) (hx : x<A.length) (ho : off<n) (hk : K ((f (A.getD x default)).cells.getD off nv) H) : rd1 (H.get id) none (x*n+off) K H:=by
 refine rd_cells o ?_ ?_
 ·have:=flat_bound (f:=f) (n:=n) hx (show off+1≤n by omega); omega
 ·rw [flat_get hx ho]; exact hk
theorem rd_elA {id x fr : Nat} {A : List α} (o : Owns H0 H ((id,.cells n (flat (A.map f)) fr)::l)) (hx : x<A.length) (hk : K (f (A.getD x default)) H) : rd1 (H.get id) (some n) (x*n) K H:=by
 refine rd_celln o ?_ ?_
 ·have:=flat_bound (f:=f) (n:=n) hx (show 0+n≤n by omega); omega
 ·rw [flat_slice hx,← h.agg]; exact hk
theorem st_elN {id x : Nat} {A : List α} (o : Owns H0 H ((id,.cells n (flat (A.map f)) 0)::l)) (hx : x<A.length) (a : α) {cs : List AV} (hc : cs=(f a).cells) (hk : ∀ H',Owns H0 H' ((id,.cells n (flat ((A.set x a).map f)) 0)::l)→K nv H') : st1 (H.get id) id (x*n) n cs K H:=by
 subst hc;refine st_cells o ?_ (h.len a) (h.one a) fun H' o'=>hk H' ?_
 ·have:=flat_bound (f:=f) (n:=n) hx (show 0+n≤n by omega); omega
 ·rw [flat_wr hx] at o'; exact o'
theorem app_rawN {id m : Nat} {A : List α} {cs : List AV} (o : Owns H0 H ((id,.cells n (flat (A.map f)) 0)::l)) (hn : m=A.length) (h1 : cs.length=n) (h2 : ∀ c,c∈cs→c.one=true) (hm : (A.length+1)*n≤maxL)
  (hk : ∀ id' H',Owns H0 H' ((id',.cells n (flat (A.map f)++cs) 0)::l)→K (.buf id' (A.length+1)) H') : appW n (some (.buf id m)) (some (.sl [.agg cs])) K H:=by
 subst hn
 have h0:=o.h0;simp only at h0
 have h3:=h.two;simp only [appW,h0,srcOf,app2]
 have hle : A.length+1≤maxL:=Nat.le_trans (Nat.le_mul_of_pos_right _ (by omega)) hm;refine ⟨⟨trivial,flat_len A,hle,hm,fun e he=>?_⟩,fun id' hn=>?_⟩
 ·simp only [List.mem_singleton] at he; subst he; exact ⟨h1,h2⟩
 ·have hfl : flat [AV.agg cs]=cs:=by simp [flat,AV.cells]
  rw [hfl];exact hk id' _ (o.mv hn _)
end
@[go_sem] def ptE (p : Pt) : AV:=.agg [iI p.frm,iI p.to,iL p.edges]
instance : AggN 3 ptE:=⟨by omega,fun _=>rfl,fun _=>rfl,fun a c hc=>by
 simp only [ptE,AV.cells,List.mem_cons,List.not_mem_nil,or_false] at hc
 rcases hc with rfl | rfl | rfl <;> rfl⟩
@[go_sem] theorem idxE_pt (l : List Pt) (k : IntKind) (i : Int) {d : Option Nat} {F : Env→Heap→Prop} {σ : Env} {H : Heap} :
  pE d F σ H (idxE 3 (some (mL ptE l)) (some (.int k i)))=((0≤i∧i.toNat<l.length)∧putK d F σ (.ptr [iI (ix l i).frm,iI (ix l i).to,iL (ix l i).edges]) H):=idxE_mLN (f:=ptE) l k i
@[go_sem] theorem lenE_pt (l : List Pt) : lenE (some (mL ptE l))=some (True,.int .i64 l.length):=by simp [mL,lenE]
end Go.AW
namespace Go.Proofs.Shf
open Go.AW Go.Proofs Go.Shf
theorem l03Before_ok (B : Nat) (p q : Pt) : PureF Tryz.prog B 260 [ptE p,ptE q] (.bool (dec (p.frm<q.frm∨p.frm=q.frm∧(p.to<q.to∨p.to=q.to∧cmp p.edges q.edges<0)))):=by
 intro H0;refine c260 (by simp) fun hf=>?_;unfold s260;refine tt ?_;apply bk <;> intro h1
 ·refine tt ?_
  have h1p : p.frm≠q.frm:=by simpa using h1
  refine pure_ret ?_ (.refl _)
  congr 1; rw [decide_dec]
  exact dec_congr ⟨fun h=>.inl h,fun h=>h.elim id fun h=>absurd h.1 h1p⟩
 ·have h1p : p.frm=q.frm:=by simpa using h1
  refine tt ?_;apply bk <;> intro h2
  ·refine tt ?_
   have h2p : p.to≠q.to:=by simpa using h2
   refine pure_ret ?_ (.refl _)
   congr 1; rw [decide_dec]
   exact dec_congr ⟨fun h=>.inr ⟨h1p,.inl h⟩,fun h=>h.elim (fun h=>by omega) fun h=>h.2.elim id fun h=>absurd h.1 h2p⟩
  ·have h2p : p.to=q.to:=by simpa using h2
   refine tt ?_;refine (l01Less_ok ..).go fun _=>tt ?_;refine pure_ret ?_ (.refl _)
   congr 1
   exact dec_congr ⟨fun h=>.inr ⟨h1p,.inr ⟨h2p,h⟩⟩,fun h=>h.elim (fun h=>by omega) fun h=>h.2.elim (fun h=>by omega) fun h=>h.2⟩
end Go.Proofs.Shf
namespace Go.Shf
open Go.AW
structure Gr (n : Nat) (F T : List Int) : Prop where
 n3 : n≤3
 l3 : F.length≤3
 tl : T.length=F.length
 up : ∀ e,e<F.length→0≤F.getD e default∧F.getD e default<T.getD e default∧T.getD e default<n
def pW3 (v : Int) : Nat:=if v=0 then 13 else if v=1 then 4 else 1
def pU3 (v : Int) : Nat:=if v=0 then 4 else if v=1 then 1 else 0
theorem pW3_pos (v : Int) : 1≤pW3 v:=by unfold pW3; split <;> (try split) <;> omega
theorem pW3_U (v : Int) : 1+3*pU3 v≤pW3 v:=by unfold pW3 pU3; split <;> (try split) <;> omega
theorem pW3_lt {v t : Int} (h0 : 0≤v) (h1 : v<t) (h2 : t<3) : pW3 t≤pU3 v:=by
 unfold pW3 pU3
 by_cases e0 : v=0
 ·rw [if_pos e0]; split <;> (try split) <;> omega
 ·by_cases e1 : v=1
  ·rw [if_neg e0,if_pos e1,if_neg (by omega),if_neg (by omega)]; omega
  ·omega
def wsum (P : List Pt) : Nat:=(P.map fun p=>pW3 p.to).sum
theorem wsum_app (P Q : List Pt) : wsum (P++Q)=wsum P+wsum Q:=by simp [wsum]
theorem wsum_len : ∀ (P : List Pt),P.length≤wsum P
 | []=>by simp [wsum]
 | p::P=>by
  have:=wsum_len P
  have:=pW3_pos p.to;simp only [wsum,List.map_cons,List.sum_cons,List.length_cons] at *;omega
def _root_.Go.AW.Pt.Ok (n : Nat) (p : Pt) : Prop:=(0≤p.frm∧p.frm<n)∧0≤p.to∧p.to<n
def PtQ (n : Nat) (F T : List Int) (r : AV) : Prop:=∃ P : List Pt,r=mL ptE P∧P.length≤18∧(∀ p,p∈P→p.Ok n∧p.edges.length≤18)∧Pths n F T P
def PW (F T : List Int) (P : List Pt) : Prop:=∀ p,p∈P→Wk F T p.frm p.edges p.to
def PTr (n : Nat) (P : List Pt) : Prop:=∀ x : Nat,x<n→(⟨x,x,[]⟩ : Pt)∈P
def PC2 (F T : List Int) (P : List Pt) (pk : Pt) (e : Nat) : Prop:=∀ e',e'<e→F.getD e' default=pk.to→(⟨pk.frm,T.getD e' default,pk.edges++[(e' : Int)]⟩ : Pt)∈P
def PCl (F T : List Int) (P : List Pt) (j : Nat) : Prop:=∀ i,i<j→PC2 F T P (P.getD i default) F.length
theorem PW.snoc {F T : List Int} {P : List Pt} (h : PW F T P) {q : Pt} (hq : Wk F T q.frm q.edges q.to) : PW F T (P++[q]):=fun p hp=>by
 rcases List.mem_append.mp hp with h1 | h1
 ·exact h p h1
 ·rw [List.mem_singleton] at h1; subst h1; exact hq
theorem PTr.snoc {n : Nat} {P : List Pt} (h : PTr n P) (q : Pt) : PTr n (P++[q]):=fun x hx=>List.mem_append_left _ (h x hx)
theorem PC2.snoc {F T : List Int} {P : List Pt} {pk : Pt} {e : Nat} (h : PC2 F T P pk e) (q : Pt) : PC2 F T (P++[q]) pk e:=fun x hx hf=>List.mem_append_left _ (h x hx hf)
theorem PCl.snoc {F T : List Int} {P : List Pt} {j : Nat} (h : PCl F T P j) (hj : j≤P.length) (q : Pt) : PCl F T (P++[q]) j:=fun i hi=>by
 rw [getD_l (by omega)]; exact (h i hi).snoc q
theorem PCl.next {F T : List Int} {P : List Pt} {j : Nat} (h : PCl F T P j) (h2 : PC2 F T P (P.getD j default) F.length) : PCl F T P (j+1):=fun i hi=>by
 by_cases e : i=j
 ·subst e; exact h2
 ·exact h i (by omega)
theorem swap_mem {P : List Pt} {i j : Nat} (hi : i<P.length) (hj : j<P.length) (q : Pt) : q∈(P.set i (P.getD j default)).set j (P.getD i default)↔q∈P:=by
 constructor
 ·intro h
  rcases List.mem_or_eq_of_mem_set h with h1 | h1
  ·rcases List.mem_or_eq_of_mem_set h1 with h2 | h2
   ·exact h2
   ·rw [h2]; exact mem_getD.mpr ⟨j,hj,rfl⟩
  ·rw [h1]; exact mem_getD.mpr ⟨i,hi,rfl⟩
 ·intro h
  obtain ⟨t,ht,rfl⟩:=mem_getD.mp h
  by_cases e1 : j=t
  ·subst e1
   by_cases e2 : i=j
   ·subst e2;exact mem_getD.mpr ⟨i,by simpa using hi,by rw [getD_set,if_pos ⟨rfl,by simpa using hi⟩]⟩
   ·exact mem_getD.mpr ⟨i,by simpa using hi,by rw [getD_set,if_neg fun z=>e2 z.1.symm,getD_set,if_pos ⟨rfl,hi⟩]⟩
  ·by_cases e2 : i=t
   ·subst e2;exact mem_getD.mpr ⟨j,by simpa using hj,by rw [getD_set,if_pos ⟨rfl,by simpa using hj⟩]⟩
   ·exact mem_getD.mpr ⟨t,by simpa using ht,by rw [getD_set,if_neg fun z=>e1 z.1,getD_set,if_neg fun z=>e2 z.1]⟩
def PsOk (n : Nat) (P : List Pt) : Prop:=∀ p,p∈P→p.Ok n∧p.edges.length≤P.length
theorem pths_of {n : Nat} {F T : List Int} {P : List Pt} (h0 : PsOk n P) (h1 : PW F T P) (h2 : PTr n P) (h3 : PCl F T P P.length) : Pths n F T P :=
 ⟨fun p hp=>⟨(h0 p hp).1.1,(h0 p hp).1.2,h1 p hp⟩,h2,fun p hp e he hf=>by
  obtain ⟨i,hi,rfl⟩:=mem_getD.mp hp;exact h3 i hi e he hf⟩
theorem PsOk.snoc {n : Nat} {P : List Pt} (h : PsOk n P) {p : Pt} (hp : p.Ok n) (hl : p.edges.length≤P.length+1) : PsOk n (P++[p]):=fun q hq=>by
 rw [List.length_append,List.length_singleton]
 rcases List.mem_append.mp hq with h1 | h1
 ·exact ⟨(h q h1).1,by have:=(h q h1).2; omega⟩
 ·rw [List.mem_singleton] at h1; subst h1; exact ⟨hp,hl⟩
theorem PsOk.set {n : Nat} {P : List Pt} (h : PsOk n P) {x y : Nat} (hy : y<P.length) : PsOk n (P.set x (P.getD y default)):=fun q hq=>by
 rw [List.length_set]
 rcases List.mem_or_eq_of_mem_set hq with h1 | h1
 ·exact h q h1
 ·subst h1; exact h _ (mem_getD.mpr ⟨y,hy,rfl⟩)
theorem PsOk.set' {n : Nat} {P Q : List Pt} (h : PsOk n P) (hq : PsOk n Q) (hl : P.length=Q.length) {x y : Nat} (hy : y<P.length) : PsOk n (Q.set x (P.getD y default)):=fun q hm=>by
 rw [List.length_set]
 rcases List.mem_or_eq_of_mem_set hm with h1 | h1
 ·exact hq q h1
 ·subst h1; rw [← hl]; exact h _ (mem_getD.mpr ⟨y,hy,rfl⟩)
theorem flat_snoc (P : List Pt) (a b : Int) (E : List Int) : flat (P.map ptE)++[iI a,iI b,iL E]=flat ((P++[(⟨a,b,E⟩ : Pt)]).map ptE):=by
 rw [List.map_append,flat_app]; rfl
end Go.Shf
namespace Go.Proofs.Shf
open Go.AW Go.Proofs Go.Shf
theorem l03All_ok (B n : Nat) (F T : List Int) (g : Gr n F T) : Rets B 245 [iI n,iL F,iL T] (PtQ n F T):=by
 intro H0;refine c245p (by simp) fun _=>?_
 obtain ⟨gn,gl,gt,gu⟩:=g;unfold s245p;refine tt ?_;refine newBuf_own (.nil _) fun idL H o=>tt ?_
 refine awp_for [0,1,2] (G:=Nat × List Pt) (fun k g=>[(7,some (.buf g.1 g.2.length)),(8,some (.int .i64 (k : Int)))])
  (fun k g H=>g.2.length=k∧PsOk n g.2∧(PW F T g.2∧PTr k g.2)∧wsum g.2≤(if k=0 then 0 else if k=1 then 13 else if k=2 then 17 else 18)∧Owns H0 H [(g.1,MObj.cells 3 (flat (g.2.map ptE)) 0)]) n (idL,[]) ⟨rfl,fun p hp=>by simp at hp,⟨fun p hp=>by simp at hp,fun x hx=>by omega⟩,by simp [wsum],o⟩ rfl ?_
 clear o
 rintro k ⟨idL,P⟩ H hk ⟨hP,hok,hpt,hw,o⟩;dsimp only at hpt hP hok hw o;refine tt ?_;refine ⟨fun h1=>At.mk ?_,fun h1=>At.mk ?_⟩
 ·have h1p:=of_decide h1
  have w:=wsucc (k:=k) (by omega);refine tt ?_;refine app_ownN (f:=ptE) (n:=3) ⟨(k : Int),(k : Int),[]⟩ o rfl rfl (by simp only [maxL]; omega) fun idL H o=>?_;refine tw w ?_;refine for_next (idL,P++[⟨(k : Int),(k : Int),[]⟩]) h1p ⟨by simp [hP], ?_,⟨hpt.1.snoc (q:=⟨(k : Int),(k : Int),[]⟩) rfl,fun x hx=>?_⟩, ?_,o⟩ rfl;rotate_left 1
  ·show (⟨x,x,[]⟩ : Pt)∈P++[⟨(k : Int),(k : Int),[]⟩]
   by_cases e : x=k
   ·subst e; exact List.mem_append_right _ (List.mem_singleton_self _)
   ·exact List.mem_append_left _ (hpt.2 x (by omega))
  rotate_left 1
  ·exact hok.snoc ⟨⟨by show (0 : Int)≤(k : Int); omega,by show (k : Int)<n; omega⟩,by show (0 : Int)≤(k : Int); omega,by show (k : Int)<n; omega⟩ (Nat.zero_le _)
  ·show wsum (P++[⟨(k : Int),(k : Int),[]⟩])≤_
   rw [wsum_app]
   have e : wsum [(⟨(k : Int),(k : Int),[]⟩ : Pt)]=pW3 k:=by simp [wsum]
   rw [e]
   have : k=0∨k=1∨k=2:=by omega
   rcases this with rfl | rfl | rfl
   ·simp [pW3] at hw ⊢; omega
   ·simp [pW3] at hw ⊢; omega
   ·simp [pW3] at hw ⊢; omega
 ·have h1p:=of_ndecide h1
  obtain rfl : k=n:=by omega
  have hw18 : wsum P≤18:=by
   refine Nat.le_trans hw ?_
   split <;> (try split) <;> (try split) <;> omega
  clear hw h1 h1p hk;refine tt ?_
  refine awp_for [1,2] (G:=Nat × List Pt) (fun k g=>[(7,some (.buf g.1 g.2.length)),(9,some (.int .i64 (k : Int)))])
   (fun j g H=>PsOk k g.2∧j≤g.2.length∧((PW F T g.2∧PTr k g.2)∧PCl F T g.2 j)∧wsum (g.2.drop j)+j≤18∧Owns H0 H [(g.1,MObj.cells 3 (flat (g.2.map ptE)) 0)]) 18 (idL,P) ⟨hok,by simp,⟨hpt,fun i hi=>by omega⟩,by simpa using hw18,o⟩ rfl ?_
  clear o hok hw18 hP hpt
  rintro j ⟨idL,P⟩ H hj ⟨hok,hjl,hpt,hw,o⟩;dsimp only at hpt hok hjl hw o
  have hlen : P.length≤18:=by
   have:=wsum_len (P.drop j);rw [List.length_drop] at this; omega
  refine tt ?_;refine ⟨fun h1=>At.mk ?_,fun h1=>At.mk ?_⟩
  case' refine_1 =>
   have h1p:=of_decide h1
   have h2p : decide ((P.length : Int)≤40)=true:=decide_eq_true (by omega);try simp only [go_sem,↓reduceIte,reduceEqDiff,reduceAdd,reduceMul,reduceLeDiff,reduceLT,h1,h2p]
   obtain ⟨pk,hpk⟩ : ∃ pk,P.getD j default=pk:=⟨_,rfl⟩
   have hw1 : wsum (P.drop (j+1))+(j+1)+F.length*pU3 pk.to≤18:=by
    have e1 : P.drop j=[pk]++P.drop (j+1):=by
     rw [List.drop_eq_getElem_cons (by omega),← hpk]
     simp [List.getD_eq_getElem?_getD,show j<P.length by omega]
    rw [e1,wsum_app] at hw
    have e2 : wsum [pk]=pW3 pk.to:=by simp [wsum]
    have e3:=pW3_U pk.to
    have e4 : F.length*pU3 pk.to≤3*pU3 pk.to:=Nat.mul_le_mul_right _ gl;omega
   have hjl1 : j<P.length:=by omega
   refine awp_for [1,2,9] (G:=Nat × List Pt) (fun k g=>[(7,some (.buf g.1 g.2.length)),(10,some (.int .i64 (k : Int)))])
    (fun e g H=>PsOk k g.2∧j<g.2.length∧g.2.getD j default=pk∧(((PW F T g.2∧PTr k g.2)∧PCl F T g.2 j)∧PC2 F T g.2 pk e)∧wsum (g.2.drop (j+1))+(j+1)+(F.length - e)*pU3 pk.to≤18∧Owns H0 H [(g.1,MObj.cells 3 (flat (g.2.map ptE)) 0)]) F.length (idL,P) ⟨hok,hjl1,hpk,⟨hpt,fun e he=>by omega⟩,hw1,o⟩ rfl ?_
   clear o hok hjl hw hlen hpk hw1 hjl1 h1 h2p h1p hpt
   rintro e ⟨idL,P⟩ H he ⟨hok,hjl,hpk,hpt,hw,o⟩;dsimp only at hpt hok hjl hpk hw o
   have hlen : P.length≤18:=by
    have:=wsum_len (P.drop (j+1));rw [List.length_drop] at this; omega
   refine tt ?_;refine ⟨fun h2=>At.mk ?_,fun h2=>At.mk ?_⟩
   ·have h2p:=of_decide h2
    have gue:=gu e h2p
    have we:=wsucc (k:=e) (by omega)
    have hsub : (F.length - e)*pU3 pk.to=(F.length - (e+1))*pU3 pk.to+pU3 pk.to:=by
     rw [show F.length - e=(F.length - (e+1))+1 by omega,Nat.succ_mul]
    refine tt ?_;refine ⟨by omega,by omega,rd_elN (f:=ptE) (n:=3) o hjl (by omega) ?_⟩;rw [hpk];refine tt ?_;refine ⟨fun h3=>At.mk ?_,fun h3=>At.mk ?_⟩
    ·have h3p:=of_decide h3;refine tt ?_
     have hpo:=hok pk (by rw [← hpk]; exact mem_getD.mpr ⟨j,hjl,rfl⟩)
     have hpo2:=hpo.2;refine ⟨hjl,⟨_,_,o.h0⟩,rd_elN (f:=ptE) (n:=3) o hjl (by omega) ?_⟩;rw [hpk];refine tt ?_;refine ⟨by omega,hjl,⟨_,_,o.h0⟩,rd_elN (f:=ptE) (n:=3) o hjl (by omega) ?_⟩;rw [hpk];refine tt ?_;refine New.go' (l01Own_new B pk.edges) o fun X1 p1 H ⟨ide,e1,e2⟩ o hs=>⟨hs, ?_⟩;subst e1 e2;refine tt ?_;refine app_own' _ o rfl rfl (by simp only [maxL]; omega) fun ide H E eE hE o=>tt ?_;refine app_rawN (f:=ptE) (n:=3) o.swap rfl rfl (by first | (simp only [go_sem]; done) | ((try simp only [go_sem]); simp [AV.one,one_mL])) (by simp only [maxL]; omega) fun idL H o=>tt ?_;refine wk_cell (f:=iI) ((flat (P.map ptE)).length+2) o (by rw [List.getElem?_append_right (by omega)]; simp) rfl fun H o=>wkW_done ?_;rw [List.set_append_right _ _ (by omega),show (flat (P.map ptE)).length+2 - (flat (P.map ptE)).length=2 by omega] at o;simp only [List.set_cons_zero,List.set_cons_succ] at o
     have o : Owns H0 H [(idL,MObj.cells 3 (flat ((P++[(⟨pk.frm,T.getD e default,E⟩ : Pt)]).map ptE)) 0)]:=by rw [← flat_snoc]; exact o
     refine tw we ?_
     have hlt:=pW3_lt gue.1 gue.2.1 (by omega);rw [h3p] at hlt;refine for_next (idL,P++[(⟨pk.frm,T.getD e default,E⟩ : Pt)]) h2p ⟨?_,by simp; omega, ?_, ?_, ?_,o⟩ (by simp);rotate_left 2
     ·have hwk:=hpt.1.1.1 pk (by rw [← hpk]; exact mem_getD.mpr ⟨j,hjl,rfl⟩);refine ⟨⟨⟨hpt.1.1.1.snoc ?_,hpt.1.1.2.snoc _⟩,hpt.1.2.snoc (by omega) _⟩,fun e' he' hf=>?_⟩
      ·show Wk F T pk.frm E (T.getD e default)
       rw [eE]; exact hwk.app (Wk.one (by omega) h3p)
      ·by_cases ee : e'=e
       ·subst ee;rw [← eE]; exact List.mem_append_right _ (List.mem_singleton_self _)
       ·exact List.mem_append_left _ (hpt.2 e' (by omega) hf)
     rotate_left 1
     ·exact hok.snoc ⟨hpo.1.1,by show 0≤T.getD e default; omega,by show T.getD e default<k; omega⟩ (by show E.length≤_; omega)
     ·show (P++[_]).getD j default=pk
      rw [List.getD_eq_getElem?_getD,List.getElem?_append_left hjl,← List.getD_eq_getElem?_getD]; exact hpk
     ·show wsum ((P++[_]).drop (j+1))+(j+1)+(F.length - (e+1))*pU3 pk.to≤18
      rw [List.drop_append_of_le_length (by omega),wsum_app]
      have e2 : wsum [(⟨pk.frm,T.getD e default,E⟩ : Pt)]=pW3 (T.getD e default):=by simp [wsum]
      rw [e2]; omega
    ·refine tt ?_;refine wkW_done ?_;refine tw we ?_
     have h3p:=of_ndecide h3
     exact for_next (idL,P) h2p ⟨hok,hjl,hpk,⟨hpt.1,fun e' he' hf=>by
      by_cases ee : e'=e
      ·subst ee; exact absurd hf h3p
      ·exact hpt.2 e' (by omega) hf⟩,by show wsum (P.drop (j+1))+(j+1)+_≤18; omega,o⟩ rfl
   ·have wj:=wsucc (k:=j) (by omega);refine tw wj ?_
    have h2q:=of_ndecide h2
    have hee : e=F.length:=by omega
    exact for_next (idL,P) (by omega) ⟨hok,hjl,⟨hpt.1.1,hpt.1.2.next (by rw [hpk,← hee]; exact hpt.2)⟩,by show wsum (P.drop (j+1))+(j+1)≤18; omega,o⟩ rfl
  case' refine_2 =>
   have hje : j=P.length:=by have:=of_ndecide h1; omega
   have hpp : Pths k F T P:=pths_of hok hpt.1.1 hpt.1.2 (hje ▸ hpt.2);refine tw h1 ?_;clear hw hj hjl h1 hje hpt
   generalize hL : P.length=L at *;refine awp_for [7] (G:=List Pt) (fun x _=>[(11,some (.int .i64 ((1+x : Nat) : Int)))]) (fun x P H=>P.length=L∧PsOk k P∧Pths k F T P∧Owns H0 H [(idL,MObj.cells 3 (flat (P.map ptE)) 0)]) L P ⟨hL,hok,hpp,o⟩ rfl ?_;clear o hok hL hpp
   rintro x P H hx ⟨hL,hok,hpp,o⟩
   replace hpp : Pths k F T P:=hpp
   replace hL : P.length=L:=hL
   replace hok : PsOk k P:=hok
   replace o : Owns H0 H [(idL,MObj.cells 3 (flat (P.map ptE)) 0)]:=o;refine tt ?_;refine ⟨fun h1=>At.mk ?_,fun h1=>At.mk ?_⟩
   ·have h1p:=of_decide h1
    have wx:=wsucc (k:=1+x) (by omega);refine tt ?_;refine awp_while [7,11] (G:=Nat × List Pt) (fun g=>[(12,some (.int .i64 (g.1 : Int)))]) (fun m g H=>m=g.1∧g.1<L∧g.2.length=L∧PsOk k g.2∧Pths k F T g.2∧Owns H0 H [(idL,MObj.cells 3 (flat (g.2.map ptE)) 0)]) (1+x) (1+x,P) ⟨rfl,by simp only; omega,hL,hok,hpp,o⟩ rfl ?_;clear o hok hL hpp
    rintro m ⟨y,P⟩ H ⟨hm,hy,hL,hok,hpp,o⟩;dsimp only at hpp hm;subst hm;dsimp only at hy hL hok o;refine tt ?_;refine ⟨fun h2=>At.mk ?_,fun h2=>At.mk ?_⟩
    case' refine_1 =>
     have h2p:=of_decide h2
     have wp : IntKind.i64.wrap ((m : Int) - 1)=((m - 1 : Nat) : Int):=wpred (by omega) (by omega);refine tw h2 ?_;refine ⟨by omega,rd_elA (f:=ptE) (n:=3) o (by omega) ?_⟩;refine tw wp ?_;refine ⟨by omega,rd_elA (f:=ptE) (n:=3) o (by omega) ?_⟩;refine tt ?_;refine ⟨_,l03Before_ok B _ _,tt ?_⟩;refine ⟨fun h3=>At.mk ?_,fun h3=>At.mk ?_⟩
     case' refine_1 =>
      refine tt ?_;refine ⟨by omega,rd_elA (f:=ptE) (n:=3) o (by omega) ?_⟩;refine tt ?_;refine newRef_own o fun id13 H o=>tt ?_;refine sw o fun H o=>?_;refine tw wp ?_;refine ⟨by omega,rd_elA (f:=ptE) (n:=3) o.tl (by omega) ?_⟩;refine tt ?_;refine ⟨by omega, ?_⟩;refine st_elN (f:=ptE) (n:=3) o.swap (by omega) (P.getD (m - 1) default) rfl fun H o=>?_;refine tw wp ?_
      have hr2:=o.tl.rc 3 0 (by simp);refine rd_celln o.tl (by simp) ?_;refine tt ?_;refine ⟨by omega, ?_⟩;refine st_elN (f:=ptE) (n:=3) o (by simp; omega) (P.getD m default) rfl fun H o=>?_;refine tw wp ?_
      have hp1 : PsOk k (P.set m (P.getD (m - 1) default)):=hok.set (by omega);exact while_next (m - 1) (m - 1,(P.set m (P.getD (m - 1) default)).set (m - 1) (P.getD m default)) (by omega) ⟨rfl,by show m - 1<L; omega,by simp [hL],hok.set' hp1 (by simp) (by omega),hpp.mem fun q=>swap_mem (by omega) (by omega) q,o.swap.tl⟩ rfl
    all_goals
     try (try simp only [go_sem,↓reduceIte,reduceEqDiff,reduceAdd,reduceMul,reduceLeDiff,reduceLT,h2])
     refine tw wx ?_;exact for_next P (by omega) ⟨hL,hok,hpp,o⟩ rfl
   ·refine tt ?_;refine fz_ownN (f:=ptE) (n:=3) o hL.symm fun H o=>tt ?_;exact rets_ret ⟨P,rfl,by omega,fun p hp=>⟨(hok p hp).1,by have:=(hok p hp).2; omega⟩,hpp⟩ o.sub
end Go.Proofs.Shf
namespace Go.Shf
open Go.AW
def IdP (n : Nat) (P : List Pt) (I : List Int) (k : Nat) : Prop:=∀ x : Nat,x<n→(∃ i,i<k∧(P.getD i default).frm=x∧(P.getD i default).edges=[]) →
 (0≤I.getD x default∧I.getD x default<(P.length : Int))∧(ix P (I.getD x default)).frm=x∧(ix P (I.getD x default)).edges=[]
theorem IdP.yes {n : Nat} {P : List Pt} {I : List Int} {k : Nat} (h : IdP n P I k) (hI : I.length=n) (hk : k<P.length) (he : (P.getD k default).edges=[]) (hf : 0≤(P.getD k default).frm) : IdP n P (I.set (P.getD k default).frm.toNat k) (k+1):=fun x hx ⟨i,hi,h1,h2⟩=>by
 rw [getD_set]
 by_cases e : (P.getD k default).frm.toNat=x
 ·rw [if_pos ⟨e,by omega⟩,ix_nat];exact ⟨by omega,by omega,he⟩
 ·rw [if_neg fun z=>e z.1];refine h x hx ⟨i, ?_,h1,h2⟩
  by_cases ei : i=k
  ·subst ei; omega
  ·omega
theorem IdP.no {n : Nat} {P : List Pt} {I : List Int} {k : Nat} (h : IdP n P I k) (he : (P.getD k default).edges≠[]) : IdP n P I (k+1):=fun x hx ⟨i,hi,h1,h2⟩=>by
 refine h x hx ⟨i, ?_,h1,h2⟩
 by_cases ei : i=k
 ·subst ei; exact absurd h2 he
 ·omega
def SrP (P : List Pt) (fr : Int) (both : List Int) (z : Nat) (h : Int) : Prop:=(h=-1∧∀ k,k<z→¬ ((P.getD k default).frm=fr∧(P.getD k default).edges=both)) ∨
 ((0≤h∧h<(P.length : Int))∧(ix P h).frm=fr∧(ix P h).edges=both)
theorem SrP.hit {P : List Pt} {fr : Int} {both : List Int} {z : Nat} (hz : z<P.length) (h1 : (P.getD z default).frm=fr) (h2 : (P.getD z default).edges=both) : SrP P fr both (z+1) z :=
 .inr ⟨by omega,by rw [ix_nat]; exact h1,by rw [ix_nat]; exact h2⟩
theorem SrP.skip {P : List Pt} {fr : Int} {both : List Int} {z : Nat} {h : Int} (s : SrP P fr both z h) (hn : ¬ ((P.getD z default).frm=fr∧(P.getD z default).edges=both)) : SrP P fr both (z+1) h :=
 s.imp (fun ⟨a,b⟩=>⟨a,fun k hk=>by
  by_cases e : k=z
  ·subst e; exact hn
  ·exact b k (by omega)⟩) id
end Go.Shf
namespace Go.Proofs.Shf
open Go.AW Go.Proofs Go.Shf
theorem l03Paths_ok (B n : Nat) (F T : List Int) (g : Gr n F T) : Rets B 212 [iI n,iL F,iL T] (CatQ 18):=by
 intro H0;refine c212p (by simp) fun _=>?_
 have gn:=g.n3;unfold s212p;refine tt ?_;refine newRef_own (.nil _) fun id6 H o=>tt ?_;refine (l03All_ok B n F T g).go fun r _ ⟨P,e,hP18,hPok,hPp⟩=>?_;subst e;refine tt ?_;refine newBuf_own o fun a H o=>tt ?_;refine newBuf_own o fun b H o=>tt ?_;refine ⟨by simp only [maxL]; omega, ?_⟩;refine mks_list iI 0 rfl o fun i H o=>tt ?_;refine newBuf_own o fun d H o=>tt ?_;refine newRef_own o fun id8 H o=>tt ?_;refine sw o fun H o=>tt ?_
 refine awp_for [6,7,8] (G:=(Nat × List Int) × (Nat × List Int) × List Int) (fun k _=>[(9,some (.int .i64 (k : Int)))])
  (fun k g H=>g.1.2=(P.map Pt.frm).take k∧g.2.1.2=(P.map Pt.to).take k∧(g.2.2.length=n∧IdP n P g.2.2 k)∧Owns H0 H (prodO id8 id6 n g.1.1 g.1.2 g.2.1.1 g.2.1.2 i g.2.2 d [])) P.length ((a,[]),(b,[]),List.replicate n 0) ⟨by simp,by simp,⟨by simp,fun x hx ⟨i,hi,_⟩=>by omega⟩,by unfold prodO; simp only [List.length_replicate]; exact o.pm⟩ rfl ?_
 clear o
 rintro k ⟨⟨a,A⟩,⟨b,C⟩,I⟩ H hk ⟨hAe,hCe,⟨hI,hid⟩,o⟩;dsimp only at hAe hCe hid
 have hA : A.length=k:=by rw [hAe,List.length_take,List.length_map]; omega
 have hC : C.length=k:=by rw [hCe,List.length_take,List.length_map]; omega
 dsimp only at hI o;refine tt ?_;refine ⟨fun h1=>At.mk ?_,fun h1=>At.mk ?_⟩
 ·have h1p:=of_decide h1
  have w:=wsucc (k:=k) (by omega)
  have hpk:=hPok (P.getD k default) (mem_getD.mpr ⟨k,h1p,rfl⟩)
  have hpf:=hpk.1.1;unfold prodO at o;refine tt ?_;refine rd_cells o (by simp) ?_;refine tt ?_;refine ⟨h1p,app_own' _ o.swap rfl rfl (by simp only [maxL]; omega) fun a H A2 eA2 hA2 o=>?_⟩;refine tt ?_;refine sw o.swap fun H o=>tt ?_;refine rd_cells o (by simp) ?_;refine tt ?_;refine ⟨h1p,app_own' _ (o.pull [_,_]) rfl rfl (by simp only [maxL]; omega) fun b H C2 eC2 hC2 o=>?_⟩;refine tt ?_;refine sw o.swap fun H o=>tt ?_;refine ⟨h1p, ?_⟩
  have o : Owns H0 H (prodO id8 id6 n a A2 b C2 i I d []):=by
   try unfold prodO
   exact o.pm
  have eA3 : A2=(P.map Pt.frm).take (k+1):=by rw [eA2,hAe,take_succ' _ (by simpa using h1p),map_getD _ h1p]
  have eC3 : C2=(P.map Pt.to).take (k+1):=by rw [eC2,hCe,take_succ' _ (by simpa using h1p),map_getD _ h1p]
  refine ⟨fun h2=>At.mk ?_,fun h2=>At.mk ?_⟩
  ·unfold prodO at o;refine tt ?_;refine rd_cells o (by simp) ?_;refine tt ?_;refine ⟨h1p,by omega, ?_⟩;refine set_own (k : Int) (o.pull [_,_,_]) rfl (by omega) fun H o=>?_;refine tw w ?_;refine for_next ((a,A2),(b,C2),I.set (P.getD k default).frm.toNat k) h1p ⟨eA3,eC3,⟨by simp [hI],hid.yes hI h1p (List.length_eq_zero_iff.mp (by have:=of_decide h2; omega)) hpf.1⟩, ?_⟩ rfl
   try unfold prodO
   simp only [List.length_set];exact o.pm
  ·refine tw w ?_;exact for_next ((a,A2),(b,C2),I) h1p ⟨eA3,eC3,⟨hI,hid.no fun z=>of_ndecide h2 (by rw [z]; rfl)⟩,o⟩ rfl
 ·have h1p:=of_ndecide h1
  obtain rfl : k=P.length:=by omega
  have hAf : A=P.map Pt.frm:=by rw [hAe,List.take_of_length_le (by simp)]
  have hCf : C=P.map Pt.to:=by rw [hCe,List.take_of_length_le (by simp)]
  have hIf : ∀ x : Nat,x<n→(0≤I.getD x default∧I.getD x default<(P.length : Int))∧(ix P (I.getD x default)).frm=x∧(ix P (I.getD x default)).edges=[]:=fun x hx=>by
   obtain ⟨i,hi,ei⟩:=mem_getD.mp (hPp.tr x hx);exact hid x hx ⟨i,hi,by rw [ei],by rw [ei]⟩
  clear h1 h1p hk hAe hCe;unfold prodO at o;refine tt ?_;refine wk_cell 1 o rfl rfl fun H o=>?_;simp only [List.set_cons_zero,List.set_cons_succ] at o;refine wk_cell 2 o rfl rfl fun H o=>?_;simp only [List.set_cons_zero,List.set_cons_succ] at o;refine wk_cell 3 o rfl rfl fun H o=>wkW_done ?_;simp only [List.set_cons_zero,List.set_cons_succ] at o
  have o : Owns H0 H [(id8,MObj.cells 5 [iI n,iL A,iL C,iL I,.buf d 0] 0),(d,MObj.cells 1 [] 0),(id6,MObj.cells 5 [iI 0,.nilsl,.nilsl,.nilsl,.nilsl] 0)]:=o;refine tt ?_;refine rd_celln o (by simp) ?_;refine tt ?_;refine CallH.lentPure (es:=[.agg (Cat.cells ⟨n,A,C,I,[]⟩)]) (.bool _) rfl (fun j hj=>?_) (l02Fits_ok B ⟨n,A,C,I,[]⟩).run ?_
  ·have : j=0:=by simp at hj; omega
   subst this;refine Tr.arg (.agg _ _ rfl fun q hq=>?_)
   match q,hq with
   | 0,_=>exact .val _
   | 1,_=>exact .val _
   | 2,_=>exact .val _
   | 3,_=>exact .val _
   | 4,_=>exact .buf d 0 [] [] o.tl.h0 rfl (by simp) (by simp)
  rw [dec_t (show (n : Int)≤8∧A.length≤40 from ⟨by omega,by omega⟩)];refine tt ?_
  refine awp_for [6,7,8] (G:=Nat × List (List Int)) (fun k _=>[(10,some (.int .i64 (k : Int)))])
   (fun k g H=>g.2.length=k∧((∀ r,r∈g.2→r.length=P.length)∧∀ f q,f<k→q<P.length→PthE P f q ((g.2.getD f default).getD q default))∧Owns H0 H [(id8,MObj.cells 5 [iI n,iL A,iL C,iL I,.buf g.1 g.2.length] 0),(g.1,MObj.cells 1 (g.2.map iL) 0),(id6,MObj.cells 5 [iI 0,.nilsl,.nilsl,.nilsl,.nilsl] 0)]) P.length (d,[]) ⟨rfl,⟨by simp,fun f q hf=>by omega⟩,o⟩ rfl ?_
  clear o
  rintro x ⟨d,D⟩ H hx ⟨hD,⟨hDr,hDe⟩,o⟩;dsimp only at hD hDr hDe o;refine tt ?_;refine ⟨fun h1=>At.mk ?_,fun h1=>At.mk ?_⟩
  ·have h1p:=of_decide h1
   have hpx:=hPok (P.getD x default) (mem_getD.mpr ⟨x,h1p,rfl⟩);refine tt ?_;refine newBuf_own o fun idr H o=>tt ?_
   refine awp_for [6,7,8,10] (G:=Nat × List Int) (fun y g=>[(11,some (.buf g.1 g.2.length)),(12,some (.int .i64 (y : Int)))])
    (fun y g H=>g.2.length=y∧(∀ q,q<y→PthE P x q (g.2.getD q default))∧Owns H0 H [(g.1,MObj.cells 1 (g.2.map iI) 0),(id8,MObj.cells 5 [iI n,iL A,iL C,iL I,.buf d D.length] 0),(d,MObj.cells 1 (D.map iL) 0),(id6,MObj.cells 5 [iI 0,.nilsl,.nilsl,.nilsl,.nilsl] 0)]) P.length (idr,[]) ⟨rfl,fun q hq=>by omega,o⟩ rfl ?_
   clear o
   rintro y ⟨idr,row⟩ H hy ⟨hr,hrE,o⟩;dsimp only at hr hrE
   have hsn : ∀ (v : Int),PthE P x y v→∀ q,q<y+1→PthE P x q ((row++[v]).getD q default):=fun v hv q hq=>by
    by_cases e : q<y
    ·rw [getD_l (by omega)]; exact hrE q e
    ·have eq : q=y:=by omega
     rw [getD_r (by omega),eq,hr,Nat.sub_self]; exact hv
   dsimp only at o;refine tt ?_;refine ⟨fun h2=>At.mk ?_,fun h2=>At.mk ?_⟩
   ·have h2p:=of_decide h2
    have w:=wsucc (k:=y) (by omega)
    have hpy:=hPok (P.getD y default) (mem_getD.mpr ⟨y,h2p,rfl⟩);refine tt ?_;refine ⟨h1p,h2p, ?_⟩;refine ⟨fun h3=>At.mk ?_,fun h3=>At.mk ?_⟩
    ·refine tt ?_;refine ⟨h1p,h2p, ?_⟩;refine New.go' (l01Own_new B (P.getD x default).edges) o fun X1 p1 H ⟨ide,e1,e2⟩ o hs=>⟨hs, ?_⟩;subst e1 e2;refine tt ?_;refine app_list (f:=iI) (r:=(P.getD y default).edges) o rfl (by simp only [maxL]; omega) fun ide H o=>tt ?_;refine fz_own o rfl fun H o=>tt ?_
     obtain ⟨both,hboth⟩ : ∃ both,(P.getD x default).edges++(P.getD y default).edges=both:=⟨_,rfl⟩;rw [hboth]
     have h3p:=of_decide h3
     refine awp_for [6,7,8,10,11,12,14] (G:=Int) (fun z h=>[(13,some (.int .i64 h)),(15,some (.int .i64 (z : Int)))])
      (fun z h H=>SrP P (P.getD x default).frm both z h∧Owns H0 H [(idr,MObj.cells 1 (row.map iI) 0),(id8,MObj.cells 5 [iI n,iL A,iL C,iL I,.buf d D.length] 0),(d,MObj.cells 1 (D.map iL) 0),(id6,MObj.cells 5 [iI 0,.nilsl,.nilsl,.nilsl,.nilsl] 0)]) P.length (-1) ⟨.inl ⟨rfl,fun k hk=>by omega⟩,o⟩ rfl ?_
     clear o
     rintro z h H hz ⟨hsr,o⟩
     replace hsr : SrP P (P.getD x default).frm both z h:=hsr;refine tt ?_;refine ⟨fun h4=>At.mk ?_,fun h4=>At.mk ?_⟩
     ·have h4p:=of_decide h4
      have wz:=wsucc (k:=z) (by omega);refine tt ?_;refine ⟨h4p,h1p, ?_⟩;refine ⟨fun h5=>At.mk ?_,fun h5=>At.mk ?_⟩
      case' refine_1 =>
       refine tw h5 ?_;refine ⟨h4p,_,(l01Same_ok ..).run,tt ?_⟩;refine ⟨fun h6=>At.mk ?_,fun h6=>At.mk ?_⟩
       case' refine_1 =>
        have hs2 : SrP P (P.getD x default).frm both (z+1) z:=.hit h4p (of_decide h5) ((dec_iff.mp h6));refine tt ?_
      all_goals
       try (try simp only [go_sem,↓reduceIte,reduceEqDiff,reduceAdd,reduceMul,reduceLeDiff,reduceLT,h5])
       try (try simp only [go_sem,↓reduceIte,reduceEqDiff,reduceAdd,reduceMul,reduceLeDiff,reduceLT,wz])
       first
       | exact for_next _ h4p ⟨hs2,o⟩ rfl
       | exact for_next h h4p ⟨hsr.skip fun q=>(by rw [dec_t q.2] at h6; cases h6),o⟩ rfl
       | exact for_next h h4p ⟨hsr.skip fun q=>of_ndecide h5 q.1,o⟩ rfl
     ·have hze : z=P.length:=by have:=of_ndecide h4; omega
      refine tt ?_;refine app_own' _ o rfl rfl (by simp only [maxL]; omega) fun idr H row2 er2 hrow2 o=>?_;refine tw w ?_;refine for_next (idr,row2) h2p ⟨by show row2.length=_; omega, ?_,o⟩ rfl;rw [er2];refine hsn h ⟨fun q=>absurd h3p q,fun _=>?_⟩;rw [hze] at hsr;rw [hboth]; exact hsr
    ·refine tt ?_;refine app_own' _ o rfl rfl (by simp only [maxL]; omega) fun idr H row2 er2 hrow2 o=>?_;refine tw w ?_;refine for_next (idr,row2) h2p ⟨by show row2.length=_; omega, ?_,o⟩ rfl;rw [er2];exact hsn _ ⟨fun _=>rfl,fun q=>absurd q (of_ndecide h3)⟩
   ·have h2p:=of_ndecide h2
    have w:=wsucc (k:=x) (by omega);refine tt ?_;refine fz_own o rfl fun H o=>tt ?_;refine rd_cells o (by simp) ?_;refine tt ?_;refine app_own' row o.swap rfl rfl (by simp only [maxL]; omega) fun d H D2 eD hD2 o=>tt ?_;refine sw o.swap fun H o=>?_;refine tw w ?_;refine for_next (d,D2) h1p ⟨by show D2.length=_; omega,⟨fun r hr2=>?_,fun f q hf hq=>?_⟩,o⟩ rfl;rotate_left 1
    ·show PthE P f q ((D2.getD f default).getD q default)
     rw [eD]
     by_cases e : f<x
     ·rw [getD_l (by omega)]; exact hDe f q e hq
     ·have ef : f=x:=by omega
      rw [getD_r (by omega),ef,hD,Nat.sub_self]; exact hrE q (by omega)
    dsimp only at hr2;rw [eD] at hr2
    rcases List.mem_append.mp hr2 with h | h
    ·exact hDr r h
    ·rw [List.mem_singleton] at h; subst h; omega
  ·have h1p:=of_ndecide h1;refine tt ?_;refine wk_cell 4 o rfl rfl fun H o=>wkW_done ?_;simp only [List.set_cons_zero,List.set_cons_succ] at o;refine tt ?_;refine rd_celln o (by simp) ?_;refine tt ?_;refine sw o.swap fun H o=>tt ?_
   have hr2:=o.rc 5 0 (by simp);simp only [List.drop_zero] at hr2;rw [hr2];refine tt ?_
   have hxe : x=P.length:=by omega
   rw [hxe] at hD;refine rets_ret ⟨⟨n,P.map Pt.frm,P.map Pt.to,I,D⟩,by rw [hAf,hCf]; rfl,hPp.good (by omega) hP18 hI hIf hD (fun f hf=>hDr _ (mem_getD.mpr ⟨f,by omega,rfl⟩)) fun f g hf hg=>hDe f g (by omega) hg⟩ o.sub
end Go.Proofs.Shf
