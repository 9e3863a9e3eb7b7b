/- Contracts, part 3. -/
import Derived.Test.YtphikjciekmijaaGreatDoorF2
import Derived.Lib.ItoaNum
import Derived.Shelf.Strings.OnBuilder
import Derived.Shelf.Strconv.Itoa4
import Derived.Test.YtphikjciekmijaaGreatDoorProg
import Derived.Lib.Join
set_option linter.unusedVariables false
set_option linter.unusedSimpArgs false
set_option linter.unusedSectionVars false
set_option maxRecDepth 100000
open Nat (reduceEqDiff reduceAdd reduceMul reduceLeDiff reduceLT)
namespace Go.Proofs.Shf
open Go.AW Go.Proofs Go.Shf
@[go_sem] noncomputable def stepCells (f : SF) (V : List (List Int)) : List AV:=[iI f.shape.objs,iL f.shape.frm,iL f.shape.to,iL f.shape.idn,iLL f.shape.comp,iL (stepSizes f V),iLL (stepActs f V),iLLL (famsOf f V)]
end Go.Proofs.Shf
namespace Go.AW
open Go.Proofs Go.Proofs.Shf
theorem Owns.subl {H0 H : Heap} {l l' : List (Nat × MObj)} (h : Owns H0 H l) (k : l'.Sublist l) : Owns H0 H l' :=
 ⟨h.sub,fun x hx=>h.get x (k.subset hx),h.nd.sublist (k.map _),fun x hx=>h.out x (k.subset hx)⟩
end Go.AW
namespace Go.Proofs.Shf
open Go.AW Go.Proofs Go.Shf
end Go.Proofs.Shf
namespace Go.AW
def iB (b : UInt8) : AV:=.int .u8 (b.toNat : Int)
instance : One iB:=⟨fun _=>rfl,fun _=>rfl⟩
structure Src where
 code : List UInt8
 pl : Int
 hash : Int
def Src.cells (s : Src) : List AV:=[mL iB s.code,.int .i64 s.pl,.int .u64 s.hash]
def Src.Ok (s : Src) : Prop:=0≤s.pl∧s.code.length≤maxL
def Src.obj (s : Src) : MObj:=.cells 3 s.cells 0
def SrcK (id : Nat) (H0 : Heap) (Q : AV→Prop) : Kont:=fun r H'=>Q r∧∃ s' : Src,s'.Ok∧Owns H0 H' [(id,s'.obj)]
theorem Owns.self {H0 H : Heap} {id : Nat} {o : MObj} {l : List (Nat × MObj)} (h : Owns H0 H ((id,o)::l)) : Owns (H.del id) H [(id,o)] where
 sub:=fun i x hx=>by
  by_cases e : i=id
  ·subst e; rw [Heap.get_del_same] at hx; cases hx
  ·rwa [Heap.get_del_ne _ e] at hx
 get:=fun x hx=>by
  rw [List.mem_singleton] at hx; subst hx;exact h.get _ (by simp)
 nd:=by simp
 out:=fun x hx=>by
  rw [List.mem_singleton] at hx; subst hx;exact Heap.get_del_same _ _
end Go.AW
namespace Go.Proofs.Shf
open Go.AW Go.Proofs Go.Shf
theorem masked_ran {a x : Int} (h : IntKind.i64.wrap (IntKind.u64.wrap ((BitVec.ofInt IntKind.u64.bits a &&& BitVec.ofInt IntKind.u64.bits 16777215).toNat : Int))=x) : 0≤x∧x≤16777215:=by
 have h1 : (BitVec.ofInt IntKind.u64.bits a &&& BitVec.ofInt IntKind.u64.bits 16777215).toNat≤16777215:=by
  rw [BitVec.toNat_and]
  have : (BitVec.ofInt IntKind.u64.bits 16777215).toNat=16777215:=rfl;rw [this];exact Nat.and_le_right
 generalize (BitVec.ofInt IntKind.u64.bits a &&& BitVec.ofInt IntKind.u64.bits 16777215).toNat=m at h h1
 have e : IntKind.u64.wrap (m : Int)=m:=by
  have : IntKind.u64.wrap (m : Int)=(m : Int) % 18446744073709551616:=by simp only [IntKind.wrap]; rfl
  omega
 rw [e,wrap_i64 (by omega) (by omega)] at h;omega
def Rd (B : Nat) (fn : FuncId) (args : List AV) (Q : AV→Prop) : Prop :=
 ∀ (id : Nat) (s : Src) (H0 H : Heap),s.Ok→Owns H0 H [(id,s.obj)]→CallH Tryz.prog B fn (.ref id 0::args) H (SrcK id H0 Q)
theorem Rd.go {B : Nat} {fn : FuncId} {args : List AV} {Q : AV→Prop} {id : Nat} {s : Src} {H0 H : Heap} {l : List (Nat × MObj)} {K : Kont} (h : Rd B fn args Q) (hs : s.Ok) (o : Owns H0 H ((id,s.obj)::l))
  (hk : ∀ (r : AV) (s' : Src) (H' : Heap),r.fine→Q r→s'.Ok→Owns H0 H' ((id,s'.obj)::l)→K r H') : CallH Tryz.prog B fn (.ref id 0::args) H K :=
 (h id s _ H hs o.self).mono' fun r H' hf ⟨q,s',hs',o'⟩=>hk r s' H' hf q hs' (o.del.trans o')
theorem src_ret {id : Nat} {s : Src} {H0 H : Heap} {l : List (Nat × MObj)} {Q : AV→Prop} {v : AV} (q : Q v) (hs : s.Ok) (o : Owns H0 H ((id,s.obj)::l)) : subW (SrcK id H0 Q) v H :=
 ⟨H,.refl H,q,s,hs,o.subl (by simp)⟩
def Rets (B : Nat) (fn : FuncId) (args : List AV) (Q : AV→Prop) : Prop:=∀ H,CallH Tryz.prog B fn args H fun r H'=>Q r∧H'=H
theorem Rets.go {B : Nat} {fn : FuncId} {args : List AV} {Q : AV→Prop} {H : Heap} {K : Kont} (h : Rets B fn args Q) (hk : ∀ r,r.fine→Q r→K r H) : CallH Tryz.prog B fn args H K :=
 (h H).mono' fun r H' hf ⟨q,e⟩=>by subst e; exact hk r hf q
theorem rets_ret {H0 H : Heap} {Q : AV→Prop} {v : AV} (q : Q v) (h : H0.sub H) : subW (fun r H'=>Q r∧H'=H0) v H:=⟨H0,h,q,rfl⟩
theorem l01Next_ok (B : Nat) (n : Int) : Rd B 39 [iI n] fun r=>∃ k : Int,r=iI k∧0≤k∧(1≤n→k<n)∧(n<1→k=0):=by
 intro id s H0 H hs o;refine c39 (by simp) fun hf=>?_;unfold s39;refine tt ?_;apply bk <;> intro h1
 ·have h1p:=of_decide h1;refine tt ?_;exact src_ret ⟨0,rfl,by omega,by omega,fun _=>rfl⟩ hs o
 ·have h1p:=of_ndecide h1;refine tt ?_
  obtain ⟨code,pl,hash⟩:=s;simp only [Src.obj,Src.cells] at o;simp only [Src.Ok,maxL] at hs;refine rd_cells o (by simp) ?_;refine tt ?_;refine sw o fun H o=>tt ?_;refine rd_cells o (by simp) ?_;refine tt ?_
  generalize hx : IntKind.i64.wrap (IntKind.u64.wrap _)=x
  have hx2:=masked_ran hx;clear hx;refine ⟨by omega,rd_cells o (by simp) ?_⟩;refine tt ?_;refine rd_cells o (by simp) ?_;refine tt ?_;apply bk <;> intro h2
  ·have h2p:=of_decide h2;refine tt ?_;refine rd_cells o (by simp) ?_;refine tt ?_;refine rd_cells o (by simp) ?_;refine tt ?_;refine ⟨⟨hs.1,by omega⟩, ?_⟩
   have hb:=(ix code pl).toNat_lt;try simp only [go_sem,↓reduceIte,reduceEqDiff,reduceAdd,reduceMul,reduceLeDiff,reduceLT,iB]
   generalize (ix code pl).toNat=b at hb ⊢
   have e1 : IntKind.i64.wrap (b : Int)=b:=wrap_i64 (by omega) (by omega)
   have e2 : IntKind.i64.wrap (x+b)=x+b:=wrap_i64 (by omega) (by omega)
   have e3 : IntKind.i64.wrap (pl+1)=pl+1:=wrap_i64 (by omega) (by omega);try simp only [go_sem,↓reduceIte,reduceEqDiff,reduceAdd,reduceMul,reduceLeDiff,reduceLT,e1,e2]
   refine rd_cells o (by simp) ?_;refine tw e3 ?_;refine sw o fun H o=>tt ?_;refine ⟨by omega,src_ret (s:=⟨code,pl+1,_⟩) ⟨(x+b).tmod n,rfl, ?_, ?_, ?_⟩ ⟨by show 0≤pl+1; omega,hs.2⟩ o⟩
   ·exact Int.tmod_nonneg _ (by omega)
   ·intro h; exact Int.tmod_lt_of_pos _ (by omega)
   ·intro h; omega
  ·refine tt ?_;refine ⟨by omega,src_ret (s:=⟨code,pl,_⟩) ⟨x.tmod n,rfl, ?_, ?_, ?_⟩ hs o⟩
   ·exact Int.tmod_nonneg _ (by omega)
   ·intro h; exact Int.tmod_lt_of_pos _ (by omega)
   ·intro h; omega
theorem below_ok (B : Nat) (n : Int) : Rd B 12 [iI n] fun r=>∃ k : Int,r=iI k∧0≤k∧(1≤n→k<n)∧(n<1→k=0):=by
 intro id s H0 H hs o;refine c12 (by simp) fun hf=>?_;unfold s12;refine tt ?_;apply bk <;> intro h1
 ·have h1p:=of_decide h1;refine tt ?_;exact src_ret ⟨0,rfl,by omega,by omega,fun _=>rfl⟩ hs o
 ·have h1p:=of_ndecide h1;refine tt ?_
  obtain ⟨code,pl,hash⟩:=s;simp only [Src.obj,Src.cells] at o;simp only [Src.Ok,maxL] at hs;refine rd_cells o (by simp) ?_;refine tt ?_;refine sw o fun H o=>tt ?_;refine rd_cells o (by simp) ?_;refine tt ?_
  generalize hx : IntKind.i64.wrap (IntKind.u64.wrap _)=x
  have hx2:=masked_ran hx;clear hx;refine ⟨by omega,rd_cells o (by simp) ?_⟩;refine tt ?_;refine rd_cells o (by simp) ?_;refine tt ?_;apply bk <;> intro h2
  ·have h2p:=of_decide h2;refine tt ?_;refine rd_cells o (by simp) ?_;refine tt ?_;refine rd_cells o (by simp) ?_;refine tt ?_;refine ⟨⟨hs.1,by omega⟩, ?_⟩
   have hb:=(ix code pl).toNat_lt;try simp only [go_sem,↓reduceIte,reduceEqDiff,reduceAdd,reduceMul,reduceLeDiff,reduceLT,iB]
   generalize (ix code pl).toNat=b at hb ⊢
   have e1 : IntKind.i64.wrap (b : Int)=b:=wrap_i64 (by omega) (by omega)
   have e2 : IntKind.i64.wrap (x+b)=x+b:=wrap_i64 (by omega) (by omega)
   have e3 : IntKind.i64.wrap (pl+1)=pl+1:=wrap_i64 (by omega) (by omega);try simp only [go_sem,↓reduceIte,reduceEqDiff,reduceAdd,reduceMul,reduceLeDiff,reduceLT,e1,e2]
   refine rd_cells o (by simp) ?_;refine tw e3 ?_;refine sw o fun H o=>tt ?_;refine ⟨by omega,src_ret (s:=⟨code,pl+1,_⟩) ⟨(x+b).tmod n,rfl, ?_, ?_, ?_⟩ ⟨by show 0≤pl+1; omega,hs.2⟩ o⟩
   ·exact Int.tmod_nonneg _ (by omega)
   ·intro h; exact Int.tmod_lt_of_pos _ (by omega)
   ·intro h; omega
  ·refine tt ?_;refine ⟨by omega,src_ret (s:=⟨code,pl,_⟩) ⟨x.tmod n,rfl, ?_, ?_, ?_⟩ hs o⟩
   ·exact Int.tmod_nonneg _ (by omega)
   ·intro h; exact Int.tmod_lt_of_pos _ (by omega)
   ·intro h; omega
theorem l01Pick_ok (B : Nat) (l : List Int) (hl : l≠[]) : Rd B 78 [iL l] fun r=>∃ k : Int,r=iI k∧k∈l:=by
 intro id s H0 H hs o;refine c78 (by simp) fun hf=>?_
 have hp : 0<l.length:=List.length_pos_iff.mpr hl;unfold s78;refine tt ?_;refine (l01Next_ok B l.length).go hs o fun r s' H hr ⟨k,e,h0,h1,_⟩ hs o=>?_;subst e
 have h1:=h1 (by omega);refine tt ?_;refine ⟨⟨h0,by omega⟩,tt ?_⟩;exact src_ret ⟨_,rfl,ix_mem (by omega)⟩ hs o
theorem l02Number_ok (B : Nat) (n : Int) : Rd B 43 [iI n] fun r=>∃ k : Int,r=iI k:=by
 intro id s H0 H hs o;refine c43 (by simp) fun hf=>?_;unfold s43;refine tt ?_;refine (l01Next_ok B 40).go hs o fun r s' H hr ⟨k,e,h0,h1,_⟩ hs o=>?_;subst e;refine tt ?_;apply bk <;> intro h1
 ·refine tt ?_;refine ⟨?_, ?_⟩
  ·simp [maxL]
  refine (l01Pick_ok B [-1,n,9223372036854775807,-9223372036854775808] (by simp)).go hs o fun r s' H hr ⟨k,e,_⟩ hs o=>?_;subst e;refine tt ?_;exact src_ret ⟨_,rfl⟩ hs o
 ·refine tt ?_;refine (l01Next_ok B n).go hs o fun r s' H hr ⟨k,e,h0,h1,_⟩ hs o=>?_;subst e;refine tt ?_;exact src_ret ⟨_,rfl⟩ hs o
def MadeK (H0 : Heap) : Kont:=fun r H'=>∃ (id : Nat) (s : Src),r=.ref id 0∧s.Ok∧Owns H0 H' [(id,s.obj)]
theorem l01From_ok (B : Nat) (code : List UInt8) (H0 : Heap) : CallH Tryz.prog B 16 [mL iB code] H0 (MadeK H0):=by
 refine c16p (by simp) fun ⟨hf,_⟩=>?_
 have hl:=fine_mL_le hf
 have hl':=hl;simp only [maxL] at hl';unfold s16p;refine tt ?_;refine nb (.nil _) fun id H o=>tt ?_;refine awp_for [0,3] (G:=Int) (fun k _=>[(4,some (.int .i64 (k : Int)))]) (fun k h H=>Owns H0 H [(id,.cells 3 [mL iB code,.int .i64 0,.int .u64 h] 0)]) code.length _ o rfl ?_;clear o
 rintro k h H hk o
 have o : Owns H0 H [(id,.cells 3 [mL iB code,.int .i64 0,.int .u64 h] 0)]:=o
 have hend : MadeK H0 (.ref id 0) H:=⟨id,⟨code,0,h⟩,rfl,⟨Int.le_refl 0,hl⟩,o⟩;refine tt ?_;apply bk <;> intro h1
 ·have h1p:=of_decide h1;refine tw h1 ?_;apply bk <;> intro h2
  ·refine tt ?_;refine rd_cells o (by simp) ?_
   have w:=wsucc (k:=k) (by omega);try simp only [go_sem,↓reduceIte,reduceEqDiff,reduceAdd,reduceMul,reduceLeDiff,reduceLT,iB]
   refine ⟨by omega, ?_⟩;try simp only [go_sem,↓reduceIte,reduceEqDiff,reduceAdd,reduceMul,reduceLeDiff,reduceLT,iB]
   refine sw o fun H o=>?_;refine tw w ?_;exact for_next _ (by omega) o rfl
  ·refine tt ?_;exact ⟨H,.refl H,hend⟩
 ·refine tw h1 ?_;exact ⟨H,.refl H,hend⟩
theorem roll_ok (B : Nat) (code : List UInt8) (z : Int) (H0 : Heap) : CallH Tryz.prog B 10 [mL iB code,.int .u64 z] H0 (MadeK H0):=by
 refine c10p (by simp) fun ⟨hf,_⟩=>?_
 have hl:=fine_mL_le hf
 have hl':=hl;simp only [maxL] at hl';unfold s10p;refine tt ?_;refine nb (.nil _) fun id H o=>tt ?_;refine awp_for [0,5] (G:=Int) (fun k _=>[(6,some (.int .i64 (k : Int)))]) (fun k h H=>Owns H0 H [(id,.cells 3 [mL iB code,.int .i64 0,.int .u64 h] 0)]) code.length _ o rfl ?_;clear o
 rintro k h H hk o
 have o : Owns H0 H [(id,.cells 3 [mL iB code,.int .i64 0,.int .u64 h] 0)]:=o
 have hend : MadeK H0 (.ref id 0) H:=⟨id,⟨code,0,h⟩,rfl,⟨Int.le_refl 0,hl⟩,o⟩;refine tt ?_;apply bk <;> intro h1
 ·have h1p:=of_decide h1;refine tt ?_;refine rd_cells o (by simp) ?_
  have w:=wsucc (k:=k) (by omega);try simp only [go_sem,↓reduceIte,reduceEqDiff,reduceAdd,reduceMul,reduceLeDiff,reduceLT,iB]
  refine ⟨by omega, ?_⟩;try simp only [go_sem,↓reduceIte,reduceEqDiff,reduceAdd,reduceMul,reduceLeDiff,reduceLT,iB]
  refine sw o fun H o=>?_;refine tw w ?_;exact for_next _ (by omega) o rfl
 ·refine tt ?_;exact ⟨H,.refl H,hend⟩
theorem big_ok (B : Nat) (code : List UInt8) : Pur Tryz.prog B 4 [mL iB code] (.bool (decide (4096<code.length))):=by
 refine ⟨fun H0=>c4 (by simp) fun hf=>?_⟩;unfold s4;refine tt ?_;refine pure_ret ?_ (.refl _)
 congr 1
 exact decide_eq_decide.mpr (by omega)
theorem likeInts_ok (B : Nat) (a b : List Int) : Pur Tryz.prog B 36 [iL a,iL b] (.bool (dec (a=b))):=by
 refine ⟨fun H0=>c36 (by simp) fun ⟨hf,hg,_⟩=>?_⟩
 have hl:=fine_mL_le hf
 have hl2:=fine_mL_le hg;simp only [maxL] at hl hl2;unfold s36;refine tt ?_;apply bk <;> intro h0
 ·refine tt ?_
  have h0p : a.length≠b.length:=by simpa using h0
  exact pure_ret (by rw [dec_f]; rintro rfl; exact h0p rfl) (.refl _)
 have h0p : a.length=b.length:=by simpa using h0
 refine tt ?_;refine awp_for [0,1] (fun k _=>[(5,some (.int .i64 (k : Int)))]) (fun k _ H=>H=H0∧∀ i,i<k→a.getD i default=b.getD i default) a.length () ⟨rfl,by simp⟩ rfl ?_
 rintro k _ H hk ⟨rfl,hall⟩;refine tt ?_;apply bk <;> intro h1
 ·have h1:=of_decide h1
  have w1:=wsucc (k:=k) (by omega);refine tt ?_;refine ⟨h1,by omega,tt ?_⟩;apply bk <;> intro h2
  ·refine tt ?_
   have h2p : a.getD k default≠b.getD k default:=by simpa using h2
   exact pure_ret (by rw [dec_f]; rintro rfl; exact h2p rfl) (.refl _)
  ·refine tw w1 ?_
   have h2p : a.getD k default=b.getD k default:=by simpa using h2
   exact for_next () (by omega) ⟨rfl,lt_succ_all hall h2p⟩ rfl
 ·refine tt ?_
  have h1:=of_ndecide h1;refine pure_ret ?_ (.refl _);rw [dec_t];refine List.ext_getElem h0p fun i hi hj=>?_
  have:=hall i (by omega)
  simpa [List.getD_eq_getElem?_getD,hi,hj] using this
def decB (n : Int) : List UInt8:=Lib.decDigits n.toNat
theorem decB_one {n : Int} (h : 0≤n∧n<10) : decB n=[UInt8.ofNat (48+n).toNat]:=by
 rw [decB,Lib.decDigits_one (by omega)]
 congr 2; omega
theorem decB_two {n : Int} (h : 10≤n∧n<100) : decB n=decB (n / 10)++[UInt8.ofNat (48+n % 10).toNat]:=by
 rw [decB,Lib.decDigits_two (by omega) (by omega),decB_one (by omega)]
 have h1 : 48+n.toNat / 10=(48+n / 10).toNat:=by omega
 have h2 : 48+n.toNat % 10=(48+n % 10).toNat:=by omega
 rw [h1,h2]; rfl
theorem decB_len {n : Int} (h : 0≤n∧n<100) : 1≤(decB n).length∧(decB n).length≤2:=by
 by_cases h1 : n<10
 ·rw [decB_one ⟨h.1,h1⟩]; simp
 ·rw [decB_two ⟨by omega,h.2⟩,decB_one (by omega)]; simp
theorem l01Dec1_ok (B : Nat) (n : Int) (h : 0≤n∧n<10) : Pur Tryz.prog B 56 [iI n] (.str (decB n)):=by
 refine ⟨fun H0=>c56 (by simp) fun _=>?_⟩;unfold s56
 have w1 : IntKind.i64.wrap (48+n)=48+n:=wrap_i64 (by omega) (by omega)
 have w2 : IntKind.u8.wrap (48+n)=48+n:=by simp [IntKind.wrap,IntKind.bits,IntKind.signed]; omega
 refine tt ?_;apply bk <;> intro h1
 ·try simp only [go_sem,↓reduceIte,reduceEqDiff,reduceAdd,reduceMul,reduceLeDiff,reduceLT,w1,w2]
  refine ⟨by simp [AV.isByte], ?_⟩;exact pure_ret (by rw [decB_one h]; rfl) (.refl _)
 ·have h1p:=of_ndecide h1;omega
theorem l01Dec_ok (B : Nat) (n : Int) (h : 0≤n∧n<100) : Pur Tryz.prog B 56 [iI n] (.str (decB n)):=by
 by_cases h10 : n<10
 ·exact l01Dec1_ok B n ⟨h.1,h10⟩
 refine ⟨fun H0=>c56 (by simp) fun _=>?_⟩;unfold s56
 have w1 : IntKind.i64.wrap (48+n % 10)=48+n % 10:=wrap_i64 (by omega) (by omega)
 have w2 : IntKind.u8.wrap (48+n % 10)=48+n % 10:=by simp [IntKind.wrap,IntKind.bits,IntKind.signed]; omega
 refine tt ?_;apply bk <;> intro h1
 ·have h1p:=of_decide h1;omega
 ·have e1 : n.tdiv 10=n / 10:=Int.tdiv_eq_ediv_of_nonneg h.1
  have e2 : n.tmod 10=n % 10:=Int.tmod_eq_emod_of_nonneg h.1
  have w3 : IntKind.i64.wrap (n / 10)=n / 10:=wrap_i64 (by omega) (by omega)
  have l1:=decB_len (n:=n / 10) (by omega);try simp only [go_sem,↓reduceIte,reduceEqDiff,reduceAdd,reduceMul,reduceLeDiff,reduceLT,e1,e2,w1,w2,w3]
  refine ⟨by decide,_,(l01Dec1_ok B (n / 10) (by omega)).run, ?_⟩;try simp only [go_sem,↓reduceIte,reduceEqDiff,reduceAdd,reduceMul,reduceLeDiff,reduceLT,w1,w2]
  refine ⟨by decide,by simp [AV.isByte],tt ?_⟩
  trace_state
  refine ⟨by simp [maxL]; omega, ?_⟩;exact pure_ret (by rw [decB_two ⟨by omega,h.2⟩]; rfl) (.refl _)
end Go.Proofs.Shf
namespace Go.Proofs
open Go.Shelf
def Tryz.lays156_ren : Go.Shelf.Ren:=⟨fun | 156=>90 | 165=>119 | 166=>120 | 169=>121 | 240=>139 | 241=>140 | 276=>163 | 277=>164 | n=>n,fun | 31=>96 | 9=>9 | 3=>3 | 4=>4 | 0=>0 | 20=>20 | 72=>171 | 76=>175 | 70=>169 | 37=>22 | 75=>174 | 127=>194 | 164=>216 | 5=>5 | 80=>67 | n=>n,fun | n=>n⟩
theorem Tryz.lays156 : Go.Proofs.Lays.n156 Tryz.prog Tryz.lays156_ren:={
 mixed:=by kernel_rfl
 f156:=Tryz.func90.trans (congrArg some (by kernel_rfl))
 f165:=Tryz.func119.trans (congrArg some (by kernel_rfl))
 f166:=Tryz.func120.trans (congrArg some (by kernel_rfl))
 f169:=Tryz.func121.trans (congrArg some (by kernel_rfl))
 f240:=Tryz.func139.trans (congrArg some (by kernel_rfl))
 f241:=Tryz.func140.trans (congrArg some (by kernel_rfl))
 f276:=Tryz.func163.trans (congrArg some (by kernel_rfl))
 f277:=Tryz.func164.trans (congrArg some (by kernel_rfl))
 t0:=Tryz.underlying0
 a0:=Tryz.isAgg0
 z0:=Tryz.sizeOf0
 v0:=Tryz.zeroValue0
 t3:=Tryz.underlying3
 a3:=Tryz.isAgg3
 z3:=Tryz.sizeOf3
 v3:=Tryz.zeroValue3
 t4:=Tryz.underlying4
 a4:=Tryz.isAgg4
 z4:=Tryz.sizeOf4
 v4:=Tryz.zeroValue4
 t9:=Tryz.underlying9
 a9:=Tryz.isAgg9
 z9:=Tryz.sizeOf9
 v9:=Tryz.zeroValue9
 t20:=Tryz.underlying20
 a20:=Tryz.isAgg20
 z20:=Tryz.sizeOf20
 v20:=Tryz.zeroValue20
 t31:=Tryz.underlying96
 a31:=Tryz.isAgg96
 z31:=Tryz.sizeOf96
 v31:=Tryz.zeroValue96
 t37:=Tryz.underlying22
 a37:=Tryz.isAgg22
 z37:=Tryz.sizeOf22
 v37:=Tryz.zeroValue22
 t70:=Tryz.underlying169
 a70:=Tryz.isAgg169
 z70:=Tryz.sizeOf169
 v70:=Tryz.zeroValue169
 t72:=Tryz.underlying171
 a72:=Tryz.isAgg171
 z72:=Tryz.sizeOf171
 v72:=Tryz.zeroValue171
 t75:=Tryz.underlying174
 a75:=Tryz.isAgg174
 z75:=Tryz.sizeOf174
 v75:=Tryz.zeroValue174
 t76:=Tryz.underlying175
 a76:=Tryz.isAgg175
 z76:=Tryz.sizeOf175
 v76:=Tryz.zeroValue175
 t127:=Tryz.underlying194
 a127:=Tryz.isAgg194
 z127:=Tryz.sizeOf194
 v127:=Tryz.zeroValue194
 t164:=Tryz.underlying216
 a164:=Tryz.isAgg216
 z164:=Tryz.sizeOf216
 v164:=Tryz.zeroValue216 }
theorem Tryz.Builder_Extra_156 : Builder.Extra Tryz.prog Tryz.lays156_ren:={
 sizeBuilder:=by kernel_rfl
 liesBuilder:=by kernel_rfl
 t5:=Tryz.underlying5
 a5:=Tryz.isAgg5
 z5:=Tryz.sizeOf5
 v5:=Tryz.zeroValue5
 infoByte:=by kernel_rfl
 cellsByte:=by kernel_rfl
 sizeByte:=by kernel_rfl
 neB5:=by decide }
open Go.RowKit in
/-- strings.Join: "Join concatenates the elements of its first argument to create a single string. The separator string sep is placed between elements in the resulting string.": HOWEVER MANY ELEMENTS. Below the heap's end the world is as it was. (LAID: no walk: one application.) -/
theorem Tryz.strings_Join (bk o c : Nat) (xs : List ByteArray) (sep : ByteArray) (w : World) (hcells : ∀ (j : Nat) x,xs[j]? = some x→w.cell? ⟨bk,o+j,none⟩=some (.string x)) (hbk : bk<w.heap.size) (hN : xs.length≤140737488355328) (hcap : xs.length≤c) (hlen : (Lib.join (xs.map (·.data.toList)) sep.data.toList).length≤140737488355328) :
  Calls Tryz.prog 90 #[.slice (some ⟨bk,o,none⟩) xs.length c,.string sep] w fun e w'=>e=.returned (.string ⟨(Lib.join (xs.map (·.data.toList)) sep.data.toList).toArray⟩)∧Below w.heap.size w w':=Any.strings_Join Tryz.lays156 Tryz.Builder_Extra_156 bk o c xs sep w hcells hbk hN hcap hlen
def Tryz.lays173_ren : Go.Shelf.Ren:=⟨fun | 173=>89 | 246=>118 | 283=>135 | 284=>136 | 285=>137 | 286=>138 | 129=>155 | 317=>159 | 318=>160 | 319=>161 | 320=>162 | 337=>175 | 338=>176 | n=>n,fun | 2=>2 | 3=>3 | 9=>9 | 4=>4 | 171=>189 | 0=>0 | 53=>41 | 37=>22 | 5=>5 | 173=>192 | 212=>213 | 51=>104 | 20=>20 | 213=>214 | 46=>74 | 232=>237 | 233=>238 | n=>n,fun | 17=>0 | 18=>2 | 19=>3 | n=>n⟩
theorem Tryz.lays173 : Go.Proofs.Lays.n173 Tryz.prog Tryz.lays173_ren:={
 mixed:=by kernel_rfl
 f129:=Tryz.func155.trans (congrArg some (by kernel_rfl))
 f173:=Tryz.func89.trans (congrArg some (by kernel_rfl))
 f246:=Tryz.func118.trans (congrArg some (by kernel_rfl))
 f283:=Tryz.func135.trans (congrArg some (by kernel_rfl))
 f284:=Tryz.func136.trans (congrArg some (by kernel_rfl))
 f285:=Tryz.func137.trans (congrArg some (by kernel_rfl))
 f286:=Tryz.func138.trans (congrArg some (by kernel_rfl))
 f317:=Tryz.func159.trans (congrArg some (by kernel_rfl))
 f318:=Tryz.func160.trans (congrArg some (by kernel_rfl))
 f319:=Tryz.func161.trans (congrArg some (by kernel_rfl))
 f320:=Tryz.func162.trans (congrArg some (by kernel_rfl))
 f337:=Tryz.func175.trans (congrArg some (by kernel_rfl))
 f338:=Tryz.func176.trans (congrArg some (by kernel_rfl))
 t0:=Tryz.underlying0
 a0:=Tryz.isAgg0
 z0:=Tryz.sizeOf0
 v0:=Tryz.zeroValue0
 t2:=Tryz.underlying2
 a2:=Tryz.isAgg2
 z2:=Tryz.sizeOf2
 v2:=Tryz.zeroValue2
 t3:=Tryz.underlying3
 a3:=Tryz.isAgg3
 z3:=Tryz.sizeOf3
 v3:=Tryz.zeroValue3
 t4:=Tryz.underlying4
 a4:=Tryz.isAgg4
 z4:=Tryz.sizeOf4
 v4:=Tryz.zeroValue4
 t5:=Tryz.underlying5
 a5:=Tryz.isAgg5
 z5:=Tryz.sizeOf5
 v5:=Tryz.zeroValue5
 t9:=Tryz.underlying9
 a9:=Tryz.isAgg9
 z9:=Tryz.sizeOf9
 v9:=Tryz.zeroValue9
 t20:=Tryz.underlying20
 a20:=Tryz.isAgg20
 z20:=Tryz.sizeOf20
 v20:=Tryz.zeroValue20
 t37:=Tryz.underlying22
 a37:=Tryz.isAgg22
 z37:=Tryz.sizeOf22
 v37:=Tryz.zeroValue22
 t46:=Tryz.underlying74
 a46:=Tryz.isAgg74
 z46:=Tryz.sizeOf74
 v46:=Tryz.zeroValue74
 t51:=Tryz.underlying104
 a51:=Tryz.isAgg104
 z51:=Tryz.sizeOf104
 v51:=Tryz.zeroValue104
 t53:=Tryz.underlying41
 a53:=Tryz.isAgg41
 z53:=Tryz.sizeOf41
 v53:=Tryz.zeroValue41
 t171:=Tryz.underlying189
 a171:=Tryz.isAgg189
 z171:=Tryz.sizeOf189
 v171:=Tryz.zeroValue189
 t173:=Tryz.underlying192
 a173:=Tryz.isAgg192
 z173:=Tryz.sizeOf192
 v173:=Tryz.zeroValue192
 t212:=Tryz.underlying213
 a212:=Tryz.isAgg213
 z212:=Tryz.sizeOf213
 v212:=Tryz.zeroValue213
 t213:=Tryz.underlying214
 a213:=Tryz.isAgg214
 z213:=Tryz.sizeOf214
 t232:=Tryz.underlying237
 a232:=Tryz.isAgg237
 z232:=Tryz.sizeOf237
 v232:=Tryz.zeroValue237
 t233:=Tryz.underlying238
 a233:=Tryz.isAgg238
 z233:=Tryz.sizeOf238
 v233:=Tryz.zeroValue238
 g17:=by kernel_rfl
 g18:=by kernel_rfl
 g19:=by kernel_rfl }
open Go.RowKit Go.Sort Go.Lib in
/-- THE ROAD WITHOUT THE TABLE: 0 <= i < 100. (LAID: no walk: one application.) -/
theorem Tryz.strconv_FormatInt_10_small (i : Nat) (hi : i<100) (w : World) :
  Calls Tryz.prog 89 #[.int .i64 i,.int .i64 10] w fun e w'=>e=.returned (.string ⟨(Lib.decDigits i).toArray⟩)∧w'=w:=Any.strconv_FormatInt_10_small Tryz.lays173 i hi w
end Go.Proofs
namespace Go.Proofs.Shf
open Go.AW Go.Proofs Go.Shf
theorem format_ok (B : Nat) (n : Int) (h : 0≤n∧n<100) : Pur Tryz.prog B 89 [iI n,iI 10] (.str (decB n)):=by
 refine ⟨fun H0=>⟨⟨_,Tryz.func89,by kernel_rfl,by kernel_rfl⟩,fun g w vs hW hv=>?_⟩⟩
 obtain ⟨hv0,hv1⟩:=hv
 obtain ⟨v0,v1,rfl⟩ : ∃ v0 v1,vs=#[v0,v1]:=by
  rcases vs with ⟨l⟩
  simp only [List.length_cons,List.length_nil] at hv0
  match l,hv0 with
  | [a,b],_=>exact ⟨a,b,rfl⟩
 have e0 : VRel g (iI n) v0:=hv1 0 (by simp)
 have e1 : VRel g (iI 10) v1:=hv1 1 (by simp)
 cases e0; cases e1
 have hn : n=((n.toNat : Nat) : Int):=by omega
 have hc:=Tryz.strconv_FormatInt_10_small n.toNat (by omega) w;rw [← hn] at hc;refine hc.mono ?_
 rintro e w' ⟨rfl,rfl⟩;exact ⟨_,rfl,g,.str (decB n),H0,.refl g,⟨rfl,rfl⟩,.str _,hW,.refl B _⟩
theorem join_ok (B : Nat) (hB : B % 2=1) (ws : List (List UInt8)) (sep : List UInt8) (h0 : ws≠[]) (hl : (Lib.join ws sep).length≤140737488355328) : Pur Tryz.prog B 90 [mL AV.str ws,.str sep] (.str (Lib.join ws sep)):=by
 refine ⟨fun H0=>⟨⟨_,Tryz.func90,by kernel_rfl,by kernel_rfl⟩,fun g w vs hW hv=>?_⟩⟩
 obtain ⟨hv0,hv1⟩:=hv
 obtain ⟨v0,v1,rfl⟩ : ∃ v0 v1,vs=#[v0,v1]:=by
  rcases vs with ⟨l⟩
  simp only [List.length_cons,List.length_nil] at hv0
  match l,hv0 with
  | [a,b],_=>exact ⟨a,b,rfl⟩
 have e0 : VRel g (mL AV.str ws) v0:=hv1 0 (by simp)
 have e1 : VRel g (.str sep) v1:=hv1 1 (by simp)
 cases e1;unfold mL at e0
 obtain ⟨x0,r0,rfl⟩:=List.exists_cons_of_ne_nil h0
 generalize hes : List.map AV.str (x0::r0)=es at e0
 have hlen : es.length=(x0::r0).length:=by rw [← hes,List.length_map]
 have hat : ∀ i,i<(x0::r0).length→es.getD i nv=.str ((x0::r0).getD i default):=fun i hi=>by
  rw [← hes,List.getD_eq_getElem?_getD,List.getElem?_map,List.getD_eq_getElem?_getD,List.getElem?_eq_getElem hi]; rfl
 cases e0 with
 | slnil a cap=>simp at hlen
 | sl _ b o sz cap vs hm hcap hsz hf hv =>
  have hp : 0<es.length:=by rw [hlen]; simp
  have h1 : sz=1:=by
   have:=hsz 0 hp;rw [hat 0 (by simp)] at this
   simpa [AV.cells] using this.symm
  subst h1
  have hcell : ∀ (j : Nat) x,((x0::r0).map fun l=>(⟨l.toArray⟩ : ByteArray))[j]? = some x→w.cell? ⟨b,o+j,none⟩=some (.string x):=fun j x hx=>by
   rw [List.getElem?_map] at hx
   obtain ⟨l,hl1,hl2⟩:=Option.map_eq_some_iff.mp hx
   have hj : j<(x0::r0).length:=(List.getElem?_eq_some_iff.1 hl1).1
   have hfj:=hf j 0 (by omega) (by omega)
   have hvj:=hv j 0 (by omega) (by omega);rw [hat j hj] at hvj
   have he : (x0::r0).getD j default=l:=by rw [List.getD_eq_getElem?_getD,hl1]; rfl
   rw [he] at hvj;simp only [AV.cells,Nat.mul_one,Nat.add_zero] at hvj hfj
   cases hvq : vs j with
   | _=>first | (rw [hvq] at hvj; cases hvj; subst hl2; rw [hvq] at hfj; exact hW.fz _ _ _ hfj) | (rw [hvq] at hvj; cases hvj)
  have hb : b<w.heap.size:=by
   have:=hf 0 0 hp (by omega);exact hW.fz_lt this
  have hj : Lib.join (((x0::r0).map fun l=>(⟨l.toArray⟩ : ByteArray)).map (·.data.toList)) (⟨sep.toArray⟩ : ByteArray).data.toList=Lib.join (x0::r0) sep:=by
   rw [List.map_map]
   congr 1
   conv=>rhs; rw [← List.map_id (x0::r0)]
   rfl
  have hc:=Tryz.strings_Join b o cap ((x0::r0).map fun l=>(⟨l.toArray⟩ : ByteArray)) ⟨sep.toArray⟩ w hcell hb (by rw [List.length_map,← hlen]; simp only [maxL] at hm; omega) (by rw [List.length_map,← hlen]; exact hcap) (by rw [hj]; exact hl);rw [hj,List.length_map,← hlen] at hc;refine hc.mono ?_
  rintro e w' ⟨rfl,hbl⟩;refine ⟨_,rfl,g,.str (Lib.join (x0::r0) sep),H0,.refl g,⟨rfl,rfl⟩,.str _,hW.grow hbl.size hbl.block,⟨hbl.os,hbl.tape,hbl.output,hbl.size,fun k hk=>hbl.block k ?_,fun e=>by omega⟩⟩
  have:=hW.base;omega
end Go.Proofs.Shf
namespace Go.AW
end Go.AW
namespace Go.Proofs.Shf
open Go.AW Go.Proofs Go.Shf
end Go.Proofs.Shf
namespace Go.Shf
open Go.AW
end Go.Shf
namespace Go.Proofs.Shf
open Go.AW Go.Proofs Go.Shf
end Go.Proofs.Shf
namespace Go.Shf
open Go.AW Go.Proofs.Shf
def keyB (L : List (List Int)) : List Int:=L.flatMap fun l=>l.map IntKind.u8.wrap++[255]
def keyS (L : List (List Int)) : List UInt8:=(keyB L).map fun n=>UInt8.ofNat n.toNat
def plS (L : List (List Int)) : Nat→List AV × List AV
 | 0=>([],[])
 | k+1=>mput (.str (keyS [L.getD k default])) (iI k) (plS L k).1 (plS L k).2
end Go.Shf
namespace Go.Proofs.Shf
open Go.AW Go.Proofs Go.Shf
end Go.Proofs.Shf
namespace Go.Shf
open Go.AW
structure Cov where
 shape : Cat
 sizes : List Int
 pulls : List (List Int)
 sieves : List (List (List Int))
 marks : List (List Bool)
@[go_sem] def Cov.cls (v : Cov) : List AV:=[iI v.shape.objs,iL v.shape.frm,iL v.shape.to,iL v.shape.idn,iLL v.shape.comp,iL v.sizes,iLL v.pulls,iLLL v.sieves]
@[go_sem] def Cov.cells (v : Cov) (cnt : AV) : List AV:=[.ptr v.cls,.ptr v.shape.cells,mL (mL AV.bool) v.marks,cnt]
end Go.Shf
namespace Go.Proofs.Shf
open Go.AW Go.Proofs Go.Shf
end Go.Proofs.Shf
namespace Go.Shf
open Go.AW
end Go.Shf
namespace Go.AW
end Go.AW
namespace Go.Shf
open Go.AW
def plE (L : List (List Int)) : AV:=.imap (plS L L.length).1 (plS L L.length).2
instance : One plE:=⟨fun _=>rfl,fun _=>rfl⟩
end Go.Shf
namespace Go.Proofs.Shf
open Go.AW Go.Proofs Go.Shf
@[go_sem] noncomputable def stepVal (f : SF) (V : List (List Int)) : AV:=.ptr [.ptr f.cells,iI f.shape.objs,iL f.shape.frm,iL f.shape.to,iL f.shape.idn,iLL f.shape.comp,iL (stepSizes f V),iLL (stepActs f V),iLL V,iLLL (famsOf f V),mL plE (famsOf f V)]
end Go.Proofs.Shf
