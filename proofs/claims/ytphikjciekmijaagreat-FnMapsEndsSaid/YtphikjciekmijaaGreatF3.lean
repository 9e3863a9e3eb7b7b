/- Contracts, part 3. -/
import Derived.Test.YtphikjciekmijaaGreatF2
set_option linter.unusedVariables false
set_option linter.unusedSimpArgs false
set_option linter.unusedSectionVars false
set_option maxRecDepth 100000
open Nat (reduceEqDiff reduceAdd reduceMul reduceLeDiff reduceLT)
namespace Go.Proofs.Shf
open Go.AW Go.Proofs Go.Shf
@[go_sem] noncomputable def stepCells (f : SF) (V : List (List Int)) : List AV:=[iI f.shape.objs,iL f.shape.frm,iL f.shape.to,iL f.shape.idn,iLL f.shape.comp,iL (stepSizes f V),iLL (stepActs f V),iLLL (famsOf f V)]
end Go.Proofs.Shf
namespace Go.AW
open Go.Proofs Go.Proofs.Shf
theorem Owns.ext {H0 H H' : Heap} {l : List (Nat × MObj)} (h : Owns H0 H l) (k : H.sub H') : Owns H0 H' l :=
 ⟨h.sub.trans k,fun x hx=>k _ _ (h.get x hx),h.nd,h.out⟩
theorem LsO.ext {α : Type} {f : α→AV} {H0 H H' : Heap} {l : List (Nat × MObj)} {X : AV} {A : List α} (h : LsO f H0 H l X A) (k : H.sub H') : LsO f H0 H' l X A:=by
 rcases h with ⟨h1,h2,h⟩ | ⟨id,h1,h⟩
 ·exact .inl ⟨h1,h2,h.ext k⟩
 ·exact .inr ⟨id,h1,h.ext k⟩
theorem lent_get {α : Type} [Inhabited α] {f : α→AV} [One f] {B : Nat} {H : Heap} {id n fr : Nat} {A : List α} (h0 : H.get id=some (.cells 1 (A.map f) fr)) (hn : n=A.length) :
  ∀ g w v,WRel g B H w→VRel g (.buf id n) v→VRel (g.lend H w) (mL f A) v:=by
 subst hn
 have:=Tr.buf (H:=H) id fr (A.map f) (A.map f) h0 rfl (fun i hi=>by rw [List.length_map] at hi; rw [getD_map A hi]; exact one_cells _) (fun i _=>.val _);rw [List.length_map] at this;exact this.arg
theorem Owns.subl {H0 H : Heap} {l l' : List (Nat × MObj)} (h : Owns H0 H l) (k : l'.Sublist l) : Owns H0 H l' :=
 ⟨h.sub,fun x hx=>h.get x (k.subset hx),h.nd.sublist (k.map _),fun x hx=>h.out x (k.subset hx)⟩
theorem LsP.lenE {α : Type} {f : α→AV} {p : List (Nat × MObj)} {X : AV} {A : List α} (h : LsP f p X A) : lenE (some X)=some (True,.int .i64 A.length):=by
 rcases h with ⟨_,rfl,rfl⟩ | ⟨id,_,rfl⟩ <;> rfl
theorem LsP.sub {α : Type} {f : α→AV} {p : List (Nat × MObj)} {X : AV} {A : List α} (h : LsP f p X A) {i : Nat} (hi : i<A.length) : ∃ id,p=[(id,.cells 1 (A.map f) 0)]∧X=.buf id A.length:=by
 rcases h with ⟨_,_,rfl⟩ | h
 ·simp at hi
 ·exact h
theorem CallH.gave {α : Type} [Inhabited α] {f : α→AV} [One f] {P : Program} {B : Nat} {fn : FuncId} {args : List AV} {H : Heap} {Q : List α→Prop} {K : Kont} (h : CallH P B fn args H (OwnK f H [] Q))
  (hk : ∀ A H',H.sub H'→Q A→K (mL f A) H') : CallH P B fn args H K:=by
 refine ⟨h.1,fun g w vs hW hv=>(h.2 g w vs hW hv).mono fun e w' ⟨v,he,g',r,H',a,⟨id,A,e1,o,q⟩,c,d,k⟩=>?_⟩;subst e1
 obtain ⟨g2,q1,q2,q3⟩:=d.gaveV o.h0;exact ⟨v,he,g2,mL f A,_,a.trans q1,hk A _ (Go.AW.sub_set o.sub (o.out _ (by simp))) q,q3 g2 v (.refl _) (c.mono q1),q2,k⟩
end Go.AW
namespace Go.Proofs.Shf
open Go.AW Go.Proofs Go.Shf
end Go.Proofs.Shf
namespace Go.AW
open Go.Proofs Go.Shf Go.Proofs.Shf
theorem indexOf_first {l : List Int} {a : Int} (h : 0≤indexOf l a) : (indexOf l a).toNat<l.length∧l.getD (indexOf l a).toNat default=a∧∀ m,m<(indexOf l a).toNat→l.getD m default≠a:=by
 have hm:=(indexOf_mem l a).mp h
 have hi:=indexOf_in hm;refine ⟨hi.2.1,hi.2.2,fun m hml e=>?_⟩;unfold indexOf at hml
 split at hml
 ·rename_i i hs
  rw [List.idxOf?_eq_some_iff] at hs
  obtain ⟨h1,h2,h3⟩:=hs
  have hm2 : m<i:=by simpa using hml
  have h4 : m<l.length:=by omega
  have:=h3 m hm2;exact this (by simpa [List.getD_eq_getElem?_getD,h4] using e)
 ·simp at hml
end Go.AW
namespace Go.Proofs.Shf
open Go.AW Go.Proofs Go.Shf
end Go.Proofs.Shf
namespace Go.AW
def iB (b : UInt8) : AV:=.int .u8 (b.toNat : Int)
instance : One iB:=⟨fun _=>rfl,fun _=>rfl⟩
structure Src where
 code : List UInt8
 pl : Int
 hash : Int
def Src.cells (s : Src) : List AV:=[mL iB s.code,.int .i64 s.pl,.int .u64 s.hash]
def Src.Ok (s : Src) : Prop:=0≤s.pl∧s.code.length≤maxL
def Src.obj (s : Src) : MObj:=.cells 3 s.cells 0
def SrcK (id : Nat) (H0 : Heap) (Q : AV→Prop) : Kont:=fun r H'=>Q r∧∃ s' : Src,s'.Ok∧Owns H0 H' [(id,s'.obj)]
theorem Owns.self {H0 H : Heap} {id : Nat} {o : MObj} {l : List (Nat × MObj)} (h : Owns H0 H ((id,o)::l)) : Owns (H.del id) H [(id,o)] where
 sub:=fun i x hx=>by
  by_cases e : i=id
  ·subst e; rw [Heap.get_del_same] at hx; cases hx
  ·rwa [Heap.get_del_ne _ e] at hx
 get:=fun x hx=>by
  rw [List.mem_singleton] at hx; subst hx;exact h.get _ (by simp)
 nd:=by simp
 out:=fun x hx=>by
  rw [List.mem_singleton] at hx; subst hx;exact Heap.get_del_same _ _
end Go.AW
namespace Go.Proofs.Shf
open Go.AW Go.Proofs Go.Shf
theorem masked_ran {a x : Int} (h : IntKind.i64.wrap (IntKind.u64.wrap ((BitVec.ofInt IntKind.u64.bits a &&& BitVec.ofInt IntKind.u64.bits 16777215).toNat : Int))=x) : 0≤x∧x≤16777215:=by
 have h1 : (BitVec.ofInt IntKind.u64.bits a &&& BitVec.ofInt IntKind.u64.bits 16777215).toNat≤16777215:=by
  rw [BitVec.toNat_and]
  have : (BitVec.ofInt IntKind.u64.bits 16777215).toNat=16777215:=rfl;rw [this];exact Nat.and_le_right
 generalize (BitVec.ofInt IntKind.u64.bits a &&& BitVec.ofInt IntKind.u64.bits 16777215).toNat=m at h h1
 have e : IntKind.u64.wrap (m : Int)=m:=by
  have : IntKind.u64.wrap (m : Int)=(m : Int) % 18446744073709551616:=by simp only [IntKind.wrap]; rfl
  omega
 rw [e,wrap_i64 (by omega) (by omega)] at h;omega
def Rd (B : Nat) (fn : FuncId) (args : List AV) (Q : AV→Prop) : Prop :=
 ∀ (id : Nat) (s : Src) (H0 H : Heap),s.Ok→Owns H0 H [(id,s.obj)]→CallH Tryz.prog B fn (.ref id 0::args) H (SrcK id H0 Q)
theorem Rd.go {B : Nat} {fn : FuncId} {args : List AV} {Q : AV→Prop} {id : Nat} {s : Src} {H0 H : Heap} {l : List (Nat × MObj)} {K : Kont} (h : Rd B fn args Q) (hs : s.Ok) (o : Owns H0 H ((id,s.obj)::l))
  (hk : ∀ (r : AV) (s' : Src) (H' : Heap),r.fine→Q r→s'.Ok→Owns H0 H' ((id,s'.obj)::l)→K r H') : CallH Tryz.prog B fn (.ref id 0::args) H K :=
 (h id s _ H hs o.self).mono' fun r H' hf ⟨q,s',hs',o'⟩=>hk r s' H' hf q hs' (o.del.trans o')
theorem src_ret {id : Nat} {s : Src} {H0 H : Heap} {l : List (Nat × MObj)} {Q : AV→Prop} {v : AV} (q : Q v) (hs : s.Ok) (o : Owns H0 H ((id,s.obj)::l)) : subW (SrcK id H0 Q) v H :=
 ⟨H,.refl H,q,s,hs,o.subl (by simp)⟩
def Rets (B : Nat) (fn : FuncId) (args : List AV) (Q : AV→Prop) : Prop:=∀ H,CallH Tryz.prog B fn args H fun r H'=>Q r∧H'=H
theorem Rets.go {B : Nat} {fn : FuncId} {args : List AV} {Q : AV→Prop} {H : Heap} {K : Kont} (h : Rets B fn args Q) (hk : ∀ r,r.fine→Q r→K r H) : CallH Tryz.prog B fn args H K :=
 (h H).mono' fun r H' hf ⟨q,e⟩=>by subst e; exact hk r hf q
theorem rets_ret {H0 H : Heap} {Q : AV→Prop} {v : AV} (q : Q v) (h : H0.sub H) : subW (fun r H'=>Q r∧H'=H0) v H:=⟨H0,h,q,rfl⟩
theorem l01Next_ok (B : Nat) (n : Int) : Rd B 53 [iI n] fun r=>∃ k : Int,r=iI k∧0≤k∧(1≤n→k<n)∧(n<1→k=0):=by
 intro id s H0 H hs o;refine c53 (by simp) fun hf=>?_;unfold s53;refine tt ?_;apply bk <;> intro h1
 ·have h1p:=of_decide h1;refine tt ?_;exact src_ret ⟨0,rfl,by omega,by omega,fun _=>rfl⟩ hs o
 ·have h1p:=of_ndecide h1;refine tt ?_
  obtain ⟨code,pl,hash⟩:=s;simp only [Src.obj,Src.cells] at o;simp only [Src.Ok,maxL] at hs;refine rd_cells o (by simp) ?_;refine tt ?_;refine sw o fun H o=>tt ?_;refine rd_cells o (by simp) ?_;refine tt ?_
  generalize hx : IntKind.i64.wrap (IntKind.u64.wrap _)=x
  have hx2:=masked_ran hx;clear hx;refine ⟨by omega,rd_cells o (by simp) ?_⟩;refine tt ?_;refine rd_cells o (by simp) ?_;refine tt ?_;apply bk <;> intro h2
  ·have h2p:=of_decide h2;refine tt ?_;refine rd_cells o (by simp) ?_;refine tt ?_;refine rd_cells o (by simp) ?_;refine tt ?_;refine ⟨⟨hs.1,by omega⟩, ?_⟩
   have hb:=(ix code pl).toNat_lt;try simp only [go_sem,↓reduceIte,reduceEqDiff,reduceAdd,reduceMul,reduceLeDiff,reduceLT,iB]
   generalize (ix code pl).toNat=b at hb ⊢
   have e1 : IntKind.i64.wrap (b : Int)=b:=wrap_i64 (by omega) (by omega)
   have e2 : IntKind.i64.wrap (x+b)=x+b:=wrap_i64 (by omega) (by omega)
   have e3 : IntKind.i64.wrap (pl+1)=pl+1:=wrap_i64 (by omega) (by omega);try simp only [go_sem,↓reduceIte,reduceEqDiff,reduceAdd,reduceMul,reduceLeDiff,reduceLT,e1,e2]
   refine rd_cells o (by simp) ?_;refine tw e3 ?_;refine sw o fun H o=>tt ?_;refine ⟨by omega,src_ret (s:=⟨code,pl+1,_⟩) ⟨(x+b).tmod n,rfl, ?_, ?_, ?_⟩ ⟨by show 0≤pl+1; omega,hs.2⟩ o⟩
   ·exact Int.tmod_nonneg _ (by omega)
   ·intro h; exact Int.tmod_lt_of_pos _ (by omega)
   ·intro h; omega
  ·refine tt ?_;refine ⟨by omega,src_ret (s:=⟨code,pl,_⟩) ⟨x.tmod n,rfl, ?_, ?_, ?_⟩ hs o⟩
   ·exact Int.tmod_nonneg _ (by omega)
   ·intro h; exact Int.tmod_lt_of_pos _ (by omega)
   ·intro h; omega
theorem l01Pick_ok (B : Nat) (l : List Int) (hl : l≠[]) : Rd B 213 [iL l] fun r=>∃ k : Int,r=iI k∧k∈l:=by
 intro id s H0 H hs o;refine c213 (by simp) fun hf=>?_
 have hp : 0<l.length:=List.length_pos_iff.mpr hl;unfold s213;refine tt ?_;refine (l01Next_ok B l.length).go hs o fun r s' H hr ⟨k,e,h0,h1,_⟩ hs o=>?_;subst e
 have h1:=h1 (by omega);refine tt ?_;refine ⟨⟨h0,by omega⟩,tt ?_⟩;exact src_ret ⟨_,rfl,ix_mem (by omega)⟩ hs o
def MadeK (H0 : Heap) : Kont:=fun r H'=>∃ (id : Nat) (s : Src),r=.ref id 0∧s.Ok∧Owns H0 H' [(id,s.obj)]
theorem l01From_ok (B : Nat) (code : List UInt8) (H0 : Heap) : CallH Tryz.prog B 50 [mL iB code] H0 (MadeK H0):=by
 refine c50p (by simp) fun ⟨hf,_⟩=>?_
 have hl:=fine_mL_le hf
 have hl':=hl;simp only [maxL] at hl';unfold s50p;refine tt ?_;refine nb (.nil _) fun id H o=>tt ?_;refine awp_for [0,3] (G:=Int) (fun k _=>[(4,some (.int .i64 (k : Int)))]) (fun k h H=>Owns H0 H [(id,.cells 3 [mL iB code,.int .i64 0,.int .u64 h] 0)]) code.length _ o rfl ?_;clear o
 rintro k h H hk o
 have o : Owns H0 H [(id,.cells 3 [mL iB code,.int .i64 0,.int .u64 h] 0)]:=o
 have hend : MadeK H0 (.ref id 0) H:=⟨id,⟨code,0,h⟩,rfl,⟨Int.le_refl 0,hl⟩,o⟩;refine tt ?_;apply bk <;> intro h1
 ·have h1p:=of_decide h1;refine tw h1 ?_;apply bk <;> intro h2
  ·refine tt ?_;refine rd_cells o (by simp) ?_
   have w:=wsucc (k:=k) (by omega);try simp only [go_sem,↓reduceIte,reduceEqDiff,reduceAdd,reduceMul,reduceLeDiff,reduceLT,iB]
   refine ⟨by omega, ?_⟩;try simp only [go_sem,↓reduceIte,reduceEqDiff,reduceAdd,reduceMul,reduceLeDiff,reduceLT,iB]
   refine sw o fun H o=>?_;refine tw w ?_;exact for_next _ (by omega) o rfl
  ·refine tt ?_;exact ⟨H,.refl H,hend⟩
 ·refine tw h1 ?_;exact ⟨H,.refl H,hend⟩
theorem big_ok (B : Nat) (code : List UInt8) : Pur Tryz.prog B 7 [mL iB code] (.bool (decide (4096<code.length))):=by
 refine ⟨fun H0=>c7 (by simp) fun hf=>?_⟩;unfold s7;refine tt ?_;refine pure_ret ?_ (.refl _)
 congr 1
 exact decide_eq_decide.mpr (by omega)
theorem likeInts_ok (B : Nat) (a b : List Int) : Pur Tryz.prog B 29 [iL a,iL b] (.bool (dec (a=b))):=by
 refine ⟨fun H0=>c29 (by simp) fun ⟨hf,hg,_⟩=>?_⟩
 have hl:=fine_mL_le hf
 have hl2:=fine_mL_le hg;simp only [maxL] at hl hl2;unfold s29;refine tt ?_;apply bk <;> intro h0
 ·refine tt ?_
  have h0p : a.length≠b.length:=by simpa using h0
  exact pure_ret (by rw [dec_f]; rintro rfl; exact h0p rfl) (.refl _)
 have h0p : a.length=b.length:=by simpa using h0
 refine tt ?_;refine awp_for [0,1] (fun k _=>[(5,some (.int .i64 (k : Int)))]) (fun k _ H=>H=H0∧∀ i,i<k→a.getD i default=b.getD i default) a.length () ⟨rfl,by simp⟩ rfl ?_
 rintro k _ H hk ⟨rfl,hall⟩;refine tt ?_;apply bk <;> intro h1
 ·have h1:=of_decide h1
  have w1:=wsucc (k:=k) (by omega);refine tt ?_;refine ⟨h1,by omega,tt ?_⟩;apply bk <;> intro h2
  ·refine tt ?_
   have h2p : a.getD k default≠b.getD k default:=by simpa using h2
   exact pure_ret (by rw [dec_f]; rintro rfl; exact h2p rfl) (.refl _)
  ·refine tw w1 ?_
   have h2p : a.getD k default=b.getD k default:=by simpa using h2
   exact for_next () (by omega) ⟨rfl,lt_succ_all hall h2p⟩ rfl
 ·refine tt ?_
  have h1:=of_ndecide h1;refine pure_ret ?_ (.refl _);rw [dec_t];refine List.ext_getElem h0p fun i hi hj=>?_
  have:=hall i (by omega)
  simpa [List.getD_eq_getElem?_getD,hi,hj] using this
theorem dT5 {p : Decidable True} : @decide True p=true:=@decide_eq_true True p trivial
theorem lkRows5_ok (B : Nat) (a : List (List Int)) : Pur Tryz.prog B 14 [iLL a,iLL a] (.bool true):=by
 refine ⟨fun H0=>c14 (by simp) fun ⟨hf,_⟩=>?_⟩
 have hl:=fine_mL_le hf;simp only [maxL] at hl;unfold s14;refine tt ?_;refine ⟨fun e=>(by simp at e),fun _=>At.mk ?_⟩;refine tt ?_;refine awp_for [0,1] (G:=Unit) (fun k _=>[(5,some (.int .i64 (k : Int)))]) (fun k _ H=>H=H0) a.length () rfl rfl ?_
 rintro k _ H hk rfl;refine tt ?_;apply bk <;> intro h1
 ·have h1p : k<a.length:=of_decide h1
  have w:=wsucc (k:=k) (by omega);refine tt ?_;refine ⟨h1p,h1p,tt ?_⟩;refine ⟨_,(likeInts_ok B _ _).run, ?_⟩;rw [dec_t rfl];refine tw w ?_;exact for_next () (by omega) rfl rfl
 ·refine tt ?_;exact pure_ret rfl (.refl _)
theorem likeCat5_ok (B : Nat) (c : Cat) : Pur Tryz.prog B 26 [.agg c.cells,.agg c.cells] (.bool true):=by
 refine ⟨fun H0=>c26 (by simp) fun _=>?_⟩;unfold s26;refine td ?_;refine (likeInts_ok B _ _).go fun _=>?_;rw [dec_t rfl];refine td ?_;refine (likeInts_ok B _ _).go fun _=>?_;rw [dec_t rfl];refine td ?_;refine (likeInts_ok B _ _).go fun _=>?_;rw [dec_t rfl];refine td ?_;refine (lkRows5_ok B _).go fun _=>?_;refine td ?_;exact pure_ret rfl (.refl _)
theorem lkCubes5_ok (B : Nat) (a : List (List (List Int))) : Pur Tryz.prog B 18 [iLLL a,iLLL a] (.bool true):=by
 refine ⟨fun H0=>c18 (by simp) fun ⟨hf,_⟩=>?_⟩
 have hl:=fine_mL_le hf;simp only [maxL] at hl;unfold s18;refine tt ?_;refine ⟨fun e=>(by simp at e),fun _=>At.mk ?_⟩;refine tt ?_;refine awp_for [0,1] (G:=Unit) (fun k _=>[(5,some (.int .i64 (k : Int)))]) (fun k _ H=>H=H0) a.length () rfl rfl ?_
 rintro k _ H hk rfl;refine tt ?_;apply bk <;> intro h1
 ·have h1p : k<a.length:=of_decide h1
  have w:=wsucc (k:=k) (by omega);refine tt ?_;refine ⟨h1p,h1p,tt ?_⟩;refine ⟨_,(lkRows5_ok B _).run, ?_⟩;refine tw w ?_;exact for_next () (by omega) rfl rfl
 ·refine tt ?_;exact pure_ret rfl (.refl _)
theorem lkProf5_ok (B : Nat) (p : PF) : Pur Tryz.prog B 11 [.agg p.cells,.agg p.cells] (.bool true):=by
 refine ⟨fun H0=>c11 (by simp) fun _=>?_⟩;unfold s11;refine td ?_;refine (likeCat5_ok B p.src).go fun _=>?_;refine td ?_;refine (likeCat5_ok B p.tgt).go fun _=>?_;refine td ?_;refine (lkRows5_ok B _).go fun _=>?_;refine td ?_;refine (lkCubes5_ok B _).go fun _=>?_;refine td ?_;refine (lkCubes5_ok B _).go fun _=>?_;refine td ?_;exact pure_ret rfl (.refl _)
instance : Inhabited Cat:=⟨⟨0,[],[],[],[]⟩⟩
abbrev cpP (c : Cat) : AV:=.ptr c.cells
instance : One cpP:=⟨fun _=>rfl,fun _=>rfl⟩
theorem areCats_ok (B : Nat) (l : List Cat) : Pur Tryz.prog B 236 [mL cpP l] (.bool (dec (∀ c,c∈l→c.Is))):=by
 refine ⟨fun H0=>c236 (by simp) fun ⟨hf,_⟩=>?_⟩
 have hl:=fine_mL_le hf;simp only [maxL] at hl;unfold s236;refine tt ?_;refine awp_for [5,6] (fun k _=>[(7,some (.int .i64 (k : Int)))]) (fun k _ H=>H=H0∧∀ i,i<k→(l.getD i default).Is) l.length () ⟨rfl,by simp⟩ rfl ?_
 rintro k _ H hk ⟨rfl,hall⟩;refine tt ?_;apply bk <;> intro h1
 ·have h1p:=dd h1
  have w1:=wsucc (k:=k) (by omega);refine tt ?_;refine ⟨h1p, ?_⟩;refine (isCategory_ok ..).go fun _=>tt ?_;apply bk <;> intro h2
  ·have h2p:=dd h2;refine tt ?_;refine pure_ret ?_ (.refl _);rw [dec_f]; intro h;exact h2p (h _ (mem_getD.mpr ⟨k,h1p,rfl⟩))
  ·have h2p:=dd h2;refine tw w1 ?_
   exact for_next () h1p ⟨rfl,fun i hi=>by
    by_cases e : i=k
    ·subst e; exact h2p
    ·exact hall i (by omega)⟩ rfl
 ·have h1p:=dd h1;refine tt ?_;refine pure_ret ?_ (.refl _);rw [dec_t]; intro c hc
  obtain ⟨i,hi,rfl⟩:=mem_getD.mp hc;exact hall i (by omega)
end Go.Proofs.Shf
namespace Go.Shf
open Go.AW
section
variable {p : PF} {a b x y : Int}
theorem PF.Shape.szI (h : p.Shape) (hx : p.src.ObR x) : 0≤x∧x.toNat<p.sizes.length:=by
 have:=h.sl
 obtain ⟨h1,h2⟩:=hx;omega
theorem PF.Shape.szJ (h : p.Shape) (hx : p.src.ObR x) (hy : p.tgt.ObR y) : 0≤y∧y.toNat<(ix p.sizes x).length:=by
 have:=(h.rl x hx).1
 obtain ⟨h1,h2⟩:=hy;omega
theorem PF.Shape.bfI (h : p.Shape) (ha : p.src.ArR a) : 0≤a∧a.toNat<p.before.length:=by
 have:=h.bl
 obtain ⟨h1,h2⟩:=ha;omega
theorem PF.Shape.bfJ (h : p.Shape) (ha : p.src.ArR a) (hy : p.tgt.ObR y) : 0≤y∧y.toNat<(ix p.before a).length:=by
 have:=(h.bm a ha).1
 obtain ⟨h1,h2⟩:=hy;omega
theorem PF.Shape.bhI (h : p.Shape) (ha : p.tgt.ArR b) : 0≤b∧b.toNat<p.behind.length:=by
 have:=h.hl
 obtain ⟨h1,h2⟩:=ha;omega
theorem PF.Shape.bhJ (h : p.Shape) (ha : p.tgt.ArR b) (hx : p.src.ObR x) : 0≤x∧x.toNat<(ix p.behind b).length:=by
 have:=(h.hm b ha).1
 obtain ⟨h1,h2⟩:=hx;omega
theorem Cat.Shape.toI {c : Cat} (h : c.Shape) (ha : c.ArR a) : 0≤a∧a.toNat<c.to.length:=by
 have:=h.tol
 obtain ⟨h1,h2⟩:=ha;omega
theorem Cat.Shape.idI {c : Cat} (h : c.Shape) (hx : c.ObR x) : 0≤x∧x.toNat<c.idn.length:=by
 have:=h.il
 obtain ⟨h1,h2⟩:=hx;omega
theorem Cat.Shape.frO {c : Cat} (h : c.Shape) (ha : c.ArR a) : c.ObR (ix c.frm a):=h.frmObj ha.2
theorem Cat.Shape.toO {c : Cat} (h : c.Shape) (ha : c.ArR a) : c.ObR (ix c.to a):=h.toObj ha.2
end
end Go.Shf
namespace Go.Proofs.Shf
open Go.AW Go.Proofs Go.Shf
theorem pfShape_ok (B : Nat) (p : PF) (hp : p.Shape) : Pur Tryz.prog B 172 [.ptr p.cells] (.bool true):=by
 refine ⟨fun H0=>c172 (by simp) fun _=>?_⟩
 have so:=hp.sI.1.o
 have to:=hp.tI.1.o
 have sm:=hp.sI.1.m
 have tm:=hp.tI.1.m;unfold s172;refine tt ?_;refine ⟨_,(areCats_ok B [p.src,p.tgt]).run, ?_⟩;rw [dec_t (fun k hk=>by rcases List.mem_cons.mp hk with rfl | hk; exact hp.sI; obtain rfl:=List.mem_singleton.mp hk; exact hp.tI)];refine tt ?_;rw [decide_eq_true hp.sl];refine tt ?_;refine ⟨_,(arrows_ok B p.src).run, ?_⟩;try simp only [go_sem,↓reduceIte,reduceEqDiff,reduceAdd,reduceMul,reduceLeDiff,reduceLT,hp.bl,dT5]
 refine ⟨_,(arrows_ok B p.tgt).run, ?_⟩;try simp only [go_sem,↓reduceIte,reduceEqDiff,reduceAdd,reduceMul,reduceLeDiff,reduceLT,hp.hl,dT5]
 refine awp_for [0,3,4,61,62] (G:=Unit) (fun k _=>[(63,some (.int .i64 (k : Int)))]) (fun k _ H=>H=H0) p.sizes.length () rfl rfl ?_
 rintro k _ H hk rfl;refine tt ?_;apply bk <;> intro h1
 ·have h1p:=of_decide h1
  have hkx : p.src.ObR k:=⟨by omega,by have:=hp.sl; omega⟩
  have w:=wsucc (k:=k) (by have:=hp.sl; omega)
  have hr:=hp.rl k hkx
  have hr1 : ((p.sizes.getD k default).length : Int)=p.tgt.objs:=hr.1;refine tt ?_;refine ⟨h1p, ?_⟩;rw [decide_eq_true hr1];refine tt ?_;refine (within_ok B _ 65 (by omega)).go fun _=>?_
  rw [dec_t (fun y hy=>by
   obtain ⟨i,hi,rfl⟩:=mem_getD.mp hy
   have hi2 : p.tgt.ObR i:=⟨by omega,by have : ((p.sizes.getD k default).length : Int)=p.tgt.objs:=hr.1; omega⟩
   have q : 0≤p.sz k i∧p.sz k i≤64:=hr.2 i hi2
   have q : 0≤(p.sizes.getD k default).getD i default∧(p.sizes.getD k default).getD i default≤64:=q;omega)]
  refine tw w ?_;exact for_next () h1p rfl rfl
 have h1p:=of_ndecide h1;clear h1 h1p hk;refine tt ?_;refine awp_for [0,3,4,83,84] (G:=Unit) (fun k _=>[(85,some (.int .i64 (k : Int)))]) (fun k _ H'=>H'=H) p.before.length () rfl rfl ?_
 rintro k _ H hk rfl;refine tt ?_;apply bk <;> intro h1
 ·have h1p:=of_decide h1
  have bl:=hp.bl
  have hka : p.src.ArR k:=⟨by omega,by show (k : Int).toNat<_; omega⟩
  have w:=wsucc (k:=k) (by omega)
  have hr:=hp.bm k hka
  have hr1 : ((p.before.getD k default).length : Int)=p.tgt.objs:=hr.1
  have toI:=hp.sI.1.toI hka
  have frO:=hp.sI.1.frO hka
  have toO:=hp.sI.1.toO hka
  have szF:=hp.szI frO
  have szT:=hp.szI toO;refine tt ?_;refine ⟨h1p, ?_⟩;rw [decide_eq_true hr1];refine tt ?_;refine awp_for [0,3,4,7,83,84,85,97,98] (G:=Unit) (fun k _=>[(99,some (.int .i64 (k : Int)))]) (fun k _ H'=>H'=H) (p.before.getD k default).length () rfl rfl ?_
  rintro j _ H hj rfl;refine tt ?_;apply bk <;> intro h2
  ·have h2p:=of_decide h2
   have hjy : p.tgt.ObR j:=⟨by omega,by omega⟩
   have w2:=wsucc (k:=j) (by omega)
   have m:=hr.2 j hjy
   have szj:=hp.szJ frO hjy
   have szj2:=hp.szJ toO hjy
   have q1:=(hp.rl _ frO).2 _ hjy
   have q2:=(hp.rl _ toO).2 _ hjy
   have hm1 : ((p.bf k j).length : Int)=p.sz (ix p.src.to k) j:=by have:=m.len; omega
   have hm : (((p.before.getD k default).getD j default).length : Int)=(ix p.sizes (p.src.to.getD k default)).getD j default∧∀ y,y∈(p.before.getD k default).getD j default→0≤y∧y<(ix p.sizes (p.src.frm.getD k default)).getD j default:=⟨hm1,fun y hy=>m.mem hy⟩
   have hb : (ix p.sizes (p.src.frm.getD k default)).getD j default≤64∧0≤(ix p.sizes (p.src.frm.getD k default)).getD j default:=⟨q1.2,q1.1⟩;refine tt ?_
   (repeat (refine ⟨by first | exact h2p | exact h1p | exact hka.2 | exact toI.2 | exact szF | exact szT | exact szj.2 | exact szj2.2, ?_⟩))
   refine ⟨_,(isMapOf_ok B _ _ _ (by omega)).run, ?_⟩;rw [dec_t hm];refine tw w2 ?_;exact for_next () h2p rfl rfl
  ·have h2p:=of_ndecide h2;refine tw w ?_;exact for_next () h1p rfl rfl
 have h1p:=of_ndecide h1;clear h1 h1p hk;refine tt ?_;refine awp_for [0,3,4,144,145] (G:=Unit) (fun k _=>[(146,some (.int .i64 (k : Int)))]) (fun k _ H'=>H'=H) p.behind.length () rfl rfl ?_
 rintro k _ H hk rfl;refine tt ?_;apply bk <;> intro h1
 ·have h1p:=of_decide h1
  have bl:=hp.hl
  have hka : p.tgt.ArR k:=⟨by omega,by show (k : Int).toNat<_; omega⟩
  have w:=wsucc (k:=k) (by omega)
  have hr:=hp.hm k hka
  have hr1 : ((p.behind.getD k default).length : Int)=p.src.objs:=hr.1
  have toI:=hp.tI.1.toI hka
  have frO:=hp.tI.1.frO hka
  have toO:=hp.tI.1.toO hka;refine tt ?_;refine ⟨h1p, ?_⟩;rw [decide_eq_true hr1];refine tt ?_;refine awp_for [0,3,4,11,144,145,146,158,159] (G:=Unit) (fun k _=>[(160,some (.int .i64 (k : Int)))]) (fun k _ H'=>H'=H) (p.behind.getD k default).length () rfl rfl ?_
  rintro j _ H hj rfl;refine tt ?_;apply bk <;> intro h2
  ·have h2p:=of_decide h2
   have hjx : p.src.ObR j:=⟨by omega,by omega⟩
   have w2:=wsucc (k:=j) (by omega)
   have m:=hr.2 j hjx
   have szx:=hp.szI hjx
   have szj:=hp.szJ hjx frO
   have szj2:=hp.szJ hjx toO
   have q1:=(hp.rl _ hjx).2 _ frO
   have q2:=(hp.rl _ hjx).2 _ toO
   have hm1 : ((p.bh k j).length : Int)=p.sz j (ix p.tgt.frm k):=by have:=m.len; omega
   have hm : (((p.behind.getD k default).getD j default).length : Int)=ix (p.sizes.getD j default) (p.tgt.frm.getD k default)∧∀ y,y∈(p.behind.getD k default).getD j default→0≤y∧y<ix (p.sizes.getD j default) (p.tgt.to.getD k default):=⟨hm1,fun y hy=>m.mem hy⟩
   have hb : ix (p.sizes.getD j default) (p.tgt.to.getD k default)≤64∧0≤ix (p.sizes.getD j default) (p.tgt.to.getD k default):=⟨q2.2,q2.1⟩;refine tt ?_
   (repeat (refine ⟨by first | exact h2p | exact h1p | exact hka.2 | exact toI.2 | exact szx.2 | exact szj | exact szj2, ?_⟩))
   refine ⟨_,(isMapOf_ok B _ _ _ (by omega)).run, ?_⟩;rw [dec_t hm];refine tw w2 ?_;exact for_next () h2p rfl rfl
  ·have h2p:=of_ndecide h2;refine tw w ?_;exact for_next () h1p rfl rfl
 refine tt ?_;exact pure_ret rfl (.refl _)
end Go.Proofs.Shf
namespace Go.Shf
open Go.AW
section
variable {c : Cat} {a b : Int}
theorem Cat.Shape.comps (h : c.Shape) (ha : c.ArR a) (hb : c.ArR b) : (ix c.to a=ix c.frm b∧c.ArR (ix (ix c.comp a) b))∨ix (ix c.comp a) b=-1:=by
 by_cases e : ix c.to a=ix c.frm b
 ·left
  have q:=h.yes a.toNat b.toNat ha.2 hb.2 e
  have q : (0≤ix (ix c.comp a) b∧ix (ix c.comp a) b<c.frm.length)∧_:=q;exact ⟨e,q.1.1,by have:=q.1; omega⟩
 ·right
  exact h.non a.toNat b.toNat ha.2 hb.2 e
theorem Cat.Shape.coI (h : c.Shape) (ha : c.ArR a) : 0≤a∧a.toNat<c.comp.length:=by
 have:=h.cl
 obtain ⟨h1,h2⟩:=ha;omega
theorem Cat.Shape.coJ (h : c.Shape) (ha : c.ArR a) : (ix c.comp a).length=c.frm.length:=h.row a.toNat ha.2
theorem Cat.Shape.idA (h : c.Shape) {x : Int} (hx : c.ObR x) : c.ArR (ix c.idn x)∧ix c.frm (ix c.idn x)=x∧ix c.to (ix c.idn x)=x:=h.idArr hx
end
end Go.Shf
namespace Go.Proofs.Shf
open Go.AW Go.Proofs Go.Shf
theorem numbersP_ok (B : Nat) (n : Int) (hn : 0≤n∧n≤4096) : Pur Tryz.prog B 119 [iI n] (iL (natsL n)):=by
 refine ⟨fun H0=>c119 (by simp) fun _=>?_⟩;unfold s119
 have o : Owns H0 H0 []:=.nil _
 obtain ⟨N,rfl⟩ : ∃ N : Nat,n=N:=⟨_,(Int.toNat_of_nonneg hn.1).symm⟩;refine tt ?_;refine ⟨⟨by omega,by simp only [maxL]; omega⟩,mks_own iI o fun id H o=>?_⟩
 have o : Owns H0 H [(id,.cells 1 ((natsL (0 : Nat)).map iI++List.replicate (N - 0) (iI 0)) 0)]:=o;refine tt ?_;refine awp_for [3,8] (G:=Unit) (fun k _=>[(9,some (.int .i64 (k : Int)))]) (fun k _ H=>Owns H0 H [(id,.cells 1 ((natsL (k : Nat)).map iI++List.replicate (N - k) (iI 0)) 0)]) N () o rfl ?_;clear o
 rintro k _ H hk o
 have hl : (natsL (k : Nat)).length=k:=by simp [natsL]
 refine tt ?_;apply bk <;> intro h1
 ·have h1p:=of_decide h1
  have w:=wsucc (k:=k) (by omega)
  obtain ⟨m,hm⟩ : ∃ m,N - k=m+1:=⟨N - k - 1,by omega⟩;rw [hm] at o;refine tt ?_;refine ⟨h1p,st_own (k : Int) o rfl (by rw [hl]) fun H o=>?_⟩;rw [show natsL (k : Nat)++[(k : Int)]=natsL ((k+1 : Nat) : Int) by simp [natsL,List.range_succ],show m=N - (k+1) by omega] at o;refine tw w ?_;exact for_next () h1p o rfl
 ·have h1p:=of_ndecide h1
  obtain rfl : k=N:=by omega
  rw [Nat.sub_self,List.replicate_zero,List.append_nil] at o;refine tt ?_;refine fz_own o hl.symm fun H o=>tt ?_;exact pure_ret rfl o.sub
theorem same_t (B : Nat) {a b : List Int} (h : a=b) : PureF Tryz.prog B 174 [iL a,iL b] (.bool true):=by
 have:=(same_ok B a b).run
 rwa [dec_t h] at this
theorem l01Same_t (B : Nat) {a b : List Int} (h : a=b) : PureF Tryz.prog B 199 [iL a,iL b] (.bool true):=by
 have:=(l01Same_ok B a b).run
 rwa [dec_t h] at this
theorem then_t (B : Nat) {m n k : Int} {a b : List Int} (ha : MapB m n a) (hb : MapB n k b) : PureF Tryz.prog B 60 [iL a,iL b] (iL (thn a b)) :=
 (then_ok B a b fun y hy=>⟨(ha.mem hy).1,by have h1:=ha.mem hy; have h2:=hb.len; omega⟩).run
theorem l01Then_t (B : Nat) {m n k : Int} {a b : List Int} (ha : MapB m n a) (hb : MapB n k b) : PureF Tryz.prog B 68 [iL a,iL b] (iL (thn a b)) :=
 (l01Then_ok B a b fun y hy=>⟨(ha.mem hy).1,by have h1:=ha.mem hy; have h2:=hb.len; omega⟩).run
theorem acts_ok (B : Nat) (p : PF) (hp : p.Is) : Pur Tryz.prog B 173 [.ptr p.cells] (.bool true):=by
 refine ⟨fun H0=>c173 (by simp) fun _=>?_⟩
 have sh:=hp.shp
 have so:=sh.sI.1.o
 have to:=sh.tI.1.o
 have sm:=sh.sI.1.m
 have tm:=sh.tI.1.m
 have sil:=sh.sI.1.il;unfold s173;refine tt ?_;refine awp_for [0,3,4] (G:=Unit) (fun k _=>[(5,some (.int .i64 (k : Int)))]) (fun k _ H'=>H'=H0) p.tgt.objs.toNat () rfl rfl ?_
 rintro y _ H hy rfl;refine tt ?_;apply bk <;> intro h1
 ·have h1p:=of_decide h1
  have w:=wsucc (k:=y) (by omega)
  have hyo : p.tgt.ObR y:=⟨by omega,h1p⟩;refine tt ?_;refine awp_for [0,3,4,5,34,35] (G:=Unit) (fun k _=>[(36,some (.int .i64 (k : Int)))]) (fun k _ H'=>H'=H) p.src.idn.length () rfl rfl ?_
  rintro x _ H hx rfl;refine tt ?_;apply bk <;> intro h2
  ·have h2p:=of_decide h2
   have hxo : p.src.ObR x:=⟨by omega,by omega⟩
   have w2:=wsucc (k:=x) (by omega)
   have id1:=sh.sI.1.idA hxo
   have id2:=sh.tI.1.idA hyo
   have ii1:=sh.sI.1.idI hxo
   have ii2:=sh.tI.1.idI hyo
   have b1:=sh.bfI id1.1
   have b2:=sh.bfJ id1.1 hyo
   have b3:=sh.bhI id2.1
   have b4:=sh.bhJ id2.1 hxo
   have z1:=sh.szI hxo
   have z2:=sh.szJ hxo hyo
   have q:=(sh.rl _ hxo).2 _ hyo
   have qq : 0≤(p.sizes.getD x default).getD y default∧(p.sizes.getD x default).getD y default≤64:=q
   have e1 : (ix p.before (p.src.idn.getD x default)).getD y default=natsL ((p.sizes.getD x default).getD y default):=hp.laws.bi _ _ hxo hyo
   have e2 : (ix p.behind (p.tgt.idn.getD y default)).getD x default=natsL ((p.sizes.getD x default).getD y default):=hp.laws.hi _ _ hxo hyo;refine tt ?_
   (repeat (refine ⟨by first | exact h2p | exact ii1.2 | exact ii2.2 | exact b1 | exact b2.2 | exact b3 | exact b4.2 | exact z1.2 | exact z2.2, ?_⟩))
   refine ⟨_,(numbersP_ok B _ (by omega)).run,_,(same_ok B _ _).run, ?_⟩;rw [dec_t e1];refine tt ?_
   (repeat (refine ⟨by first | exact h2p | exact ii1.2 | exact ii2.2 | exact b1 | exact b2.2 | exact b3 | exact b4.2 | exact z1.2 | exact z2.2, ?_⟩))
   refine ⟨_,(numbersP_ok B _ (by omega)).run,_,(same_ok B _ _).run, ?_⟩;rw [dec_t e2];refine tw w2 ?_;exact for_next () h2p rfl rfl
  have h2p:=of_ndecide h2;clear h2 h2p hx;refine tt ?_;refine awp_for [0,3,4,5,99,100] (G:=Unit) (fun k _=>[(101,some (.int .i64 (k : Int)))]) (fun k _ H'=>H'=H) p.src.comp.length () rfl rfl ?_
  rintro a _ H ha rfl;refine tt ?_;apply bk <;> intro h2
  ·have h2p:=of_decide h2
   have hao : p.src.ArR a:=⟨by omega,by have:=sh.sI.1.cl; show (a : Int).toNat<_; omega⟩
   have w2:=wsucc (k:=a) (by have:=hao.2; omega)
   have cj:=sh.sI.1.coJ hao
   have cj : (p.src.comp.getD a default).length=p.src.frm.length:=cj;refine tt ?_;refine ⟨h2p, ?_⟩;refine awp_for [0,3,4,5,8,99,100,101,106,107] (G:=Unit) (fun k _=>[(108,some (.int .i64 (k : Int)))]) (fun k _ H'=>H'=H) (p.src.comp.getD a default).length () rfl rfl ?_
   rintro b _ H hb rfl;refine tt ?_;apply bk <;> intro h3
   ·have h3p:=of_decide h3
    have hbo : p.src.ArR b:=⟨by omega,by show (b : Int).toNat<_; omega⟩
    have w3:=wsucc (k:=b) (by omega);refine tt ?_;refine ⟨h3p, ?_⟩
    rcases sh.sI.1.comps hao hbo with ⟨hab,hc⟩ | hc
    ·have hc1 : 0≤(p.src.comp.getD a default).getD b default:=hc.1;rw [decide_eq_true hc1]
     have b1:=sh.bfI hc
     have b2:=sh.bfJ hc hyo
     have b3:=sh.bfI hao
     have b4:=sh.bfJ hao hyo
     have b5:=sh.bfI hbo
     have b6:=sh.bfJ hbo hyo
     have m1:=(sh.bm _ hao).2 _ hyo
     have m2:=(sh.bm _ hbo).2 _ hyo
     have hl:=hp.laws.bc _ _ _ hao hbo hab hyo;rw [← hab] at m2;refine tt ?_
     (repeat (refine ⟨by first | exact b1 | exact b2.2 | exact b3.2 | exact b4.2 | exact b5.2 | exact b6.2, ?_⟩))
     refine ⟨_,then_t B m2 m1,_,same_t B hl, ?_⟩;refine tw w3 ?_;exact for_next () h3p rfl rfl
    ·have hc1 : ¬ 0≤(p.src.comp.getD a default).getD b default:=by
      have e : (p.src.comp.getD a default).getD b default=-1:=hc;omega
     rw [decide_eq_false hc1];refine tw w3 ?_;exact for_next () h3p rfl rfl
   ·have h3p:=of_ndecide h3;refine tw w2 ?_;exact for_next () h2p rfl rfl
  ·have h2p:=of_ndecide h2;refine tw w ?_;exact for_next () (by omega) rfl rfl
 have h1p:=of_ndecide h1;clear h1 h1p hy;refine tt ?_;refine awp_for [0,3,4] (G:=Unit) (fun k _=>[(12,some (.int .i64 (k : Int)))]) (fun k _ H'=>H'=H) p.src.objs.toNat () rfl rfl ?_
 rintro y _ H hy rfl;refine tt ?_;apply bk <;> intro h1
 ·have h1p:=of_decide h1
  have w:=wsucc (k:=y) (by omega)
  have hyo : p.src.ObR y:=⟨by omega,h1p⟩;refine tt ?_;refine awp_for [0,3,4,12,163,164] (G:=Unit) (fun k _=>[(165,some (.int .i64 (k : Int)))]) (fun k _ H'=>H'=H) p.tgt.comp.length () rfl rfl ?_
  rintro a _ H ha rfl;refine tt ?_;apply bk <;> intro h2
  ·have h2p:=of_decide h2
   have hao : p.tgt.ArR a:=⟨by omega,by have:=sh.tI.1.cl; show (a : Int).toNat<_; omega⟩
   have w2:=wsucc (k:=a) (by have:=hao.2; omega)
   have cj:=sh.tI.1.coJ hao
   have cj : (p.tgt.comp.getD a default).length=p.tgt.frm.length:=cj;refine tt ?_;refine ⟨h2p, ?_⟩;refine awp_for [0,3,4,12,13,163,164,165,170,171] (G:=Unit) (fun k _=>[(172,some (.int .i64 (k : Int)))]) (fun k _ H'=>H'=H) (p.tgt.comp.getD a default).length () rfl rfl ?_
   rintro b _ H hb rfl;refine tt ?_;apply bk <;> intro h3
   ·have h3p:=of_decide h3
    have hbo : p.tgt.ArR b:=⟨by omega,by show (b : Int).toNat<_; omega⟩
    have w3:=wsucc (k:=b) (by omega);refine tt ?_;refine ⟨h3p, ?_⟩
    rcases sh.tI.1.comps hao hbo with ⟨hab,hc⟩ | hc
    ·have hc1 : 0≤(p.tgt.comp.getD a default).getD b default:=hc.1;rw [decide_eq_true hc1]
     have b1:=sh.bhI hc
     have b2:=sh.bhJ hc hyo
     have b3:=sh.bhI hao
     have b4:=sh.bhJ hao hyo
     have b5:=sh.bhI hbo
     have b6:=sh.bhJ hbo hyo
     have m1:=(sh.hm _ hao).2 _ hyo
     have m2:=(sh.hm _ hbo).2 _ hyo
     have hl:=hp.laws.hc _ _ _ hao hbo hab hyo;rw [← hab] at m2;refine tt ?_
     (repeat (refine ⟨by first | exact b1 | exact b2.2 | exact b3.2 | exact b4.2 | exact b5.2 | exact b6.2, ?_⟩))
     refine ⟨_,then_t B m1 m2,_,same_t B hl, ?_⟩;refine tw w3 ?_;exact for_next () h3p rfl rfl
    ·have hc1 : ¬ 0≤(p.tgt.comp.getD a default).getD b default:=by
      have e : (p.tgt.comp.getD a default).getD b default=-1:=hc;omega
     rw [decide_eq_false hc1];refine tw w3 ?_;exact for_next () h3p rfl rfl
   ·have h3p:=of_ndecide h3;refine tw w2 ?_;exact for_next () h2p rfl rfl
  ·have h2p:=of_ndecide h2;refine tw w ?_;exact for_next () (by omega) rfl rfl
 ·refine tt ?_;exact pure_ret rfl (.refl _)
theorem isProf_ok (B : Nat) (p : PF) (hp : p.Is) : Pur Tryz.prog B 76 [.ptr p.cells] (.bool true):=by
 refine ⟨fun H0=>c76 (by simp) fun _=>?_⟩
 have sh:=hp.shp
 have sm:=sh.sI.1.m
 have tm:=sh.tI.1.m
 have bl:=sh.bl
 have hl:=sh.hl;unfold s76;refine tt ?_;refine (pfShape_ok B p sh).go fun _=>tt ?_;refine (acts_ok B p hp).go fun _=>tt ?_;refine awp_for [0,3,4,27] (G:=Unit) (fun k _=>[(28,some (.int .i64 (k : Int)))]) (fun k _ H'=>H'=H0) p.before.length () rfl rfl ?_
 rintro a _ H ha rfl;refine tt ?_;apply bk <;> intro h1
 ·have h1p:=of_decide h1
  have w:=wsucc (k:=a) (by omega)
  have hao : p.src.ArR a:=⟨by omega,by show (a : Int).toNat<_; omega⟩;refine tt ?_;refine awp_for [0,3,4,5,27,28,35] (G:=Unit) (fun k _=>[(36,some (.int .i64 (k : Int)))]) (fun k _ H'=>H'=H) p.behind.length () rfl rfl ?_
  rintro b _ H hb rfl;refine tt ?_;apply bk <;> intro h2
  ·have h2p:=of_decide h2
   have w2:=wsucc (k:=b) (by omega)
   have hbo : p.tgt.ArR b:=⟨by omega,by show (b : Int).toNat<_; omega⟩
   have fa:=sh.sI.1.frO hao
   have ta:=sh.sI.1.toO hao
   have fb:=sh.tI.1.frO hbo
   have tb:=sh.tI.1.toO hbo
   have i1:=sh.sI.1.toI hao
   have i2:=sh.tI.1.toI hbo
   have b1:=sh.bfJ hao fb
   have b2:=sh.bfJ hao tb
   have b3:=sh.bhJ hbo fa
   have b4:=sh.bhJ hbo ta
   have m1:=(sh.bm _ hao).2 _ fb
   have m2:=(sh.bm _ hao).2 _ tb
   have m3:=(sh.hm _ hbo).2 _ fa
   have m4:=(sh.hm _ hbo).2 _ ta
   have law:=hp.laws.bb _ _ hao hbo;refine tt ?_
   (repeat (refine ⟨by first | exact h1p | exact h2p | exact hao.2 | exact hbo.2 | exact i1.2 | exact i2.2 | exact b1 | exact b2 | exact b3 | exact b4, ?_⟩))
   refine ⟨_,then_t B m1 m3,tt ?_⟩
   (repeat (refine ⟨by first | exact h1p | exact h2p | exact hao.2 | exact hbo.2 | exact i1.2 | exact i2.2 | exact b1 | exact b2 | exact b3 | exact b4, ?_⟩))
   refine ⟨_,then_t B m4 m2,tt ?_⟩;refine (same_t B law).use ?_;refine tw w2 ?_;exact for_next () h2p rfl rfl
  ·have h2p:=of_ndecide h2;refine tw w ?_;exact for_next () h1p rfl rfl
 ·refine tt ?_;exact pure_ret rfl (.refl _)
theorem isProfunctor_ok (B : Nat) (p : PF) (hp : p.Is) : Pur Tryz.prog B 15 [.agg p.cells] (.bool true):=by
 refine ⟨fun H0=>c15 (by simp) fun _=>?_⟩;unfold s15;refine tt ?_;refine (isProf_ok B p hp).go fun _=>tt ?_;exact pure_ret rfl (.refl _)
theorem calm_ok (B : Nat) (n : Int) (hn : 0≤n∧n≤4096) : Pur Tryz.prog B 274 [iL (natsL n)] (.bool true):=by
 refine ⟨fun H0=>c274 (by simp) fun _=>?_⟩;unfold s274
 have hl:=natsL_len n;refine tt ?_;refine awp_for [0] (G:=Unit) (fun k _=>[(3,some (.int .i64 (k : Int)))]) (fun k _ H'=>H'=H0) (natsL n).length () rfl rfl ?_
 rintro k _ H hk rfl;refine tt ?_;apply bk <;> intro h1
 ·have h1p:=of_decide h1
  have w:=wsucc (k:=k) (by omega)
  have e : (natsL n).getD k default=(k : Int):=by
   have:=natsL_ix (n:=n) (show 0≤(k : Int)∧(k : Int)<n by omega)
   rwa [ix_nat] at this
  refine tt ?_;refine ⟨h1p, ?_⟩;rw [e];try simp only [go_sem,↓reduceIte,reduceEqDiff,reduceAdd,reduceMul,reduceLeDiff,reduceLT,dT5,w]
  exact for_next () h1p rfl rfl
 ·refine tt ?_;exact pure_ret rfl (.refl _)
theorem calm_t (B : Nat) {f : List Int} {n : Int} (hn : 0≤n∧n≤4096) (h : f=natsL n) : PureF Tryz.prog B 274 [iL f] (.bool true):=by
 subst h; exact (calm_ok B n hn).run
theorem sized_ok (B : Nat) (p : PF) (hp : p.Shape) : Pur Tryz.prog B 215 [.agg p.cells] (.bool true):=by
 refine ⟨fun H0=>c215 (by simp) fun _=>?_⟩
 have so:=hp.sI.1.o
 have to:=hp.tI.1.o
 have sm:=hp.sI.1.m
 have tm:=hp.tI.1.m;unfold s215;refine tt ?_;rw [decide_eq_true hp.sl];try simp only [go_sem,↓reduceIte,reduceEqDiff,reduceAdd,reduceMul,reduceLeDiff,reduceLT,hp.bl,hp.hl,dT5]
 refine awp_for [1] (G:=Unit) (fun k _=>[(3,some (.int .i64 (k : Int)))]) (fun k _ H'=>H'=H0) p.sizes.length () rfl rfl ?_
 rintro x _ H hx rfl;refine tt ?_;apply bk <;> intro h1
 ·have h1p:=of_decide h1
  have sl:=hp.sl
  have w:=wsucc (k:=x) (by omega)
  have hxo : p.src.ObR x:=⟨by omega,by omega⟩
  have hr:=hp.rl x hxo
  have hr1 : ((p.sizes.getD x default).length : Int)=p.tgt.objs:=hr.1;refine tt ?_;refine ⟨h1p, ?_⟩;rw [decide_eq_true hr1];refine tt ?_;refine awp_for [1,3] (G:=Unit) (fun k _=>[(4,some (.int .i64 (k : Int)))]) (fun k _ H'=>H'=H) (p.sizes.getD x default).length () rfl rfl ?_
  rintro y _ H hy rfl;refine tt ?_;refine ⟨h1p, ?_⟩;apply bk <;> intro h2
  ·have h2p:=of_decide h2
   have w2:=wsucc (k:=y) (by omega)
   have hyo : p.tgt.ObR y:=⟨by omega,by omega⟩
   have q:=hr.2 y hyo
   have q : 0≤(p.sizes.getD x default).getD y default∧(p.sizes.getD x default).getD y default≤64:=q;refine tt ?_
   (repeat (refine ⟨by first | exact h1p | exact h2p, ?_⟩))
   refine (l01In_ok B _ _ _).go fun _=>?_;rw [dec_t q];refine tw w2 ?_;exact for_next () h2p rfl rfl
  ·refine tw w ?_;exact for_next () h1p rfl rfl
 ·refine tt ?_;exact pure_ret rfl (.refl _)
theorem mapCount_ok (B : Nat) (m n : Int) (hm : 0≤m∧m≤16) (hn : 0≤n∧n≤16) : Pur Tryz.prog B 57 [iI m,iI n] (iI (capP n m.toNat)):=by
 refine ⟨fun H0=>c57 (by simp) fun _=>?_⟩;unfold s57;refine tt ?_;refine awp_for [1] (G:=Unit) (fun k _=>[(0,some (.int .i64 (m - k))),(5,some (.int .i64 (capP n k)))]) (fun k _ H=>H=H0) m.toNat () rfl (by show [(0,some (AV.int .i64 m)),(5,some (AV.int .i64 1)),(1,some (AV.int .i64 n))]=[(0,some (AV.int .i64 (m - (0 : Nat)))),(5,some (AV.int .i64 (capP n 0))),(1,some (AV.int .i64 n))]; rw [show capP n 0=1 from rfl,show m - ((0 : Nat) : Int)=m by omega]) ?_
 rintro k _ H hk rfl
 have hb:=capP_bd hn.1 k
 have hs:=capP_succ hn.1 k;refine tt ?_
 by_cases h : 0<m - (k : Int)
 ·rw [decide_eq_true h]
  have h1 : capP n k*n≤65*16:=Int.mul_le_mul hb.2 hn.2 hn.1 (by omega)
  have h2 : 0≤capP n k*n:=Int.mul_nonneg hb.1 hn.1
  have w1 : IntKind.i64.wrap (capP n k*n)=capP n k*n:=wrap_i64 (by omega) (by omega)
  have w2 : IntKind.i64.wrap (m - (k : Int) - 1)=m - ((k+1 : Nat) : Int):=by rw [wrap_i64 (by omega) (by omega)]; omega
  have en : (if false=true then if 65 > capP n k*n then 65 else capP n k*n else if 65<capP n k*n then 65 else capP n k*n)=capP n (k+1):=by
   rw [if_neg (by decide),← hs]; split <;> omega
  try simp only [go_sem,↓reduceIte,reduceEqDiff,reduceAdd,reduceMul,reduceLeDiff,reduceLT,w1,w2]
  rw [en];exact for_next () (by omega) rfl rfl
 ·rw [decide_eq_false h];refine tt ?_;exact pure_ret (by rw [show k=m.toNat by omega]) (.refl _)
theorem horn_bd {m n : Int} {t : List Int} (ht : MapB m n t) (hm : 0≤m∧m≤16) (hn : 0≤n∧n≤16) (hp : pw m n≤64) : ∀ k,k≤t.length→0≤horn n (t.take k) 0∧horn n (t.take k) 0≤64:=fun k hk=>by
 have hl:=ht.len
 have hB : MapB k n (t.take k):=.of (by simp; omega) fun i hi=>by
  have q:=ht.at (i:=i) (by omega)
  have e : ix (t.take k) i=ix t i:=by
   rw [ix,ix,List.getD_eq_getElem?_getD,List.getElem?_take,if_pos (by omega),← List.getD_eq_getElem?_getD]
  rw [e]; exact q
 have q:=num_lt hB;rw [rp,Int.toNat_natCast] at q;rw [horn_num,Int.zero_mul,Int.zero_add,List.length_take,Nat.min_eq_left hk]
 by_cases e : k=0
 ·subst e;rw [pw,rp] at q;simp only [Int.toNat_natCast,List.replicate_zero,prodT] at q;simp only [List.replicate_zero];omega
 ·have h1:=ht.at (i:=0) (by omega)
  have q2:=rep_mono (n:=n) (by omega) k m.toNat (by omega);rw [pw,rp] at hp;rw [pw,rp,Int.toNat_natCast] at q;omega
theorem mapNumber_ok (B : Nat) (m n : Int) (t : List Int) (ht : MapB m n t) (hm : 0≤m∧m≤16) (hn : 0≤n∧n≤16) (hp : pw m n≤64) : Pur Tryz.prog B 59 [iL t,iI n] (iI (numT (rp m n) t)):=by
 refine ⟨fun H0=>c59 (by simp) fun _=>?_⟩;unfold s59
 have hl:=ht.len
 have hb:=horn_bd ht hm hn hp;refine tt ?_;refine awp_for [1,8,9] (G:=Unit) (fun k _=>[(5,some (.int .i64 (horn n (t.take k) 0))),(10,some (.int .i64 (k : Int)))]) (fun k _ H=>H=H0) t.length () rfl rfl ?_
 rintro k _ H hk rfl;refine tt ?_;apply bk <;> intro h1
 ·have h1p : k<t.length:=of_decide h1
  have w1:=wsucc (k:=k) (by omega)
  have b1:=hb k hk
  have b2:=hb (k+1) h1p
  have es : horn n (t.take (k+1)) 0=horn n (t.take k) 0*n+t.getD k default:=by rw [take_succ' t h1p,horn_snoc]
  have h2 : horn n (t.take k) 0*n≤64*16:=Int.mul_le_mul b1.2 hn.2 hn.1 (by omega)
  have h3 : 0≤horn n (t.take k) 0*n:=Int.mul_nonneg b1.1 hn.1
  have w2 : IntKind.i64.wrap (horn n (t.take k) 0*n)=horn n (t.take k) 0*n:=wrap_i64 (by omega) (by omega)
  have w3 : IntKind.i64.wrap (horn n (t.take k) 0*n+t.getD k default)=horn n (t.take (k+1)) 0:=by rw [← es]; exact wrap_i64 (by omega) (by omega)
  try simp only [go_sem,↓reduceIte,reduceEqDiff,reduceAdd,reduceMul,reduceLeDiff,reduceLT,w1,w2,w3]
  exact ⟨h1p,for_next () h1p rfl rfl⟩
 ·have h1p : k=t.length:=by have:=of_ndecide h1; omega
  subst h1p
  have e : horn n (t.take t.length) 0=numT (rp m n) t:=by rw [List.take_length,horn_num,Int.zero_mul,Int.zero_add,rp,hl]
  rw [e];refine tt ?_;exact pure_ret rfl (.refl _)
theorem mapAt_ok (B : Nat) (m n k : Int) (hm : 0≤m∧m≤16) (hn : 0≤n∧n≤16) (hk : 0≤k∧k<pw m n) (hp : pw m n≤64) : Pur Tryz.prog B 61 [iI m,iI n,iI k] (iL (atT (rp m n) k)):=by
 refine ⟨fun H0=>c61 (by simp) fun _=>?_⟩;unfold s61
 have o : Owns H0 H0 []:=.nil _;refine tt ?_;refine ⟨⟨hm.1,Int.le_refl _,by simp only [maxL]; omega,by simp only [maxL]; omega⟩,mks_own iI o fun id H o=>?_⟩
 have o : Owns H0 H [(id,.cells 1 ((digK m.toNat n k 0).map iI) 0)]:=by rw [digK_zero,List.map_replicate]; exact o
 have w0 : IntKind.i64.wrap (m - 1)=m - 1:=wrap_i64 (by omega) (by omega);refine tw w0 ?_
 have en : n≠0∨m.toNat=0:=by
  by_cases e : n=0
  ·right
   subst e;rw [pw,rp] at hk
   by_cases e2 : m.toNat=0
   ·exact e2
   ·obtain ⟨q,hq⟩ : ∃ q,m.toNat=q+1:=⟨m.toNat - 1,by omega⟩;rw [hq,List.replicate_succ,prodT] at hk;omega
  ·exact .inl e
 have hl0 : m.toNat=(digK m.toNat n k 0).length:=(digK_len ..).symm;refine awp_for [1,7] (G:=Unit) (fun j _=>[(2,some (.int .i64 (k / prodT (List.replicate j n)))),(8,some (.int .i64 (m - 1 - (j : Int))))]) (fun j _ H=>Owns H0 H [(id,.cells 1 ((digK m.toNat n k j).map iI) 0)]) m.toNat () o (by show [(2,some (AV.int .i64 k)),(8,some (AV.int .i64 (m - 1))),(1,some (AV.int .i64 n)),(7,some (AV.buf id m.toNat))]=[(2,some (AV.int .i64 (k / prodT (List.replicate 0 n)))),(8,some (AV.int .i64 (m - 1 - ((0 : Nat) : Int)))),(1,some (AV.int .i64 n)),(7,some (AV.buf id m.toNat))]; rw [List.replicate_zero,prodT,Int.ediv_one,show m - 1 - ((0 : Nat) : Int)=m - 1 by omega]) ?_;clear o
 rintro j _ H hj o;refine tt ?_
 by_cases h : 0≤m - 1 - (j : Int)
 ·rw [decide_eq_true h]
  have hn1 : 1≤n:=by rcases en with e | e <;> omega
  have hp0 : 0<prodT (List.replicate j n):=prodT_pos fun a ha=>by obtain ⟨_,rfl⟩:=List.mem_replicate.mp ha; omega
  have hq : 0≤k / prodT (List.replicate j n):=Int.ediv_nonneg hk.1 (by omega)
  have hq2 : k / prodT (List.replicate j n)≤k:=Int.ediv_le_self _ hk.1
  have w1 : IntKind.i64.wrap (m - 1 - (j : Int) - 1)=m - 1 - ((j+1 : Nat) : Int):=by rw [wrap_i64 (by omega) (by omega)]; omega
  have e1 : (k / prodT (List.replicate j n)).tmod n=(k / prodT (List.replicate j n)) % n:=Int.tmod_eq_emod_of_nonneg hq
  have e2 : (k / prodT (List.replicate j n)).tdiv n=k / prodT (List.replicate (j+1) n):=by rw [Int.tdiv_eq_ediv_of_nonneg hq,quo_step hn1 hk.1]
  have hq3 : 0≤k / prodT (List.replicate (j+1) n):=by rw [← quo_step hn1 hk.1]; exact Int.ediv_nonneg hq (by omega)
  have hq4 : k / prodT (List.replicate (j+1) n)≤k:=Int.ediv_le_self _ hk.1
  have w2 : IntKind.i64.wrap (k / prodT (List.replicate (j+1) n))=k / prodT (List.replicate (j+1) n):=wrap_i64 (by omega) (by omega);try simp only [go_sem,↓reduceIte,reduceEqDiff,reduceAdd,reduceMul,reduceLeDiff,reduceLT,e1,e2,w2]
  refine ⟨by omega,by omega,set_own _ o rfl (by rw [digK_len]; omega) fun H o=>?_⟩
  have eo : (m - 1 - (j : Int)).toNat=m.toNat - 1 - j:=by omega
  rw [eo,digK_succ (by omega)] at o;try simp only [go_sem,↓reduceIte,reduceEqDiff,reduceAdd,reduceMul,reduceLeDiff,reduceLT,e1,e2,w2]
  refine ⟨by omega, ?_⟩;try simp only [go_sem,↓reduceIte,reduceEqDiff,reduceAdd,reduceMul,reduceLeDiff,reduceLT,e1,e2,w2,w1]
  exact for_next () (by omega) o rfl
 ·rw [decide_eq_false h]
  obtain rfl : j=m.toNat:=by omega
  rw [digK_full] at o;refine tt ?_;refine fz_own o (by rw [atT,List.length_map,List.length_range,List.length_replicate]) fun H o=>tt ?_;exact pure_ret (by rw [rp]) o.sub
theorem pwC {m n : Int} (h : pw m n≤64) : capP n m.toNat=pw m n:=by
 rw [capP_pw]; omega
theorem obSz {f : SF} (hf : f.Shape) {x : Int} (hx : f.shape.ObR x) : 0≤x∧x.toNat<f.sizes.length:=by
 have h1:=hx.1
 have h2:=hx.2
 have h3:=hf.sl;exact ⟨h1,by omega⟩
theorem arTo {f : SF} (hf : f.Shape) {a : Int} (ha : f.shape.ArR a) : 0≤a∧a.toNat<f.shape.to.length:=⟨ha.1,by have:=hf.is.1.tol; have:=ha.2; omega⟩
theorem arAc {f : SF} (hf : f.Shape) {a : Int} (ha : f.shape.ArR a) : 0≤a∧a.toNat<f.acts.length:=⟨ha.1,by have:=hf.al; have:=ha.2; omega⟩
theorem size56_ok (B : Nat) {f g : SF} (hf : f.Shape) (hg : g.Shape) {x y : Int} (hx : f.shape.ObR x) (hy : g.shape.ObR y) : Pur Tryz.prog B 56 [iI x,iI y,.ptr f.cells,.ptr g.cells] (iI (capP (ix g.sizes y) (ix f.sizes x).toNat)):=by
 refine ⟨fun H0=>c56 (by simp) fun _=>?_⟩;unfold s56;refine tt ?_
 have l1:=obSz hf hx
 have l2:=obSz hg hy;exact ⟨l1,l2,_,(mapCount_ok B _ _ (sz0 hf hx) (sz0 hg hy)).run,pure_ret rfl (.refl _)⟩
theorem bef58_ok (B : Nat) {f g : SF} (hf : f.Shape) (hg : g.Shape) {a y : Int} (ha : f.shape.ArR a) (hy : g.shape.ObR y) (few : FewP f g) : Pur Tryz.prog B 58 [iI a,iI y,.ptr f.cells,.ptr g.cells] (iL (befL f g a y)):=by
 refine ⟨fun H0=>c58 (by simp) fun _=>?_⟩;unfold s58
 have o : Owns H0 H0 []:=.nil _;refine tt ?_;refine newBuf_own o fun id H o=>tt ?_
 have o1:=ar_ob hf ha
 have z1:=sz0 hf o1.1
 have z2:=sz0 hf o1.2
 have z3:=sz0 hg hy
 have p1:=few _ _ o1.2 hy
 have p0:=pw_nonneg (m:=ix f.sizes (ix f.shape.to a)) z3.1;refine ⟨arTo hf ha,obSz hf o1.2,obSz hg hy,(mapCount_ok B _ _ z2 z3).run.use ?_⟩;rw [pwC p1]
 obtain ⟨N,hN⟩ : ∃ N : Nat,pw (ix f.sizes (ix f.shape.to a)) (ix g.sizes y)=N:=⟨_,(Int.toNat_of_nonneg p0).symm⟩
 have hl : (befL f g a y).length=N:=by simp [befL,hN]
 rw [hN];refine tt ?_;refine awp_for [0,2,8,9,29] (G:=Nat) (fun k i=>[(7,some (.buf i k)),(30,some (.int .i64 (k : Int)))]) (fun k i H=>Owns H0 H [(i,.cells 1 (((befL f g a y).take k).map iI) 0)]) N id o rfl ?_;clear o
 rintro k i H hk o;refine tt ?_;apply bk <;> intro h1
 ·have h1p:=of_decide h1
  have w:=wsucc (k:=k) (by omega);refine tt ?_
  have hk' : 0≤(k : Int)∧(k : Int)<pw (ix f.sizes (ix f.shape.to a)) (ix g.sizes y):=by omega
  have m1:=bef_map hf hg ha hy hk'
  have m2:=act_map hf ha
  have m3:=at_map z3.1 hk';refine ⟨arAc hf ha,_,(mapAt_ok B _ _ _ z2 z3 hk' p1).run,_,(then_ok B _ _ fun y hy=>⟨(m2.mem hy).1,by have:=m2.mem hy; have:=m3.len; omega⟩).run,_,(mapNumber_ok B (ix f.sizes (ix f.shape.frm a)) _ _ m1 z1 z3 (few _ _ o1.1 hy)).run,by simp [AV.cells,AV.one], ?_⟩
  have es : (befL f g a y).take (k+1)=(befL f g a y).take k++[befN f g a y k]:=by
   rw [take_succ' _ (by omega)]
   have:=befL_ix hk';rw [ix_nat] at this;rw [this]
  refine app_own (befN f g a y k) o rfl (by simp; omega) (by simp only [maxL,List.length_take]; omega) fun i H o=>?_;rw [← es] at o;refine tw w ?_;exact for_next i h1p o (by simp only [List.length_append,List.length_take,List.length_singleton,Nat.min_eq_left (show k≤(befL f g a y).length by omega)])
 ·have h1p:=of_ndecide h1
  obtain rfl : k=N:=by omega
  rw [List.take_of_length_le (by omega)] at o;refine tt ?_;refine fz_own o hl.symm fun H o=>tt ?_;exact pure_ret rfl o.sub
theorem beh62_ok (B : Nat) {f g : SF} (hf : f.Shape) (hg : g.Shape) {b x : Int} (hb : g.shape.ArR b) (hx : f.shape.ObR x) (few : FewP f g) : Pur Tryz.prog B 62 [iI b,iI x,.ptr f.cells,.ptr g.cells] (iL (behL f g b x)):=by
 refine ⟨fun H0=>c62 (by simp) fun _=>?_⟩;unfold s62
 have o : Owns H0 H0 []:=.nil _;refine tt ?_;refine newBuf_own o fun id H o=>tt ?_
 have o1:=ar_ob hg hb
 have z1:=sz0 hg o1.1
 have z2:=sz0 hg o1.2
 have z3:=sz0 hf hx
 have p1:=few _ _ hx o1.1
 have p0:=pw_nonneg (m:=ix f.sizes x) z1.1
 have gfr : 0≤b∧b.toNat<g.shape.frm.length:=hb;refine ⟨obSz hf hx,gfr,obSz hg o1.1,(mapCount_ok B _ _ z3 z1).run.use ?_⟩;rw [pwC p1]
 obtain ⟨N,hN⟩ : ∃ N : Nat,pw (ix f.sizes x) (ix g.sizes (ix g.shape.frm b))=N:=⟨_,(Int.toNat_of_nonneg p0).symm⟩
 have hl : (behL f g b x).length=N:=by simp [behL,hN]
 rw [hN];refine tt ?_;refine awp_for [0,3,8,9,29] (G:=Nat) (fun k i=>[(7,some (.buf i k)),(30,some (.int .i64 (k : Int)))]) (fun k i H=>Owns H0 H [(i,.cells 1 (((behL f g b x).take k).map iI) 0)]) N id o rfl ?_;clear o
 rintro k i H hk o;refine tt ?_;apply bk <;> intro h1
 ·have h1p:=of_decide h1
  have w:=wsucc (k:=k) (by omega);refine tt ?_
  have hk' : 0≤(k : Int)∧(k : Int)<pw (ix f.sizes x) (ix g.sizes (ix g.shape.frm b)):=by omega
  have m1:=beh_map hf hg hb hx hk'
  have m2:=act_map hg hb
  have m3:=at_map z1.1 hk';refine ⟨_,(mapAt_ok B _ _ _ z3 z1 hk' p1).run,arAc hg hb,_,(then_ok B _ _ fun y hy=>⟨(m3.mem hy).1,by have:=m3.mem hy; have:=m2.len; omega⟩).run,arTo hg hb,obSz hg o1.2,_,(mapNumber_ok B (ix f.sizes x) _ _ m1 z3 z2 (few _ _ hx o1.2)).run,by simp [AV.cells,AV.one], ?_⟩
  have es : (behL f g b x).take (k+1)=(behL f g b x).take k++[behN f g b x k]:=by
   rw [take_succ' _ (by omega)]
   have:=behL_ix hk';rw [ix_nat] at this;rw [this]
  refine app_own (behN f g b x k) o rfl (by simp; omega) (by simp only [maxL,List.length_take]; omega) fun i H o=>?_;rw [← es] at o;refine tw w ?_;exact for_next i h1p o (by simp only [List.length_append,List.length_take,List.length_singleton,Nat.min_eq_left (show k≤(behL f g b x).length by omega)])
 ·have h1p:=of_ndecide h1
  obtain rfl : k=N:=by omega
  rw [List.take_of_length_le (by omega)] at o;refine tt ?_;refine fz_own o hl.symm fun H o=>tt ?_;exact pure_ret rfl o.sub
end Go.Proofs.Shf
namespace Go.AW
@[go_sem] theorem cells_emsl : AV.emsl.cells=[.emsl]:=rfl
@[go_sem] theorem one_emsl : AV.emsl.one=true:=rfl
@[go_sem] theorem le_maxL3 : (3≤maxL)=True:=by simp [maxL]
@[go_sem] theorem le_maxL4 : (4≤maxL)=True:=by simp [maxL]
@[go_sem] theorem le_maxL5 : (5≤maxL)=True:=by simp [maxL]
theorem permC {l r : Ob} (h : ∀ x,@List.count _ (@instBEqOfDecidableEq _ (Classical.typeDecidableEq _)) x l=@List.count _ (@instBEqOfDecidableEq _ (Classical.typeDecidableEq _)) x r) : l.Perm r:=by
 letI : DecidableEq (Nat × MObj):=Classical.typeDecidableEq _
 exact List.perm_iff_count.mpr h
def EmP {α : Type} (f : α→AV) (p : List (Nat × MObj)) (X : AV) (A : List α) : Prop :=
 (p=[]∧X=.emsl∧A=[])∨∃ id,p=[(id,.cells 1 (A.map f) 0)]∧X=.buf id A.length
theorem EmP.o {α : Type} {f : α→AV} {H0 H : Heap} {l p : List (Nat × MObj)} {X : AV} {A : List α} (h : EmP f p X A) (o : Owns H0 H (p++l)) : EmO f H0 H l X A:=by
 rcases h with ⟨rfl,h1,h2⟩ | ⟨id,rfl,h1⟩
 ·exact .inl ⟨h1,h2,o⟩
 ·exact .inr ⟨id,h1,o⟩
theorem wk_emc {F : Env→Heap→Prop} {σ : Env} {H0 H : Heap} {l : List (Nat × MObj)} {id sz fr : Nat} {cs : List AV} (k : Nat)
  (o : Owns H0 H ((id,.cells sz cs fr)::l)) (hc : cs[k]? = some .emsl) (hk : ∀ H',Owns H0 H' ((id,.cells sz (cs.set k (.sl [])) fr)::l)→wkW F σ H') : wkW F σ H:=by
 have h1:=o.h0;simp only at h1;refine wkW_step (σ1:=σ) ?_ (hk _ (o.put (.cells sz (cs.set k (.sl [])) fr)))
 intro g B w tm hW hE;refine ⟨g,.refl g,hW.recell h1 (by simp) fun j v hj hv=>?_,hE⟩
 by_cases e : j=k
 ·subst e
  have e1 : cs.getD j nv=.emsl:=by rw [List.getD_eq_getElem?_getD,hc]; rfl
  have e2 : (cs.set j (.sl [])).getD j nv=.sl []:=by simp [List.getD_eq_getElem?_getD,hj]
  rw [e1] at hv; rw [e2]
  cases hv; exact .slnil _ 0
 ·have e2 : (cs.set k (.sl [])).getD j nv=cs.getD j nv:=by
   rw [List.getD_eq_getElem?_getD,List.getElem?_set_ne (by omega),← List.getD_eq_getElem?_getD]
  rw [e2]; exact hv
theorem wk_em {α : Type} [Inhabited α] {f : α→AV} [One f] {F : Env→Heap→Prop} {σ : Env} {H0 H : Heap} {l p : List (Nat × MObj)} {id sz fr : Nat} {cs : List AV} {X : AV} {A : List α} (k : Nat)
  (h : EmP f p X A) (o : Owns H0 H (p++((id,.cells sz cs fr)::l))) (hc : cs[k]? = some X)
  (hk : ∀ H',Owns H0 H' ((id,.cells sz (cs.set k (mL f A)) fr)::l)→wkW F σ H') : wkW F σ H:=by
 rcases h with ⟨rfl,rfl,rfl⟩ | ⟨id2,rfl,rfl⟩
 ·exact wk_emc k o hc hk
 ·exact wk_cell k o.swap hc rfl hk
end Go.AW
namespace Go.Shf
open Go.AW
structure Cat.Sh (N : Nat) (c : Cat) : Prop where
 ob : 0≤c.objs∧c.objs≤N
 il : (c.idn.length : Int)=c.objs
 ml : c.frm.length≤N
 tl : c.to.length=c.frm.length
 cl : c.comp.length=c.frm.length
 row : ∀ f : Nat,f<c.frm.length→(c.comp.getD f default).length=c.frm.length
theorem Cat.Sh.mono {N M : Nat} {c : Cat} (h : c.Sh N) (hm : N≤M) : c.Sh M:=⟨by have:=h.ob; omega,h.il,by have:=h.ml; omega,h.tl,h.cl,h.row⟩
def CatQ (N : Nat) (r : AV) : Prop:=∃ c : Cat,r=.agg c.cells∧c.Sh N
def SqT (n : Nat) (T : List (List Int)) : Prop:=T.length≤n∧∀ i,i<T.length→(T.getD i default).length=T.length
def SqQ (n : Nat) (r : AV) : Prop:=∃ T : List (List Int),r=iLL T∧SqT n T
end Go.Shf
namespace Go.Proofs.Shf
open Go.AW Go.Proofs Go.Shf
theorem l02Monoid_ok (B : Nat) : Rd B 245 [] (SqQ 4):=by
 intro id s H0 H hs o;refine c245 (by simp) fun hf=>?_;unfold s245;refine tt ?_;refine (l01Next_ok B 8).go hs o fun r s' H hr ⟨k,e,h0,h1,_⟩ hs o=>?_;subst e;refine tt ?_;apply bk <;> intro q0
 ·refine tt ?_;exact src_ret ⟨[[0]],rfl,by decide,by decide⟩ hs o
 refine tt ?_;apply bk <;> intro q1
 ·refine tt ?_;exact src_ret ⟨[[0,1],[1,0]],rfl,by decide,by decide⟩ hs o
 refine tt ?_;apply bk <;> intro q2
 ·refine tt ?_;exact src_ret ⟨[[0,1],[1,1]],rfl,by decide,by decide⟩ hs o
 refine tt ?_;apply bk <;> intro q3
 ·refine tt ?_;exact src_ret ⟨[[0,1,2],[1,2,0],[2,0,1]],rfl,by decide,by decide⟩ hs o
 refine tt ?_;apply bk <;> intro q4
 ·refine tt ?_;exact src_ret ⟨[[0,1,2],[1,1,2],[2,2,2]],rfl,by decide,by decide⟩ hs o
 refine tt ?_;apply bk <;> intro q5
 ·refine tt ?_;exact src_ret ⟨[[0,1,2],[1,1,2],[2,1,2]],rfl,by decide,by decide⟩ hs o
 refine tt ?_;apply bk <;> intro q6
 ·refine tt ?_;exact src_ret ⟨[[0,1,2,3],[1,0,2,3],[2,3,2,3],[3,2,2,3]],rfl,by decide,by decide⟩ hs o
 refine tt ?_;exact src_ret ⟨[[0,1,2],[1,2,2],[2,2,2]],rfl,by decide,by decide⟩ hs o
theorem l02Split_ok (B : Nat) : Rets B 246 [] (CatQ 6):=by
 intro H0;refine c246 (by simp) fun hf=>?_;unfold s246;refine tt ?_;refine fun i1 n1=>tt ?_;refine rets_ret ⟨⟨2,[0,1,0,0,1],[0,1,0,1,0],[0,1],[[0,-1,2,3,-1],[-1,1,-1,-1,4],[2,-1,2,3,-1],[-1,3,-1,-1,2],[4,-1,4,1,-1]]⟩,rfl,by decide,by decide,by decide,by decide,by decide,by decide⟩ ?_
 repeat (first | exact .refl _ | refine sub_set ?_ n1)
theorem l02Fits_ok (B : Nat) (c : Cat) : Pur Tryz.prog B 162 [.agg c.cells] (.bool (dec (c.objs≤8∧c.frm.length≤40))):=by
 refine ⟨fun H0=>c162 (by simp) fun hf=>?_⟩;unfold s162;refine tt ?_;apply bk <;> intro h1
 ·refine tw h1 ?_
  exact pure_ret (by
   have h1p:=of_decide h1
   congr 1
   rw [decide_dec];exact dec_congr ⟨fun h=>⟨h1p,by omega⟩,fun h=>by have:=h.2; omega⟩) (.refl _)
 ·refine tw h1 ?_;exact pure_ret (by rw [dec_f (fun h=>of_ndecide h1 h.1)]) (.refl _)
theorem l03Monoid_ok (B : Nat) (T : List (List Int)) (hT : SqT 4 T) : Rets B 244 [iLL T] (CatQ 4):=by
 intro H0;refine c244p (by simp) fun hf=>?_;unfold s244p;refine tt ?_;refine newRef_own (.nil _) fun id H o=>tt ?_;refine ⟨_,(l01Own2_ok ..).run,tt ?_⟩
 have hT4:=hT.1
 have hc : (T.length : Int)≤T.length∧T.length≤maxL∧T.length≤maxL:=⟨by omega,by simp only [maxL]; omega,by simp only [maxL]; omega⟩;refine ⟨?_, ?_⟩
 ·refine ⟨hc,mks_list iI 0 rfl o fun i7 H o=>?_⟩;refine tt ?_;refine ⟨hc,mks_list iI 0 rfl o fun i9 H o=>?_⟩;refine tt ?_
  have o:=o.pull [_,_];simp only [List.cons_append,List.nil_append] at o;refine sw o fun H o=>tt ?_;refine wk_cell 2 o rfl (by simp) fun H o=>?_;simp only [List.set_cons_zero,List.set_cons_succ] at o;refine wk_cell 1 o rfl (by simp) fun H o=>wkW_done ?_;simp only [List.set_cons_zero,List.set_cons_succ] at o;refine tt ?_
  have hr:=o.rc 5 0 (by simp);simp only [List.drop_zero] at hr;rw [hr];refine tt ?_;exact rets_ret ⟨⟨1,List.replicate T.length 0,List.replicate T.length 0,[0],T⟩,rfl,by simp,by simp,by simpa using hT4,by simp,by simp,fun f hf=>by simpa using hT.2 f (by simpa using hf)⟩ o.sub
 ·refine ⟨hc,mks_list iI 0 rfl o fun i9 H o=>?_⟩;refine tt ?_;refine ⟨hc,mks_list iI 0 rfl o fun i7 H o=>?_⟩;refine tt ?_
  have o:=o.pull [_,_];simp only [List.cons_append,List.nil_append] at o;refine sw o fun H o=>tt ?_;refine wk_cell 1 o rfl (by simp) fun H o=>?_;simp only [List.set_cons_zero,List.set_cons_succ] at o;refine wk_cell 2 o rfl (by simp) fun H o=>wkW_done ?_;simp only [List.set_cons_zero,List.set_cons_succ] at o;refine tt ?_
  have hr:=o.rc 5 0 (by simp);simp only [List.drop_zero] at hr;rw [hr];refine tt ?_;exact rets_ret ⟨⟨1,List.replicate T.length 0,List.replicate T.length 0,[0],T⟩,rfl,by simp,by simp,by simpa using hT4,by simp,by simp,fun f hf=>by simpa using hT.2 f (by simpa using hf)⟩ o.sub
theorem l03Op_ok (B : Nat) (N : Nat) (hN : N≤4096) (c : Cat) (hc : c.Sh N) : Rets B 247 [.agg c.cells] (CatQ N):=by
 intro H0;refine c247p (by simp) fun hf=>?_
 have hob:=hc.ob
 have hml:=hc.ml
 have htl:=hc.tl
 have hcl:=hc.cl
 have hrow:=hc.row;unfold s247p;refine tt ?_;refine newRef_own (.nil _) fun id2 H o=>tt ?_;refine ⟨_,(l01Own_ok ..).run,tt ?_⟩;refine ⟨_,(l01Own_ok ..).run,tt ?_⟩;refine ⟨_,(l01Own_ok ..).run,tt ?_⟩;refine newRef_own o fun id3 H o=>tt ?_;refine sw o fun H o=>tt ?_
 refine awp_for [1,2,3] (G:=AV × Ob × List (List Int)) (fun k _=>[(4,some (.int .i64 (k : Int)))])
  (fun k g H=>EmP iL g.2.1 g.1 g.2.2∧g.2.2.length=k∧(∀ r,r∈g.2.2→r.length=c.frm.length)∧Owns H0 H (g.2.1++[(id3,MObj.cells 5 [iI c.objs,iL c.to,iL c.frm,iL c.idn,g.1] 0),(id2,MObj.cells 5 [iI 0,.nilsl,.nilsl,.nilsl,.nilsl] 0)])) c.frm.length (.emsl,[],[])
  ⟨.inl ⟨rfl,rfl,rfl⟩,rfl,by simp,o⟩ rfl ?_
 clear o
 rintro k ⟨X,p,A⟩ H hk ⟨hX,hA,hr,o⟩;dsimp only at hX hA hr o;refine tt ?_;apply bk <;> intro h1
 ·have h1p:=of_decide h1;refine tt ?_;refine newBuf_own o fun idr H o=>tt ?_
  refine awp_for [1,2,3,4] (G:=Nat × List Int) (fun j g=>[(5,some (.buf g.1 g.2.length)),(6,some (.int .i64 (j : Int)))])
   (fun j g H=>g.2.length=j∧Owns H0 H ((g.1,.cells 1 (g.2.map iI) 0)::(p++[(id3,MObj.cells 5 [iI c.objs,iL c.to,iL c.frm,iL c.idn,X] 0),(id2,MObj.cells 5 [iI 0,.nilsl,.nilsl,.nilsl,.nilsl] 0)]))) c.frm.length (idr,[]) ⟨rfl,o⟩ rfl ?_
  clear o
  rintro j ⟨idr,row⟩ H hj ⟨hrl,o⟩;dsimp only at hrl o;refine tt ?_;apply bk <;> intro h2
  ·have h2p:=of_decide h2
   have w:=wsucc (k:=j) (by omega)
   have hrj:=hrow j h2p;refine tt ?_;refine ⟨by omega,by omega, ?_⟩;refine app_own _ o rfl rfl (by simp only [maxL]; omega) fun idr H o=>?_;refine tw w ?_;exact for_next (idr,_) h2p ⟨by simp [hrl],o⟩ rfl
  ·have h2p:=of_ndecide h2;refine tt ?_;refine fz_own o rfl fun H o=>tt ?_;refine rd_get (o.get (id3,MObj.cells 5 [iI c.objs,iL c.to,iL c.frm,iL c.idn,X] 0) (by simp)) (by simp) ?_;refine tt ?_;refine (hX.o o).app row rfl (by simp only [maxL]; omega) fun id' H o=>tt ?_;refine sw o.swap fun H o=>?_
   have w:=wsucc (k:=k) (by omega);refine tw w ?_
   exact for_next (_,[(id',.cells 1 ((A++[row]).map iL) 0)],A++[row]) h1p ⟨.inr ⟨id',rfl,rfl⟩,by simp [hA],by
    intro r hr'
    rcases List.mem_append.mp hr' with h | h
    ·exact hr r h
    ·rw [List.mem_singleton] at h; subst h; omega,o.swap⟩ rfl
 ·have h1p:=of_ndecide h1;refine tt ?_;refine wk_em 4 hX o rfl fun H o=>wkW_done ?_;simp only [List.set_cons_zero,List.set_cons_succ] at o;refine tt ?_;refine rd_celln o (by simp) ?_;refine tt ?_;refine sw o.swap fun H o=>tt ?_
  have hr2:=o.rc 5 0 (by simp);simp only [List.drop_zero] at hr2;rw [hr2];refine tt ?_
  exact rets_ret ⟨⟨c.objs,c.to,c.frm,c.idn,A⟩,rfl,hob,hc.il,by show c.to.length≤N; omega,by show c.frm.length=c.to.length; omega,by show A.length=c.to.length; omega,fun f hf=>by
   show (A.getD f default).length=c.to.length
   rw [hr _ (mem_getD.mpr ⟨f,by have : f<c.to.length:=hf; omega,rfl⟩)]; omega⟩ o.sub
def TbO {α : Type} (id : Nat) (A : List α) (Y : AV) : Prop:=(A=[]∧Y=.emsl)∨Y=.tbuf id A.length
theorem sl3_own {α : Type} {f : α→AV} {H0 H : Heap} {l : Ob} {id fr n : Nat} {A : List α} {a b : Int} {K : Kont} (h : Owns H0 H ((id,.cells 1 (A.map f) fr)::l)) (hn : n=A.length) (ha : a=n) (hb : b=n)
  (hk : ∀ Y,TbO id A Y→K Y H) : slb1 1 n (sl3P id n a b) (H.get id) K H:=by
 have h0:=h.h0;simp only at h0;rw [h0];refine ⟨⟨rfl,by simp [hn]⟩,⟨ha,hb⟩,hk _ ?_⟩
 by_cases e : n=0
 ·rw [if_pos e]; exact .inl ⟨List.eq_nil_of_length_eq_zero (by omega),rfl⟩
 ·rw [if_neg e,hn]; exact .inr rfl
theorem TbO.app {α : Type} [Inhabited α] {f : α→AV} [One f] {H0 H : Heap} {l : Ob} {id fr : Nat} {A : List α} {Y : AV} {K : Kont} (t : TbO id A Y) (a : α) {v : AV} (h : Owns H0 H ((id,.cells 1 (A.map f) fr)::l)) (hv : v=f a) (hm : A.length+1≤maxL)
  (hk : ∀ id' H',Owns H0 H' ((id',.cells 1 ((A++[a]).map f) 0)::l)→K (.buf id' (A++[a]).length) H') : appW 1 (some Y) (some (.sl [v])) K H:=by
 rcases t with ⟨rfl,rfl⟩ | rfl
 ·exact em_own a h.tl hv hk
 ·subst hv
  have h0:=h.h0;simp only at h0;simp only [appW,h0,srcOf,app3];refine ⟨⟨trivial,by simp,by simp,by simpa using hm,by simpa using hm,okEls_one a⟩,fun id' hn=>?_⟩
  have:=hk id' _ (h.tl.new hn (.cells 1 ((A++[a]).map f) 0))
  have e : A.map f++flat [f a]=(A++[a]).map f:=by simp [flat,one_cells]
  rw [e]
  simpa using this
theorem rwP_len (f g : SF) : (mapsP f g).sizes.length=f.shape.objs.toNat:=by simp [mapsP]
def rowS (f g : SF) (x : Int) : List Int:=(List.range g.shape.objs.toNat).map fun y : Nat=>pw (ix f.sizes x) (ix g.sizes y)
theorem rwP_ix {f g : SF} {x : Int} (h : 0≤x∧x<f.shape.objs) : ix (mapsP f g).sizes x=rowS f g x:=ixr (fun x=>rowS f g x) ⟨h.1,by omega⟩
theorem rowS_len (f g : SF) (x : Int) : (rowS f g x).length=g.shape.objs.toNat:=by simp [rowS]
theorem rowS_ix {f g : SF} {x y : Int} (h : 0≤y∧y<g.shape.objs) : ix (rowS f g x) y=pw (ix f.sizes x) (ix g.sizes y):=ixr (fun y=>pw (ix f.sizes x) (ix g.sizes y)) ⟨h.1,by omega⟩
def c00 : Cat:=⟨0,[],[],[],[]⟩
def pf0 : PF:=⟨c00,c00,[],[],[]⟩
@[go_sem] def z13 : List AV:=[iI 0,.nilsl,.nilsl,.nilsl,.nilsl,iI 0,.nilsl,.nilsl,.nilsl,.nilsl,.nilsl,.nilsl,.nilsl]
@[go_sem] def pfC (c d : Cat) (X Y Z : AV) : List AV:=[iI c.objs,iL c.frm,iL c.to,iL c.idn,iLL c.comp,iI d.objs,iL d.frm,iL d.to,iL d.idn,iLL d.comp,X,Y,Z]
theorem wk_z13 {F : Env→Heap→Prop} {σ : Env} {H0 H : Heap} {l : Ob} {id : Nat} (o : Owns H0 H ((id,.cells 13 z13 0)::l)) (hk : ∀ H',Owns H0 H' ((id,.cells 13 pf0.cells 0)::l)→wkW F σ H') : wkW F σ H:=by
 unfold z13 at o;refine wk_nil 1 o rfl fun H o=>?_;refine wk_nil 2 o rfl fun H o=>?_;refine wk_nil 3 o rfl fun H o=>?_;refine wk_nil 4 o rfl fun H o=>?_;refine wk_nil 6 o rfl fun H o=>?_;refine wk_nil 7 o rfl fun H o=>?_;refine wk_nil 8 o rfl fun H o=>?_;refine wk_nil 9 o rfl fun H o=>?_;refine wk_nil 10 o rfl fun H o=>?_;refine wk_nil 11 o rfl fun H o=>?_;refine wk_nil 12 o rfl fun H o=>?_;exact hk H o
open Classical in
noncomputable def profR (f g : SF) : AV:=.tup [.agg (if FewP f g then mapsP f g else pf0).cells,.bool (dec (FewP f g))]
def pf13 (p : PF) : List AV:=pfC p.src p.tgt (iLL p.sizes) (iLLL p.before) (iLLL p.behind)
theorem profR_no {f g : SF} (h : ¬ FewP f g) : profR f g=.tup [.agg pf0.cells,.bool false]:=by rw [profR,if_neg h,dec_f h]
theorem profR_yes {f g : SF} (h : FewP f g) : profR f g=.tup [.agg (mapsP f g).cells,.bool true]:=by rw [profR,if_pos h,dec_t h]
def befR (f g : SF) (a : Int) : List (List Int):=(List.range g.shape.objs.toNat).map fun y : Nat=>befL f g a y
def behR (f g : SF) (b : Int) : List (List Int):=(List.range f.shape.objs.toNat).map fun x : Nat=>behL f g b x
theorem befR_len (f g : SF) (x : Int) : (befR f g x).length=g.shape.objs.toNat:=by simp [befR]
theorem behR_len (f g : SF) (x : Int) : (behR f g x).length=f.shape.objs.toNat:=by simp [behR]
theorem befR_ix {f g : SF} {x y : Int} (h : 0≤y∧y<g.shape.objs) : ix (befR f g x) y=befL f g x y:=ixr (fun y=>befL f g x y) ⟨h.1,by omega⟩
theorem behR_ix {f g : SF} {x y : Int} (h : 0≤y∧y<f.shape.objs) : ix (behR f g x) y=behL f g x y:=ixr (fun y=>behL f g x y) ⟨h.1,by omega⟩
theorem bef_ix' {f g : SF} {a : Int} (h : f.shape.ArR a) : ix (mapsP f g).before a=befR f g a:=ixr (fun a=>befR f g a) h
theorem beh_ix' {f g : SF} {b : Int} (h : g.shape.ArR b) : ix (mapsP f g).behind b=behR f g b:=ixr (fun b=>behR f g b) h
theorem takeS {α : Type} [Inhabited α] {l : List α} {k : Nat} (h : k<l.length) {y : α} (e : ix l (k : Int)=y) : l.take (k+1)=l.take k++[y]:=by
 rw [take_succ' _ h,← e,ix_nat]
theorem profunctor_ok (B : Nat) {f g : SF} (hf : f.Shape) (hg : g.Shape) (H0 : Heap) :
  CallH Tryz.prog B 55 [.ptr f.shape.cells,.ptr g.shape.cells,.fn (.func 56) [.ptr f.cells,.ptr g.cells],.fn (.func 58) [.ptr f.cells,.ptr g.cells],.fn (.func 62) [.ptr f.cells,.ptr g.cells]] H0
   fun r H'=>H'=H0∧r=profR f g:=by
 refine c55p (by simp) fun _=>?_
 have cf:=hf.is.1.o
 have cg:=hg.is.1.o;unfold s55p
 have o : Owns H0 H0 []:=.nil _;refine tt ?_;refine nb o fun idR H o=>tt ?_;refine (catCopy_ok B f.shape).run.use ?_;refine tt ?_;refine (catCopy_ok B g.shape).run.use ?_;refine tt ?_;refine nb o fun idP H o=>tt ?_;refine sw o fun H o=>tt ?_
 have o : Owns H0 H [(idP,.cells 13 (pfC f.shape g.shape .nilsl .nilsl .nilsl) 0),(idR,.cells 13 z13 0)]:=o
 refine awp_for [0,1,2,3,4,10,12] (G:=AV × Ob) (fun k _=>[(13,some (.int .i64 (k : Int)))])
  (fun k g' H=>(∀ x y,0≤x∧x<(k : Int)→g.shape.ObR y→pw (ix f.sizes x) (ix g.sizes y)≤64)∧LsP iL g'.2 g'.1 ((mapsP f g).sizes.take k)∧Owns H0 H ((idP,.cells 13 (pfC f.shape g.shape g'.1 .nilsl .nilsl) 0)::(g'.2++[(idR,.cells 13 z13 0)]))) f.shape.objs.toNat (.nilsl,[]) ⟨fun x y h=>by omega,.inl ⟨rfl,rfl,rfl⟩,o⟩ rfl ?_
 clear o
 rintro k ⟨X,q⟩ H hk ⟨hfew,hX,o⟩;dsimp only at hX o;refine tt ?_;apply bk <;> intro h1
 ·have h1p:=of_decide h1
  have w:=wsucc (k:=k) (by omega);refine tt ?_
  have hkx : 0≤(k : Int)∧(k : Int)<f.shape.objs:=⟨by omega,h1p⟩;refine ⟨⟨by omega,by omega,by simp only [maxL]; omega,by simp only [maxL]; omega⟩,newBuf_own o fun idB H o=>?_⟩
  have o : Owns H0 H ((idB,.cells 1 (((rowS f g k).take 0).map iI) 0)::(idP,.cells 13 (pfC f.shape g.shape X .nilsl .nilsl) 0)::(q++[(idR,.cells 13 z13 0)])):=o;refine tt ?_
  refine awp_for [0,1,2,3,4,10,12,13] (G:=Nat) (fun j b=>[(14,some (.buf b j)),(15,some (.int .i64 (j : Int)))])
   (fun j b H=>(∀ y,0≤y∧y<(j : Int)→pw (ix f.sizes k) (ix g.sizes y)≤64)∧Owns H0 H ((b,.cells 1 (((rowS f g k).take j).map iI) 0)::(idP,.cells 13 (pfC f.shape g.shape X .nilsl .nilsl) 0)::(q++[(idR,.cells 13 z13 0)]))) g.shape.objs.toNat idB ⟨fun y h=>by omega,o⟩ rfl ?_
  clear o
  rintro j b H hj ⟨hrow,o⟩
  replace o : Owns H0 H ((b,.cells 1 (((rowS f g k).take j).map iI) 0)::(idP,.cells 13 (pfC f.shape g.shape X .nilsl .nilsl) 0)::(q++[(idR,.cells 13 z13 0)])):=o;refine tt ?_;apply bk <;> intro h2
  ·have h2p:=of_decide h2
   have w2:=wsucc (k:=j) (by omega)
   have hjy : 0≤(j : Int)∧(j : Int)<g.shape.objs:=⟨by omega,h2p⟩
   have hl : ((rowS f g k).take j).length=j:=by rw [List.length_take,rowS_len]; omega
   refine tt ?_
   have q56:=(size56_ok B hf hg hkx hjy).run
   have hcap : capP (ix g.sizes j) (ix f.sizes k).toNat=min (pw (ix f.sizes k) (ix g.sizes j)) 65:=capP_pw
   generalize capP (ix g.sizes j) (ix f.sizes k).toNat=P at q56 hcap;refine ⟨_,q56,tt ?_⟩;refine sl3_own o hl.symm rfl rfl fun Y hY=>tt ?_;refine hY.app P o rfl (by rw [hl]; simp only [maxL]; omega) fun b2 H o=>tt ?_;refine ⟨by simp [hl],rd_own o (by simp [hl]) ?_⟩;rw [show ((rowS f g k).take j++[P]).getD j default=P by simp [List.getD_eq_getElem?_getD,hl]]
   have es : P≤64→(rowS f g k).take j++[P]=(rowS f g k).take (j+1):=fun h=>by
    rw [take_succ' _ (by rw [rowS_len]; omega)]
    have:=rowS_ix (f:=f) (x:=k) hjy;rw [ix_nat] at this;rw [this,show P=pw (ix f.sizes k) (ix g.sizes j) by omega]
   have hp0:=pw_nonneg (m:=ix f.sizes k) (sz0 hg hjy).1;refine tt ?_;apply bk <;> intro h3
   ·have h3p:=of_decide h3
    have hno : ¬ FewP f g:=fun h=>by have:=h k j hkx hjy; omega
    refine tt ?_
    have o : Owns H0 H ((idR,.cells 13 z13 0)::(((b2,.cells 1 (((rowS f g k).take j++[P]).map iI) 0)::(idP,.cells 13 (pfC f.shape g.shape X .nilsl .nilsl) 0)::q)++[])):=o.pm;refine st_cells o (by simp [z13]) (by (try simp only [go_sem]); (try simp)) (by first | (simp only [go_sem]; done) | ((try simp only [go_sem]); simp [AV.one,one_mL])) fun H o=>?_;unfold z13 at o;simp only [wr_cons,wr_nil,List.set_cons_zero,List.set_cons_succ] at o;refine tt ?_;refine wk_z13 o fun H o=>wkW_done ?_;refine tt ?_;rw [o.rc 13 0 (by simp [PF.cells])];refine tt ?_;exact ⟨H0,o.sub,rfl,by rw [profR_no hno]; rfl⟩
   ·have h3p:=of_ndecide h3;rw [es (by omega)] at o;refine tw w2 ?_;refine for_next b2 (by omega) ⟨fun y hy=>?_,o⟩ ?_
    ·by_cases e : y=j
     ·subst e; show pw (ix f.sizes k) (ix g.sizes j)≤64; omega
     ·exact hrow y (by omega)
    ·rw [List.length_append,hl]; rfl
  ·have h2p:=of_ndecide h2
   obtain rfl : j=g.shape.objs.toNat:=by omega
   rw [List.take_of_length_le (by rw [rowS_len]; omega)] at o;refine tt ?_;refine fz_own o (rowS_len f g k).symm fun H o=>tt ?_;refine rd_cells o (by simp [pfC]) ?_;refine tt ?_;refine (LsO.mk (l:=[(idP,.cells 13 (pfC f.shape g.shape X .nilsl .nilsl) 0),(idR,.cells 13 z13 0)]) (o.pm) hX).app (rowS f g k) rfl (by rw [List.length_take]; simp only [maxL]; omega) fun ids H o=>?_
   have es:=takeS (l:=(mapsP f g).sizes) (k:=k) (by rw [rwP_len]; omega) (rwP_ix hkx);rw [← es] at o;rw [← es];refine tt ?_;refine st_cells o.swap (by simp [pfC]) (by (try simp only [go_sem]); (try simp)) (by first | (simp only [go_sem]; done) | ((try simp only [go_sem]); simp [AV.one,one_mL])) fun H o=>?_;unfold pfC at o;simp only [wr_cons,wr_nil,List.set_cons_zero,List.set_cons_succ] at o;refine tw w ?_;refine for_next (.buf ids ((mapsP f g).sizes.take (k+1)).length,[(ids,.cells 1 (((mapsP f g).sizes.take (k+1)).map iL) 0)]) (by omega) ⟨fun x y hx hy=>?_,.inr ⟨ids,rfl,rfl⟩,o⟩ rfl
   by_cases e : x=k
   ·subst e
    have h1 : 0≤y∧y<g.shape.objs:=hy;exact hrow y (by omega)
   ·exact hfew x y (by omega) hy
 ·have h1p:=of_ndecide h1
  obtain rfl : k=f.shape.objs.toNat:=by omega
  have few : FewP f g:=fun x y hx hy=>hfew x y (by have h1 : 0≤x∧x<f.shape.objs:=hx; omega) hy;rw [List.take_of_length_le (by rw [rwP_len]; omega)] at hX;clear hfew h1 h1p hk;refine tt ?_
  have bl : (mapsP f g).before.length=f.shape.frm.length:=by simp [mapsP]
  have hl : (mapsP f g).behind.length=g.shape.frm.length:=by simp [mapsP]
  have am:=hf.is.1.m
  have bm:=hg.is.1.m
  refine awp_for [0,1,3,4,10,12,74] (G:=AV × Ob) (fun k _=>[(75,some (.int .i64 (k : Int)))])
   (fun k g' H=>LsP iLL g'.2 g'.1 ((mapsP f g).before.take k)∧Owns H0 H ((idP,.cells 13 (pfC f.shape g.shape X g'.1 .nilsl) 0)::(g'.2++(q++[(idR,.cells 13 z13 0)])))) f.shape.frm.length (.nilsl,[]) ⟨.inl ⟨rfl,rfl,rfl⟩,o⟩ rfl ?_
  clear o
  rintro k ⟨Y,p⟩ H hk ⟨hY,o⟩;dsimp only at hY o;refine tt ?_;apply bk <;> intro h1
  ·have h1p:=of_decide h1
   have w:=wsucc (k:=k) (by omega)
   have ha : f.shape.ArR k:=⟨by omega,by simpa using h1p⟩;refine tt ?_;refine newBuf_own o fun idB H o=>?_
   have o : Owns H0 H ((idB,.cells 1 (((befR f g k).take 0).map iL) 0)::(idP,.cells 13 (pfC f.shape g.shape X Y .nilsl) 0)::(p++(q++[(idR,.cells 13 z13 0)]))):=o;refine tt ?_
   refine awp_for [0,1,3,4,10,12,16,74,75] (G:=Nat) (fun j b=>[(17,some (.buf b j)),(18,some (.int .i64 (j : Int)))])
    (fun j b H=>Owns H0 H ((b,.cells 1 (((befR f g k).take j).map iL) 0)::(idP,.cells 13 (pfC f.shape g.shape X Y .nilsl) 0)::(p++(q++[(idR,.cells 13 z13 0)])))) g.shape.objs.toNat idB o rfl ?_
   clear o
   rintro j b H hj o
   replace o : Owns H0 H ((b,.cells 1 (((befR f g k).take j).map iL) 0)::(idP,.cells 13 (pfC f.shape g.shape X Y .nilsl) 0)::(p++(q++[(idR,.cells 13 z13 0)]))):=o;refine tt ?_;apply bk <;> intro h2
   ·have h2p:=of_decide h2
    have w2:=wsucc (k:=j) (by omega)
    have hjy : 0≤(j : Int)∧(j : Int)<g.shape.objs:=⟨by omega,h2p⟩
    have hl : ((befR f g k).take j).length=j:=by rw [List.length_take,befR_len]; omega
    refine tt ?_;refine (bef58_ok B hf hg ha hjy few).run.use ?_;refine tt ?_
    have es:=takeS (l:=befR f g k) (k:=j) (by rw [befR_len]; omega) (befR_ix hjy);refine app_own (befL f g k j) o rfl hl.symm (by rw [hl]; simp only [maxL]; omega) fun b H o=>?_;rw [← es] at o;refine tw w2 ?_;exact for_next b (by omega) o (by rw [List.length_append,hl]; rfl)
   ·have h2p:=of_ndecide h2
    obtain rfl : j=g.shape.objs.toNat:=by omega
    rw [List.take_of_length_le (by rw [befR_len]; omega)] at o;refine tt ?_;refine fz_own o (befR_len f g k).symm fun H o=>tt ?_;refine rd_cells o (by simp [pfC]) ?_;refine tt ?_;refine (LsO.mk (l:=(idP,.cells 13 (pfC f.shape g.shape X Y .nilsl) 0)::(q++[(idR,.cells 13 z13 0)])) (o.pm) hY).app (befR f g k) rfl (by rw [List.length_take]; simp only [maxL]; omega) fun ids H o=>?_
    have es:=takeS (l:=(mapsP f g).before) (k:=k) (by rw [bl]; omega) (bef_ix' ha);rw [← es] at o;rw [← es];refine tt ?_;refine st_cells o.swap (by simp [pfC]) (by (try simp only [go_sem]); (try simp)) (by first | (simp only [go_sem]; done) | ((try simp only [go_sem]); simp [AV.one,one_mL])) fun H o=>?_;unfold pfC at o;simp only [wr_cons,wr_nil,List.set_cons_zero,List.set_cons_succ] at o;refine tw w ?_;exact for_next (.buf ids ((mapsP f g).before.take (k+1)).length,[(ids,.cells 1 (((mapsP f g).before.take (k+1)).map iLL) 0)]) (by omega) ⟨.inr ⟨ids,rfl,rfl⟩,o⟩ rfl
  ·have h1p:=of_ndecide h1
   obtain rfl : k=f.shape.frm.length:=by omega
   rw [List.take_of_length_le (by rw [bl]; omega)] at hY;clear h1 h1p hk;refine tt ?_
   refine awp_for [0,4,10,12,105] (G:=AV × Ob) (fun k _=>[(106,some (.int .i64 (k : Int)))])
    (fun k g' H=>LsP iLL g'.2 g'.1 ((mapsP f g).behind.take k)∧Owns H0 H ((idP,.cells 13 (pfC f.shape g.shape X Y g'.1) 0)::(g'.2++(p++(q++[(idR,.cells 13 z13 0)]))))) g.shape.frm.length (.nilsl,[]) ⟨.inl ⟨rfl,rfl,rfl⟩,o⟩ rfl ?_
   clear o
   rintro k ⟨Z,r⟩ H hk ⟨hZ,o⟩;dsimp only at hZ o;refine tt ?_;apply bk <;> intro h1
   ·have h1p:=of_decide h1
    have w:=wsucc (k:=k) (by omega)
    have ha : g.shape.ArR k:=⟨by omega,by simpa using h1p⟩;refine tt ?_;refine newBuf_own o fun idB H o=>?_
    have o : Owns H0 H ((idB,.cells 1 (((behR f g k).take 0).map iL) 0)::(idP,.cells 13 (pfC f.shape g.shape X Y Z) 0)::(r++(p++(q++[(idR,.cells 13 z13 0)])))):=o;refine tt ?_
    refine awp_for [0,4,10,12,19,105,106] (G:=Nat) (fun j b=>[(20,some (.buf b j)),(21,some (.int .i64 (j : Int)))])
     (fun j b H=>Owns H0 H ((b,.cells 1 (((behR f g k).take j).map iL) 0)::(idP,.cells 13 (pfC f.shape g.shape X Y Z) 0)::(r++(p++(q++[(idR,.cells 13 z13 0)]))))) f.shape.objs.toNat idB o rfl ?_
    clear o
    rintro j b H hj o
    replace o : Owns H0 H ((b,.cells 1 (((behR f g k).take j).map iL) 0)::(idP,.cells 13 (pfC f.shape g.shape X Y Z) 0)::(r++(p++(q++[(idR,.cells 13 z13 0)])))):=o;refine tt ?_;apply bk <;> intro h2
    ·have h2p:=of_decide h2
     have w2:=wsucc (k:=j) (by omega)
     have hjy : 0≤(j : Int)∧(j : Int)<f.shape.objs:=⟨by omega,h2p⟩
     have hl : ((behR f g k).take j).length=j:=by rw [List.length_take,behR_len]; omega
     refine tt ?_;refine (beh62_ok B hf hg ha hjy few).run.use ?_;refine tt ?_
     have es:=takeS (l:=behR f g k) (k:=j) (by rw [behR_len]; omega) (behR_ix hjy);refine app_own (behL f g k j) o rfl hl.symm (by rw [hl]; simp only [maxL]; omega) fun b H o=>?_;rw [← es] at o;refine tw w2 ?_;exact for_next b (by omega) o (by rw [List.length_append,hl]; rfl)
    ·have h2p:=of_ndecide h2
     obtain rfl : j=f.shape.objs.toNat:=by omega
     rw [List.take_of_length_le (by rw [behR_len]; omega)] at o;refine tt ?_;refine fz_own o (behR_len f g k).symm fun H o=>tt ?_;refine rd_cells o (by simp [pfC]) ?_;refine tt ?_;refine (LsO.mk (l:=(idP,.cells 13 (pfC f.shape g.shape X Y Z) 0)::(p++(q++[(idR,.cells 13 z13 0)]))) (o.pm) hZ).app (behR f g k) rfl (by rw [List.length_take]; simp only [maxL]; omega) fun ids H o=>?_
     have es:=takeS (l:=(mapsP f g).behind) (k:=k) (by rw [hl]; omega) (beh_ix' ha);rw [← es] at o;rw [← es];refine tt ?_;refine st_cells o.swap (by simp [pfC]) (by (try simp only [go_sem]); (try simp)) (by first | (simp only [go_sem]; done) | ((try simp only [go_sem]); simp [AV.one,one_mL])) fun H o=>?_;unfold pfC at o;simp only [wr_cons,wr_nil,List.set_cons_zero,List.set_cons_succ] at o;refine tw w ?_;exact for_next (.buf ids ((mapsP f g).behind.take (k+1)).length,[(ids,.cells 1 (((mapsP f g).behind.take (k+1)).map iLL) 0)]) (by omega) ⟨.inr ⟨ids,rfl,rfl⟩,o⟩ rfl
   ·have h1p:=of_ndecide h1
    obtain rfl : k=g.shape.frm.length:=by omega
    rw [List.take_of_length_le (by rw [hl]; omega)] at hZ;clear h1 h1p hk;refine tt ?_;refine wk_ls (f:=iL) 10 (LsO.mk (l:=(idP,.cells 13 (pfC f.shape g.shape X Y Z) 0)::(r++(p++[(idR,.cells 13 z13 0)]))) (o.pm) hX) rfl fun H o=>?_
    replace o : Owns H0 H ((idP,.cells 13 (pfC f.shape g.shape (iLL (mapsP f g).sizes) Y Z) 0)::(r++(p++[(idR,.cells 13 z13 0)]))):=o;refine wk_ls (f:=iLL) 11 (LsO.mk (l:=(idP,.cells 13 (pfC f.shape g.shape (iLL (mapsP f g).sizes) Y Z) 0)::(r++[(idR,.cells 13 z13 0)])) (o.pm) hY) rfl fun H o=>?_
    replace o : Owns H0 H ((idP,.cells 13 (pfC f.shape g.shape (iLL (mapsP f g).sizes) (iLLL (mapsP f g).before) Z) 0)::(r++[(idR,.cells 13 z13 0)])):=o;refine wk_ls (f:=iLL) 12 (LsO.mk (l:=(idP,.cells 13 (pfC f.shape g.shape (iLL (mapsP f g).sizes) (iLLL (mapsP f g).before) Z) 0)::[(idR,.cells 13 z13 0)]) (o.pm) hZ) rfl fun H o=>wkW_done ?_
    replace o : Owns H0 H [(idP,.cells 13 (mapsP f g).cells 0),(idR,.cells 13 z13 0)]:=o;refine tt ?_;refine rd_celln o (by simp [PF.cells]) ?_;refine tt ?_
    have ep : pf13 (mapsP f g)=(mapsP f g).cells:=rfl;refine st_cells o.swap (by simp [z13]) (by (try simp only [go_sem]); (try simp)) (by first | (simp only [go_sem]; done) | ((try simp only [go_sem]); simp [AV.one,one_mL])) fun H o=>?_;unfold z13 at o;simp only [wr_cons,wr_nil,List.set_cons_zero,List.set_cons_succ] at o
    have o : Owns H0 H [(idR,.cells 13 (pf13 (mapsP f g)) 0),(idP,.cells 13 (mapsP f g).cells 0)]:=o;refine tt ?_;refine wkW_done ?_;refine tt ?_;rw [o.rc 13 0 (by simp [pf13,pfC])];refine tt ?_;exact ⟨H0,o.sub,rfl,by rw [profR_yes few]; rfl⟩
open Classical in
noncomputable def mpR (f g : SF) : AV:=.tup [.agg (if FewP f g then mapsP f g else pf0).cells,iI (if FewP f g then 0 else 3)]
theorem mpR_no {f g : SF} (h : ¬ FewP f g) : mpR f g=.tup [.agg pf0.cells,iI 3]:=by rw [mpR,if_neg h,if_neg h]
theorem mpR_yes {f g : SF} (h : FewP f g) : mpR f g=.tup [.agg (mapsP f g).cells,iI 0]:=by rw [mpR,if_pos h,if_pos h]
theorem mapsI_ok (B : Nat) {f g : SF} (hf : f.Is) (hg : g.Is) (H0 : Heap) :
  CallH Tryz.prog B 9 [.agg f.cells,.agg g.cells] H0 fun r H'=>H'=H0∧r=mpR f g:=by
 refine c9p (by simp) fun _=>?_;unfold s9p
 have o : Owns H0 H0 []:=.nil _;refine tt ?_;refine nb o fun idR H o=>tt ?_;refine (areSetFunctors_ok B [f,g]).run.use ?_;rw [dec_t (fun k hk=>by rcases List.mem_cons.mp hk with rfl | hk; exact hf; obtain rfl:=List.mem_singleton.mp hk; exact hg)];refine tt ?_;refine (profunctor_ok B hf.1 hg.1 H).mono ?_
 rintro r H' ⟨rfl,rfl⟩
 by_cases few : FewP f g
 ·rw [profR_yes few];refine tt ?_;refine nb o fun idQ H o=>tt ?_;refine sw o fun H o=>?_
  have o : Owns H0 H [(idQ,.cells 13 (pf13 (mapsP f g)) 0),(idR,.cells 13 z13 0)]:=o;refine tt ?_;refine rd_celln o (by simp [pf13,pfC]) ?_;unfold pf13 pfC;refine tt ?_;refine st_cells o.swap (by simp [z13]) (by (try simp only [go_sem]); (try simp)) (by first | (simp only [go_sem]; done) | ((try simp only [go_sem]); simp [AV.one,one_mL])) fun H o=>?_;unfold z13 at o;simp only [wr_cons,wr_nil,List.set_cons_zero,List.set_cons_succ] at o
  have o : Owns H0 H [(idR,.cells 13 (pf13 (mapsP f g)) 0),(idQ,.cells 13 (pf13 (mapsP f g)) 0)]:=o;refine tt ?_;refine wkW_done ?_;refine tt ?_;rw [o.rc 13 0 (by simp [pf13,pfC])];refine tt ?_;exact ⟨H0,o.sub,rfl,by rw [mpR_yes few]; rfl⟩
 ·rw [profR_no few];refine tt ?_;refine nb o fun idQ H o=>tt ?_;refine sw o fun H o=>?_
  have o : Owns H0 H [(idQ,.cells 13 pf0.cells 0),(idR,.cells 13 z13 0)]:=o;refine tt ?_;refine st_cells o.swap (by simp [z13]) (by (try simp only [go_sem]); (try simp)) (by first | (simp only [go_sem]; done) | ((try simp only [go_sem]); simp [AV.one,one_mL])) fun H o=>?_;unfold z13 at o;simp only [wr_cons,wr_nil,List.set_cons_zero,List.set_cons_succ] at o
  have o : Owns H0 H [(idR,.cells 13 z13 0),(idQ,.cells 13 pf0.cells 0)]:=o;refine tt ?_;refine wk_z13 o fun H o=>wkW_done ?_;refine tt ?_;rw [o.rc 13 0 (by simp [PF.cells])];refine tt ?_;exact ⟨H0,o.sub,rfl,by rw [mpR_no few]; rfl⟩
end Go.Proofs.Shf
