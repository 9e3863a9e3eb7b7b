/- A part of a proof. -/
import Derived.Test.YtnpimpkmgmnhhaaGreatF7
set_option linter.unusedVariables false
set_option linter.unusedSimpArgs false
set_option linter.unusedSectionVars false
set_option maxRecDepth 100000
open Nat (reduceEqDiff reduceAdd reduceMul reduceLeDiff reduceLT)
namespace Go.Proofs.Shf
open Go.AW Go.Proofs Go.Shf
theorem l06Make_ok (B : Nat) (c d : Cat) (ob ar : List Int) : Pur Tryz.prog B 81 [.agg c.cells,.agg d.cells,iL ob,iL ar] (.agg (FU.cells ⟨c,d,ob,ar⟩)):=by
 refine ⟨fun H0=>c81 (by simp) fun _=>?_⟩;unfold s81
 have o : Owns H0 H0 []:=.nil _;refine tt ?_;refine nb o fun id8 H o=>tt ?_;refine ⟨_,(l02Own_ok B c).run,_,(l02Own_ok B d).run,_,(l01Own_ok B ob).run,_,(l01Own_ok B ar).run,tt ?_⟩;refine sw o fun H o=>tt ?_
 have hr:=o.rc 12 0 (by simp);simp only [List.drop_zero] at hr;rw [hr];exact pure_ret rfl o.sub
end Go.Proofs.Shf
namespace Go.AW
theorem cut_at {P : Program} {B : Nat} {l : List Nat} {a b : SC} {Q : AQ} {σ : Env} {H : Heap} (M : Env→Heap→Prop) (h1 : awp P B a (ctQ l M Q) σ H) (h2 : ∀ σ' H',M σ' H'→awp P B b Q σ' H') : awp P B (.cut l a b) Q σ H:=⟨M,h1,h2⟩
end Go.AW
namespace Go.Proofs.Shf
open Go.AW Go.Proofs Go.Shf
end Go.Proofs.Shf
namespace Go.Shf
open Go.AW
end Go.Shf
namespace Go.Proofs.Shf
open Go.AW Go.Proofs Go.Shf
end Go.Proofs.Shf
namespace Go.AW
section
variable {α : Type} [Inhabited α] {f : α→AV} [One f] {Hb H : Heap} {r : List (Nat × MObj)}
theorem app_buf {id id2 fr fr2 n m : Nat} {out A : List α} {K : Kont} (o : Owns Hb H ((id,.cells 1 (out.map f) fr)::(id2,.cells 1 (A.map f) fr2)::r)) (hn : n=out.length) (hm : m=A.length) (h0 : 0<A.length) (hb : out.length+A.length≤maxL)
  (hk : ∀ id' H',Owns Hb H' ((id',.cells 1 ((out++A).map f) fr)::(id2,.cells 1 (A.map f) fr2)::r)→K (.buf id' (out++A).length) H') :
  appW 1 (some (.buf id n)) (some (.buf id2 m)) K H:=by
 subst hn hm
 have h1:=o.h0
 have h2:=o.tl.h0;simp only at h1 h2;simp only [appW,h1,srcOf,h2,srcB,app2];refine ⟨⟨trivial,by simp,hb,by simpa using hb,⟨trivial,by simp,h0⟩,fun c hc=>?_⟩,fun id' hn=>?_⟩
 ·obtain ⟨a,_,rfl⟩:=List.mem_map.mp hc;exact One.one a
 ·have:=o.mv hn (.cells 1 ((out++A).map f) fr)
  have e : out.map f++A.map f=(out++A).map f:=by simp
  rw [e]
  have:=hk id' _ this
  simpa using this
theorem cpy_own {id n : Nat} {A C : List α} {K : Kont} (o : Owns Hb H ((id,.cells 1 (A.map f) 0)::r)) (hn : n=A.length) (hl : C.length=A.length) (h0 : 0<A.length)
  (hk : ∀ H',Owns Hb H' ((id,.cells 1 (C.map f) 0)::r)→K (.int .i64 n) H') : cpyW (some (.buf id n)) (some (mL f C)) K H:=by
 subst hn;rw [mL,cpyW_buf];refine ⟨⟨h0,by simp [hl]⟩,st_cells o (by simp [hl]) (by simp [hl]) (fun c hc=>?_) fun H' o=>?_⟩
 ·obtain ⟨a,_,rfl⟩:=List.mem_map.mp hc;exact One.one a
 ·have e : wr (A.map f) 0 (C.map f)=C.map f:=by
   refine List.ext_getElem (by rw [wr_length]; simp [hl]) fun i h1 h2=>?_
   have h2' : i<A.length:=by simp at h2; omega
   have q:=wr_getD (C.map f) (A.map f) 0 i (by simp [hl]);rw [if_pos ⟨Nat.zero_le _,by simp; omega⟩] at q
   have h3 : i<C.length:=by omega
   simpa [List.getD_eq_getElem?_getD,h1,h2,h3] using q
  rw [e] at o;exact hk H' o
end
end Go.AW
namespace Go.Proofs.Shf
open Go.AW Go.Proofs Go.Shf
section
variable (B : Nat) {Hb H0 : Heap} {r : Ob} {id : Nat}
theorem slIndex_own (l : List Int) (n : Int) (hl : l.length≤1000) (o : Owns Hb H0 ((id,.cells 1 (l.map iI) 0)::r)) : CallH Tryz.prog B 267 [.buf id l.length,iI n] H0 (fun v H'=>v=iI (indexOf l n)∧H'=H0):=by
 refine c267 (by simp) fun _=>?_;unfold s267;refine tt ?_;refine awp_for [0,1,7] (fun k _=>[(8,some (.int .i64 (k : Int)))]) (fun k _ H=>H=H0∧∀ i,i<k→l.getD i default≠n) l.length () ⟨rfl,by simp⟩ rfl ?_
 rintro k _ H hk ⟨rfl,hall⟩;refine tt ?_;apply bk <;> intro h1
 ·have h1:=of_decide h1
  have w1:=wsucc (k:=k) (by omega);refine tt ?_;refine ⟨h1,rd_cells o (by simp; omega) ?_⟩;rw [map_getD _ h1];refine tt ?_;apply bk <;> intro h2
  ·refine tt ?_;exact pure_ret (by rw [indexOf_hit h1 hall (of_decide h2).symm]) (.refl _)
  ·refine tw w1 ?_;exact for_next () h1 ⟨rfl,lt_succ_all hall fun e=>of_ndecide h2 e.symm⟩ rfl
 ·refine tt ?_
  have h1:=of_ndecide h1;exact pure_ret (by rw [indexOf_miss fun i hi=>hall i (by omega)]) (.refl _)
theorem index_own (l : List Int) (n : Int) (hl : l.length≤1000) (o : Owns Hb H0 ((id,.cells 1 (l.map iI) 0)::r)) : CallH Tryz.prog B 258 [.buf id l.length,iI n] H0 (fun v H'=>v=iI (indexOf l n)∧H'=H0):=by
 refine c258 (by simp) fun _=>?_;unfold s258;refine tt ?_;refine (slIndex_own B l n hl o).mono ?_
 rintro v H ⟨rfl,rfl⟩
 have hb:=indexOf_bd l n
 have w : IntKind.i64.wrap (indexOf l n)=indexOf l n:=wrap_i64 (by omega) (by omega);refine tw w ?_;exact pure_ret rfl (.refl _)
theorem has_own (l : List Int) (m : Nat) (n : Int) (hm : m≤l.length) (hl : l.length≤1000) (o : Owns Hb H0 ((id,.cells 1 (l.map iI) 0)::r)) : CallH Tryz.prog B 136 [.buf id m,iI n] H0 (fun v H'=>v=.bool (dec (n∈l.take m))∧H'=H0):=by
 refine c136 (by simp) fun _=>?_;unfold s136;refine tt ?_;refine awp_for [1,7,8] (fun k _=>[(9,some (.int .i64 (k : Int)))]) (fun k _ H=>H=H0∧∀ i,i<k→l.getD i default≠n) m () ⟨rfl,by simp⟩ rfl ?_
 rintro k _ H hk ⟨rfl,hall⟩;refine tt ?_
 have hmem : n∈l.take m↔∃ i,i<m∧l.getD i default=n:=by
  rw [mem_getD,List.length_take,Nat.min_eq_left hm];exact exists_congr fun i=>and_congr_right fun hi=>by rw [List.getD_eq_getElem?_getD,List.getElem?_take,if_pos hi,← List.getD_eq_getElem?_getD]
 apply bk <;> intro h1
 ·have h1:=of_decide h1
  have w1:=wsucc (k:=k) (by omega);refine tt ?_;refine ⟨h1,rd_cells o (by simp; omega) ?_⟩;rw [map_getD _ (by omega)];refine tt ?_;apply bk <;> intro h2
  ·refine tt ?_;exact pure_ret (by rw [dec_t (hmem.mpr ⟨k,h1,of_decide h2⟩)]) (.refl _)
  ·refine tw w1 ?_;exact for_next () h1 ⟨rfl,lt_succ_all hall fun e=>of_ndecide h2 e⟩ rfl
 ·refine tt ?_
  have h1:=of_ndecide h1;exact pure_ret (by rw [dec_f]; rintro q; obtain ⟨i,hi,e⟩:=hmem.mp q; exact hall i (by omega) e) (.refl _)
theorem clone_bufO (l : List Int) (h0 : 0<l.length) (hl : l.length≤1000) (o : Owns Hb H0 ((id,.cells 1 (l.map iI) 0)::r)) : CallH Tryz.prog B 162 [.buf id l.length] H0 (fun v H'=>v=iL l∧Owns Hb H' ((id,.cells 1 (l.map iI) 0)::r)):=by
 refine c162 (by simp) fun _=>?_;unfold s162;refine tt ?_;refine new_list iI o fun id2 H o=>tt ?_;refine app_buf o rfl rfl h0 (by simp only [maxL,List.length_nil]; omega) fun id2 H o=>tt ?_;refine fz_own o rfl fun H o=>tt ?_;exact ⟨_,.refl _,rfl,o⟩
end
@[go_sem] def fuE (k : FU) : AV:=.agg k.cells
instance : AggN 12 fuE:=⟨by omega,fun _=>rfl,fun _=>rfl,fun a c hc=>by
 simp only [fuE,AV.cells,FU.cells,List.mem_cons,List.not_mem_nil,or_false] at hc
 rcases hc with rfl | rfl | rfl | rfl | rfl | rfl | rfl | rfl | rfl | rfl | rfl | rfl <;> rfl⟩
@[go_sem] theorem idxE_fu (l : List FU) (k : IntKind) (i : Int) {d : Option Nat} {F : Env→Heap→Prop} {σ : Env} {H : Heap} :
  pE d F σ H (idxE 12 (some (mL fuE l)) (some (.int k i)))=((0≤i∧i.toNat<l.length)∧putK d F σ (.ptr (ix l i).cells) H):=idxE_mLN (f:=fuE) l k i
end Go.Proofs.Shf
namespace Go.Shf
open Go.AW
def CloK (c d : Cat) (C : List Int) (a b : Nat) : Prop:=∀ u v t : Nat,(u<a∨(u=a∧v<b))→v<C.length→(c.comp.getD u default).getD v default=(t : Int)→0≤C.getD u default→0≤C.getD v default →
 C.getD t default=d.th (C.getD u default) (C.getD v default)
theorem CloK.zero {c d : Cat} {C : List Int} : CloK c d C 0 0:=fun u v t h=>by omega
theorem CloK.step {c d : Cat} {C : List Int} {a b : Nat} (h : CloK c d C a b) (k : ∀ t : Nat,(c.comp.getD a default).getD b default=(t : Int)→0≤C.getD a default→0≤C.getD b default→C.getD t default=d.th (C.getD a default) (C.getD b default)) :
  CloK c d C a (b+1):=fun u v t hu hv ht h1 h2=>by
 by_cases e : u=a∧v=b
 ·obtain ⟨rfl,rfl⟩:=e; exact k t ht h1 h2
 ·exact h u v t (by omega) hv ht h1 h2
theorem CloK.row {c d : Cat} {C : List Int} {a : Nat} (h : CloK c d C a C.length) : CloK c d C (a+1) 0:=fun u v t hu hv ht h1 h2=>h u v t (by omega) hv ht h1 h2
theorem CloK.all {c d : Cat} {C : List Int} (h : CloK c d C C.length 0) : ClosD c d C:=fun a b t ha hb ht h1 h2=>h a b t (.inl ha) hb ht h1 h2
theorem SprD.twice {c d : Cat} {O A C : List Int} (h : SprD c d O A C) (hn : ¬ DistA C) : extP c d true O A=[]:=extP_nil fun P q=>hn fun i j hi hj h0 e=>by
 have a:=h.at q.fn q.ext hi h0
 have b:=h.at q.fn q.ext hj (by omega)
 have hl:=h.par.len
 have hP:=q.fn.len;exact q.inj rfl i j (by omega) (by omega) (by omega) (by omega)
end Go.Shf
namespace Go.Proofs.Shf
open Go.AW Go.Proofs Go.Shf
abbrev seG (C D : Cat) (once : Bool) (ido ida : Nat) (F : AV) : MObj:=.cells 6 [.ptr C.cells,.ptr D.cells,.buf ido C.objs.toNat,.buf ida C.frm.length,.bool once,F] 0
section
variable (B : Nat) {C D : Cat} (hC : C.Is) (hD : D.Is) {once : Bool} {Hb : Heap} {r : Ob} {id ido ida : Nat} {F : AV} {O : List Int}
include hC hD
theorem distinct_ownG {A : List Int} (pa : ParD C D O A) {H0 : Heap} (o : Owns Hb H0 ((id,seG C D once ido ida F)::(ida,.cells 1 (A.map iI) 0)::r)) :
  CallH Tryz.prog B 257 [.ref id 0] H0 (fun v H'=>v=.bool (dec (DistA A))∧Owns Hb H' ((id,seG C D once ido ida F)::(ida,.cells 1 (A.map iI) 0)::r)):=by
 refine c257 (by simp) fun _=>?_;unfold s257
 have hm:=hC.1.m
 have hmD:=hD.1.m
 have hl:=pa.len;refine tt ?_;refine rd_cells o (by simp) ?_;refine tt ?_;refine (arrows_ok B D).go fun _=>tt ?_;refine ⟨⟨by omega,by simp only [maxL]; omega⟩,mks_list AV.bool false rfl o fun i3 H o=>?_⟩;refine tt ?_;refine rd_cells o.tl (by simp) ?_;refine tt ?_
 refine awp_for [3,15,16] (G:=Unit) (fun k _=>[(17,some (.int .i64 (k : Int)))])
  (fun k _ H=>DistK A k∧Owns Hb H ((i3,.cells 1 ((markK A D.frm.length k).map AV.bool) 0)::(id,seG C D once ido ida F)::(ida,.cells 1 (A.map iI) 0)::r)) C.frm.length () ⟨fun i j hi=>by omega,by rw [markK_zero]; exact o⟩ rfl ?_
 clear o
 rintro k _ H hk ⟨hd,o⟩
 have hml:=markK_len A D.frm.length k;refine tt ?_;apply bk <;> intro h1
 ·have h1p : k<C.frm.length:=of_decide h1
  have w1:=wsucc (k:=k) (by omega);refine tt ?_;refine ⟨h1p,rd_cells o.tl.tl (by simp; omega) ?_⟩;rw [map_getD _ (by omega)];refine tt ?_
  by_cases e : 0≤A.getD k default
  ·have ha:=(pa.known (by omega) e).r
   obtain ⟨v,hv⟩ : ∃ v : Nat,A.getD k default=v:=⟨_,(Int.toNat_of_nonneg e).symm⟩
   have hvn : v<D.frm.length:=by omega
   have hat:=markK_at (A:=A) (k:=k) hvn;rw [decide_eq_true e,hv];refine tt ?_;refine ⟨by omega,rd_cells o (by simp; omega) ?_⟩;rw [map_getD _ (by omega),hat]
   by_cases q : ∃ i,i<k∧A.getD i default=(v : Int)
   ·rw [dec_t q];refine tt ?_
    obtain ⟨i,hi,ei⟩:=q;exact ⟨_,.refl _,by rw [dec_f (not_dist (by omega) hi e (by rw [hv]; exact ei))],o.tl⟩
   ·rw [dec_f q];refine td ?_;refine ⟨by omega, ?_⟩;refine set_own (f:=AV.bool) true o rfl (by omega) fun H o=>?_;refine tw w1 ?_;exact for_next () h1p ⟨hd.pos (by rw [hv]; exact q),by rw [markK_pos hvn hv]; exact o⟩ rfl
  ·rw [decide_eq_false e];refine tt ?_;rw [decide_eq_false e];refine tw w1 ?_;exact for_next () h1p ⟨hd.neg (by omega),by rw [markK_neg (by omega)]; exact o⟩ rfl
 ·have h1p : k=C.frm.length:=by have:=of_ndecide h1; omega
  subst h1p;rw [← hl] at hd;refine tt ?_;exact ⟨_,.refl _,by rw [dec_t (dist_full hd)],o.tl⟩
def SpGK (C D : Cat) (once : Bool) (O A : List Int) (Hb : Heap) (id ido ida : Nat) (F : AV) (r : Ob) : Kont:=fun v H'=>∃ (A' : List Int) (b : Bool),v=.bool b∧SprD C D O A A'∧(b=true→ClosD C D A'∧(once=true→DistA A'))∧(b=false→extP C D once O A=[]) ∧
 Owns Hb H' ((id,seG C D once ido ida F)::(ida,.cells 1 (A'.map iI) 0)::r)
theorem spread_ownG {A : List Int} (pa : ParD C D O A) {H0 : Heap} (o : Owns Hb H0 ((id,seG C D once ido ida F)::(ida,.cells 1 (A.map iI) 0)::r)) :
  CallH Tryz.prog B 240 [.ref id 0] H0 (SpGK C D once O A Hb id ido ida F r):=by
 refine c240 (by simp) fun _=>?_;unfold s240
 have hm:=hC.1.m
 have hcl:=hC.1.cl;refine tt ?_
 refine awp_while [0] (G:=List Int × Bool) (fun g=>[(3,some (.bool g.2))])
  (fun m g H=>m=2*negs g.1+(if g.2 then 1 else 0)∧(SprD C D O A g.1∧(g.2=false→ClosD C D g.1))∧Owns Hb H ((id,seG C D once ido ida F)::(ida,.cells 1 (g.1.map iI) 0)::r)) (2*negs A+1) (A,true) ⟨rfl,⟨.refl pa,fun h=>by cases h⟩,o⟩ rfl ?_
 clear o
 rintro m ⟨A1,ag⟩ H ⟨rfl,⟨hsp1,hcl1⟩,o⟩;dsimp only at hsp1 hcl1 o
 cases ag
 ·refine tt ?_;refine rd_cells o (by simp) ?_
  cases once
  ·refine tt ?_;exact ⟨_,.refl _,A1,true,rfl,hsp1,fun _=>⟨hcl1 rfl,fun h=>by cases h⟩,(fun h=>by cases h),o⟩
  refine tt ?_;refine (distinct_ownG B hC hD hsp1.par o).mono ?_;clear o
  rintro v H ⟨rfl,o⟩;refine tt ?_;refine ⟨_,.refl _,A1,dec (DistA A1),rfl,hsp1,fun h=>⟨hcl1 rfl,fun _=>dec_iff.mp h⟩,fun h=>hsp1.twice fun q=>?_,o⟩;rw [dec_t q] at h; cases h
 refine tt ?_;refine rd_cells o (by simp) ?_;refine tt ?_
 refine awp_for [0,16,17] (G:=List Int × Bool) (fun k g=>[(3,some (.bool g.2)),(18,some (.int .i64 (k : Int)))])
  (fun k g H=>(SprD C D O A g.1∧negs g.1≤negs A1∧(g.2=true→negs g.1<negs A1)∧(g.2=false→CloK C D g.1 k 0))∧Owns Hb H ((id,seG C D once ido ida F)::(ida,.cells 1 (g.1.map iI) 0)::r)) C.comp.length (A1,false) ⟨⟨hsp1,Nat.le_refl _,(fun h=>by cases h),fun _=>.zero⟩,o⟩ rfl ?_
 clear o
 rintro a ⟨A2,ag⟩ H ha ⟨⟨hsp2,hn2,hag2,hck⟩,o⟩;dsimp only at hsp2 hn2 hag2 hck o
 have hl2:=hsp2.par.len;refine tt ?_;apply bk <;> intro h1
 rotate_left
 ·have h1p : a=A2.length:=by have:=of_ndecide h1; omega
  refine tt ?_;refine while_next (2*negs A2+(if ag then 1 else 0)) (A2,ag) ?_ ⟨rfl,⟨hsp2,fun h=>(h1p ▸ hck h).all⟩,o⟩ rfl
  cases ag
  ·simp; omega
  ·have:=hag2 rfl; simp; omega
 have h1p : a<C.comp.length:=of_decide h1
 have w1:=wsucc (k:=a) (by omega)
 have ra:=hC.1.row a (by omega);refine tt ?_;refine ⟨h1p, ?_⟩
 refine awp_for [0,4,16,17,18,23,24] (G:=List Int × Bool) (fun k g=>[(3,some (.bool g.2)),(25,some (.int .i64 (k : Int)))])
  (fun k g H=>(SprD C D O A g.1∧negs g.1≤negs A1∧(g.2=true→negs g.1<negs A1)∧(g.2=false→CloK C D g.1 a k))∧Owns Hb H ((id,seG C D once ido ida F)::(ida,.cells 1 (g.1.map iI) 0)::r)) C.frm.length (A2,ag) ⟨⟨hsp2,hn2,hag2,hck⟩,o⟩ rfl ?_
 clear o hsp2 hn2 hag2 hck hl2
 rintro b ⟨A2,ag⟩ H hb ⟨⟨hsp2,hn2,hag2,hck⟩,o⟩;dsimp only at hsp2 hn2 hag2 hck o
 have hl2:=hsp2.par.len;refine tw ra ?_;apply bk <;> intro h2
 rotate_left
 ·have h2p : b=A2.length:=by have:=of_ndecide h2; omega
  refine tw w1 ?_;exact for_next (A2,ag) h1p ⟨⟨hsp2,hn2,hag2,fun h=>by have:=hck h; rw [h2p] at this; exact this.row⟩,o⟩ rfl
 have h2p : b<C.frm.length:=of_decide h2
 have w2:=wsucc (k:=b) (by omega)
 have hth:=th_ran hC (a:=a) (b:=b) (by omega) h2p;refine tt ?_;refine ⟨by omega, ?_⟩
 by_cases e1 : (C.comp.getD a default).getD b default<0
 ·rw [decide_eq_true e1];refine tw w2 ?_;exact for_next (A2,ag) h2p ⟨⟨hsp2,hn2,hag2,fun h=>(hck h).step fun t ht=>by omega⟩,o⟩ rfl
 obtain ⟨h,hh⟩ : ∃ h : Nat,(C.comp.getD a default).getD b default=h:=⟨_,(Int.toNat_of_nonneg (by omega)).symm⟩;rw [decide_eq_false e1,hh]
 have hhn : h<A2.length:=by omega
 refine tt ?_;refine rd_cells o (by simp) ?_;refine tt ?_;refine ⟨by omega,rd_cells o.tl (by simp; omega) ?_⟩;rw [map_getD _ (by omega)];refine tt ?_
 by_cases e2 : A2.getD a default<0
 ·rw [decide_eq_true e2];refine tw w2 ?_;exact for_next (A2,ag) h2p ⟨⟨hsp2,hn2,hag2,fun h=>(hck h).step fun t ht q=>by omega⟩,o⟩ rfl
 rw [decide_eq_false e2];refine tt ?_;refine rd_cells o (by simp) ?_;refine tt ?_;refine ⟨by omega,rd_cells o.tl (by simp; omega) ?_⟩;rw [map_getD _ (by omega)];refine tt ?_
 by_cases e3 : A2.getD b default<0
 ·rw [decide_eq_true e3];refine tw w2 ?_;exact for_next (A2,ag) h2p ⟨⟨hsp2,hn2,hag2,fun h=>(hck h).step fun t ht q q2=>by omega⟩,o⟩ rfl
 rw [decide_eq_false e3]
 have hset:=fun hn=>hsp2.set hC hD (a:=a) (b:=b) (t:=h) (by omega) (by omega) (by omega) (by omega) hh hn
 have hclash:=hsp2.clash (once:=once) (a:=a) (b:=b) (t:=h) (by omega) (by omega) (by omega) (by omega) hh hhn
 obtain ⟨_,har⟩:=hsp2.par.th hC hD (a:=a) (b:=b) (by omega) (by omega) (by omega) (by omega) hh
 have ka:=(hsp2.par.known (i:=a) (by omega) (by omega)).r
 have kb:=(hsp2.par.known (i:=b) (by omega) (by omega)).r
 have hrow:=hD.1.row' ka.2
 have hdl:=hD.1.cl
 have hthen:=catThen_ok B D (A2.getD a default) (A2.getD b default) ⟨ka.1,by omega⟩ ⟨kb.1,by rw [hrow]; exact kb.2⟩;rw [show ix (ix D.comp (A2.getD a default)) (A2.getD b default)=D.th (A2.getD a default) (A2.getD b default) from rfl] at hthen
 have hstep : ∀ K,D.th (A2.getD a default) (A2.getD b default)=K→A2.getD h default=K→ag=false→CloK C D A2 a (b+1):=fun K eK e q=>(hck q).step fun t ht _ _=>by
  have : t=h:=by omega
  rw [this,e,eK]
 generalize hK : D.th (A2.getD a default) (A2.getD b default)=K at *;refine tt ?_;refine rd_cells o (by simp) ?_;refine tt ?_;refine rd_cells o (by simp) ?_;refine tt ?_;refine ⟨by omega,rd_cells o.tl (by simp; omega) ?_⟩;rw [map_getD _ (by omega)];refine tt ?_;refine rd_cells o (by simp) ?_;refine tt ?_;refine ⟨by omega,rd_cells o.tl (by simp; omega) ?_⟩;rw [map_getD _ (by omega)];refine ⟨_,hthen.run,tt ?_⟩;refine rd_cells o (by simp) ?_;refine tt ?_;refine ⟨by omega,rd_cells o.tl (by simp; omega) ?_⟩;rw [map_getD _ (by omega)];refine tt ?_
 by_cases e4 : A2.getD h default<0
 ·rw [decide_eq_true e4];refine tt ?_;refine rd_cells o (by simp) ?_;refine tt ?_;refine ⟨by omega, ?_⟩;refine set_own (f:=iI) K o.swap rfl (by omega) fun H o=>?_
  have hneg:=negs_set (A:=A2) (i:=h) (v:=K) hhn e4 har.r.1
  have hgs : (A2.set h K).getD h default=K:=by rw [getD_setI hhn,if_pos rfl]
  refine tt ?_;refine rd_cells o.tl (by simp) ?_;refine tt ?_;refine ⟨by omega,rd_cells o (by simp; omega) ?_⟩;rw [map_getD _ (by rw [List.length_set]; omega),hgs];try simp only [go_sem,↓reduceIte,reduceEqDiff,reduceAdd,reduceMul,reduceLeDiff,reduceLT,dT5,w2]
  exact for_next (A2.set h K,true) h2p ⟨⟨hset e4,by show negs (A2.set h K)≤_; omega,(fun _=>by show negs (A2.set h K)<_; omega),fun q=>by cases q⟩,o.swap⟩ rfl
 ·rw [decide_eq_false e4];refine tt ?_;refine rd_cells o (by simp) ?_;refine tt ?_;refine ⟨by omega,rd_cells o.tl (by simp; omega) ?_⟩;rw [map_getD _ (by omega)];refine tt ?_
  by_cases e5 : A2.getD h default=K
  ·rw [decide_eq_true e5];refine tw w2 ?_;exact for_next (A2,ag) h2p ⟨⟨hsp2,hn2,hag2,hstep K rfl e5⟩,o⟩ rfl
  ·rw [decide_eq_false e5];refine tt ?_;exact ⟨_,.refl _,A2,false,rfl,hsp2,(fun q=>by cases q),fun _=>hclash (by omega) e5,o⟩
theorem need_ownG (x y : Int) {H0 : Heap} (o : Owns Hb H0 ((id,seG C D once ido ida F)::r)) :
  CallH Tryz.prog B 259 [.ref id 0,iI x,iI y] H0 (fun v H'=>v=iI ((if once=true then (hom C x y).length else 1 : Nat) : Int)∧H'=H0):=by
 refine c259 (by simp) fun _=>?_;unfold s259;refine tt ?_;refine rd_cells o (by simp) ?_
 cases once
 ·refine tt ?_;exact pure_ret rfl (.refl _)
 refine tt ?_;refine rd_cells o (by simp) ?_;refine tt ?_;refine (hom_ok B C hC.1 x y).go fun _=>tt ?_;exact pure_ret rfl (.refl _)
end
end Go.Proofs.Shf
namespace Go.Shf
open Go.AW
theorem ExtA.negs_le : ∀ {A C : List Int},ExtA A C→negs C≤negs A
 | [],C,h=>by
  have : C=[]:=List.eq_nil_of_length_eq_zero h.len;rw [this]; exact Nat.le_refl _
 | a::A,[],h=>by have:=h.len; simp at this
 | a::A,b::C,h=>by
  have ih:=ExtA.negs_le (A:=A) (C:=C) ⟨by have:=h.len; simpa using this,fun i hi h0=>by have:=h.keep (i+1) (by simpa using hi) (by simpa using h0); simpa using this⟩
  have h0:=h.keep 0 (by simp);simp only [List.getD_cons_zero] at h0;simp only [negs,List.countP_cons] at ih ⊢
  by_cases e : a<0
  ·have e' : decide (a<0)=true:=decide_eq_true e;rw [e']; simp only [if_true]; split <;> omega
  ·have:=h0 (by omega);rw [this]; omega
end Go.Shf
namespace Go.Proofs.Shf
open Go.AW Go.Proofs Go.Shf
end Go.Proofs.Shf
namespace Go.Shf
open Go.AW
theorem first_neg {A : List Int} : ∀ n : Nat,(∃ i,i<n∧A.getD i default=-1)→∃ k,k<n∧A.getD k default=-1∧∀ i,i<k→A.getD i default≠-1
 | 0,⟨i,h,_⟩=>by omega
 | n+1,⟨i,h,e⟩=>by
  by_cases q : ∃ i,i<n∧A.getD i default=-1
  ·obtain ⟨k,h1,h2,h3⟩:=first_neg n q;exact ⟨k,by omega,h2,h3⟩
  ·refine ⟨n,by omega, ?_,fun j hj e=>q ⟨j,hj,e⟩⟩
   by_cases t : i=n
   ·rw [← t]; exact e
   ·exact (q ⟨i,by omega,e⟩).elim
end Go.Shf
namespace Go.Shf
open Go.AW
end Go.Shf
namespace Go.Proofs.Shf
open Go.AW Go.Proofs Go.Shf
end Go.Proofs.Shf
