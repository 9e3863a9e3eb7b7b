/- Contracts, part 4. -/
import Derived.Test.YthflgdphhajkbaaGreatF3
import Derived.Sort.Row
import Derived.Sort.Grow
import Derived.Deep.Draws
import Derived.Test.YthflgdphhajkbaaGreatProg
import Derived.Shelf.SlLaysF
import Derived.Shelf.SlSortCmp.Whole1
import Derived.WalkKit
import Derived.Laws.LoneSync
set_option linter.unusedVariables false
set_option linter.unusedSimpArgs false
set_option linter.unusedSectionVars false
open Nat (reduceEqDiff reduceAdd reduceMul reduceLeDiff reduceLT)
namespace Go.AW
open Go.Proofs Go.Proofs.Shf Go.Shf Go.RowKit
theorem WRel.other {g : Gh} {B : Nat} {H : Heap} {w w' : World} (h : WRel g B H w) (b : Nat) (hfz : ∀ o,g.fz b o=none) (hfm : g.fm b=none) (hk : ∀ k,k≠b→k<w.heap.size→w'.heap[k]? = w.heap[k]?) : WRel g w'.heap.size [] w':=by
 constructor
 ·intro b' o v e
  have hl:=h.fz_lt e
  have hne : b'≠b:=by rintro rfl; rw [hfz] at e; cases e
  rw [World.cell?_of_block (w:=w) (a:=⟨b',o,none⟩) (hk b' hne hl)]; exact h.fz _ _ _ e
 ·intro b' es e
  have hl:=h.fm_lt e
  have hne : b'≠b:=by rintro rfl; rw [hfm] at e; cases e
  obtain ⟨clk,hc⟩:=h.fm _ _ e;exact ⟨clk,by rw [hk b' hne hl]; exact hc⟩
 ·intro i o e; cases e
 ·intro i j x c c' n e1; cases e1
 ·intro i j x n e1; cases e1
 ·exact Nat.le_refl _
 ·exact h.fin
theorem row_heap {α : Type} [Inhabited α] (enc : α→Value) (w : World) (b off m : Nat) (dk : Array α) (os : Array Obj) : (Sort.grow (Sort.putRow enc (Sort.ahead w m) b off dk) os).heap=(w.heap.modify b (Sort.onCells (Sort.putCells enc off dk)))++os:=rfl
theorem row_other {α : Type} [Inhabited α] (enc : α→Value) (w : World) (b off m : Nat) (dk : Array α) (os : Array Obj) (k : Nat) (hk : k≠b) (hl : k<w.heap.size) : (Sort.grow (Sort.putRow enc (Sort.ahead w m) b off dk) os).heap[k]? = w.heap[k]? := by
 rw [row_heap,Array.getElem?_append_left (by simpa using hl),Array.getElem?_modify,if_neg (by omega)]
theorem below_grow {W w' : World} (h : Below W.heap.size W w') : ∃ q os',w'=Sort.grow (W.drewN q) os':=by
 refine ⟨w'.drawn - W.drawn,w'.heap.extract W.heap.size w'.heap.size, ?_⟩
 have hh : w'.heap=W.heap++w'.heap.extract W.heap.size w'.heap.size:=by
  apply Array.ext_getElem?
  intro k
  by_cases hk : k<W.heap.size
  ·rw [Array.getElem?_append_left hk]; exact h.block k hk
  ·rw [Array.getElem?_append_right (by omega),Array.getElem?_extract]
   have:=h.size
   by_cases h2 : k<w'.heap.size
   ·rw [if_pos (by omega)]; congr 1; omega
   ·rw [if_neg (by omega),Array.getElem?_eq_none (by omega)]
 have hd:=h.drawn
 have h1:=h.os
 have h2:=h.tape
 have h3:=h.output
 have e : ∀ (a b : World),a.heap=b.heap→a.tape=b.tape→a.drawn=b.drawn→a.os=b.os→a.output=b.output→a=b:=by
  intro a b h1 h2 h3 h4 h5
  cases a; cases b;simp only at h1 h2 h3 h4 h5;subst h1 h2 h3 h4 h5; rfl
 refine e _ _ hh h2 ?_ h1 h3
 show w'.drawn=W.drawn+(w'.drawn - W.drawn)
 omega
theorem cmp_lays {g : Gh} {B : Nat} {H : Heap} {w : World} (h : WRel g B H w) (S : Nat→List Int) (b size : Nat) (hfz : ∀ o,g.fz b o=none) (hfm : g.fm b=none) {α : Type} [Inhabited α] (nm : α→Nat) (enc : α→Value) (hv : ∀ x,VRel g (iL (S (nm x))) (enc x)) :
  ∀ (m : Nat) (os : Array Obj) (dk : Array α),dk.size=size→∀ x y : α,
  Calls Tryz.prog 344 (#[enc x,enc y]++#[]) (Sort.grow (Sort.putRow enc (Sort.ahead w m) b 0 dk) os) fun e w'=>e=.returned (.int .i64 (cmp (S (nm x)) (S (nm y))))∧∃ q os',w'=Sort.grow ((Sort.grow (Sort.putRow enc (Sort.ahead w m) b 0 dk) os).drewN q) os':=by
 intro m os dk hs x y
 have hW:=h.other b hfz hfm fun k hk hl=>row_other enc w b 0 m dk os k hk hl
 generalize (Sort.grow (Sort.putRow enc (Sort.ahead w m) b 0 dk) os)=W at hW ⊢
 have hc:=(cmp2_ok W.heap.size (S (nm x)) (S (nm y))).run [];refine (hc.2 g W _ hW ⟨rfl,fun i hi=>?_⟩).mono ?_
 ·obtain rfl | rfl : i=0∨i=1:=by simp only [List.length_cons,List.length_nil] at hi; omega
  ·exact hv x
  ·exact hv y
 rintro e w' ⟨v,rfl,g',r,H',_,⟨rfl,rfl⟩,hv2,_,hb⟩
 cases hv2;exact ⟨rfl,below_grow hb⟩
end Go.AW
namespace Go.AW
open Go.Proofs Go.Proofs.Shf Go.Shf Go.RowKit
theorem WRel.sorted {g : Gh} {B : Nat} {H : Heap} {w : World} (h : WRel g B H w) {id b cap : Nat} {cs cs' : List AV} {c : Array Value} {el : TypeId} {α : Type} [Inhabited α] (enc : α→Value) (dk : Array α)
  (hi : H.get id=some (.cells 1 cs 0)) (hp : g.io id=some (.blk b cap)) (hb : w.heap[b]? = some (.cells c el (0,0))) (hd : dk.size=cs.length) (hl : cs'.length=cs.length)
  (hv : ∀ k,k<cs'.length→VRel g (cs'.getD k nv) (enc dk[k]!)) (n : Nat) (os : Array Obj) :
  WRel g B (H.set id (.cells 1 cs' 0)) (Sort.grow (Sort.putRow enc (Sort.ahead w n) b 0 dk) os)∧Below B w (Sort.grow (Sort.putRow enc (Sort.ahead w n) b 0 dk) os):=by
 obtain ⟨p,hp',hr⟩:=h.ob id _ hi;rw [hp] at hp'; cases hp';simp only [ObjRel] at hr
 obtain ⟨h1,h2,h3,h4,c0,el0,h5,h6,h7,h8⟩:=hr;rw [hb] at h5; cases h5
 have hbl : b<w.heap.size:=(Array.getElem?_eq_some_iff.1 hb).1
 have hsz : (Sort.putRow enc w b 0 dk).heap.size=w.heap.size:=by simp [Sort.putRow,Sort.mapBlock]
 have hc' : (Sort.putRow enc w b 0 dk).heap[b]? = some (.cells (Sort.putCells enc 0 dk c) el (0,0)):=by
  show (w.heap.modify b _)[b]? = _
  rw [Array.getElem?_modify,if_pos rfl,hb]; rfl
 have hcs : (Sort.putCells enc 0 dk c).size=c.size:=by simp [Sort.putCells]
 have hcell : ∀ k,k<dk.size→(Sort.putCells enc 0 dk c).getD k undef=enc dk[k]! := by
  intro k hk
  have hk2 : k<c.size:=by omega
  have hk3 : k<(Sort.putCells enc 0 dk c).size:=by omega
  simp only [Array.getD,hk3,dif_pos]
  simp [Sort.putCells,hk]
 have hW:=h.write id b cap 1 cs cs' 0 c (Sort.putCells enc 0 dk c) el hi hp hb hc' hsz (fun k hk=>by
  show (w.heap.modify b _)[k]? = _
  rw [Array.getElem?_modify,if_neg (by omega)]) hcs (by omega) (by omega) (by omega) (by omega) fun k hk=>by
   rw [hcell k (by omega)]; exact hv k hk
 have hsame : ∀ k,k<w.heap.size→(Sort.grow (Sort.putRow enc (Sort.ahead w n) b 0 dk) os).heap[k]? = (Sort.putRow enc w b 0 dk).heap[k]? := by
  intro k hk;rw [row_heap,Array.getElem?_append_left (by simpa using hk)]; rfl
 refine ⟨hW.grow ?_ fun k hk=>hsame k (by omega),rfl,rfl,rfl, ?_,fun k hk=>?_, ?_⟩
 ·rw [row_heap,hsz]; simp
 ·rw [row_heap]; simp
 ·rw [hsame k (by omega)]
  show (w.heap.modify b _)[k]? = _
  rw [Array.getElem?_modify,if_neg (by omega)]
 ·show w.drawn≤w.drawn+n
  omega
end Go.AW
namespace Go.AW
open Go.Proofs Go.Proofs.Shf Go.Shf Go.RowKit
def LibSort (n : Nat) [Inhabited (Fin n)] (cf : Fin n→Fin n→Int) : Prop :=
 ∀ (b cap : Nat) (w : World) (enc : Fin n→Value),(∀ x,(enc x).oneCell'=true) →
  (∀ (m : Nat) (os : Array Obj) (dk : Array (Fin n)),dk.size=(Array.ofFn fun i : Fin n=>i).size→∀ x y : Fin n,
   Calls Tryz.prog 344 (#[enc x,enc y]++#[]) (Sort.grow (Sort.putRow enc (Sort.ahead w m) b 0 dk) os) fun e w'=>e=.returned (.int .i64 (cf x y))∧∃ q os',w'=Sort.grow ((Sort.grow (Sort.putRow enc (Sort.ahead w m) b 0 dk) os).drewN q) os') →
  Sort.Holds enc w b 0 (Array.ofFn fun i : Fin n=>i)→b<w.heap.size →
  Calls Tryz.prog 343 #[.slice (some ⟨b,0,none⟩) (Array.ofFn fun i : Fin n=>i).size cap,.func (.func 344) #[] #[]] w fun e w' =>
   e=.returned (.tuple #[])∧∃ d' m os,Sort.PermIn 0 (Array.ofFn fun i : Fin n=>i).size (Array.ofFn fun i : Fin n=>i) d'∧Sort.SortedIn (fun x y=>decide (cf x y<0)) 0 (Array.ofFn fun i : Fin n=>i).size d'∧w'=Sort.grow (Sort.putRow enc (Sort.ahead w m) b 0 d') os
theorem sl_one {g : Gh} {l : List AV} {u : Value} (h : VRel g (.sl l) u) : u.oneCell'=true:=by
 cases h <;> rfl
theorem sort_own (B : Nat) (S : List (List Int)) [Inhabited (Fin S.length)] (nd : S.Nodup) (hlib : LibSort S.length fun x y=>cmp (S.getD x default) (S.getD y default)) (hent : Enters Tryz.prog 343) {H0 H : Heap} {l : List (Nat × MObj)} {id : Nat} {K : Kont}
  (o : Owns H0 H ((id,.cells 1 (S.map iL) 0)::l)) (hk : ∀ (H' : Heap) (S' : List (List Int)),S'.Perm S→(S'.Pairwise fun s t=>cmp s t<0)→Owns H0 H' ((id,.cells 1 (S'.map iL) 0)::l)→K (.tup []) H') :
  CallH Tryz.prog B 343 [.buf id S.length,.fn (.func 344) []] H K:=by
 refine ⟨hent,fun g w vs hW hv=>?_⟩
 have hS0 : 0<S.length:=(default : Fin S.length).pos
 have h0:=o.h0;simp only at h0
 obtain ⟨p,hp,hr⟩:=hW.ob id _ h0
 cases p with
 | nil=>simp only [ObjRel] at hr; have:=hr.1; simp at this; rw [this] at hS0; simp at hS0
 | mp b=>simp [ObjRel] at hr
 | blk b cap =>
  simp only [ObjRel] at hr
  obtain ⟨r1,r2,r3,r4,c,el,r5,r6,r7,r8⟩:=hr;rw [List.length_map] at r7 r8
  obtain ⟨hv0,hv1⟩:=hv
  obtain ⟨v0,v1,rfl⟩ : ∃ v0 v1,vs=#[v0,v1]:=by
   rcases vs with ⟨l⟩
   simp only [List.length_cons,List.length_nil] at hv0
   match l,hv0 with
   | [a,b],_=>exact ⟨a,b,rfl⟩
  have e0 : VRel g (.buf id S.length) v0:=hv1 0 (by simp)
  have e1 : VRel g (.fn (.func 344) []) v1:=hv1 1 (by simp)
  have hv0' : ∃ cap',v0=.slice (some ⟨b,0,none⟩) S.length cap':=by
   generalize hn : S.length=n at *
   cases e0 with
   | bufnil _ hq=>rw [hq] at hp; cases hp
   | buf _ _ b' cap' hq=>rw [hq] at hp; cases hp; exact ⟨_,rfl⟩
  obtain ⟨cap',rfl⟩:=hv0'
  have hv1' : v1=.func (.func 344) #[] #[]:=by
   cases e1 with
   | fn _ _ vs hs _ =>
    have : vs=#[]:=Array.eq_empty_of_size_eq_zero (by simpa using hs);rw [this]
  subst hv1'
  have hsz : (Array.ofFn fun i : Fin S.length=>i).size=S.length:=by simp
  have hbl : b<w.heap.size:=(Array.getElem?_eq_some_iff.1 r5).1
  have hfm : g.fm b=none:=by
   cases e : g.fm b with
   | none=>rfl
   | some es=>obtain ⟨clk,h⟩:=hW.fm _ _ e; rw [r5] at h; cases h
  have henc : ∀ x : Fin S.length,VRel g (iL (S.getD x default)) (c.getD x undef):=fun x=>by
   have:=r8 x x.2; rw [getD_map S x.2] at this; exact this
  have hl:=hlib b cap' w (fun x=>c.getD x undef) (fun x=>by
   have:=henc x;exact sl_one this) (cmp_lays hW (fun i=>S.getD i default) b _ (fun o=>r4 o (Nat.zero_le _)) hfm (fun x : Fin S.length=>x.val) _ henc) (fun j hj=>?_) hbl
  ·rw [hsz] at hl;refine hl.mono ?_
   rintro e w' ⟨rfl,d',m,os,hp2,hs2,rfl⟩
   have hd' : d'.size=S.length:=by rw [hp2.1,hsz]
   have hperm : d'.toList.Perm (Array.ofFn fun i : Fin S.length=>i).toList:=by
    have:=hp2.2.2;rw [Array.extract_eq_self_of_le (by omega),Array.extract_eq_self_of_le (by omega)] at this;exact this
   have hmap : (Array.ofFn fun i : Fin S.length=>i).toList.map (fun i : Fin S.length=>S.getD i default)=S:=by
    apply List.ext_getElem (by simp)
    intro i h1 h2
    simp [List.getD_eq_getElem?_getD,h2]
   have hSp : (d'.toList.map fun i : Fin S.length=>S.getD i default).Perm S:=by
    have:=hperm.map fun i : Fin S.length=>S.getD i default
    rwa [hmap] at this
   have hget : ∀ k (hk : k<d'.size),d'[k]! = d'[k]:=fun k hk=>getElem!_pos d' k hk
   have hpw : (d'.toList.map fun i : Fin S.length=>S.getD i default).Pairwise fun s t=>cmp s t<0:=by
    rw [List.pairwise_iff_getElem]
    intro i j hi hj hij;rw [List.length_map,Array.length_toList] at hi hj
    have h1:=hs2 i j (Nat.zero_le _) hij (by omega);rw [hget i hi,hget j hj] at h1
    have h2 : ¬ cmp (S.getD d'[j] default) (S.getD d'[i] default)<0:=of_decide_eq_false h1
    have hne:=(hSp.nodup_iff.mpr nd);rw [List.nodup_iff_pairwise_ne,List.pairwise_iff_getElem] at hne
    have h3:=hne i j (by simpa using hi) (by simpa using hj) hij;simp only [List.getElem_map,Array.getElem_toList] at h3 ⊢
    have h4:=cmp_neg (S.getD d'[i] default) (S.getD d'[j] default)
    have h5 : cmp (S.getD d'[i] default) (S.getD d'[j] default)≠0:=fun e=>h3 (cmp_zero.mp e)
    show cmp (S.getD d'[i] default) (S.getD d'[j] default)<0
    generalize cmp (S.getD d'[i] default) (S.getD d'[j] default)=A at *
    generalize cmp (S.getD d'[j] default) (S.getD d'[i] default)=C at *;omega
   obtain ⟨q1,q2⟩:=hW.sorted (fun x : Fin S.length=>c.getD x undef) d' h0 hp r5 (by rw [hd']; simp) (cs':=(d'.toList.map fun i : Fin S.length=>S.getD i default).map iL) (by simp [hd']) (fun k hk=>by
    rw [List.length_map,List.length_map,Array.length_toList] at hk;rw [hget k hk]
    have : ((d'.toList.map fun i : Fin S.length=>S.getD i default).map iL).getD k nv=iL (S.getD d'[k] default):=by simp [List.getD_eq_getElem?_getD,hk]
    rw [this]; exact henc _) m os
   exact ⟨_,rfl,g,.tup [],_,.refl g,hk _ _ hSp hpw (o.put _),.tup [] #[] rfl (by simp),q1,q2⟩
  ·rw [hsz] at hj
   have hjc : j<c.size:=by omega
   refine ⟨?_, ?_⟩
   ·simp [World.cell?,r5,hjc,hj]
   ·simp [World.frozen?,r5]
end Go.AW
namespace Go.Proofs.Shf
open Go.AW Go.Proofs Go.Shf
theorem closeS_nil {c : Cat} {x : Int} : c.Sieve x []:=⟨by simp [Rising],by simp,by simp,by simp⟩
structure WorkL (c : Cat) (x : Int) (S : List (List Int)) (k j : Nat) : Prop where
 z : []∈S
 nd : S.Nodup
 sv : ∀ t,t∈S→c.Sieve x t
 dn : ∀ i,i<k→∀ a,a∈outs c x→closeS c (S.getD i default++[a])∈S
 pt : ∀ i,i<j→i<(outs c x).length→closeS c (S.getD k default++[(outs c x).getD i default])∈S
def LibSorts : Prop:=Go.AW.Enters Tryz.prog 343∧∀ (S : List (List Int)) [Inhabited (Fin S.length)],S.length≤16→LibSort S.length fun x y=>cmp (S.getD x default) (S.getD y default)
open Classical in
theorem sieves_ok (B : Nat) (hlib : LibSorts) (c : Cat) (hc : c.Is) (x : Nat) (hx : x<c.objs.toNat) : Pur Tryz.prog B 334 [.ptr c.cells,.int .i64 x] (.tup [iLL (if Few c x then allS c x else []),.bool (dec (Few c x))]):=by
 refine ⟨fun H0=>c334p.go fun hfi=>?_⟩
 have hm:=hc.1.m
 have hob:=hc.1.o
 have htl:=hc.1.tol
 have hLl : (outs c x).length≤40:=by
  rw [outs,List.length_map];refine Nat.le_trans (List.length_filter_le _ _) ?_;rw [List.length_range]; omega
 have hLm : ∀ a,a∈outs c x→(0≤a∧a.toNat<c.frm.length)∧ix c.frm a=x:=fun a ha=>by have:=mem_outs.mp ha; exact ⟨⟨this.1,this.2.1⟩,this.2.2⟩
 refine tt ?_;refine newBuf_own (.nil _) fun id6 H o=>tt ?_
 refine awp_while [0,1] (fun (g : Nat × List (List Int) × Nat)=>[(6,some (.buf g.1 g.2.1.length)),(7,some (.int .i64 (g.2.2 : Int)))])
  (fun m g H=>m=16 - g.2.2∧g.2.2≤g.2.1.length∧g.2.1.length≤16∧WorkL c x g.2.1 g.2.2 0∧Owns H0 H [(g.1,.cells 1 (g.2.1.map iL) 0)]) 16 (id6,[[]],0)
  ⟨rfl,by simp,by simp,⟨by simp,by simp,fun t ht=>by
   rw [List.mem_singleton] at ht; subst ht;exact closeS_nil,by simp,by simp⟩,o⟩ rfl ?_
 clear o
 rintro m ⟨id6,S,k⟩ H ⟨rfl,hkl,hS16,hW,o⟩;dsimp only at hkl hS16 hW o;refine tt ?_;apply bk <;> intro h1
 ·have h1p:=of_decide h1
  have w:=wsucc (k:=k) (by omega);refine tt ?_;refine (outOf_ok B c x).go fun _=>?_
  generalize hL : outs c x=L at *;refine tt ?_
  refine awp_for [0,1,7,21,22] (G:=Nat × List (List Int)) (fun j g=>[(6,some (.buf g.1 g.2.length)),(23,some (.int .i64 (j : Int)))])
   (fun j g H=>k<g.2.length∧g.2.length≤16∧WorkL c x g.2 k j∧Owns H0 H [(g.1,.cells 1 (g.2.map iL) 0)]) L.length (id6,S) ⟨h1p,hS16,hW,o⟩ rfl ?_
  clear o hkl hS16 hW h1 h1p
  rintro j ⟨id6,S⟩ H hj ⟨hkl,hS16,hW,o⟩;dsimp only at hkl hS16 hW o;refine tt ?_;apply bk <;> intro h2
  ·have h2p:=of_decide h2
   have w2:=wsucc (k:=j) (by omega);refine tt ?_;refine ⟨h2p,hkl,rd_inner (f:=iL) o.h0 hkl ?_⟩
   generalize ha : L.getD j default=a at *
   generalize ht : S.getD k default=t at *
   have htm : t∈S:=by rw [← ht]; exact mem_getD.mpr ⟨k,hkl,rfl⟩
   have ham : a∈L:=by rw [← ha]; exact mem_getD.mpr ⟨j,h2p,rfl⟩
   have hts:=hW.sv t htm
   have htl2:=hts.len;refine tt ?_;refine (clone_own B t H0 H _ o).own fun idc A H o hA=>?_;rw [hA] at o ⊢;refine tt ?_;refine app_own (f:=iI) a o rfl rfl (by simp only [maxL]; omega) fun idc H o=>tt ?_;refine call_fz 1 rfl o rfl fun H o=>tt ?_
   have hta : ∀ b,b∈t++[a]→(0≤b∧b.toNat<c.frm.length)∧ix c.frm b=x:=fun b hb=>by
    rw [List.mem_append,List.mem_singleton] at hb
    rcases hb with hb | rfl
    ·exact hts.arr hb
    ·exact hLm _ ham
   refine (sieveOf_ok B c hc.1 (t++[a]) (fun b hb=>(hta b hb).1)).go fun _=>?_
   have hss:=closeS_sieve hc hta
   generalize hs : closeS c (t++[a])=s at *;refine tt ?_;refine newRef_own o fun id10 H o=>tt ?_;refine sw o fun H o=>tt ?_;refine wk_ref 10 o rfl fun H o=>wkW_done ?_;refine tt ?_;refine CallH.lentPure (es:=[iLL S,.fn (.func 342) [.ptr [iL s]]]) (.bool _) rfl (fun i hi=>?_) (containsFunc_ok B S s).run ?_
   ·obtain rfl | rfl : i=0∨i=1:=by simp only [List.length_cons,List.length_nil] at hi; omega
    ·exact lent_arg o rfl
    ·exact val_arg _
   by_cases hin : s∈S
   ·rw [dec_t hin];refine tw w2 ?_;refine for_next (id6,S) h2p ⟨hkl,hS16,⟨hW.z,hW.nd,hW.sv,hW.dn,fun i hi hiL=>?_⟩,o⟩ rfl
    by_cases e : i=j
    ·subst e; rw [hL,ha,ht,hs]; exact hin
    ·exact hW.pt i (by omega) hiL
   ·rw [dec_f hin];refine tt ?_;apply bk <;> intro h3
    ·have h3p : S.length=16:=by have:=of_decide h3; omega
     refine tt ?_;refine pure_ret ?_ o.sub
     have hnf : ¬ Few c x:=?_
     ·rw [dec_f hnf,if_neg hnf]; rfl
     ·refine Few.no (M:=S++[s]) ?_ ?_ (by simp; omega)
      ·rw [List.nodup_append];refine ⟨hW.nd,by simp,fun a ha b hb=>?_⟩;rw [List.mem_singleton] at hb
       rintro rfl; rw [hb] at ha; exact hin ha
      ·intro u hu;rw [List.mem_append,List.mem_singleton] at hu
       rcases hu with hu | rfl
       ·exact hW.sv u hu
       ·exact hss
    ·refine tt ?_
     have h3p : ¬ S.length=16:=fun e=>by rw [e] at h3; simp at h3
     have hgd : ∀ i,i<S.length→(S++[s]).getD i default=S.getD i default:=fun i hi=>by
      simp [List.getD_eq_getElem?_getD,List.getElem?_append_left hi]
     refine app_own (f:=iL) s o rfl rfl (by simp only [maxL]; omega) fun id6 H o=>?_;refine tw w2 ?_;refine for_next (id6,S++[s]) h2p ⟨by simp; omega,by simp; omega,⟨by simp [hW.z], ?_,fun u hu=>?_,fun i hi b hb=>?_,fun i hi hiL=>?_⟩,o⟩ rfl
     ·rw [List.nodup_append];refine ⟨hW.nd,by simp,fun a ha b hb=>?_⟩;rw [List.mem_singleton] at hb
      rintro rfl; rw [hb] at ha; exact hin ha
     ·rw [List.mem_append,List.mem_singleton] at hu
      rcases hu with hu | rfl
      ·exact hW.sv u hu
      ·exact hss
     ·rw [hgd i (by omega)];exact List.mem_append_left _ (hW.dn i hi b hb)
     ·rw [hgd k hkl]
      by_cases e : i=j
      ·subst e; rw [hL,ha,ht,hs]; simp
      ·exact List.mem_append_left _ (hW.pt i (by omega) hiL)
  ·have h2p:=of_ndecide h2;refine tt ?_;refine ⟨16 - (k+1),_,H,by omega,⟨(id6,S,k+1),⟨rfl,by simp only; omega,hS16,⟨hW.z,hW.nd,hW.sv,fun i hi b hb=>?_,by simp⟩,o⟩,rfl⟩,by rw [w]; exact .refl _ _⟩;dsimp only at hi
   by_cases e : i=k
   ·subst e;rw [hL] at hb
    obtain ⟨n,hn,rfl⟩:=mem_getD.mp hb
    have hnj : n<j:=Nat.lt_of_lt_of_le hn (Nat.le_of_not_lt h2p)
    have:=hW.pt n hnj (by rw [hL]; exact hn);rw [hL] at this; exact this
   ·exact hW.dn i (by omega) b hb
 ·have h1p:=of_ndecide h1;refine tt ?_
  have hall:=all_sieves hc hW.z hW.sv fun t ht a ha=>by
   obtain ⟨i,hi,rfl⟩:=mem_getD.mp ht;exact hW.dn i (by omega) a ha
  have hpos : 0<S.length:=List.length_pos_of_mem hW.z
  letI : Inhabited (Fin S.length):=⟨⟨0,hpos⟩⟩
  refine sort_own B S hW.nd (hlib.2 S hS16) hlib.1 o fun H S' hp hs o=>?_
  have hia : IsAll c x S':=⟨hs,fun s=>by rw [hp.mem_iff]; exact ⟨hW.sv s,hall s⟩⟩
  have hfew : Few c x:=⟨S',hia,by rw [hp.length_eq]; exact hS16⟩
  have hS' : S'=allS c x:=hia.uniq (allS_is hfew).1;refine tt ?_;refine fz_own o hp.length_eq.symm fun H o=>tt ?_;exact pure_ret (by rw [dec_t hfew,if_pos hfew,hS']) o.sub
theorem sieves_all (B : Nat) (hlib : LibSorts) (c : Cat) (hc : c.Is) : SievesOk B c:=fun x hx=>by
 classical
 exact ⟨_,sieves_ok B hlib c hc x hx,fun h=>by rw [if_pos h]; exact ⟨rfl,(allS_is h).2⟩⟩
end Go.Proofs.Shf
namespace Go.Proofs
open Go.Shelf
def Tryz.sortL_ren : Go.Shelf.Ren:=⟨fun | 6=>343 | 15=>347 | 14=>346 | 28=>356 | 29=>357 | 20=>348 | 21=>349 | 22=>350 | 23=>351 | 24=>352 | 25=>353 | 26=>354 | 27=>355 | 46=>358 | 47=>359 | 48=>360 | 49=>361 | 50=>362 | 57=>363 | n=>n,fun | 22=>136 | 24=>199 | 25=>381 | 3=>3 | 39=>126 | 0=>0 | 53=>398 | 55=>65 | 4=>4 | 46=>391 | 45=>390 | 50=>395 | 5=>5 | 9=>9 | 66=>400 | 70=>404 | 76=>406 | 77=>407 | n=>n,fun | n=>n⟩
theorem Tryz.sortL : Go.Proofs.SlLaysF.n6 Tryz.prog Tryz.sortL_ren:={
 mixed:=by kernel_rfl
 f6:=⟨Tryz.f343.name,by decide,Tryz.func343.trans (congrArg some (by kernel_rfl))⟩
 f14:=⟨Tryz.f346.name,by decide,Tryz.func346.trans (congrArg some (by kernel_rfl))⟩
 f15:=Tryz.func347.trans (congrArg some (by kernel_rfl))
 f20:=⟨Tryz.f348.name,by decide,Tryz.func348.trans (congrArg some (by kernel_rfl))⟩
 f21:=⟨Tryz.f349.name,by decide,Tryz.func349.trans (congrArg some (by kernel_rfl))⟩
 f22:=⟨Tryz.f350.name,by decide,Tryz.func350.trans (congrArg some (by kernel_rfl))⟩
 f23:=⟨Tryz.f351.name,by decide,Tryz.func351.trans (congrArg some (by kernel_rfl))⟩
 f24:=⟨Tryz.f352.name,by decide,Tryz.func352.trans (congrArg some (by kernel_rfl))⟩
 f25:=⟨Tryz.f353.name,by decide,Tryz.func353.trans (congrArg some (by kernel_rfl))⟩
 f26:=⟨Tryz.f354.name,by decide,Tryz.func354.trans (congrArg some (by kernel_rfl))⟩
 f27:=⟨Tryz.f355.name,by decide,Tryz.func355.trans (congrArg some (by kernel_rfl))⟩
 f28:=Tryz.func356.trans (congrArg some (by kernel_rfl))
 f29:=Tryz.func357.trans (congrArg some (by kernel_rfl))
 f46:=⟨Tryz.f358.name,by decide,Tryz.func358.trans (congrArg some (by kernel_rfl))⟩
 f47:=Tryz.func359.trans (congrArg some (by kernel_rfl))
 f48:=Tryz.func360.trans (congrArg some (by kernel_rfl))
 f49:=⟨Tryz.f361.name,by decide,Tryz.func361.trans (congrArg some (by kernel_rfl))⟩
 f50:=⟨Tryz.f362.name,by decide,Tryz.func362.trans (congrArg some (by kernel_rfl))⟩
 f57:=⟨Tryz.f363.name,by decide,Tryz.func363.trans (congrArg some (by kernel_rfl))⟩
 t0:=Tryz.underlying0
 a0:=Tryz.isAgg0
 z0:=Tryz.sizeOf0
 v0:=Tryz.zeroValue0
 t3:=Tryz.underlying3
 a3:=Tryz.isAgg3
 z3:=Tryz.sizeOf3
 v3:=Tryz.zeroValue3
 t4:=Tryz.underlying4
 a4:=Tryz.isAgg4
 z4:=Tryz.sizeOf4
 v4:=Tryz.zeroValue4
 t5:=Tryz.underlying5
 a5:=Tryz.isAgg5
 z5:=Tryz.sizeOf5
 v5:=Tryz.zeroValue5
 t9:=Tryz.underlying9
 a9:=Tryz.isAgg9
 z9:=Tryz.sizeOf9
 v9:=Tryz.zeroValue9
 t22:=Tryz.underlying136
 a22:=Tryz.isAgg136
 z22:=Tryz.sizeOf136
 v22:=Tryz.zeroValue136
 a24:=Tryz.isAgg199
 z24:=Tryz.sizeOf199
 t25:=Tryz.underlying381
 a25:=Tryz.isAgg381
 z25:=Tryz.sizeOf381
 v25:=Tryz.zeroValue381
 t39:=Tryz.underlying126
 a39:=Tryz.isAgg126
 z39:=Tryz.sizeOf126
 v39:=Tryz.zeroValue126
 t45:=Tryz.underlying390
 a45:=Tryz.isAgg390
 z45:=Tryz.sizeOf390
 v45:=Tryz.zeroValue390
 t46:=Tryz.underlying391
 a46:=Tryz.isAgg391
 z46:=Tryz.sizeOf391
 v46:=Tryz.zeroValue391
 t50:=Tryz.underlying395
 a50:=Tryz.isAgg395
 z50:=Tryz.sizeOf395
 v50:=Tryz.zeroValue395
 t53:=Tryz.underlying398
 a53:=Tryz.isAgg398
 z53:=Tryz.sizeOf398
 v53:=Tryz.zeroValue398
 t55:=Tryz.underlying65
 a55:=Tryz.isAgg65
 z55:=Tryz.sizeOf65
 v55:=Tryz.zeroValue65
 t66:=Tryz.underlying400
 a66:=Tryz.isAgg400
 z66:=Tryz.sizeOf400
 v66:=Tryz.zeroValue400
 t70:=Tryz.underlying404
 a70:=Tryz.isAgg404
 z70:=Tryz.sizeOf404
 v70:=Tryz.zeroValue404
 t76:=Tryz.underlying406
 a76:=Tryz.isAgg406
 z76:=Tryz.sizeOf406
 v76:=Tryz.zeroValue406
 t77:=Tryz.underlying407
 a77:=Tryz.isAgg407
 z77:=Tryz.sizeOf407
 v77:=Tryz.zeroValue407 }
end Go.Proofs
namespace Go.Proofs.Shf
open Go.AW Go.Proofs Go.Shf Go.RowKit Go.Sort
theorem cmp_ntr {a b c : List Int} (h1 : ¬ cmp a b<0) (h2 : ¬ cmp b c<0) : ¬ cmp a c<0:=by
 intro h
 have n1:=cmp_neg a b
 have n2:=cmp_neg b c
 have n3:=cmp_neg a c
 by_cases e1 : cmp a b=0
 ·rw [cmp_zero] at e1; subst e1; exact h2 h
 ·by_cases e2 : cmp b c=0
  ·rw [cmp_zero] at e2; subst e2; exact h1 h
  ·have:=cmp_trans (a:=c) (b:=b) (c:=a) (by omega) (by omega);omega
theorem swo_cmp {n : Nat} (S : List (List Int)) : SWO (ltOf fun x y : Fin n=>cmp (S.getD x default) (S.getD y default)) where
 irrefl x:=by simp [ltOf,cmp_zero.mpr rfl]
 trans x y z h1 h2:=decide_eq_true (cmp_trans (of_decide_eq_true h1) (of_decide_eq_true h2))
 ntrans x y z h1 h2:=decide_eq_false (cmp_ntr (of_decide_eq_false h1) (of_decide_eq_false h2))
theorem lib_sort (S : List (List Int)) [Inhabited (Fin S.length)] (hsz : S.length<4611686018427387904) : LibSort S.length fun x y=>cmp (S.getD x default) (S.getD y default):=by
 intro b cap w enc h1 hcmp hH hbl
 have eg : ∀ args w,(callFunc 344 args).run Tryz.prog w=.ok (.enter 344 args) w:=enters_of Tryz.func344 (by kernel_rfl) rfl
 have h:=Any.slices_SortFunc Tryz.sortL enc h1 (fun x y=>cmp (S.getD x default) (S.getD y default)) (swo_cmp S) 344 #[] b 0 cap (Array.ofFn fun i=>i) w eg hcmp hH hbl (by simpa using hsz);exact h
end Go.Proofs.Shf
namespace Go.Proofs.Shf
open Go.AW Go.Proofs Go.Shf
theorem libSorts : LibSorts:=⟨⟨_,Tryz.func343,by kernel_rfl,by kernel_rfl⟩,fun S _ h=>lib_sort S (by omega)⟩
theorem nlsW_mL {α : Type} (f : α→AV) (neg : Bool) (l : List α) (K : Kont) (H : Heap) : nlsW neg (some (mL f l)) K H=((l=[]→∀ b,K (.bool b) H)∧(l≠[]→K (.bool neg) H)):=by
 simp [nlsW,mL]
theorem cloneB_ok (B : Nat) (l : List Bool) : Pur Tryz.prog B 328 [mL AV.bool l] (mL AV.bool l):=by
 refine ⟨fun H0=>c328.go fun ⟨hf,_⟩=>?_⟩
 have hl:=fine_mL_le hf;try simp only [go_sem,↓reduceIte,reduceEqDiff,reduceAdd,reduceMul,reduceLeDiff,reduceLT,nlsW_mL]
 refine ⟨fun e b=>?_,fun e=>?_⟩
 ·subst e
  cases b
  ·refine tt ?_;refine new_list AV.bool (.nil _) fun id H o=>tt ?_;refine app_list (f:=AV.bool) (r:=[]) o rfl (by simp [maxL]) fun id H o=>tt ?_;refine fz_own o rfl fun H o=>tt ?_;exact pure_ret rfl o.sub
  ·refine tt ?_;exact pure_ret rfl (.refl _)
 ·refine tt ?_;refine new_list AV.bool (.nil _) fun id H o=>tt ?_;refine app_list (f:=AV.bool) o rfl (by simpa using hl) fun id H o=>tt ?_;refine fz_own o rfl fun H o=>tt ?_;exact pure_ret rfl o.sub
theorem isGreatest_ok (B : Nat) (c : Cat) (s : List Int) (x : Int) (hx : 0≤x∧x.toNat<c.idn.length) : Pur Tryz.prog B 380 [iL s,.ptr c.cells,.int .i64 x] (.bool (dec (ix c.idn x∈s))):=by
 refine ⟨fun H0=>c380.go fun _=>?_⟩;refine tt ?_;refine ⟨hx, ?_⟩;refine (has_ok B s (ix c.idn x)).go fun _=>tt ?_;exact pure_ret rfl (.refl _)
theorem asOk : AsOk Tryz.prog 199 383:=fun _ _ _=>by kernel_rfl
theorem methOk : Meth Tryz.prog 199 Go.AW.Z.mthName 380:=fun _ _=>by kernel_rfl
theorem all_ok (B : Nat) (c : Cat) (s : List Int) (x : Int) (hx : 0≤x∧x.toNat<c.idn.length) : Pur Tryz.prog B 337 [.ptr c.cells,.int .i64 x,.ifc 199 (iL s)] (.bool (dec (ix c.idn x∈s))):=by
 refine ⟨fun H0=>c337.go fun _=>?_⟩;unfold s337;refine tt ?_;refine ⟨asOk,tt ?_⟩;refine ⟨380,methOk, ?_⟩;refine (isGreatest_ok B c s x hx).go fun _=>tt ?_;exact pure_ret rfl (.refl _)
end Go.Proofs.Shf
namespace Go.Shf
open Go.AW
theorem top_iff {c : Cat} (hc : c.Is) {x : Nat} (hx : x<c.objs.toNat) {s : List Int} (hs : c.Sieve x s) : ix c.idn x∈s↔s=outs c x:=by
 have ho:=hc.1.o
 have hi:=hc.1.idArr (x:=(x : Int)) (by omega)
 have hos:=outs_sieve hc.1 (x : Int)
 constructor
 ·intro h
  have hsub : ∀ a,a∈outs c x→a∈s:=fun a ha=>by
   obtain ⟨a0,a1,a2⟩:=mem_outs.mp ha
   have h1:=hs.cls _ h a.toNat a1 (by rw [hi.2.2,← a2]; rfl)
   have h2:=hc.idl (f:=a) ⟨a0,a1⟩;rw [a2] at h2
   have e : (ix c.comp (ix c.idn (x : Int))).getD a.toNat default=a:=h2;rw [e] at h1; exact h1
  exact rising_ext hs.ris hos.ris fun a=>⟨fun ha=>mem_outs.mpr ⟨(hs.ran a ha).1,by have:=hs.ran a ha; omega,hs.src a ha⟩,hsub a⟩
 ·rintro rfl;exact mem_outs.mpr ⟨hi.1.1,hi.1.2,hi.2.1⟩
end Go.Shf
namespace Go.Proofs.Shf
open Go.AW Go.Proofs Go.Shf
theorem tops_ok (B : Nat) (c : Cat) (L : List (List (List Int))) (t : TabOk c L) (sz pl : AV) : Pur Tryz.prog B 327 [.ptr (clsCells c L sz pl)] (iL (topsOf c L)):=by
 refine ⟨fun H0=>c327.go fun hfi=>?_⟩
 have hob:=t.is.1.o
 have hL:=t.len
 have hil:=t.is.1.il;refine tt ?_;refine newBuf_own (.nil _) fun id3 H o=>tt ?_
 refine awp_for [0,12,13] (G:=Nat) (fun x g=>[(3,some (.buf g ((topsOf c L).take x).length)),(14,some (.int .i64 (x : Int)))])
  (fun x g H=>Owns H0 H [(g,.cells 1 (((topsOf c L).take x).map iI) 0)]) L.length id3 o rfl ?_
 clear o
 rintro x id3 H hx o
 replace o : Owns H0 H [(id3,.cells 1 (((topsOf c L).take x).map iI) 0)]:=o;refine tt ?_;apply bk <;> intro h1
 ·have h1p:=of_decide h1
  have w:=wsucc (k:=x) (by omega)
  have hxo : x<c.objs.toNat:=by omega
  have htp:=t.top h1p
  have hall:=t.all x h1p
  have hfew:=t.few x h1p
  have hts:=take_succ_getD (topsOf c L) (k:=x) (by rw [tops_len]; exact h1p)
  have htl : ((topsOf c L).take x).length=x:=by rw [List.length_take,tops_len]; omega
  generalize htv : (topsOf c L).getD x default=tv at *;refine tt ?_;refine ⟨h1p, ?_⟩
  generalize hS : L.getD x default=S at *
  have hnd:=hall.nodup
  refine awp_for [0,4,12,13,14,19,20] (G:=Nat × List Int) (fun i g=>[(3,some (.buf g.1 g.2.length)),(21,some (.int .i64 (i : Int)))])
   (fun i g H=>g.2=(topsOf c L).take x++(if tv<i then [tv] else [])∧Owns H0 H [(g.1,.cells 1 (g.2.map iI) 0)]) S.length (id3,(topsOf c L).take x) ⟨by rw [if_neg (by omega)]; simp,o⟩ rfl ?_
  clear o
  rintro i ⟨id3,A⟩ H hi ⟨hA,o⟩;dsimp only at hA o;refine tt ?_;apply bk <;> intro h2
  ·have h2p:=of_decide h2
   have w2:=wsucc (k:=i) (by omega);refine tt ?_;refine ⟨h2p, ?_⟩;refine (all_ok B c (S.getD i default) x ⟨by omega,by omega⟩).go fun _=>?_
   have hsv : c.Sieve x (S.getD i default):=(hall.mem _).mp (mem_getD.mpr ⟨i,h2p,rfl⟩)
   have hiff:=top_iff t.is hxo hsv
   by_cases ht : (i : Int)=tv
   ·subst ht
    have he : S.getD i default=outs c x:=by have:=htp.2; rwa [ix_nat] at this
    rw [dec_t (hiff.mpr he)]
    have hA' : A=(topsOf c L).take x:=by rw [hA,if_neg (by omega)]; simp
    refine tt ?_;refine app_own (f:=iI) (i : Int) o rfl rfl (by rw [hA',htl]; simp only [maxL]; omega) fun id3 H o=>?_;refine tw w2 ?_;exact for_next (id3,A++[(i : Int)]) h2p ⟨by simp only; rw [hA',if_pos (by omega)],o⟩ rfl
   ·have hne : ¬ S.getD i default=outs c x:=fun e=>by
     apply ht
     have h3 : S.getD tv.toNat default=S.getD i default:=by rw [e,← htp.2]; rfl
     have hlt:=htp.1.2
     have:=(List.getElem_inj hnd (h₀:=hlt) (h₁:=h2p)).mp (by simpa [List.getD_eq_getElem?_getD,hlt,h2p] using h3);omega
    rw [dec_f (fun e=>hne (hiff.mp e))];refine tw w2 ?_;refine for_next (id3,A) h2p ⟨?_,o⟩ rfl
    simp only;rw [hA]
    by_cases e : tv<i
    ·rw [if_pos e,if_pos (by omega)]
    ·rw [if_neg e,if_neg (by omega)]
  ·have h2p:=of_ndecide h2
   obtain rfl : i=S.length:=by omega
   rw [if_pos (by omega),← hts] at hA;subst hA;refine tw w ?_;exact for_next id3 h1p o rfl
 ·have h1p:=of_ndecide h1
  obtain rfl : x=L.length:=by omega
  rw [List.take_of_length_le (by rw [tops_len]; omega)] at o ⊢;refine tt ?_;refine fz_own o rfl fun H o=>tt ?_;exact pure_ret rfl o.sub
end Go.Proofs.Shf
namespace Go.AW
open Go.Proofs Go.Shf Go.Proofs.Shf
theorem LsG.pos {α : Type} {O : Ob→AV→α→Prop} {p : Ob} {X : AV} {A : List α} (h : LsG O p X A) {i : Nat} (hi : i<A.length) : ∃ id Xs o,p=(id,.cells 1 Xs 0)::o∧X=.buf id Xs.length∧RowsG O Xs A o:=by
 rcases h with ⟨_,_,rfl⟩ | h
 ·simp at hi
 ·exact h
end Go.AW
namespace Go.Proofs.Shf
open Go.AW Go.Proofs Go.Shf
theorem set_self {l : List AV} {i : Nat} (h : i<l.length) : l.set i (l.getD i nv)=l:=by
 apply List.ext_getElem?
 intro j
 by_cases e : j=i
 ·subst e; simp [List.getD_eq_getElem?_getD,h]
 ·rw [List.getElem?_set_ne (by omega)]
end Go.Proofs.Shf
namespace Go.AW
open Go.Proofs Go.Shf Go.Proofs.Shf
theorem Owns.row {α : Type} [Inhabited α] {O : Ob→AV→α→Prop} {H0 H : Heap} {l q : Ob} {id : Nat} {Xs : List AV} {A : List α} (o : Owns H0 H (((id,.cells 1 Xs 0)::q)++l)) (hr : RowsG O Xs A q) {i : Nat} (hi : i<Xs.length) :
  ∃ p r,Owns H0 H (p++((id,.cells 1 Xs 0)::(r++l)))∧O p (Xs.getD i nv) (A.getD i default) ∧
   ∀ a' p' H',O p' (Xs.getD i nv) a'→Owns H0 H' (p'++((id,.cells 1 Xs 0)::(r++l)))→∃ q',RowsG O Xs (A.set i a') q'∧Owns H0 H' (((id,.cells 1 Xs 0)::q')++l):=by
 obtain ⟨p,r,h1,h2,h3⟩:=hr.split i hi;refine ⟨p,r,o.perm ?_,h2,fun a' p' H' hO o'=>?_⟩
 ·refine List.Perm.trans ?_ (List.perm_middle (a:=(id,MObj.cells 1 Xs 0)) (l₁:=p) (l₂:=r++l)).symm;refine List.Perm.cons _ ?_;rw [← List.append_assoc];exact List.Perm.append_right l h1
 ·obtain ⟨q',k1,k2⟩:=h3 _ _ _ hO;rw [set_self hi] at k1;refine ⟨q',k1,o'.perm ?_⟩;refine List.Perm.trans (List.perm_middle (a:=(id,MObj.cells 1 Xs 0)) (l₁:=p') (l₂:=r++l)) ?_;refine List.Perm.cons _ ?_;rw [← List.append_assoc];exact List.Perm.append_right l k2.symm
end Go.AW
namespace Go.Proofs.Shf
open Go.AW Go.Proofs Go.Shf
end Go.Proofs.Shf
namespace Go.AW
open Go.Proofs Go.Shf Go.Proofs.Shf
theorem Owns.rot {H0 H : Heap} {a b : Ob} (o : Owns H0 H (a++b)) : Owns H0 H (b++a):=o.perm List.perm_append_comm
end Go.AW
namespace Go.Proofs.Shf
open Go.AW Go.Proofs Go.Shf
end Go.Proofs.Shf
namespace Go.AW
open Go.RowKit
theorem LsG.app {α : Type} {O : Ob→AV→α→Prop} {p q l : Ob} {X Y : AV} {A : List α} {a : α} {H0 H : Heap} {K : Kont} (h : LsG O q X A) (hy : O p Y a) (h1 : Y.cells=[Y]∧Y.one=true) (o : Owns H0 H (p++(q++l))) (hm : A.length+1≤maxL)
  (hk : ∀ X' q' H',X'.one=true→LsG O q' X' (A++[a])→Owns H0 H' (q'++l)→K X' H') : appW 1 (some X) (some (.sl [Y])) K H:=by
 have hok : okEls 1 [Y]:=by
  intro e he;rw [List.mem_singleton] at he; subst he;rw [h1.1];exact ⟨rfl,fun c hc=>by rw [List.mem_singleton] at hc; subst hc; exact h1.2⟩
 have hfl : flat [Y]=[Y]:=by simp [flat,h1.1]
 rcases h with ⟨rfl,rfl,rfl⟩ | ⟨id,Xs,r,rfl,rfl,hr⟩
 ·simp only [appW,srcOf,app1];refine ⟨⟨by simp [maxL],by simp [maxL],hok⟩,fun id hn=>?_⟩;rw [hfl];refine hk (.buf id 1) ((id,.cells 1 [Y] 0)::p) _ rfl (.inr ⟨id,[Y],p,rfl,rfl, ?_⟩) ?_
  ·have:=RowsG.cons hy RowsG.nil;rw [List.append_nil] at this; exact this
  ·have:=o.new hn (.cells 1 [Y] 0)
   simpa using this
 ·have o2 : Owns H0 H ((id,.cells 1 Xs 0)::(p++(r++l))):=by
   refine o.perm ?_
   simp
  have h0:=o2.h0;simp only at h0
  have hl:=hr.len;simp only [appW,h0,srcOf,app2];refine ⟨⟨trivial,by simp,by simp; omega,by simp; omega,hok⟩,fun id' hn=>?_⟩;rw [hfl];refine hk (.buf id' (Xs.length+1)) ((id',.cells 1 (Xs++[Y]) 0)::(r++p)) _ rfl (.inr ⟨id',Xs++[Y],r++p,rfl,by simp, ?_⟩) ?_
  ·refine hr.app ?_
   have:=RowsG.cons hy RowsG.nil;rw [List.append_nil] at this; exact this
  ·have:=o2.mv hn (.cells 1 (Xs++[Y]) 0);refine this.perm (List.Perm.cons _ ?_);rw [← List.append_assoc];exact List.Perm.append_right l List.perm_append_comm
def OB (p : Ob) (X : AV) (b : Bool) : Prop:=p=[]∧X=.bool b
theorem Ow.bool : Ow OB AV.bool where
 io p X a h:=by rw [h.2]; exact .bool _
 pl p X a h x hx:=by rw [h.1] at hx; simp at hx
 ln p X a h g B H w v hW _ hv:=by rw [h.2] at hv; exact hv.mono (Gh.le_lend hW)
 fz p X a h g B H0 H l w hW o:=by
  obtain ⟨rfl,rfl⟩:=h;exact ⟨g,H,.refl g,hW,o,fun v hv=>hv⟩
abbrev OBL:=LsG OB
abbrev OBLL:=LsG OBL
theorem owBL : Ow OBL (mL AV.bool):=Ow.bool.ls
theorem owBLL : Ow OBLL (mL (mL AV.bool)):=owBL.ls
theorem rowsB : ∀ (l : List Bool),RowsG OB (l.map AV.bool) l []
 | []=>.nil
 | a::r=>.cons (p:=[]) ⟨rfl,rfl⟩ (rowsB r)
theorem RowsG.bools {Xs : List AV} {l : List Bool} {o : Ob} (h : RowsG OB Xs l o) : o=[]∧Xs=l.map AV.bool:=by
 induction h with
 | nil=>exact ⟨rfl,rfl⟩
 | cons h _ ih=>exact ⟨by rw [h.1,ih.1]; rfl,by rw [h.2,ih.2]; rfl⟩
end Go.AW
namespace Go.Proofs.Shf
open Go.AW Go.Proofs Go.Shf Go.RowKit
theorem add_calls (w : World) (b : Nat) (n d s : Int) (hs : ∀ w',(Op.intArith .add .i64 n d).run Tryz.prog w'=.ok (.int .i64 s) w') (hc : w.cell? ⟨b,0,none⟩=some (.int .i64 n)) (hz : w.frozen? ⟨b,0,none⟩=false) :
  Calls Tryz.prog 324 #[.pointer (some ⟨b,0,none⟩),.int .i64 d] w fun e w'=>e=.returned (.int .i64 s)∧w'=w.setCell ⟨b,0,none⟩ (.int .i64 s):=by
 have h204:=run_call_add (P:=Tryz.prog) Tryz.func336 (by kernel_rfl) (by kernel_rfl) (by kernel_rfl) .i64 (by kernel_rfl) hc hz (hs w)
 go_enter Tryz.func324,Tryz.ntmps324
 go_wp2
 go_ret
 exact ⟨rfl,rfl⟩
theorem add_own (B : Nat) {H0 H : Heap} {l : Ob} {ic : Nat} {n d : Int} {K : Kont} (o : Owns H0 H ((ic,.cells 1 [iI n] 0)::l)) (hk : ∀ r n' H',Owns H0 H' ((ic,.cells 1 [iI n'] 0)::l)→K r H') :
  CallH Tryz.prog B 324 [.ref ic 0,.int .i64 d] H K:=by
 refine ⟨⟨_,Tryz.func324,by kernel_rfl,by kernel_rfl⟩,fun g w vs hW hv=>?_⟩
 have h0:=o.h0;simp only at h0
 obtain ⟨v0,v1,rfl⟩ : ∃ v0 v1,vs=#[v0,v1]:=by
  have hv0:=hv.1
  rcases vs with ⟨l⟩
  simp only [List.length_cons,List.length_nil] at hv0
  match l,hv0 with
  | [a,b],_=>exact ⟨a,b,rfl⟩
 have e0 : VRel g (.ref ic 0) v0:=hv.2 0 (by simp)
 have e1 : VRel g (.int .i64 d) v1:=hv.2 1 (by simp)
 cases e1
 cases e0 with
 | ref _ _ b cap hio =>
  obtain ⟨c,el,h5,hb,hf,hm,h6,h7,h8⟩:=hW.obj hio h0
  have hlt : 0<c.size:=by simp at h7; omega
  have hv0:=h8 0 (by simp)
  have hc0 : w.cell? ⟨b,0,none⟩=some (c.getD 0 undef):=by rw [cell_of_row w b 0 c el (0,0) h5]; exact getD_some hlt
  have e2 : c.getD 0 undef=.int .i64 n:=by
   have hx : VRel g (.int .i64 n) (c.getD 0 undef):=hv0
   generalize c.getD 0 undef=u at hx
   cases hx; rfl
  rw [e2] at hc0
  have hz : w.frozen? ⟨b,0,none⟩=false:=by simp [World.frozen?,h5]
  refine (add_calls w b n d (IntKind.i64.wrap (n+d)) (fun w'=>by simp [Op.intArith]) hc0 hz).mono ?_
  rintro e w' ⟨rfl,rfl⟩
  have hbs : b<w.heap.size:=(Array.getElem?_eq_some_iff.1 h5).1
  have hb' : (w.setCell ⟨b,0,none⟩ (.int .i64 (IntKind.i64.wrap (n+d)))).heap[b]? = some (.cells (c.setIfInBounds 0 (.int .i64 (IntKind.i64.wrap (n+d)))) el (0,0)):=by
   simp [World.setCell,Array.getElem?_modify,h5]
  have hoth : ∀ k,k≠b→(w.setCell ⟨b,0,none⟩ (.int .i64 (IntKind.i64.wrap (n+d)))).heap[k]? = w.heap[k]? := by
   intro k hk;simp only [World.setCell];rw [Array.getElem?_modify,if_neg (by omega)]
  have hsz : (w.setCell ⟨b,0,none⟩ (.int .i64 (IntKind.i64.wrap (n+d)))).heap.size=w.heap.size:=by simp [World.setCell]
  refine ⟨_,rfl,g,.int .i64 (IntKind.i64.wrap (n+d)),H.set ic (.cells 1 [iI (IntKind.i64.wrap (n+d))] 0),.refl g,hk _ _ _ (o.put _),.int _ _, ?_, ?_⟩
  ·refine hW.write ic b cap 1 [iI n] _ 0 c _ el h0 hio h5 hb' hsz hoth (by simp) (fun k hk=>by omega) (by simp) (by simp [maxL]) (by simp; omega) (fun k hk=>?_)
   have : k=0:=by simp at hk; omega
   subst this
   simp [Array.getD,hlt];exact .int _ _
  ·exact ⟨rfl,rfl,rfl,by rw [hsz]; exact Nat.le_refl _,fun k hk=>hoth k (by omega),Nat.le_refl _⟩
@[go_sem] def covO (cs cc : List AV) (id ic : Nat) (X : AV) (n : Int) (q l : Ob) : Ob:=(id,.cells 4 [.ptr cs,.ptr cc,X,.ref ic 0] 0)::(ic,.cells 1 [iI n] 0)::(q++l)
def markIn (M : List (List Bool)) (x s : Nat) : List (List Bool):=M.set x ((M.getD x default).set s true)
theorem markIn_same {M : List (List Bool)} {x s : Nat} (h : (M.getD x default).getD s default=true) : markIn M x s=M:=by
 have h1 : ∀ {β : Type} (l : List β) (i : Nat) (d : β),l.set i (l.getD i d)=l:=by
  intro β l i d;apply List.ext_getElem?
  intro j
  by_cases e : j=i
  ·subst e
   by_cases hj : j<l.length
   ·simp [List.getD_eq_getElem?_getD,hj]
   ·rw [List.getElem?_eq_none (by simp; omega),List.getElem?_eq_none (by omega)]
  ·rw [List.getElem?_set_ne (by omega)]
 have h2:=h1 (M.getD x default) s default;rw [h] at h2;rw [markIn,h2,h1]
theorem mark_own (B : Nat) {cs cc : List AV} {id ic : Nat} {X : AV} {n : Int} {q l : Ob} {M : List (List Bool)} {H0 H : Heap} {K : Kont} {x s : Int} (hX : OBLL q X M) (o : Owns H0 H (covO cs cc id ic X n q l))
  (hx : 0≤x∧x.toNat<M.length) (hs : 0≤s∧s.toNat<(ix M x).length)
  (hk : ∀ n' q' H',OBLL q' X (markIn M x.toNat s.toNat)→Owns H0 H' (covO cs cc id ic X n' q' l)→K (.tup []) H') :
  CallH Tryz.prog B 311 [.ref id 0,.int .i64 x,.int .i64 s] H K:=by
 refine c311.go fun _=>?_
 obtain ⟨idX,Xs,r,rfl,rfl,hr⟩:=hX.pos (i:=x.toNat) hx.2
 have hXl:=hr.len
 have o1 : Owns H0 H ((((idX,.cells 1 Xs 0)::r))++((id,.cells 4 [.ptr cs,.ptr cc,.buf idX Xs.length,.ref ic 0] 0)::(ic,.cells 1 [iI n] 0)::l)):=by
  refine o.perm ?_;simp only [covO]
  have e1 : ((id,MObj.cells 4 [.ptr cs,.ptr cc,.buf idX Xs.length,.ref ic 0] 0)::(ic,MObj.cells 1 [iI n] 0)::(((idX,MObj.cells 1 Xs 0)::r)++l)) =
   [(id,MObj.cells 4 [.ptr cs,.ptr cc,.buf idX Xs.length,.ref ic 0] 0),(ic,MObj.cells 1 [iI n] 0)]++(((idX,MObj.cells 1 Xs 0)::r)++l):=rfl
  rw [e1];refine (List.perm_append_comm).trans ?_;rw [List.append_assoc];exact List.Perm.append_left _ List.perm_append_comm
 obtain ⟨p,r2,o2,hO,back⟩:=o1.row hr (i:=x.toNat) (by omega)
 obtain ⟨idR,Ys,rr,rfl,hY,hrr⟩:=hO.pos (i:=s.toNat) hs.2
 obtain ⟨rfl,rfl⟩:=hrr.bools
 have hgid : H.get id=some (.cells 4 [.ptr cs,.ptr cc,.buf idX Xs.length,.ref ic 0] 0):=o.h0
 have hgX : H.get idX=some (.cells 1 Xs 0):=o1.h0
 have hgR : H.get idR=some (.cells 1 ((M.getD x.toNat default).map AV.bool) 0):=o2.h0
 have hsl : s.toNat<(M.getD x.toNat default).length:=hs.2;rw [List.length_map] at hY;refine tt ?_;refine rd_get hgid (by simp) ?_;refine tt ?_;refine ⟨⟨hx.1,by omega⟩,rd_get hgX (by omega) ?_⟩;rw [hY];refine tt ?_;refine ⟨⟨hs.1,hsl⟩, ?_⟩;refine rd_inner (f:=AV.bool) hgR hsl ?_;refine tt ?_
 cases hm : (M.getD x.toNat default).getD s.toNat default with
 | true =>
  refine tw hm ?_;refine ⟨H,.refl H, ?_⟩;refine hk n _ H ?_ o;rw [markIn_same hm]; exact hX
 | false =>
  refine tw hm ?_;refine rd_get hgid (by simp) ?_;refine tt ?_;refine ⟨⟨hx.1,by omega⟩,rd_get hgX (by omega) ?_⟩;rw [hY];refine tt ?_;refine ⟨⟨hs.1,hsl⟩, ?_⟩;refine set_own (f:=AV.bool) true o2 rfl hsl fun H o3=>?_
  obtain ⟨q',hr',o4⟩:=back ((M.getD x.toNat default).set s.toNat true) [(idR,.cells 1 (((M.getD x.toNat default).set s.toNat true).map AV.bool) 0)] H (by rw [hY]; exact .inr ⟨idR,_,[],rfl,by simp,rowsB _⟩) o3
  have o5 : Owns H0 H ((ic,.cells 1 [iI n] 0)::((id,.cells 4 [.ptr cs,.ptr cc,.buf idX Xs.length,.ref ic 0] 0)::(((idX,.cells 1 Xs 0)::q')++l))):=by
   refine o4.perm ?_
   have e1 : ((id,MObj.cells 4 [.ptr cs,.ptr cc,.buf idX Xs.length,.ref ic 0] 0)::(ic,MObj.cells 1 [iI n] 0)::l)=[(id,MObj.cells 4 [.ptr cs,.ptr cc,.buf idX Xs.length,.ref ic 0] 0),(ic,MObj.cells 1 [iI n] 0)]++l:=rfl;rw [e1,← List.append_assoc];refine (List.Perm.append_right l List.perm_append_comm).trans ?_;rw [List.append_assoc];exact List.Perm.swap _ _ _
  have hgid : H.get id=some (.cells 4 [.ptr cs,.ptr cc,.buf idX Xs.length,.ref ic 0] 0):=o5.tl.h0;refine tt ?_;refine rd_get hgid (by simp) ?_;refine tt ?_;refine add_own B o5 fun r n' H o6=>tt ?_;exact ⟨H,.refl H,hk n' ((idX,.cells 1 Xs 0)::q') H (.inr ⟨idX,Xs,q',rfl,rfl,hr'⟩) o6.swap⟩
end Go.Proofs.Shf
namespace Go.Proofs.Shf
open Go.AW Go.Proofs Go.Shf
theorem covO_perm (cs cc : List AV) (id ic : Nat) (X : AV) (n : Int) (q l : Ob) : (covO cs cc id ic X n q l).Perm (q++((id,.cells 4 [.ptr cs,.ptr cc,X,.ref ic 0] 0)::(ic,.cells 1 [iI n] 0)::l)):=by
 have e1 : covO cs cc id ic X n q l=[(id,MObj.cells 4 [.ptr cs,.ptr cc,X,.ref ic 0] 0),(ic,MObj.cells 1 [iI n] 0)]++(q++l):=rfl;rw [e1];refine (List.perm_append_comm).trans ?_;rw [List.append_assoc];exact List.Perm.append_left _ List.perm_append_comm
noncomputable def clsV (c : Cat) : List AV:=clsCells c (listsOf c) (iL (lensOf (listsOf c))) (iLL (pullsOf c (listsOf c)))
def noMarks (L : List (List (List Int))) : List (List Bool):=L.map fun s=>List.replicate s.length false
theorem coverageOf_own (B : Nat) (c : Cat) (hc : c.Is) {H0 H : Heap} {l : Ob} {K : Kont} (o : Owns H0 H l) (hno : ¬ AllFew c→∀ X,K (.tup [X,.bool false]) H)
  (hk : AllFew c→∀ id ic X q H',OBLL q X (noMarks (listsOf c))→Owns H0 H' (covO (clsV c) c.cells id ic X 0 q l)→K (.tup [.ref id 0,.bool true]) H') : CallH Tryz.prog B 310 [.ptr c.cells] H K:=by
 refine c310p.go fun _=>?_
 have hob:=hc.1.o;refine tt ?_;refine (classifier_ok B c hc (sieves_all B libSorts c hc)).go fun _=>?_
 by_cases hf : AllFew c
 ·rw [clsOr,if_pos hf,dec_t hf]
  replace hk:=hk hf
  have tab:=tabOk hc hf
  have htf:=tab.few
  have htl:=tab.len
  have hcv : clsV c=clsCells c (listsOf c) (iL (lensOf (listsOf c))) (iLL (pullsOf c (listsOf c))):=rfl
  generalize hcs : clsV c=cs at *
  generalize hL : listsOf c=L at *;subst hcv;refine tt ?_;refine newRef_own o fun ic H o=>tt ?_;refine nb o fun id H o=>tt ?_
  refine awp_for [6,24,25] (G:=AV × Ob) (fun k g=>[(26,some (.int .i64 (k : Int)))])
   (fun k g H=>OBLL g.2 g.1 (noMarks (L.take k))∧Owns H0 H (covO (clsCells c L (iL (lensOf L)) (iLL (pullsOf c L))) c.cells id ic g.1 0 g.2 l)) L.length (.nilsl,[]) ⟨.inl ⟨rfl,rfl,rfl⟩,o⟩ rfl ?_
  clear o
  rintro k ⟨X,q⟩ H hkk ⟨hX,o⟩;dsimp only at hX o;refine tt ?_;apply bk <;> intro h1
  ·have h1p:=of_decide h1
   have w:=wsucc (k:=k) (by omega)
   have hfk:=htf k h1p;refine tt ?_;refine ⟨h1p, ?_⟩
   have hgid : H.get id=some (.cells 4 [.ptr (clsCells c L (iL (lensOf L)) (iLL (pullsOf c L))),.ptr c.cells,X,.ref ic 0] 0):=o.h0;refine rd_get hgid (by simp) ?_;refine tt ?_;refine ⟨by simp only [maxL]; omega, ?_⟩;refine mks_list AV.bool false rfl o fun idn H o=>tt ?_
   have hY : OBL [(idn,.cells 1 ((List.replicate (L.getD k default).length false).map AV.bool) 0)] (.buf idn (L.getD k default).length) (List.replicate (L.getD k default).length false):=.inr ⟨idn,_,[],rfl,by simp,rowsB _⟩
   have o2:=o.perm (List.Perm.cons _ (covO_perm _ _ _ _ _ _ _ _));refine hX.app (a:=List.replicate (L.getD k default).length false) hY ⟨rfl,rfl⟩ o2 (by simp [noMarks,maxL]; omega) fun X' q' H hX1 hX' o3=>?_
   have o4:=o3.perm (covO_perm (clsCells c L (iL (lensOf L)) (iLL (pullsOf c L))) c.cells id ic X 0 q' l).symm;simp only [covO] at o4;refine tt ?_;rw [AV.cells_one hX1];refine st_cells o4 (by simp) rfl (fun c hc=>by rw [List.mem_singleton] at hc; subst hc; exact hX1) fun H o=>?_;simp only [wr_cons,wr_nil,List.set_cons_zero,List.set_cons_succ] at o;refine tw w ?_;refine for_next (X',q') h1p ⟨?_,o⟩ rfl
   simp only;rw [take_succ_getD L h1p,noMarks,List.map_append]; exact hX'
  ·have h1p:=of_ndecide h1
   obtain rfl : k=L.length:=by omega
   rw [List.take_length] at hX;refine tt ?_;exact ⟨H,.refl H,hk id ic X q H hX o⟩
 ·rw [clsOr,if_neg hf,dec_f hf];refine tt ?_;exact ⟨H,.refl H,hno hf _⟩
end Go.Proofs.Shf
namespace Go.Shf
open Go.AW
def marksK (L C : List (List (List Int))) (k : Nat) : List (List Bool):=(List.range L.length).map fun x=>if x<k then markAt L C x else List.replicate (L.getD x default).length false
theorem marksK_len {L C : List (List (List Int))} {k : Nat} : (marksK L C k).length=L.length:=by simp [marksK]
theorem marksK_get {L C : List (List (List Int))} {k x : Nat} (hx : x<L.length) : (marksK L C k).getD x default=if x<k then markAt L C x else List.replicate (L.getD x default).length false:=by
 rw [marksK,getD_map_range _ _ hx]
theorem getD_getElem {α : Type} [Inhabited α] (l : List α) {a : Nat} (h : a<l.length) : l.getD a default=l[a]:=by simp [List.getD_eq_getElem?_getD,h]
theorem marksK_0 {L C : List (List (List Int))} : marksK L C 0=L.map fun s=>List.replicate s.length false:=by
 apply List.ext_getElem (by simp [marksK])
 intro i h1 h2
 have hi : i<L.length:=by simpa using h2
 simp [marksK,List.getD_eq_getElem?_getD,hi]
theorem marksK_all {L C : List (List (List Int))} : marksK L C L.length=marksOf L C:=by
 apply List.ext_getElem (by simp [marksK,marksOf])
 intro i h1 h2
 have hi : i<L.length:=by simpa [marksOf] using h2
 simp [marksK,marksOf,hi]
theorem marksK_succ {L C : List (List (List Int))} {k : Nat} (hk : k<L.length) : (marksK L C k).set k (markAt L C k)=marksK L C (k+1):=by
 apply List.ext_getElem (by simp [marksK])
 intro i h1 h2
 have hi : i<L.length:=by simpa [marksK] using h2
 rw [List.getElem_set];simp only [marksK,List.getElem_map,List.getElem_range]
 by_cases e : k=i
 ·subst e; simp
 ·rw [if_neg e]
  by_cases e2 : i<k
  ·rw [if_pos e2,if_pos (by omega)]
  ·rw [if_neg e2,if_neg (by omega)]
end Go.Shf
namespace Go.Proofs.Shf
open Go.AW Go.Proofs Go.Shf
theorem coverage_own (B : Nat) (j : Top) (hF : j.Form) {H0 H : Heap} {l : Ob} {K : Kont} (o : Owns H0 H l) (hno : ¬ AllFew j.shape→∀ X,K (.tup [X,.bool false]) H)
  (hk : AllFew j.shape→∀ id ic X n q H',OBLL q X (marksOf (listsOf j.shape) j.covers)→Owns H0 H' (covO (clsV j.shape) j.shape.cells id ic X n q l)→K (.tup [.ref id 0,.bool true]) H') :
  CallH Tryz.prog B 292 [.ptr j.cells] H K:=by
 refine c292.go fun ⟨hfj,_⟩=>?_
 have hc:=hF.is
 have hob:=hc.1.o;refine tt ?_;refine coverageOf_own B j.shape hc o (fun hf X=>?_) fun hf id ic X q H hX o=>?_
 ·refine tt ?_;exact ⟨H,.refl H,hno hf _⟩
 replace hk:=hk hf
 have tab:=tabOk hc hf
 have htf:=tab.few
 have htl:=tab.len
 have hcv:=form_covers hF hf
 have hall:=tab.all
 generalize hL : listsOf j.shape=L at *
 have hcs : clsV j.shape=clsCells j.shape L (iL (lensOf L)) (iLL (pullsOf j.shape L)):=by rw [clsV,hL]
 have hCl:=hcv.1
 have hCm:=hcv.2
 have hflc : j.covers.length≤8:=by omega
 have hn0 : noMarks L=marksK L j.covers 0:=by rw [marksK_0]; rfl
 rw [hn0] at hX;refine tt ?_
 refine awp_for [4,22,23] (G:=List (List Bool) × Int × Ob) (fun k g=>[(24,some (.int .i64 (k : Int)))])
  (fun k g H=>g.1=marksK L j.covers k∧OBLL g.2.2 X g.1∧Owns H0 H (covO (clsV j.shape) j.shape.cells id ic X g.2.1 g.2.2 l)) j.covers.length (_,0,q) ⟨rfl,hX,o⟩ rfl ?_
 clear o hX
 rintro k ⟨M,n,q⟩ H hkk ⟨hM,hX,o⟩;dsimp only at hM hX o;refine tt ?_;apply bk <;> intro h1
 ·have h1p:=of_decide h1
  have w:=wsucc (k:=k) (by omega)
  have hkL : k<L.length:=by omega
  have hCk:=hCm k hkL
  have hfk:=htf k hkL
  have hnd:=(hall k hkL).nodup
  have hCkl : (j.covers.getD k default).length≤1000000:=by
   have hnd2 : (j.covers.getD k default).Nodup:=by
    rw [List.nodup_iff_pairwise_ne,List.pairwise_iff_getElem]
    intro a b ha hb hab e
    have hlt : ∀ d a,a+d+1<(j.covers.getD k default).length→cmp ((j.covers.getD k default).getD a default) ((j.covers.getD k default).getD (a+d+1) default)<0:=by
     intro d
     induction d with
     | zero=>intro a ha; exact hF.ord k (by omega) a ha
     | succ d ih=>intro a ha; exact cmp_trans (ih a (by omega)) (hF.ord k (by omega) (a+d+1) (by omega))
    have:=hlt (b - a - 1) a (by omega);rw [show a+(b - a - 1)+1=b by omega] at this
    have e1:=getD_getElem (j.covers.getD k default) ha
    have e2:=getD_getElem (j.covers.getD k default) hb;rw [e1,e2,e,cmp_zero.mpr rfl] at this;exact absurd this (by omega)
   have:=List.Nodup.length_le_of_subset hnd2 fun s hs=>(hCk s hs).2;omega
  refine tt ?_;refine ⟨h1p, ?_⟩
  have hMs : M=(marksK L j.covers k).set k (List.replicate (L.getD k default).length false):=by
   rw [hM]
   have h3 : (marksK L j.covers k).getD k default=List.replicate (L.getD k default).length false:=by rw [marksK_get hkL,if_neg (by omega)]
   rw [← h3];apply List.ext_getElem (by simp)
   intro i hi1 hi2;rw [List.getElem_set]
   split
   ·rename_i e; subst e; simp [List.getD_eq_getElem?_getD,hi1]
   ·rfl
  generalize hS : L.getD k default=S at *
  generalize hR : j.covers.getD k default=R at *
  refine awp_for [4,6,22,23,24,29,30] (G:=List Bool × Int × Ob) (fun i g=>[(31,some (.int .i64 (i : Int)))])
   (fun i g H=>RowI S R i g.1∧OBLL g.2.2 X ((marksK L j.covers k).set k g.1)∧Owns H0 H (covO (clsV j.shape) j.shape.cells id ic X g.2.1 g.2.2 l)) R.length (List.replicate S.length false,n,q) ⟨RowI.zero S R,by simp only; rw [← hMs]; exact hX,o⟩ rfl ?_
  clear o hX hMs hM M n q
  rintro i ⟨A,n,q⟩ H hi ⟨hA,hX,o⟩;dsimp only at hA hX o;refine tt ?_;apply bk <;> intro h2
  ·have h2p:=of_decide h2
   have w2:=wsucc (k:=i) (by omega)
   have hmem:=(hCk _ (mem_getD.mpr ⟨i,h2p,rfl⟩)).2
   have hin:=indexOf_in hmem
   have hix : ix L k=S:=by rw [ix_nat,hS]
   have hstep:=hA.step hnd hmem;refine tt ?_;refine ⟨h2p, ?_⟩
   have hgid : H.get id=some (.cells 4 [.ptr (clsV j.shape),.ptr j.shape.cells,X,.ref ic 0] 0):=o.h0;refine rd_get hgid (by simp) ?_;rw [hcs];refine tt ?_;refine (number_ok B j.shape L (iL (lensOf L)) (iLL (pullsOf j.shape L)) k ⟨by omega,by omega⟩ (R.getD i default)).go fun _=>?_;rw [hix];refine tt ?_
   have hget : ix ((marksK L j.covers k).set k A) (k : Int)=A:=by
    rw [ix_nat,getD_set,if_pos ⟨rfl,by rw [marksK_len]; exact hkL⟩]
   refine mark_own B hX o ⟨by omega,by rw [List.length_set,marksK_len]; simpa using hkL⟩ ⟨hin.1,by rw [hget,hA.1]; exact hin.2.1⟩ fun n' q' H hX' o'=>?_;refine tw w2 ?_;refine for_next (A.set (indexOf S (R.getD i default)).toNat true,n',q') h2p ⟨hstep, ?_,by rw [hcs] at o'; exact o'⟩ rfl
   simp only
   have e : markIn ((marksK L j.covers k).set k A) (k : Int).toNat (indexOf S (R.getD i default)).toNat=(marksK L j.covers k).set k (A.set (indexOf S (R.getD i default)).toNat true):=by
    rw [markIn,Int.toNat_natCast,← ix_nat,hget,List.set_set]
   rw [e] at hX'; exact hX'
  ·have h2p:=of_ndecide h2
   obtain rfl : i=R.length:=by omega
   have hdone:=hA.done
   have e : markRow S R=markAt L j.covers k:=by rw [markAt,hS,hR]
   rw [hdone,e,marksK_succ hkL] at hX;refine tw w ?_;exact for_next (marksK L j.covers (k+1),n,q) h1p ⟨rfl,hX,o⟩ rfl
 ·have h1p:=of_ndecide h1
  obtain rfl : k=j.covers.length:=by omega
  rw [hM,hCl,marksK_all] at hX;refine tt ?_;exact ⟨H,.refl H,hk id ic X n q H hX o⟩
end Go.Proofs.Shf
namespace Go.AW
open Go.RowKit
theorem Owns.base {H0 H : Heap} {l : Ob} (o : Owns H0 H l) : Owns H0 (l++H0) l:=by
 refine ⟨fun i x hx=>?_,fun x hx=>?_,o.nd,o.out⟩
 ·rw [Heap.get_append]
  cases e1 : Heap.get l i with
  | some o1=>have:=o.out _ (Heap.get_mem e1); simp only at this; rw [this] at hx; cases hx
  | none=>simpa using hx
 ·rw [Heap.get_append,Heap.mem_get o.nd hx]; rfl
theorem Owns.base_sub {H0 H : Heap} {l : Ob} (o : Owns H0 H l) : Heap.sub (l++H0) H:=by
 intro i x e;rw [Heap.get_append] at e
 cases e1 : Heap.get l i with
 | some o1 =>
  rw [e1] at e
  have:=o.get _ (Heap.get_mem e1);simp only at this;rw [this]; exact e
 | none=>rw [e1,Option.none_or] at e; exact o.sub _ _ e
theorem wk_cov {F : Env→Heap→Prop} {σ : Env} {H0 H : Heap} {l q : Ob} {cs cc : List AV} {id ic : Nat} {X : AV} {n : Int} {M : List (List Bool)} (t : Nat) (hX : OBLL q X M)
  (o : Owns H0 H (Go.Proofs.Shf.covO cs cc id ic X n q l)) (ht : σ.get t=some (.ref id 0))
  (hk : ∀ H',Owns H0 H' l→wkW F ((t,some (.ptr [.ptr cs,.ptr cc,mL (mL AV.bool) M,.ref ic 0]))::σ) H') : wkW F σ H:=by
 have ol : Owns H0 H l:=by
  have:=o.perm (Go.Proofs.Shf.covO_perm cs cc id ic X n q l)
  have o2 : Owns H0 H ((id,.cells 4 [.ptr cs,.ptr cc,X,.ref ic 0] 0)::(ic,.cells 1 [iI n] 0)::(l++q)):=o.perm (List.Perm.cons _ (List.Perm.cons _ List.perm_append_comm));exact ⟨o2.sub,fun x hx=>o2.get x (by simp [hx]),(List.nodup_append.mp (by simpa using o2.tl.tl.nd)).1,fun x hx=>o2.out x (by simp [hx])⟩
 have h1 : H.get id=some (.cells 4 [.ptr cs,.ptr cc,X,.ref ic 0] 0):=o.h0;refine wkW_step (σ1:=(t,some (.ptr [.ptr cs,.ptr cc,mL (mL AV.bool) M,.ref ic 0]))::σ) ?_ (hk _ ol.base)
 intro g B w tm hW hE
 obtain ⟨q1,q2⟩:=hE t _ ht
 generalize hu : tm.getD t undef=u at q2
 cases q2 with
 | ref _ _ b cap hio =>
  obtain ⟨c,el,h5,hb,hf,hm,h6,h7,h8⟩:=hW.obj hio h1
  obtain ⟨g1,H1,r1,r2,r3,r4⟩:=owBLL.fz _ _ _ hX g B H0 H _ w hW (o.perm (Go.Proofs.Shf.covO_perm cs cc id ic X n q l))
  have h1' : H1.get id=some (.cells 4 [.ptr cs,.ptr cc,X,.ref ic 0] 0):=r3.h0
  obtain ⟨c2,g2,s1,s2,s3,s4,s5,s6⟩:=r2.give id b cap 4 _ 0 h1' (r1.io _ _ hio)
  have hc : ∀ i,i<4→c2.getD i undef=c.getD i undef:=by
   intro i hi
   have:=s2.fz _ _ _ (s5 i hi);rw [cell_of_row w b i c el (0,0) h5] at this
   have hi' : i<c.size:=by simp at h7; omega
   rw [Array.getElem?_eq_getElem hi'] at this;rw [← Option.some.inj this]; simp [Array.getD,hi']
  have o3:=(r3.put (.cells 4 [.ptr cs,.ptr cc,X,.ref ic 0] [AV.ptr cs,.ptr cc,X,.ref ic 0].length)).tl.tl;refine ⟨g2,r1.trans s1,s2.sub o3.base_sub,fun s x e=>?_⟩;simp only [Env.get] at e
  split at e
  ·rename_i hs; cases e; subst hs
   refine ⟨q1, ?_⟩;rw [hu];refine .ptr _ b 0 (fun k=>c2.getD k undef) (fun i hi=>by rw [Nat.zero_add]; exact s5 i (by simpa using hi)) (fun i hi=>?_)
   have hi4 : i<4:=by simpa using hi
   by_cases e2 : i=2
   ·subst e2;rw [hc 2 (by omega)]
    have:=h8 2 (by simp);exact (r4 _ (by simpa using this)).mono s1
   ·have:=s6 i (by simpa using hi4)
    obtain rfl | rfl | rfl : i=0∨i=1∨i=3:=by omega
    all_goals simpa using this
  ·obtain ⟨z1,z2⟩:=hE s x e; exact ⟨z1,z2.mono (r1.trans s1)⟩
end Go.AW
namespace Go.Shf
open Go.AW Go.Proofs.Shf
noncomputable def covV (j : Top) : Cov:=⟨j.shape,lensOf (listsOf j.shape),pullsOf j.shape (listsOf j.shape),listsOf j.shape,marksOf (listsOf j.shape) j.covers⟩
def mk2 (M : List (List Bool)) (x s : Nat) : Bool:=(M.getD x default).getD s default
def P1 (c : Cat) (L : List (List (List Int))) (M : List (List Bool)) (k : Nat) : Prop:=∀ x,x<k→mg M x ((topsOf c L).getD x default)=true
def P2i (c : Cat) (L : List (List (List Int))) (M : List (List Bool)) (a i : Nat) : Prop:=∀ s,s<i→mk2 M (c.frm.getD a default).toNat s=true→mg M (c.to.getD a default) (((pullsOf c L).getD a default).getD s default)=true
def P2 (c : Cat) (L : List (List (List Int))) (M : List (List Bool)) (k : Nat) : Prop:=∀ a,a<k→P2i c L M a (M.getD (c.frm.getD a default).toNat default).length
def P3s (v : Cov) (x t i : Nat) : Prop:=∀ s,s<i→mk2 v.marks x s=true→mk2 v.marks x t=false→locP v ((v.sieves.getD x default).getD t default) ((v.sieves.getD x default).getD s default)→mk2 v.marks x t=true
def P3t (v : Cov) (x k : Nat) : Prop:=∀ t,t<k→P3s v x t (v.marks.getD x default).length
def P3 (v : Cov) (k : Nat) : Prop:=∀ x,x<k→P3t v x (v.sieves.getD x default).length
theorem all_succ {p : Nat→Prop} {k : Nat} : (∀ i,i<k+1→p i)↔(∀ i,i<k→p i)∧p k :=
 ⟨fun h=>⟨fun i hi=>h i (by omega),h k (by omega)⟩,fun ⟨h,hk⟩=>lt_succ_all h hk⟩
theorem locP_iff {j : Top} (tab : TabOk j.shape (listsOf j.shape)) {x s t : Nat} (hx : x<(listsOf j.shape).length) (hs : s<((listsOf j.shape).getD x default).length) (ht : t<((listsOf j.shape).getD x default).length) :
  locP (covV j) (((listsOf j.shape).getD x default).getD t default) (((listsOf j.shape).getD x default).getD s default)↔LocP j.shape (listsOf j.shape) (covV j).marks x s t:=by
 have hsv:=tab.sv hx hs;rw [locP,LocP,all_getD];refine forall_congr' fun i=>imp_congr_right fun hi=>?_
 have ha:=hsv.arr (mem_getD.mpr ⟨i,hi,rfl⟩)
 generalize hav : (((listsOf j.shape).getD x default).getD s default).getD i default=a at *
 have hto:=tab.to ha.1
 have e : (ix (pullsOf j.shape (listsOf j.shape)) a).getD t default=indexOf (ix (listsOf j.shape) (ix j.shape.to a)) (pullS j.shape a (((listsOf j.shape).getD x default).getD t default)):=by
  rw [pulls_get ha.1,ha.2,ix_nat,map_getD _ ht]
 rw [e]; rfl
theorem cov_top {j : Top} (hF : j.Form) (hf : AllFew j.shape) (hM : (covV j).marks.length=(listsOf j.shape).length) :
  (P1 j.shape (listsOf j.shape) (covV j).marks (listsOf j.shape).length∧P2 j.shape (listsOf j.shape) (covV j).marks j.shape.frm.length∧P3 (covV j) (listsOf j.shape).length)↔TopIs j.shape j.covers:=by
 have tab:=tabOk hF.is hf
 have hcv:=form_covers hF hf
 have hmk : MarkOk (listsOf j.shape) (covV j).marks:=markOk;rw [← topM_iff (L:=listsOf j.shape) tab fun x hx s hs=>(hcv.2 x hx s hs).1]
 have hms : marksOf (listsOf j.shape) j.covers=(covV j).marks:=rfl
 have hsv : (covV j).sieves=listsOf j.shape:=rfl;rw [hms]
 constructor
 ·rintro ⟨h1,h2,h3⟩ x hx
  have hxL : x<(listsOf j.shape).length:=by omega
  refine ⟨h1 x hxL,fun s hs hsm=>⟨fun a ha e=>?_,fun k hk=>?_⟩⟩
  ·have hx2 : (j.shape.frm.getD a default).toNat=x:=by rw [e]; simp
   refine h2 a ha s (by rw [hx2]; exact hs) ?_;rw [hx2]; exact hsm
  ·rw [hmk.row x hxL] at hs hk
   by_cases hl : LocP j.shape (listsOf j.shape) (covV j).marks x s k
   ·left
    cases hb : mk2 (covV j).marks x k with
    | true=>exact hb
    | false =>
     have:=h3 x hxL k (by rw [hsv]; exact hk) s (by rw [hmk.row x hxL]; exact hs) hsm hb (by rw [hsv]; exact (locP_iff tab hxL hs hk).mpr hl);rw [hb] at this; cases this
   ·exact .inr hl
 ·intro h;refine ⟨fun x hx=>(h x (by omega)).1,fun a ha s hs hsm=>?_,fun x hx t ht s hs hsm htm hl=>?_⟩
  ·have haa : 0≤(a : Int)∧(a : Int).toNat<j.shape.frm.length:=⟨by omega,by simpa using ha⟩
   have hfr:=tab.frm haa;rw [ix_nat] at hfr;exact ((h _ (by rw [hM]; exact hfr.2)).2 s hs hsm).1 a ha (by rw [Int.toNat_of_nonneg hfr.1])
  ·rw [hsv] at ht hl;rw [hmk.row x hx] at hs
   rcases ((h x (by rw [hM]; exact hx)).2 s (by rw [hmk.row x hx]; exact hs) hsm).2 t (by rw [hmk.row x hx]; exact ht) with h4 | h4
   ·exact h4
   ·exact absurd ((locP_iff tab hx hs ht).mp hl) h4
end Go.Shf
