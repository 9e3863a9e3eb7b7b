/- Contracts, part 4. -/
import Derived.Test.YthflgdphhajkbaaGreatT3
import Derived.Sort.Row
import Derived.Sort.Grow
import Derived.Deep.Draws
import Derived.Test.YthflgdphhajkbaaGreatProg
import Derived.Shelf.SlLaysF
import Derived.Shelf.SlSortCmp.Whole1
import Derived.WalkKit
import Derived.Laws.LoneSync
set_option linter.unusedVariables false
set_option linter.unusedSimpArgs false
set_option linter.unusedSectionVars false
open Nat (reduceEqDiff reduceAdd reduceMul reduceLeDiff reduceLT)
namespace Go.AW
open Go.Proofs Go.Proofs.Shf Go.Shf Go.RowKit
theorem Ao.other {g : Gh} {B : Nat} {H : AB} {w w' : World} (h : Ao g B H w) (b : Nat) (wL : ∀ o,g.fz b o=none) (Q0 : g.fm b=none) (hk : ∀ k,k≠b→k<w.heap.size→w'.heap[k]? = w.heap[k]?) : Ao g w'.heap.size [] w':=by
 constructor
 ·intro b' o v e
  have hl:=h.YG e
  have Bp : b'≠b:=by rintro rfl; rw [wL] at e; cases e
  rw [World.cell?_of_block (w:=w) (a:=⟨b',o,none⟩) (hk b' Bp hl)]; exact h.fz _ _ _ e
 ·intro b' es e
  have hl:=h.cP e
  have Bp : b'≠b:=by rintro rfl; rw [Q0] at e; cases e
  obtain ⟨clk,hc⟩:=h.fm _ _ e;exact ⟨clk,by rw [hk b' Bp hl]; exact hc⟩
 ·intro i o e; cases e
 ·intro i j x c c' n e1; cases e1
 ·intro i j x n e1; cases e1
 ·exact Nat.le_refl _
 ·exact h.fin
theorem LS {α : Type} [Inhabited α] (enc : α→Value) (w : World) (b off m : Nat) (dk : Array α) (os : Array Obj) : (Sort.grow (Sort.putRow enc (Sort.ahead w m) b off dk) os).heap=(w.heap.modify b (Sort.onCells (Sort.putCells enc off dk)))++os:=rfl
theorem Zz {α : Type} [Inhabited α] (enc : α→Value) (w : World) (b off m : Nat) (dk : Array α) (os : Array Obj) (k : Nat) (hk : k≠b) (hl : k<w.heap.size) : (Sort.grow (Sort.putRow enc (Sort.ahead w m) b off dk) os).heap[k]? = w.heap[k]? := by
 rw [LS,Array.getElem?_append_left (by simpa using hl),Array.getElem?_modify,if_neg (by omega)]
theorem XQ {W w' : World} (h : Below W.heap.size W w') : ∃ q os',w'=Sort.grow (W.drewN q) os':=by
 refine ⟨w'.drawn - W.drawn,w'.heap.extract W.heap.size w'.heap.size, ?_⟩
 have hh : w'.heap=W.heap++w'.heap.extract W.heap.size w'.heap.size:=by
  apply Array.ext_getElem?
  intro k
  by_cases hk : k<W.heap.size
  ·rw [Array.getElem?_append_left hk]; exact h.block k hk
  ·rw [Array.getElem?_append_right (by omega),Array.getElem?_extract]
   have:=h.size
   by_cases h2 : k<w'.heap.size
   ·rw [if_pos (by omega)]; congr 1; omega
   ·rw [if_neg (by omega),Array.getElem?_eq_none (by omega)]
 have hd:=h.drawn
 have h1:=h.os
 have h2:=h.tape
 have h3:=h.output
 have e : ∀ (a b : World),a.heap=b.heap→a.tape=b.tape→a.drawn=b.drawn→a.os=b.os→a.output=b.output→a=b:=by
  intro a b h1 h2 h3 h4 h5
  cases a; cases b;simp only at h1 h2 h3 h4 h5;subst h1 h2 h3 h4 h5; rfl
 refine e _ _ hh h2 ?_ h1 h3
 show w'.drawn=W.drawn+(w'.drawn - W.drawn)
 omega
theorem dY {g : Gh} {B : Nat} {H : AB} {w : World} (h : Ao g B H w) (S : Nat→List Int) (b size : Nat) (wL : ∀ o,g.fz b o=none) (Q0 : g.fm b=none) {α : Type} [Inhabited α] (nm : α→Nat) (enc : α→Value) (hv : ∀ x,Ab g (iL (S (nm x))) (enc x)) :
  ∀ (m : Nat) (os : Array Obj) (dk : Array α),dk.size=size→∀ x y : α,
  Calls Tryz.prog 344 (#[enc x,enc y]++#[]) (Sort.grow (Sort.putRow enc (Sort.ahead w m) b 0 dk) os) fun e w'=>e=.returned (.int .i64 (cmp (S (nm x)) (S (nm y))))∧∃ q os',w'=Sort.grow ((Sort.grow (Sort.putRow enc (Sort.ahead w m) b 0 dk) os).drewN q) os':=by
 intro m os dk hs x y
 have hW:=h.other b wL Q0 fun k hk hl=>Zz enc w b 0 m dk os k hk hl
 generalize (Sort.grow (Sort.putRow enc (Sort.ahead w m) b 0 dk) os)=W at hW ⊢
 have hc:=(lF W.heap.size (S (nm x)) (S (nm y))).run [];refine (hc.2 g W _ hW ⟨rfl,fun i hi=>?_⟩).mono ?_
 ·obtain rfl | rfl : i=0∨i=1:=by simp only [List.length_cons,List.length_nil] at hi; omega
  ·exact hv x
  ·exact hv y
 rintro e w' ⟨v,rfl,g',r,H',_,⟨rfl,rfl⟩,FZ,_,hb⟩
 cases FZ;exact ⟨rfl,XQ hb⟩
end Go.AW
namespace Go.AW
open Go.Proofs Go.Proofs.Shf Go.Shf Go.RowKit
theorem Ao.sorted {g : Gh} {B : Nat} {H : AB} {w : World} (h : Ao g B H w) {id b cap : Nat} {cs cs' : List AV} {c : Array Value} {el : TypeId} {α : Type} [Inhabited α] (enc : α→Value) (dk : Array α)
  (hi : H.get id=some (.cells 1 cs 0)) (hp : g.io id=some (.HC b cap)) (hb : w.heap[b]? = some (.cells c el (0,0))) (hd : dk.size=cs.length) (hl : cs'.length=cs.length)
  (hv : ∀ k,k<cs'.length→Ab g (cs'.getD k nv) (enc dk[k]!)) (n : Nat) (os : Array Obj) :
  Ao g B (H.set id (.cells 1 cs' 0)) (Sort.grow (Sort.putRow enc (Sort.ahead w n) b 0 dk) os)∧Below B w (Sort.grow (Sort.putRow enc (Sort.ahead w n) b 0 dk) os):=by
 obtain ⟨p,NZ,hr⟩:=h.ob id _ hi;rw [hp] at NZ; cases NZ;simp only [Aj] at hr
 obtain ⟨h1,h2,h3,h4,c0,el0,h5,h6,h7,h8⟩:=hr;rw [hb] at h5; cases h5
 have vm : b<w.heap.size:=(Array.getElem?_eq_some_iff.1 hb).1
 have CU : (Sort.putRow enc w b 0 dk).heap.size=w.heap.size:=by simp [Sort.putRow,Sort.mapBlock]
 have jI : (Sort.putRow enc w b 0 dk).heap[b]? = some (.cells (Sort.putCells enc 0 dk c) el (0,0)):=by
  show (w.heap.modify b _)[b]? = _
  rw [Array.getElem?_modify,if_pos rfl,hb]; rfl
 have K6 : (Sort.putCells enc 0 dk c).size=c.size:=by simp [Sort.putCells]
 have Ih : ∀ k,k<dk.size→(Sort.putCells enc 0 dk c).getD k undef=enc dk[k]! := by
  intro k hk
  have Hm : k<c.size:=by omega
  have hk3 : k<(Sort.putCells enc 0 dk c).size:=by omega
  simp only [Array.getD,hk3,dif_pos]
  simp [Sort.putCells,hk]
 have hW:=h.write id b cap 1 cs cs' 0 c (Sort.putCells enc 0 dk c) el hi hp hb jI CU (fun k hk=>by
  show (w.heap.modify b _)[k]? = _
  rw [Array.getElem?_modify,if_neg (by omega)]) K6 (by omega) (by omega) (by omega) (by omega) fun k hk=>by
   rw [Ih k (by omega)]; exact hv k hk
 have YY : ∀ k,k<w.heap.size→(Sort.grow (Sort.putRow enc (Sort.ahead w n) b 0 dk) os).heap[k]? = (Sort.putRow enc w b 0 dk).heap[k]? := by
  intro k hk;rw [LS,Array.getElem?_append_left (by simpa using hk)]; rfl
 refine ⟨hW.grow ?_ fun k hk=>YY k (by omega),rfl,rfl,rfl, ?_,fun k hk=>?_, ?_⟩
 ·rw [LS,CU]; simp
 ·rw [LS]; simp
 ·rw [YY k (by omega)]
  show (w.heap.modify b _)[k]? = _
  rw [Array.getElem?_modify,if_neg (by omega)]
 ·show w.drawn≤w.drawn+n
  omega
end Go.AW
namespace Go.AW
open Go.Proofs Go.Proofs.Shf Go.Shf Go.RowKit
def Sn (n : Nat) [Inhabited (Fin n)] (cf : Fin n→Fin n→Int) : Prop :=
 ∀ (b cap : Nat) (w : World) (enc : Fin n→Value),(∀ x,(enc x).oneCell'=true) →
  (∀ (m : Nat) (os : Array Obj) (dk : Array (Fin n)),dk.size=(Array.ofFn fun i : Fin n=>i).size→∀ x y : Fin n,
   Calls Tryz.prog 344 (#[enc x,enc y]++#[]) (Sort.grow (Sort.putRow enc (Sort.ahead w m) b 0 dk) os) fun e w'=>e=.returned (.int .i64 (cf x y))∧∃ q os',w'=Sort.grow ((Sort.grow (Sort.putRow enc (Sort.ahead w m) b 0 dk) os).drewN q) os') →
  Sort.Holds enc w b 0 (Array.ofFn fun i : Fin n=>i)→b<w.heap.size →
  Calls Tryz.prog 343 #[.slice (some ⟨b,0,none⟩) (Array.ofFn fun i : Fin n=>i).size cap,.func (.func 344) #[] #[]] w fun e w' =>
   e=.returned (.tuple #[])∧∃ d' m os,Sort.PermIn 0 (Array.ofFn fun i : Fin n=>i).size (Array.ofFn fun i : Fin n=>i) d'∧Sort.SortedIn (fun x y=>decide (cf x y<0)) 0 (Array.ofFn fun i : Fin n=>i).size d'∧w'=Sort.grow (Sort.putRow enc (Sort.ahead w m) b 0 d') os
theorem oR {g : Gh} {l : List AV} {u : Value} (h : Ab g (.sl l) u) : u.oneCell'=true:=by
 cases h <;> rfl
theorem eB (B : Nat) (S : List (List Int)) [Inhabited (Fin S.length)] (nd : S.Nodup) (aN : Sn S.length fun x y=>cmp (S.getD x default) (S.getD y default)) (TE : Enters Tryz.prog 343) {H0 H : AB} {l : List (Nat × AF)} {id : Nat} {K : Am}
  (o : AA H0 H ((id,.cells 1 (S.map iL) 0)::l)) (hk : ∀ (H' : AB) (S' : List (List Int)),S'.Perm S→(S'.Pairwise fun s t=>cmp s t<0)→AA H0 H' ((id,.cells 1 (S'.map iL) 0)::l)→K (.CG []) H') :
  CB B 343 [.buf id S.length,.fn (.func 344) []] H K:=by
 refine ⟨TE,fun g w vs hW hv=>?_⟩
 have hS0 : 0<S.length:=(default : Fin S.length).pos
 have h0:=o.h0;simp only at h0
 obtain ⟨p,hp,hr⟩:=hW.ob id _ h0
 cases p with
 | nil=>simp only [Aj] at hr; have:=hr.1; simp at this; rw [this] at hS0; simp at hS0
 | mp b=>simp [Aj] at hr
 | HC b cap =>
  simp only [Aj] at hr
  obtain ⟨r1,r2,r3,r4,c,el,r5,r6,r7,r8⟩:=hr;rw [List.length_map] at r7 r8
  obtain ⟨KB,CF⟩:=hv
  obtain ⟨v0,v1,rfl⟩ : ∃ v0 v1,vs=#[v0,v1]:=by
   rcases vs with ⟨l⟩
   simp only [List.length_cons,List.length_nil] at KB
   match l,KB with
   | [a,b],_=>exact ⟨a,b,rfl⟩
  have e0 : Ab g (.buf id S.length) v0:=CF 0 (by simp)
  have e1 : Ab g (.fn (.func 344) []) v1:=CF 1 (by simp)
  have hv0' : ∃ cap',v0=.slice (some ⟨b,0,none⟩) S.length cap':=by
   generalize hn : S.length=n at *
   cases e0 with
   | DX _ hq=>rw [hq] at hp; cases hp
   | buf _ _ b' cap' hq=>rw [hq] at hp; cases hp; exact ⟨_,rfl⟩
  obtain ⟨cap',rfl⟩:=hv0'
  have hv1' : v1=.func (.func 344) #[] #[]:=by
   cases e1 with
   | fn _ _ vs hs _ =>
    have : vs=#[]:=Array.eq_empty_of_size_eq_zero (by simpa using hs);rw [this]
  subst hv1'
  have CU : (Array.ofFn fun i : Fin S.length=>i).size=S.length:=by simp
  have vm : b<w.heap.size:=(Array.getElem?_eq_some_iff.1 r5).1
  have Q0 : g.fm b=none:=by
   cases e : g.fm b with
   | none=>rfl
   | some es=>obtain ⟨clk,h⟩:=hW.fm _ _ e; rw [r5] at h; cases h
  have sP : ∀ x : Fin S.length,Ab g (iL (S.getD x default)) (c.getD x undef):=fun x=>by
   have:=r8 x x.2; rw [getD_map S x.2] at this; exact this
  have hl:=aN b cap' w (fun x=>c.getD x undef) (fun x=>by
   have:=sP x;exact oR this) (dY hW (fun i=>S.getD i default) b _ (fun o=>r4 o (Nat.zero_le _)) Q0 (fun x : Fin S.length=>x.val) _ sP) (fun j hj=>?_) vm
  ·rw [CU] at hl;refine hl.mono ?_
   rintro e w' ⟨rfl,d',m,os,Er,QD,rfl⟩
   have Mj : d'.size=S.length:=by rw [Er.1,CU]
   have Ym : d'.toList.Perm (Array.ofFn fun i : Fin S.length=>i).toList:=by
    have:=Er.2.2;rw [Array.extract_eq_self_of_le (by omega),Array.extract_eq_self_of_le (by omega)] at this;exact this
   have VH : (Array.ofFn fun i : Fin S.length=>i).toList.map (fun i : Fin S.length=>S.getD i default)=S:=by
    apply List.ext_getElem (by simp)
    intro i h1 h2
    simp [gE,h2]
   have hSp : (d'.toList.map fun i : Fin S.length=>S.getD i default).Perm S:=by
    have:=Ym.map fun i : Fin S.length=>S.getD i default
    rwa [VH] at this
   have Cj : ∀ k (hk : k<d'.size),d'[k]! = d'[k]:=fun k hk=>getElem!_pos d' k hk
   have hpw : (d'.toList.map fun i : Fin S.length=>S.getD i default).Pairwise fun s t=>cmp s t<0:=by
    rw [List.pairwise_iff_getElem]
    intro i j hi hj n7;rw [List.length_map,Array.length_toList] at hi hj
    have h1:=QD i j (Nat.zero_le _) n7 (by omega);rw [Cj i hi,Cj j hj] at h1
    have h2 : ¬ cmp (S.getD d'[j] default) (S.getD d'[i] default)<0:=of_decide_eq_false h1
    have Bp:=(hSp.nodup_iff.mpr nd);rw [List.nodup_iff_pairwise_ne,List.pairwise_iff_getElem] at Bp
    have h3:=Bp i j (by simpa using hi) (by simpa using hj) n7;simp only [List.getElem_map,Array.getElem_toList] at h3 ⊢
    have h4:=Gt (S.getD d'[i] default) (S.getD d'[j] default)
    have h5 : cmp (S.getD d'[i] default) (S.getD d'[j] default)≠0:=fun e=>h3 (Ca.mp e)
    show cmp (S.getD d'[i] default) (S.getD d'[j] default)<0
    generalize cmp (S.getD d'[i] default) (S.getD d'[j] default)=A at *
    generalize cmp (S.getD d'[j] default) (S.getD d'[i] default)=C at *;omega
   obtain ⟨q1,q2⟩:=hW.sorted (fun x : Fin S.length=>c.getD x undef) d' h0 hp r5 (by rw [Mj]; simp) (cs':=(d'.toList.map fun i : Fin S.length=>S.getD i default).map iL) (by simp [Mj]) (fun k hk=>by
    rw [List.length_map,List.length_map,Array.length_toList] at hk;rw [Cj k hk]
    have : ((d'.toList.map fun i : Fin S.length=>S.getD i default).map iL).getD k nv=iL (S.getD d'[k] default):=by simp [gE,hk]
    rw [this]; exact sP _) m os
   exact ⟨_,rfl,g,.CG [],_,.refl g,hk _ _ hSp hpw (o.put _),.CG [] #[] rfl (by simp),q1,q2⟩
  ·rw [CU] at hj
   have hjc : j<c.size:=by omega
   refine ⟨?_, ?_⟩
   ·simp [World.cell?,r5,hjc,hj]
   ·simp [World.frozen?,r5]
end Go.AW
namespace Go.Proofs.Shf
open Go.AW Go.Proofs Go.Shf
theorem XA {c : Ay} {x : Int} : c.Az x []:=⟨by simp [Ht],by simp,by simp,by simp⟩
structure nF (c : Ay) (x : Int) (S : List (List Int)) (k j : Nat) : Prop where
 z : []∈S
 nd : S.Nodup
 sv : ∀ t,t∈S→c.Az x t
 dn : ∀ i,i<k→∀ a,a∈outs c x→Bl c (S.getD i default++[a])∈S
 pt : ∀ i,i<j→i<(outs c x).length→Bl c (S.getD k default++[(outs c x).getD i default])∈S
def O3 : Prop:=Go.AW.Enters Tryz.prog 343∧∀ (S : List (List Int)) [Inhabited (Fin S.length)],S.length≤16→Sn S.length fun x y=>cmp (S.getD x default) (S.getD y default)
open Classical in
theorem Z1 (B : Nat) (aN : O3) (c : Ay) (hc : c.Is) (x : Nat) (hx : x<c.AO.toNat) : PB B 334 [.ptr c.cells,.int .i64 x] (.CG [BA (if OM c x then Gl c x else []),.bool (dec (OM c x))]):=by
 refine ⟨fun H0=>ah.go fun Gi=>?_⟩
 have hm:=hc.1.m
 have F3:=hc.1.o
 have IQ:=hc.1.HN
 have l5 : (outs c x).length≤40:=by
  rw [outs,List.length_map];refine Nat.le_trans (List.length_filter_le _ _) ?_;rw [List.length_range]; omega
 have hLm : ∀ a,a∈outs c x→(0≤a∧a.toNat<c.AJ.length)∧ix c.AJ a=x:=fun a ha=>by have:=BT.mp ha; exact ⟨⟨this.1,this.2.1⟩,this.2.2⟩
 refine tt ?_;refine Ae (.nil _) fun F4 H o=>tt ?_
 refine Dg [0,1] (fun (g : Nat × List (List Int) × Nat)=>[(6,some (.buf g.1 g.2.1.length)),(7,some (.int .i64 (g.2.2 : Int)))])
  (fun m g H=>m=16 - g.2.2∧g.2.2≤g.2.1.length∧g.2.1.length≤16∧nF c x g.2.1 g.2.2 0∧AA H0 H [(g.1,.cells 1 (g.2.1.map iL) 0)]) 16 (F4,[[]],0)
  ⟨rfl,by simp,by simp,⟨by simp,by simp,fun t ht=>by
   rw [List.mem_singleton] at ht; subst ht;exact XA,by simp,by simp⟩,o⟩ rfl ?_
 clear o
 rintro m ⟨F4,S,k⟩ H ⟨rfl,Me,TA,hW,o⟩;dsimp only at Me TA hW o;refine tt ?_;apply bk <;> intro h1
 ·have AR:=A7 h1
  have w:=ws k;refine tt ?_;refine (GY B c x).go fun _=>?_
  generalize hL : outs c x=L at *;refine tt ?_
  refine AD [0,1,7,21,22] (G:=Nat × List (List Int)) (fun j g=>[(6,some (.buf g.1 g.2.length)),(23,some (.int .i64 (j : Int)))])
   (fun j g H=>k<g.2.length∧g.2.length≤16∧nF c x g.2 k j∧AA H0 H [(g.1,.cells 1 (g.2.map iL) 0)]) L.length (F4,S) ⟨AR,TA,hW,o⟩ rfl ?_
  clear o Me TA hW h1 AR
  rintro j ⟨F4,S⟩ H hj ⟨Me,TA,hW,o⟩;dsimp only at Me TA hW o;refine tt ?_;apply bk <;> intro h2
  ·have Ah:=A7 h2
   have w2:=ws j;refine tt ?_;refine ⟨Ah,Me,Bo (f:=iL) o.h0 Me ?_⟩
   generalize ha : L.getD j default=a at *
   generalize ht : S.getD k default=t at *
   have htm : t∈S:=by rw [← ht]; exact AE.mpr ⟨k,Me,rfl⟩
   have TQ : a∈L:=by rw [← ha]; exact AE.mpr ⟨j,Ah,rfl⟩
   have gK:=hW.sv t htm
   have htl2:=gK.len;refine tt ?_;refine (Ji B t H0 H _ o).own fun gF A H o hA=>?_;rw [hA] at o ⊢;refine tt ?_;refine Ad (f:=iI) a o rfl rfl (by simp only [AL]; omega) fun gF H o=>tt ?_;refine Ks 1 rfl o rfl fun H o=>tt ?_
   have lr : ∀ b,b∈t++[a]→(0≤b∧b.toNat<c.AJ.length)∧ix c.AJ b=x:=fun b hb=>by
    rw [List.mem_append,List.mem_singleton] at hb
    rcases hb with hb | rfl
    ·exact gK.arr hb
    ·exact hLm _ TQ
   refine (XH B c hc.1 (t++[a]) (fun b hb=>(lr b hb).1)).go fun _=>?_
   have gG:=IC hc lr
   generalize hs : Bl c (t++[a])=s at *;refine tt ?_;refine Ai o fun Lv H o=>tt ?_;refine sw o fun H o=>tt ?_;refine D8 10 o rfl fun H o=>AY ?_;refine tt ?_;refine B7.FV (es:=[BA S,.fn (.func 342) [.ptr [iL s]]]) (.bool _) rfl (fun i hi=>?_) (NR B S s).run ?_
   ·obtain rfl | rfl : i=0∨i=1:=by simp only [List.length_cons,List.length_nil] at hi; omega
    ·exact Th o rfl
    ·exact DA _
   by_cases Eo : s∈S
   ·rw [Aw Eo];refine tw w2 ?_;refine A5 (F4,S) Ah ⟨Me,TA,⟨hW.z,hW.nd,hW.sv,hW.dn,fun i hi hiL=>?_⟩,o⟩ rfl
    by_cases e : i=j
    ·subst e; rw [hL,ha,ht,hs]; exact Eo
    ·exact hW.pt i (by omega) hiL
   ·rw [Aa Eo];refine tt ?_;apply bk <;> intro h3
    ·have B8 : S.length=16:=by have:=A7 h3; omega
     refine tt ?_;refine A6 ?_ o.sub
     have hnf : ¬ OM c x:=?_
     ·rw [Aa hnf,if_neg hnf]; rfl
     ·refine OM.no (M:=S++[s]) ?_ ?_ (by simp; omega)
      ·rw [List.nodup_append];refine ⟨hW.nd,by simp,fun a ha b hb=>?_⟩;rw [List.mem_singleton] at hb
       rintro rfl; rw [hb] at ha; exact Eo ha
      ·intro u hu;rw [List.mem_append,List.mem_singleton] at hu
       rcases hu with hu | rfl
       ·exact hW.sv u hu
       ·exact gG
    ·refine tt ?_
     have B8 : ¬ S.length=16:=fun e=>by rw [e] at h3; simp at h3
     have IY : ∀ i,i<S.length→(S++[s]).getD i default=S.getD i default:=fun i hi=>by
      simp [gE,List.getElem?_append_left hi]
     refine Ad (f:=iL) s o rfl rfl (by simp only [AL]; omega) fun F4 H o=>?_;refine tw w2 ?_;refine A5 (F4,S++[s]) Ah ⟨by simp; omega,by simp; omega,⟨by simp [hW.z], ?_,fun u hu=>?_,fun i hi b hb=>?_,fun i hi hiL=>?_⟩,o⟩ rfl
     ·rw [List.nodup_append];refine ⟨hW.nd,by simp,fun a ha b hb=>?_⟩;rw [List.mem_singleton] at hb
      rintro rfl; rw [hb] at ha; exact Eo ha
     ·rw [List.mem_append,List.mem_singleton] at hu
      rcases hu with hu | rfl
      ·exact hW.sv u hu
      ·exact gG
     ·rw [IY i (by omega)];exact List.mem_append_left _ (hW.dn i hi b hb)
     ·rw [IY k Me]
      by_cases e : i=j
      ·subst e; rw [hL,ha,ht,hs]; simp
      ·exact List.mem_append_left _ (hW.pt i (by omega) hiL)
  ·have Ah:=A9 h2;refine tt ?_;refine ⟨16 - (k+1),_,H,by omega,⟨(F4,S,k+1),⟨rfl,by simp only; omega,TA,⟨hW.z,hW.nd,hW.sv,fun i hi b hb=>?_,by simp⟩,o⟩,rfl⟩,by rw [w]; exact .refl _ _⟩;dsimp only at hi
   by_cases e : i=k
   ·subst e;rw [hL] at hb
    obtain ⟨n,hn,rfl⟩:=AE.mp hb
    have hnj : n<j:=Nat.lt_of_lt_of_le hn (Nat.le_of_not_lt Ah)
    have:=hW.pt n hnj (by rw [hL]; exact hn);rw [hL] at this; exact this
   ·exact hW.dn i (by omega) b hb
 ·have AR:=A9 h1;refine tt ?_
  have Ak:=PA hc hW.z hW.sv fun t ht a ha=>by
   obtain ⟨i,hi,rfl⟩:=AE.mp ht;exact hW.dn i (by omega) a ha
  have rQ : 0<S.length:=List.length_pos_of_mem hW.z
  letI : Inhabited (Fin S.length):=⟨⟨0,rQ⟩⟩
  refine eB B S hW.nd (aN.2 S TA) aN.1 o fun H S' hp hs o=>?_
  have nZ : Ie c x S':=⟨hs,fun s=>by rw [hp.mem_iff]; exact ⟨hW.sv s,Ak s⟩⟩
  have Bc : OM c x:=⟨S',nZ,by rw [hp.length_eq]; exact TA⟩
  have hS' : S'=Gl c x:=nZ.uniq (LB Bc).1;refine tt ?_;refine Al o hp.length_eq.symm fun H o=>tt ?_;exact A6 (by rw [Aw Bc,if_pos Bc,hS']) o.sub
theorem Vz (B : Nat) (aN : O3) (c : Ay) (hc : c.Is) : Tp B c:=fun x hx=>by
 classical
 exact ⟨_,Z1 B aN c hc x hx,fun h=>by rw [if_pos h]; exact ⟨rfl,(LB h).2⟩⟩
end Go.Proofs.Shf
namespace Go.Proofs
open Go.Shelf
def Tryz.Z2 : Go.Shelf.Ren:=⟨fun | 6=>343 | 15=>347 | 14=>346 | 28=>356 | 29=>357 | 20=>348 | 21=>349 | 22=>350 | 23=>351 | 24=>352 | 25=>353 | 26=>354 | 27=>355 | 46=>358 | 47=>359 | 48=>360 | 49=>361 | 50=>362 | 57=>363 | n=>n,fun | 22=>136 | 24=>199 | 25=>381 | 3=>3 | 39=>126 | 0=>0 | 53=>398 | 55=>65 | 4=>4 | 46=>391 | 45=>390 | 50=>395 | 5=>5 | 9=>9 | 66=>400 | 70=>404 | 76=>406 | 77=>407 | n=>n,fun | n=>n⟩
theorem Tryz.zO : Go.Proofs.SlLaysF.n6 Tryz.prog Tryz.Z2:={
 mixed:=by kernel_rfl
 f6:=⟨Tryz.f343.name,by decide,Tryz.func343.trans (congrArg some (by kernel_rfl))⟩
 f14:=⟨Tryz.f346.name,by decide,Tryz.func346.trans (congrArg some (by kernel_rfl))⟩
 f15:=Tryz.func347.trans (congrArg some (by kernel_rfl))
 f20:=⟨Tryz.f348.name,by decide,Tryz.func348.trans (congrArg some (by kernel_rfl))⟩
 f21:=⟨Tryz.f349.name,by decide,Tryz.func349.trans (congrArg some (by kernel_rfl))⟩
 f22:=⟨Tryz.f350.name,by decide,Tryz.func350.trans (congrArg some (by kernel_rfl))⟩
 f23:=⟨Tryz.f351.name,by decide,Tryz.func351.trans (congrArg some (by kernel_rfl))⟩
 f24:=⟨Tryz.f352.name,by decide,Tryz.func352.trans (congrArg some (by kernel_rfl))⟩
 f25:=⟨Tryz.f353.name,by decide,Tryz.func353.trans (congrArg some (by kernel_rfl))⟩
 f26:=⟨Tryz.f354.name,by decide,Tryz.func354.trans (congrArg some (by kernel_rfl))⟩
 f27:=⟨Tryz.f355.name,by decide,Tryz.func355.trans (congrArg some (by kernel_rfl))⟩
 f28:=Tryz.func356.trans (congrArg some (by kernel_rfl))
 f29:=Tryz.func357.trans (congrArg some (by kernel_rfl))
 f46:=⟨Tryz.f358.name,by decide,Tryz.func358.trans (congrArg some (by kernel_rfl))⟩
 f47:=Tryz.func359.trans (congrArg some (by kernel_rfl))
 f48:=Tryz.func360.trans (congrArg some (by kernel_rfl))
 f49:=⟨Tryz.f361.name,by decide,Tryz.func361.trans (congrArg some (by kernel_rfl))⟩
 f50:=⟨Tryz.f362.name,by decide,Tryz.func362.trans (congrArg some (by kernel_rfl))⟩
 f57:=⟨Tryz.f363.name,by decide,Tryz.func363.trans (congrArg some (by kernel_rfl))⟩
 t0:=Tryz.underlying0
 a0:=Tryz.isAgg0
 z0:=Tryz.sizeOf0
 v0:=Tryz.zeroValue0
 t3:=Tryz.underlying3
 a3:=Tryz.isAgg3
 z3:=Tryz.sizeOf3
 v3:=Tryz.zeroValue3
 t4:=Tryz.underlying4
 a4:=Tryz.isAgg4
 z4:=Tryz.sizeOf4
 v4:=Tryz.zeroValue4
 t5:=Tryz.underlying5
 a5:=Tryz.isAgg5
 z5:=Tryz.sizeOf5
 v5:=Tryz.zeroValue5
 t9:=Tryz.underlying9
 a9:=Tryz.isAgg9
 z9:=Tryz.sizeOf9
 v9:=Tryz.zeroValue9
 t22:=Tryz.underlying136
 a22:=Tryz.isAgg136
 z22:=Tryz.sizeOf136
 v22:=Tryz.zeroValue136
 a24:=Tryz.isAgg199
 z24:=Tryz.sizeOf199
 t25:=Tryz.underlying381
 a25:=Tryz.isAgg381
 z25:=Tryz.sizeOf381
 v25:=Tryz.zeroValue381
 t39:=Tryz.underlying126
 a39:=Tryz.isAgg126
 z39:=Tryz.sizeOf126
 v39:=Tryz.zeroValue126
 t45:=Tryz.underlying390
 a45:=Tryz.isAgg390
 z45:=Tryz.sizeOf390
 v45:=Tryz.zeroValue390
 t46:=Tryz.underlying391
 a46:=Tryz.isAgg391
 z46:=Tryz.sizeOf391
 v46:=Tryz.zeroValue391
 t50:=Tryz.underlying395
 a50:=Tryz.isAgg395
 z50:=Tryz.sizeOf395
 v50:=Tryz.zeroValue395
 t53:=Tryz.underlying398
 a53:=Tryz.isAgg398
 z53:=Tryz.sizeOf398
 v53:=Tryz.zeroValue398
 t55:=Tryz.underlying65
 a55:=Tryz.isAgg65
 z55:=Tryz.sizeOf65
 v55:=Tryz.zeroValue65
 t66:=Tryz.underlying400
 a66:=Tryz.isAgg400
 z66:=Tryz.sizeOf400
 v66:=Tryz.zeroValue400
 t70:=Tryz.underlying404
 a70:=Tryz.isAgg404
 z70:=Tryz.sizeOf404
 v70:=Tryz.zeroValue404
 t76:=Tryz.underlying406
 a76:=Tryz.isAgg406
 z76:=Tryz.sizeOf406
 v76:=Tryz.zeroValue406
 t77:=Tryz.underlying407
 a77:=Tryz.isAgg407
 z77:=Tryz.sizeOf407
 v77:=Tryz.zeroValue407 }
end Go.Proofs
namespace Go.Proofs.Shf
open Go.AW Go.Proofs Go.Shf Go.RowKit Go.Sort
theorem lP {a b c : List Int} (h1 : ¬ cmp a b<0) (h2 : ¬ cmp b c<0) : ¬ cmp a c<0:=by
 intro h
 have n1:=Gt a b
 have n2:=Gt b c
 have n3:=Gt a c
 by_cases e1 : cmp a b=0
 ·rw [Ca] at e1; subst e1; exact h2 h
 ·by_cases e2 : cmp b c=0
  ·rw [Ca] at e2; subst e2; exact h1 h
  ·have:=Hf (a:=c) (b:=b) (c:=a) (by omega) (by omega);omega
theorem lS {n : Nat} (S : List (List Int)) : SWO (ltOf fun x y : Fin n=>cmp (S.getD x default) (S.getD y default)) where
 irrefl x:=by simp [ltOf,Ca.mpr rfl]
 trans x y z h1 h2:=decide_eq_true (Hf (of_decide_eq_true h1) (of_decide_eq_true h2))
 ntrans x y z h1 h2:=decide_eq_false (lP (of_decide_eq_false h1) (of_decide_eq_false h2))
theorem bN (S : List (List Int)) [Inhabited (Fin S.length)] (CU : S.length<4611686018427387904) : Sn S.length fun x y=>cmp (S.getD x default) (S.getD y default):=by
 intro b cap w enc h1 gR hH vm
 have eg : ∀ args w,(callFunc 344 args).run Tryz.prog w=.ok (.enter 344 args) w:=enters_of Tryz.func344 (by kernel_rfl) rfl
 have h:=Any.slices_SortFunc Tryz.zO enc h1 (fun x y=>cmp (S.getD x default) (S.getD y default)) (lS S) 344 #[] b 0 cap (Array.ofFn fun i=>i) w eg gR hH vm (by simpa using CU);exact h
end Go.Proofs.Shf
namespace Go.Proofs.Shf
open Go.AW Go.Proofs Go.Shf
theorem dX : O3:=⟨⟨_,Tryz.func343,by kernel_rfl,by kernel_rfl⟩,fun S _ h=>bN S (by omega)⟩
theorem lO {α : Type} (f : α→AV) (neg : Bool) (l : List α) (K : Am) (H : AB) : WA neg (some (mL f l)) K H=((l=[]→∀ b,K (.bool b) H)∧(l≠[]→K (.bool neg) H)):=by
 simp [WA,mL]
theorem RW (B : Nat) (l : List Bool) : PB B 328 [mL AV.bool l] (mL AV.bool l):=by
 refine ⟨fun H0=>c328.go fun ⟨hf,_⟩=>?_⟩
 have hl:=AM hf;try simp only [go_sem,↓reduceIte,reduceEqDiff,reduceAdd,reduceMul,reduceLeDiff,reduceLT,lO]
 refine ⟨fun e b=>?_,fun e=>?_⟩
 ·subst e
  cases b
  ·refine tt ?_;refine Ag AV.bool (.nil _) fun id H o=>tt ?_;refine Ed (f:=AV.bool) (r:=[]) o rfl (by simp [AL]) fun id H o=>tt ?_;refine Al o rfl fun H o=>tt ?_;exact A6 rfl o.sub
  ·refine tt ?_;exact A6 rfl (.refl _)
 ·refine tt ?_;refine Ag AV.bool (.nil _) fun id H o=>tt ?_;refine Ed (f:=AV.bool) o rfl (by simpa using hl) fun id H o=>tt ?_;refine Al o rfl fun H o=>tt ?_;exact A6 rfl o.sub
theorem Qd (B : Nat) (c : Ay) (s : List Int) (x : Int) (hx : 0≤x∧x.toNat<c.Av.length) : PB B 380 [iL s,.ptr c.cells,.int .i64 x] (.bool (dec (ix c.Av x∈s))):=by
 refine ⟨fun H0=>yh.go fun _=>tt ?_⟩;refine ⟨hx, ?_⟩;refine (SL B s (ix c.Av x)).go fun _=>tt ?_;exact A6 rfl (.refl _)
theorem yj : oW Tryz.prog 199 383:=fun _ _ _=>by kernel_rfl
theorem oV : qF Tryz.prog 199 Go.AW.Z.Xh 380:=fun _ _=>by kernel_rfl
theorem pJ (B : Nat) (c : Ay) (s : List Int) (x : Int) (hx : 0≤x∧x.toNat<c.Av.length) : PB B 337 [.ptr c.cells,.int .i64 x,.Rk 199 (iL s)] (.bool (dec (ix c.Av x∈s))):=by
 refine ⟨fun H0=>c337.go fun _=>?_⟩;unfold pK;refine tt ?_;refine ⟨yj,tt ?_⟩;refine ⟨380,oV, ?_⟩;refine (Qd B c s x hx).go fun _=>tt ?_;exact A6 rfl (.refl _)
end Go.Proofs.Shf
namespace Go.Shf
open Go.AW
theorem k9 {c : Ay} (hc : c.Is) {x : Nat} (hx : x<c.AO.toNat) {s : List Int} (hs : c.Az x s) : ix c.Av x∈s↔s=outs c x:=by
 have ho:=hc.1.o
 have hi:=hc.1.Um (x:=(x : Int)) (by omega)
 have rS:=II hc.1 (x : Int)
 constructor
 ·intro h
  have Cs : ∀ a,a∈outs c x→a∈s:=fun a ha=>by
   obtain ⟨a0,a1,a2⟩:=BT.mp ha
   have h1:=hs.cls _ h a.toNat a1 (by rw [hi.2.2,← a2]; rfl)
   have h2:=hc.ZO (f:=a) ⟨a0,a1⟩;rw [a2] at h2
   have e : (ix c.comp (ix c.Av (x : Int))).getD a.toNat default=a:=h2;rw [e] at h1; exact h1
  exact KR hs.jL rS.jL fun a=>⟨fun ha=>BT.mpr ⟨(hs.QF a ha).1,by have:=hs.QF a ha; omega,hs.src a ha⟩,Cs a⟩
 ·rintro rfl;exact BT.mpr ⟨hi.1.1,hi.1.2,hi.2.1⟩
end Go.Shf
namespace Go.Proofs.Shf
open Go.AW Go.Proofs Go.Shf
theorem kW (B : Nat) (c : Ay) (L : List (List (List Int))) (t : Ds c L) (sz pl : AV) : PB B 327 [.ptr (Dt c L sz pl)] (iL (C4 c L)):=by
 refine ⟨fun H0=>yo.go fun Gi=>?_⟩
 have F3:=t.is.1.o
 have hL:=t.len
 have Ya:=t.is.1.il;refine tt ?_;refine Ae (.nil _) fun Ce H o=>tt ?_
 refine AD [0,12,13] (G:=Nat) (fun x g=>[(3,some (.buf g ((C4 c L).take x).length)),(14,some (.int .i64 (x : Int)))])
  (fun x g H=>AA H0 H [(g,.cells 1 (((C4 c L).take x).map iI) 0)]) L.length Ce o rfl ?_
 clear o
 rintro x Ce H hx o
 replace o : AA H0 H [(Ce,.cells 1 (((C4 c L).take x).map iI) 0)]:=o;refine tt ?_;apply bk <;> intro h1
 ·have AR:=A7 h1
  have w:=ws x
  have bA : x<c.AO.toNat:=by omega
  have nS:=t.top AR
  have Ak:=t.all x AR
  have Bc:=t.Yh x AR
  have gK:=B9 (C4 c L) (k:=x) (by rw [Hg]; exact AR)
  have IQ : ((C4 c L).take x).length=x:=by rw [List.length_take,Hg]; omega
  generalize htv : (C4 c L).getD x default=tv at *;refine tt ?_;refine ⟨AR, ?_⟩
  generalize hS : L.getD x default=S at *
  have Hq:=Ak.nodup
  refine AD [0,4,12,13,14,19,20] (G:=Nat × List Int) (fun i g=>[(3,some (.buf g.1 g.2.length)),(21,some (.int .i64 (i : Int)))])
   (fun i g H=>g.2=(C4 c L).take x++(if tv<i then [tv] else [])∧AA H0 H [(g.1,.cells 1 (g.2.map iI) 0)]) S.length (Ce,(C4 c L).take x) ⟨by rw [if_neg (by omega)]; simp,o⟩ rfl ?_
  clear o
  rintro i ⟨Ce,A⟩ H hi ⟨hA,o⟩;dsimp only at hA o;refine tt ?_;apply bk <;> intro h2
  ·have Ah:=A7 h2
   have w2:=ws i;refine tt ?_;refine ⟨Ah, ?_⟩;refine (pJ B c (S.getD i default) x ⟨by omega,by omega⟩).go fun _=>?_
   have EZ : c.Az x (S.getD i default):=(Ak.mem _).mp (AE.mpr ⟨i,Ah,rfl⟩)
   have lW:=k9 t.is bA EZ
   by_cases ht : (i : Int)=tv
   ·subst ht
    have he : S.getD i default=outs c x:=by have:=nS.2; rwa [AH] at this
    rw [Aw (lW.mpr he)]
    have hA' : A=(C4 c L).take x:=by rw [hA,if_neg (by omega)]; simp
    refine tt ?_;refine Ad (f:=iI) (i : Int) o rfl rfl (by rw [hA',IQ]; simp only [AL]; omega) fun Ce H o=>?_;refine tw w2 ?_;exact A5 (Ce,A++[(i : Int)]) Ah ⟨by simp only; rw [hA',if_pos (by omega)],o⟩ rfl
   ·have Bp : ¬ S.getD i default=outs c x:=fun e=>by
     apply ht
     have h3 : S.getD tv.toNat default=S.getD i default:=by rw [e,← nS.2]; rfl
     have D1:=nS.1.2
     have:=(List.getElem_inj Hq (h₀:=D1) (h₁:=Ah)).mp (by simpa [gE,D1,Ah] using h3);omega
    rw [Aa (fun e=>Bp (lW.mp e))];refine tw w2 ?_;refine A5 (Ce,A) Ah ⟨?_,o⟩ rfl
    simp only;rw [hA]
    by_cases e : tv<i
    ·rw [if_pos e,if_pos (by omega)]
    ·rw [if_neg e,if_neg (by omega)]
  ·have Ah:=A9 h2
   obtain rfl : i=S.length:=by omega
   rw [if_pos (by omega),← gK] at hA;subst hA;refine tw w ?_;exact A5 Ce AR o rfl
 ·have AR:=A9 h1
  obtain rfl : x=L.length:=by omega
  rw [List.take_of_length_le (by rw [Hg]; omega)] at o ⊢;refine tt ?_;refine Al o rfl fun H o=>tt ?_;exact A6 rfl o.sub
end Go.Proofs.Shf
namespace Go.AW
open Go.Proofs Go.Shf Go.Proofs.Shf
theorem T6.pos {α : Type} {O : Ob→AV→α→Prop} {p : Ob} {X : AV} {A : List α} (h : T6 O p X A) {i : Nat} (hi : i<A.length) : ∃ id Xs o,p=(id,.cells 1 Xs 0)::o∧X=.buf id Xs.length∧Bd O Xs A o:=by
 rcases h with ⟨_,_,rfl⟩ | h
 ·simp at hi
 ·exact h
end Go.AW
namespace Go.Proofs.Shf
open Go.AW Go.Proofs Go.Shf
theorem dC {l : List AV} {i : Nat} (h : i<l.length) : l.set i (l.getD i nv)=l:=by
 apply List.ext_getElem?
 intro j
 by_cases e : j=i
 ·subst e; simp [gE,h]
 ·rw [List.getElem?_set_ne (by omega)]
end Go.Proofs.Shf
namespace Go.AW
open Go.Proofs Go.Shf Go.Proofs.Shf
theorem AA.row {α : Type} [Inhabited α] {O : Ob→AV→α→Prop} {H0 H : AB} {l q : Ob} {id : Nat} {Xs : List AV} {A : List α} (o : AA H0 H (((id,.cells 1 Xs 0)::q)++l)) (hr : Bd O Xs A q) {i : Nat} (hi : i<Xs.length) :
  ∃ p r,AA H0 H (p++((id,.cells 1 Xs 0)::(r++l)))∧O p (Xs.getD i nv) (A.getD i default) ∧
   ∀ a' p' H',O p' (Xs.getD i nv) a'→AA H0 H' (p'++((id,.cells 1 Xs 0)::(r++l)))→∃ q',Bd O Xs (A.set i a') q'∧AA H0 H' (((id,.cells 1 Xs 0)::q')++l):=by
 obtain ⟨p,r,h1,h2,h3⟩:=hr.split i hi;refine ⟨p,r,o.perm ?_,h2,fun a' p' H' hO o'=>?_⟩
 ·refine List.Perm.trans ?_ (List.perm_middle (a:=(id,AF.cells 1 Xs 0)) (l₁:=p) (l₂:=r++l)).symm;refine List.Perm.cons _ ?_;rw [← List.append_assoc];exact List.Perm.append_right l h1
 ·obtain ⟨q',k1,k2⟩:=h3 _ _ _ hO;rw [dC hi] at k1;refine ⟨q',k1,o'.perm ?_⟩;refine List.Perm.trans (List.perm_middle (a:=(id,AF.cells 1 Xs 0)) (l₁:=p') (l₂:=r++l)) ?_;refine List.Perm.cons _ ?_;rw [← List.append_assoc];exact List.Perm.append_right l k2.symm
end Go.AW
namespace Go.AW
open Go.RowKit
theorem T6.app {α : Type} {O : Ob→AV→α→Prop} {p q l : Ob} {X Y : AV} {A : List α} {a : α} {H0 H : AB} {K : Am} (h : T6 O q X A) (hy : O p Y a) (h1 : Y.cells=[Y]∧Y.one=true) (o : AA H0 H (p++(q++l))) (hm : A.length+1≤AL)
  (hk : ∀ X' q' H',X'.one=true→T6 O q' X' (A++[a])→AA H0 H' (q'++l)→K X' H') : DW 1 (some X) (some (.sl [Y])) K H:=by
 have Eb : DK 1 [Y]:=by
  intro e he;rw [List.mem_singleton] at he; subst he;rw [h1.1];exact ⟨rfl,fun c hc=>by rw [List.mem_singleton] at hc; subst hc; exact h1.2⟩
 have Fc : flat [Y]=[Y]:=by simp [flat,h1.1]
 rcases h with ⟨rfl,rfl,rfl⟩ | ⟨id,Xs,r,rfl,rfl,hr⟩
 ·simp only [DW,Ct,Sd];refine ⟨⟨by simp [AL],by simp [AL],Eb⟩,fun id hn=>?_⟩;rw [Fc];refine hk (.buf id 1) ((id,.cells 1 [Y] 0)::p) _ rfl (.inr ⟨id,[Y],p,rfl,rfl, ?_⟩) ?_
  ·have:=Bd.cons hy Bd.nil;rw [List.append_nil] at this; exact this
  ·have:=o.new hn (.cells 1 [Y] 0)
   simpa using this
 ·have o2 : AA H0 H ((id,.cells 1 Xs 0)::(p++(r++l))):=by
   refine o.perm ?_
   simp
  have h0:=o2.h0;simp only at h0
  have hl:=hr.len;simp only [DW,h0,Ct,Gc];refine ⟨⟨trivial,by simp,by simp; omega,by simp; omega,Eb⟩,fun CT hn=>?_⟩;rw [Fc];refine hk (.buf CT (Xs.length+1)) ((CT,.cells 1 (Xs++[Y]) 0)::(r++p)) _ rfl (.inr ⟨CT,Xs++[Y],r++p,rfl,by simp, ?_⟩) ?_
  ·refine hr.app ?_
   have:=Bd.cons hy Bd.nil;rw [List.append_nil] at this; exact this
  ·have:=o2.mv hn (.cells 1 (Xs++[Y]) 0);refine this.perm (List.Perm.cons _ ?_);rw [← List.append_assoc];exact List.Perm.append_right l List.perm_append_comm
def OB (p : Ob) (X : AV) (b : Bool) : Prop:=p=[]∧X=.bool b
theorem Ow.bool : Ow OB AV.bool where
 io p X a h:=by rw [h.2]; exact .bool _
 pl p X a h x hx:=by rw [h.1] at hx; simp at hx
 ln p X a h g B H w v hW _ hv:=by rw [h.2] at hv; exact hv.mono (Gh.IM hW)
 fz p X a h g B H0 H l w hW o:=by
  obtain ⟨rfl,rfl⟩:=h;exact ⟨g,H,.refl g,hW,o,fun v hv=>hv⟩
abbrev ym:=T6 OB
abbrev SK:=T6 ym
theorem vw : Ow ym (mL AV.bool):=Ow.bool.ls
theorem fy : Ow SK (mL (mL AV.bool)):=vw.ls
theorem bW : ∀ (l : List Bool),Bd OB (l.map AV.bool) l []
 | []=>.nil
 | a::r=>.cons (p:=[]) ⟨rfl,rfl⟩ (bW r)
theorem Bd.x4 {Xs : List AV} {l : List Bool} {o : Ob} (h : Bd OB Xs l o) : o=[]∧Xs=l.map AV.bool:=by
 induction h with
 | nil=>exact ⟨rfl,rfl⟩
 | cons h _ ih=>exact ⟨by rw [h.1,ih.1]; rfl,by rw [h.2,ih.2]; rfl⟩
end Go.AW
namespace Go.Proofs.Shf
open Go.AW Go.Proofs Go.Shf Go.RowKit
theorem ZS (w : World) (b : Nat) (n d s : Int) (hs : ∀ w',(Op.intArith .add .i64 n d).run Tryz.prog w'=.ok (.int .i64 s) w') (hc : w.cell? ⟨b,0,none⟩=some (.int .i64 n)) (hz : w.frozen? ⟨b,0,none⟩=false) :
  Calls Tryz.prog 324 #[.pointer (some ⟨b,0,none⟩),.int .i64 d] w fun e w'=>e=.returned (.int .i64 s)∧w'=w.setCell ⟨b,0,none⟩ (.int .i64 s):=by
 have h204:=run_call_add (P:=Tryz.prog) Tryz.func336 (by kernel_rfl) (by kernel_rfl) (by kernel_rfl) .i64 (by kernel_rfl) hc hz (hs w)
 go_enter Tryz.func324,Tryz.ntmps324
 go_wp2
 go_ret
 exact ⟨rfl,rfl⟩
theorem lC (B : Nat) {H0 H : AB} {l : Ob} {ic : Nat} {n d : Int} {K : Am} (o : AA H0 H ((ic,.cells 1 [iI n] 0)::l)) (hk : ∀ r n' H',AA H0 H' ((ic,.cells 1 [iI n'] 0)::l)→K r H') :
  CB B 324 [.ref ic 0,.int .i64 d] H K:=by
 refine ⟨⟨_,Tryz.func324,by kernel_rfl,by kernel_rfl⟩,fun g w vs hW hv=>?_⟩
 have h0:=o.h0;simp only at h0
 obtain ⟨v0,v1,rfl⟩ : ∃ v0 v1,vs=#[v0,v1]:=by
  have KB:=hv.1
  rcases vs with ⟨l⟩
  simp only [List.length_cons,List.length_nil] at KB
  match l,KB with
  | [a,b],_=>exact ⟨a,b,rfl⟩
 have e0 : Ab g (.ref ic 0) v0:=hv.2 0 (by simp)
 have e1 : Ab g (.int .i64 d) v1:=hv.2 1 (by simp)
 cases e1
 cases e0 with
 | ref _ _ b cap D3 =>
  obtain ⟨c,el,h5,hb,hf,hm,h6,h7,h8⟩:=hW.obj D3 h0
  have D1 : 0<c.size:=by simp at h7; omega
  have KB:=h8 0 (by simp)
  have wQ : w.cell? ⟨b,0,none⟩=some (c.getD 0 undef):=by rw [cell_of_row w b 0 c el (0,0) h5]; exact getD_some D1
  have e2 : c.getD 0 undef=.int .i64 n:=by
   have hx : Ab g (.int .i64 n) (c.getD 0 undef):=KB
   generalize c.getD 0 undef=u at hx
   cases hx; rfl
  rw [e2] at wQ
  have hz : w.frozen? ⟨b,0,none⟩=false:=by simp [World.frozen?,h5]
  refine (ZS w b n d (IntKind.i64.wrap (n+d)) (fun w'=>by simp [Op.intArith]) wQ hz).mono ?_
  rintro e w' ⟨rfl,rfl⟩
  have hbs : b<w.heap.size:=(Array.getElem?_eq_some_iff.1 h5).1
  have Nb : (w.setCell ⟨b,0,none⟩ (.int .i64 (IntKind.i64.wrap (n+d)))).heap[b]? = some (.cells (c.setIfInBounds 0 (.int .i64 (IntKind.i64.wrap (n+d)))) el (0,0)):=by
   simp [World.setCell,Array.getElem?_modify,h5]
  have mj : ∀ k,k≠b→(w.setCell ⟨b,0,none⟩ (.int .i64 (IntKind.i64.wrap (n+d)))).heap[k]? = w.heap[k]? := by
   intro k hk;simp only [World.setCell];rw [Array.getElem?_modify,if_neg (by omega)]
  have CU : (w.setCell ⟨b,0,none⟩ (.int .i64 (IntKind.i64.wrap (n+d)))).heap.size=w.heap.size:=by simp [World.setCell]
  refine ⟨_,rfl,g,.int .i64 (IntKind.i64.wrap (n+d)),H.set ic (.cells 1 [iI (IntKind.i64.wrap (n+d))] 0),.refl g,hk _ _ _ (o.put _),.int _ _, ?_, ?_⟩
  ·refine hW.write ic b cap 1 [iI n] _ 0 c _ el h0 D3 h5 Nb CU mj (by simp) (fun k hk=>by omega) (by simp) (by simp [AL]) (by simp; omega) (fun k hk=>?_)
   have : k=0:=by simp at hk; omega
   subst this
   simp [Array.getD,D1];exact .int _ _
  ·exact ⟨rfl,rfl,rfl,by rw [CU]; exact Nat.le_refl _,fun k hk=>mj k (by omega),Nat.le_refl _⟩
@[go_sem] def NS (cs cc : List AV) (id ic : Nat) (X : AV) (n : Int) (q l : Ob) : Ob:=(id,.cells 4 [.ptr cs,.ptr cc,X,.ref ic 0] 0)::(ic,.cells 1 [iI n] 0)::(q++l)
def Pn (M : List (List Bool)) (x s : Nat) : List (List Bool):=M.set x ((M.getD x default).set s true)
theorem Ui {M : List (List Bool)} {x s : Nat} (h : (M.getD x default).getD s default=true) : Pn M x s=M:=by
 have h1 : ∀ {β : Type} (l : List β) (i : Nat) (d : β),l.set i (l.getD i d)=l:=by
  intro β l i d;apply List.ext_getElem?
  intro j
  by_cases e : j=i
  ·subst e
   by_cases hj : j<l.length
   ·simp [gE,hj]
   ·rw [List.getElem?_eq_none (by simp; omega),List.getElem?_eq_none (by omega)]
  ·rw [List.getElem?_set_ne (by omega)]
 have h2:=h1 (M.getD x default) s default;rw [h] at h2;rw [Pn,h2,h1]
theorem eZ (B : Nat) {cs cc : List AV} {id ic : Nat} {X : AV} {n : Int} {q l : Ob} {M : List (List Bool)} {H0 H : AB} {K : Am} {x s : Int} (hX : SK q X M) (o : AA H0 H (NS cs cc id ic X n q l))
  (hx : 0≤x∧x.toNat<M.length) (hs : 0≤s∧s.toNat<(ix M x).length)
  (hk : ∀ n' q' H',SK q' X (Pn M x.toNat s.toNat)→AA H0 H' (NS cs cc id ic X n' q' l)→K (.CG []) H') :
  CB B 311 [.ref id 0,.int .i64 x,.int .i64 s] H K:=by
 refine c311.go fun _=>?_
 obtain ⟨FK,Xs,r,rfl,rfl,hr⟩:=hX.pos (i:=x.toNat) hx.2
 have IV:=hr.len
 have o1 : AA H0 H ((((FK,.cells 1 Xs 0)::r))++((id,.cells 4 [.ptr cs,.ptr cc,.buf FK Xs.length,.ref ic 0] 0)::(ic,.cells 1 [iI n] 0)::l)):=by
  refine o.perm ?_;simp only [NS]
  have e1 : ((id,AF.cells 4 [.ptr cs,.ptr cc,.buf FK Xs.length,.ref ic 0] 0)::(ic,AF.cells 1 [iI n] 0)::(((FK,AF.cells 1 Xs 0)::r)++l)) =
   [(id,AF.cells 4 [.ptr cs,.ptr cc,.buf FK Xs.length,.ref ic 0] 0),(ic,AF.cells 1 [iI n] 0)]++(((FK,AF.cells 1 Xs 0)::r)++l):=rfl
  rw [e1];refine (List.perm_append_comm).trans ?_;rw [List.append_assoc];exact List.Perm.append_left _ List.perm_append_comm
 obtain ⟨p,r2,o2,hO,back⟩:=o1.row hr (i:=x.toNat) (by omega)
 obtain ⟨Jl,Ys,rr,rfl,hY,jA⟩:=hO.pos (i:=s.toNat) hs.2
 obtain ⟨rfl,rfl⟩:=jA.x4
 have VX : H.get id=some (.cells 4 [.ptr cs,.ptr cc,.buf FK Xs.length,.ref ic 0] 0):=o.h0
 have TO : H.get FK=some (.cells 1 Xs 0):=o1.h0
 have n9 : H.get Jl=some (.cells 1 ((M.getD x.toNat default).map AV.bool) 0):=o2.h0
 have Fg : s.toNat<(M.getD x.toNat default).length:=hs.2;rw [List.length_map] at hY;refine tt ?_;refine Af VX (by simp) (tt ?_);refine ⟨⟨hx.1,by omega⟩,Af TO (by omega) ?_⟩;rw [hY];refine tt ?_;refine ⟨⟨hs.1,Fg⟩, ?_⟩;refine Bo (f:=AV.bool) n9 Fg ?_;refine tt ?_
 cases hm : (M.getD x.toNat default).getD s.toNat default with
 | true =>
  refine tw hm ?_;refine ⟨H,.refl H, ?_⟩;refine hk n _ H ?_ o;rw [Ui hm]; exact hX
 | false =>
  refine tw hm ?_;refine Af VX (by simp) (tt ?_);refine ⟨⟨hx.1,by omega⟩,Af TO (by omega) ?_⟩;rw [hY];refine tt ?_;refine ⟨⟨hs.1,Fg⟩, ?_⟩;refine Bw (f:=AV.bool) true o2 rfl Fg fun H o3=>?_
  obtain ⟨q',XV,o4⟩:=back ((M.getD x.toNat default).set s.toNat true) [(Jl,.cells 1 (((M.getD x.toNat default).set s.toNat true).map AV.bool) 0)] H (by rw [hY]; exact .inr ⟨Jl,_,[],rfl,by simp,bW _⟩) o3
  have o5 : AA H0 H ((ic,.cells 1 [iI n] 0)::((id,.cells 4 [.ptr cs,.ptr cc,.buf FK Xs.length,.ref ic 0] 0)::(((FK,.cells 1 Xs 0)::q')++l))):=by
   refine o4.perm ?_
   have e1 : ((id,AF.cells 4 [.ptr cs,.ptr cc,.buf FK Xs.length,.ref ic 0] 0)::(ic,AF.cells 1 [iI n] 0)::l)=[(id,AF.cells 4 [.ptr cs,.ptr cc,.buf FK Xs.length,.ref ic 0] 0),(ic,AF.cells 1 [iI n] 0)]++l:=rfl;rw [e1,← List.append_assoc];refine (List.Perm.append_right l List.perm_append_comm).trans ?_;rw [List.append_assoc];exact List.Perm.swap _ _ _
  have VX : H.get id=some (.cells 4 [.ptr cs,.ptr cc,.buf FK Xs.length,.ref ic 0] 0):=o5.tl.h0;refine tt ?_;refine Af VX (by simp) (tt ?_);refine lC B o5 fun r n' H o6=>tt ?_;exact ⟨H,.refl H,hk n' ((FK,.cells 1 Xs 0)::q') H (.inr ⟨FK,Xs,q',rfl,rfl,XV⟩) o6.swap⟩
end Go.Proofs.Shf
namespace Go.Proofs.Shf
open Go.AW Go.Proofs Go.Shf
theorem Jf (cs cc : List AV) (id ic : Nat) (X : AV) (n : Int) (q l : Ob) : (NS cs cc id ic X n q l).Perm (q++((id,.cells 4 [.ptr cs,.ptr cc,X,.ref ic 0] 0)::(ic,.cells 1 [iI n] 0)::l)):=by
 have e1 : NS cs cc id ic X n q l=[(id,AF.cells 4 [.ptr cs,.ptr cc,X,.ref ic 0] 0),(ic,AF.cells 1 [iI n] 0)]++(q++l):=rfl;rw [e1];refine (List.perm_append_comm).trans ?_;rw [List.append_assoc];exact List.Perm.append_left _ List.perm_append_comm
noncomputable def QO (c : Ay) : List AV:=Dt c (AN c) (iL (CS (AN c))) (BA (BC c (AN c)))
def L7 (L : List (List (List Int))) : List (List Bool):=L.map fun s=>List.replicate s.length false
theorem OC (B : Nat) (c : Ay) (hc : c.Is) {H0 H : AB} {l : Ob} {K : Am} (o : AA H0 H l) (ES : ¬ Bg c→∀ X,K (.CG [X,.bool false]) H)
  (hk : Bg c→∀ id ic X q H',SK q X (L7 (AN c))→AA H0 H' (NS (QO c) c.cells id ic X 0 q l)→K (.CG [.ref id 0,.bool true]) H') : CB B 310 [.ptr c.cells] H K:=by
 refine wV.go fun _=>?_
 have F3:=hc.1.o;refine tt ?_;refine (QH B c hc (Vz B dX c hc)).go fun _=>?_
 by_cases hf : Bg c
 ·rw [UE,if_pos hf,Aw hf]
  replace hk:=hk hf
  have tab:=Hj hc hf
  have htf:=tab.Yh
  have IQ:=tab.len
  have Kl : QO c=Dt c (AN c) (iL (CS (AN c))) (BA (BC c (AN c))):=rfl
  generalize K6 : QO c=cs at *
  generalize hL : AN c=L at *;subst Kl;refine tt ?_;refine Ai o fun ic H o=>tt ?_;refine nb o fun id H o=>tt ?_
  refine AD [6,24,25] (G:=AV × Ob) (fun k g=>[(26,some (.int .i64 (k : Int)))])
   (fun k g H=>SK g.2 g.1 (L7 (L.take k))∧AA H0 H (NS (Dt c L (iL (CS L)) (BA (BC c L))) c.cells id ic g.1 0 g.2 l)) L.length (.A1,[]) ⟨.inl ⟨rfl,rfl,rfl⟩,o⟩ rfl ?_
  clear o
  rintro k ⟨X,q⟩ H Nl ⟨hX,o⟩;dsimp only at hX o;refine tt ?_;apply bk <;> intro h1
  ·have AR:=A7 h1
   have w:=ws k
   have iY:=htf k AR;refine tt ?_;refine ⟨AR, ?_⟩
   have VX : H.get id=some (.cells 4 [.ptr (Dt c L (iL (CS L)) (BA (BC c L))),.ptr c.cells,X,.ref ic 0] 0):=o.h0;refine Af VX (by simp) (tt ?_);refine ⟨by simp only [AL]; omega, ?_⟩;refine DD AV.bool false rfl o fun Av H o=>tt ?_
   have hY : ym [(Av,.cells 1 ((List.replicate (L.getD k default).length false).map AV.bool) 0)] (.buf Av (L.getD k default).length) (List.replicate (L.getD k default).length false):=.inr ⟨Av,_,[],rfl,by simp,bW _⟩
   have o2:=o.perm (List.Perm.cons _ (Jf _ _ _ _ _ _ _ _));refine hX.app (a:=List.replicate (L.getD k default).length false) hY ⟨rfl,rfl⟩ o2 (by simp [L7,AL]; omega) fun X' q' H QB HJ o3=>?_
   have o4:=o3.perm (Jf (Dt c L (iL (CS L)) (BA (BC c L))) c.cells id ic X 0 q' l).symm;simp only [NS] at o4;refine tt ?_;rw [AV.cells_one QB];refine Ap o4 (by simp) rfl (fun c hc=>by rw [List.mem_singleton] at hc; subst hc; exact QB) fun H o=>?_;have o:=s2 o;refine tw w ?_;refine A5 (X',q') AR ⟨?_,o⟩ rfl
   simp only;rw [B9 L AR,L7,List.map_append]; exact HJ
  ·have AR:=A9 h1
   obtain rfl : k=L.length:=by omega
   rw [List.take_length] at hX;refine tt ?_;exact ⟨H,.refl H,hk id ic X q H hX o⟩
 ·rw [UE,if_neg hf,Aa hf];refine tt ?_;exact ⟨H,.refl H,ES hf _⟩
end Go.Proofs.Shf
namespace Go.Shf
open Go.AW
def Ci (L C : List (List (List Int))) (k : Nat) : List (List Bool):=(List.range L.length).map fun x=>if x<k then KK L C x else List.replicate (L.getD x default).length false
theorem OD {L C : List (List (List Int))} {k : Nat} : (Ci L C k).length=L.length:=by simp [Ci]
theorem Wa {L C : List (List (List Int))} {k x : Nat} (hx : x<L.length) : (Ci L C k).getD x default=if x<k then KK L C x else List.replicate (L.getD x default).length false:=by
 rw [Ci,AX _ _ hx]
theorem L4 {α : Type} [Inhabited α] (l : List α) {a : Nat} (h : a<l.length) : l.getD a default=l[a]:=by simp [gE,h]
theorem dR {L C : List (List (List Int))} : Ci L C 0=L.map fun s=>List.replicate s.length false:=by
 apply List.ext_getElem (by simp [Ci])
 intro i h1 h2
 have hi : i<L.length:=by simpa using h2
 simp [Ci,gE,hi]
theorem XL {L C : List (List (List Int))} : Ci L C L.length=marksOf L C:=by
 apply List.ext_getElem (by simp [Ci,marksOf])
 intro i h1 h2
 have hi : i<L.length:=by simpa [marksOf] using h2
 simp [Ci,marksOf,hi]
theorem US {L C : List (List (List Int))} {k : Nat} (hk : k<L.length) : (Ci L C k).set k (KK L C k)=Ci L C (k+1):=by
 apply List.ext_getElem (by simp [Ci])
 intro i h1 h2
 have hi : i<L.length:=by simpa [Ci] using h2
 rw [List.getElem_set];simp only [Ci,List.getElem_map,List.getElem_range]
 by_cases e : k=i
 ·subst e; simp
 ·rw [if_neg e]
  by_cases e2 : i<k
  ·rw [if_pos e2,if_pos (by omega)]
  ·rw [if_neg e2,if_neg (by omega)]
end Go.Shf
namespace Go.Proofs.Shf
open Go.AW Go.Proofs Go.Shf
theorem Sr (B : Nat) (j : Dw) (hF : j.Form) {H0 H : AB} {l : Ob} {K : Am} (o : AA H0 H l) (ES : ¬ Bg j.shape→∀ X,K (.CG [X,.bool false]) H)
  (hk : Bg j.shape→∀ id ic X n q H',SK q X (marksOf (AN j.shape) j.AP)→AA H0 H' (NS (QO j.shape) j.shape.cells id ic X n q l)→K (.CG [.ref id 0,.bool true]) H') :
  CB B 292 [.ptr j.cells] H K:=by
 refine c292.go fun ⟨hfj,_⟩=>?_
 have hc:=hF.is
 have F3:=hc.1.o;refine tt ?_;refine OC B j.shape hc o (fun hf X=>?_) fun hf id ic X q H hX o=>?_
 ·refine tt ?_;exact ⟨H,.refl H,ES hf _⟩
 replace hk:=hk hf
 have tab:=Hj hc hf
 have htf:=tab.Yh
 have IQ:=tab.len
 have Kl:=EW hF hf
 have Ak:=tab.all
 generalize hL : AN j.shape=L at *
 have K6 : QO j.shape=Dt j.shape L (iL (CS L)) (BA (BC j.shape L)):=by rw [QO,hL]
 have NW:=Kl.1
 have hCm:=Kl.2
 have hflc : j.AP.length≤8:=by omega
 have Ye : L7 L=Ci L j.AP 0:=by rw [dR]; rfl
 rw [Ye] at hX;refine tt ?_
 refine AD [4,22,23] (G:=List (List Bool) × Int × Ob) (fun k g=>[(24,some (.int .i64 (k : Int)))])
  (fun k g H=>g.1=Ci L j.AP k∧SK g.2.2 X g.1∧AA H0 H (NS (QO j.shape) j.shape.cells id ic X g.2.1 g.2.2 l)) j.AP.length (_,0,q) ⟨rfl,hX,o⟩ rfl ?_
 clear o hX
 rintro k ⟨M,n,q⟩ H Nl ⟨hM,hX,o⟩;dsimp only at hM hX o;refine tt ?_;apply bk <;> intro h1
 ·have AR:=A7 h1
  have w:=ws k
  have sI : k<L.length:=by omega
  have hCk:=hCm k sI
  have iY:=htf k sI
  have Hq:=(Ak k sI).nodup
  have hCkl : (j.AP.getD k default).length≤1000000:=by
   have hnd2 : (j.AP.getD k default).Nodup:=by
    rw [List.nodup_iff_pairwise_ne,List.pairwise_iff_getElem]
    intro a b ha hb HL e
    have D1 : ∀ d a,a+d+1<(j.AP.getD k default).length→cmp ((j.AP.getD k default).getD a default) ((j.AP.getD k default).getD (a+d+1) default)<0:=by
     intro d
     induction d with
     | zero=>intro a ha; exact hF.ord k (by omega) a ha
     | succ d ih=>intro a ha; exact Hf (ih a (by omega)) (hF.ord k (by omega) (a+d+1) (by omega))
    have:=D1 (b - a - 1) a (by omega);rw [show a+(b - a - 1)+1=b by omega] at this
    have e1:=L4 (j.AP.getD k default) ha
    have e2:=L4 (j.AP.getD k default) hb;rw [e1,e2,e,Ca.mpr rfl] at this;exact absurd this (by omega)
   have:=List.Nodup.length_le_of_subset hnd2 fun s hs=>(hCk s hs).2;omega
  refine tt ?_;refine ⟨AR, ?_⟩
  have hMs : M=(Ci L j.AP k).set k (List.replicate (L.getD k default).length false):=by
   rw [hM]
   have h3 : (Ci L j.AP k).getD k default=List.replicate (L.getD k default).length false:=by rw [Wa sI,if_neg (by omega)]
   rw [← h3];apply List.ext_getElem (by simp)
   intro i XX sQ;rw [List.getElem_set]
   split
   ·rename_i e; subst e; simp [gE,XX]
   ·rfl
  generalize hS : L.getD k default=S at *
  generalize hR : j.AP.getD k default=R at *
  refine AD [4,6,22,23,24,29,30] (G:=List Bool × Int × Ob) (fun i g=>[(31,some (.int .i64 (i : Int)))])
   (fun i g H=>PO S R i g.1∧SK g.2.2 X ((Ci L j.AP k).set k g.1)∧AA H0 H (NS (QO j.shape) j.shape.cells id ic X g.2.1 g.2.2 l)) R.length (List.replicate S.length false,n,q) ⟨PO.zero S R,by simp only; rw [← hMs]; exact hX,o⟩ rfl ?_
  clear o hX hMs hM M n q
  rintro i ⟨A,n,q⟩ H hi ⟨hA,hX,o⟩;dsimp only at hA hX o;refine tt ?_;apply bk <;> intro h2
  ·have Ah:=A7 h2
   have w2:=ws i
   have CJ:=(hCk _ (AE.mpr ⟨i,Ah,rfl⟩)).2
   have Eo:=BD CJ
   have gQ : ix L k=S:=by rw [AH,hS]
   have D0:=hA.step Hq CJ;refine tt ?_;refine ⟨Ah, ?_⟩
   have VX : H.get id=some (.cells 4 [.ptr (QO j.shape),.ptr j.shape.cells,X,.ref ic 0] 0):=o.h0;refine Af VX (by simp) ?_;rw [K6];refine tt ?_;refine (MX B j.shape L (iL (CS L)) (BA (BC j.shape L)) k ⟨by omega,by omega⟩ (R.getD i default)).go fun _=>?_;rw [gQ];refine tt ?_
   have Cj : ix ((Ci L j.AP k).set k A) (k : Int)=A:=by
    rw [AH,BH,if_pos ⟨rfl,by rw [OD]; exact sI⟩]
   refine eZ B hX o ⟨by omega,by rw [List.length_set,OD]; simpa using sI⟩ ⟨Eo.1,by rw [Cj,hA.1]; exact Eo.2.1⟩ fun n' q' H HJ o'=>?_;refine tw w2 ?_;refine A5 (A.set (indexOf S (R.getD i default)).toNat true,n',q') Ah ⟨D0, ?_,by rw [K6] at o'; exact o'⟩ rfl
   simp only
   have e : Pn ((Ci L j.AP k).set k A) (k : Int).toNat (indexOf S (R.getD i default)).toNat=(Ci L j.AP k).set k (A.set (indexOf S (R.getD i default)).toNat true):=by
    rw [Pn,Int.toNat_natCast,← AH,Cj,List.set_set]
   rw [e] at HJ; exact HJ
  ·have Ah:=A9 h2
   obtain rfl : i=R.length:=by omega
   have lg:=hA.done
   have e : L6 S R=KK L j.AP k:=by rw [KK,hS,hR]
   rw [lg,e,US sI] at hX;refine tw w ?_;exact A5 (Ci L j.AP (k+1),n,q) AR ⟨rfl,hX,o⟩ rfl
 ·have AR:=A9 h1
  obtain rfl : k=j.AP.length:=by omega
  rw [hM,NW,XL] at hX;refine tt ?_;exact ⟨H,.refl H,hk id ic X n q H hX o⟩
end Go.Proofs.Shf
namespace Go.AW
open Go.RowKit
theorem AA.base {H0 H : AB} {l : Ob} (o : AA H0 H l) : AA H0 (l++H0) l:=by
 refine ⟨fun i x hx=>?_,fun x hx=>?_,o.nd,o.out⟩
 ·rw [AB.get_append]
  cases e1 : AB.get l i with
  | some o1=>have:=o.out _ (AB.get_mem e1); simp only at this; rw [this] at hx; cases hx
  | none=>simpa using hx
 ·rw [AB.get_append,AB.Xn o.nd hx]; rfl
theorem AA.bP {H0 H : AB} {l : Ob} (o : AA H0 H l) : AB.sub (l++H0) H:=by
 intro i x e;rw [AB.get_append] at e
 cases e1 : AB.get l i with
 | some o1 =>
  rw [e1] at e
  have:=o.get _ (AB.get_mem e1);simp only at this;rw [this]; exact e
 | none=>rw [e1,Option.none_or] at e; exact o.sub _ _ e
theorem qE {F : Env→AB→Prop} {σ : Env} {H0 H : AB} {l q : Ob} {cs cc : List AV} {id ic : Nat} {X : AV} {n : Int} {M : List (List Bool)} (t : Nat) (hX : SK q X M)
  (o : AA H0 H (Go.Proofs.Shf.NS cs cc id ic X n q l)) (ht : σ.get t=some (.ref id 0))
  (hk : ∀ H',AA H0 H' l→Gj F ((t,some (.ptr [.ptr cs,.ptr cc,mL (mL AV.bool) M,.ref ic 0]))::σ) H') : Gj F σ H:=by
 have ol : AA H0 H l:=by
  have:=o.perm (Go.Proofs.Shf.Jf cs cc id ic X n q l)
  have o2 : AA H0 H ((id,.cells 4 [.ptr cs,.ptr cc,X,.ref ic 0] 0)::(ic,.cells 1 [iI n] 0)::(l++q)):=o.perm (List.Perm.cons _ (List.Perm.cons _ List.perm_append_comm));exact ⟨o2.sub,fun x hx=>o2.get x (by simp [hx]),(List.nodup_append.mp (by simpa using o2.tl.tl.nd)).1,fun x hx=>o2.out x (by simp [hx])⟩
 have h1 : H.get id=some (.cells 4 [.ptr cs,.ptr cc,X,.ref ic 0] 0):=o.h0;refine Da (σ1:=(t,some (.ptr [.ptr cs,.ptr cc,mL (mL AV.bool) M,.ref ic 0]))::σ) ?_ (hk _ ol.base)
 intro g B w tm hW hE
 obtain ⟨q1,q2⟩:=hE t _ ht
 generalize hu : tm.getD t undef=u at q2
 cases q2 with
 | ref _ _ b cap D3 =>
  obtain ⟨c,el,h5,hb,hf,hm,h6,h7,h8⟩:=hW.obj D3 h1
  obtain ⟨g1,H1,r1,r2,r3,r4⟩:=fy.fz _ _ _ hX g B H0 H _ w hW (o.perm (Go.Proofs.Shf.Jf cs cc id ic X n q l))
  have h1' : H1.get id=some (.cells 4 [.ptr cs,.ptr cc,X,.ref ic 0] 0):=r3.h0
  obtain ⟨c2,g2,s1,s2,s3,s4,s5,s6⟩:=r2.Zb id b cap 4 _ 0 h1' (r1.io _ _ D3)
  have hc : ∀ i,i<4→c2.getD i undef=c.getD i undef:=by
   intro i hi
   have:=s2.fz _ _ _ (s5 i hi);rw [cell_of_row w b i c el (0,0) h5] at this
   have Fh : i<c.size:=by simp at h7; omega
   rw [Array.getElem?_eq_getElem Fh] at this;rw [← Option.some.inj this]; simp [Array.getD,Fh]
  have o3:=(r3.put (.cells 4 [.ptr cs,.ptr cc,X,.ref ic 0] [AV.ptr cs,.ptr cc,X,.ref ic 0].length)).tl.tl;refine ⟨g2,r1.trans s1,s2.sub o3.bP,fun s x e=>?_⟩;simp only [Env.get] at e
  split at e
  ·rename_i hs; cases e; subst hs
   refine ⟨q1, ?_⟩;rw [hu];refine .ptr _ b 0 (fun k=>c2.getD k undef) (fun i hi=>by rw [Nat.zero_add]; exact s5 i (by simpa using hi)) (fun i hi=>?_)
   have hi4 : i<4:=by simpa using hi
   by_cases e2 : i=2
   ·subst e2;rw [hc 2 (by omega)]
    have:=h8 2 (by simp);exact (r4 _ (by simpa using this)).mono s1
   ·have:=s6 i (by simpa using hi4)
    obtain rfl | rfl | rfl : i=0∨i=1∨i=3:=by omega
    all_goals simpa using this
  ·obtain ⟨z1,z2⟩:=hE s x e; exact ⟨z1,z2.mono (r1.trans s1)⟩
end Go.AW
namespace Go.Shf
open Go.AW Go.Proofs.Shf
noncomputable def BS (j : Dw) : NQ:=⟨j.shape,CS (AN j.shape),BC j.shape (AN j.shape),AN j.shape,marksOf (AN j.shape) j.AP⟩
def WZ (M : List (List Bool)) (x s : Nat) : Bool:=(M.getD x default).getD s default
def P1 (c : Ay) (L : List (List (List Int))) (M : List (List Bool)) (k : Nat) : Prop:=∀ x,x<k→mg M x ((C4 c L).getD x default)=true
def aX (c : Ay) (L : List (List (List Int))) (M : List (List Bool)) (a i : Nat) : Prop:=∀ s,s<i→WZ M (c.AJ.getD a default).toNat s=true→mg M (c.to.getD a default) (((BC c L).getD a default).getD s default)=true
def P2 (c : Ay) (L : List (List (List Int))) (M : List (List Bool)) (k : Nat) : Prop:=∀ a,a<k→aX c L M a (M.getD (c.AJ.getD a default).toNat default).length
def mQ (v : NQ) (x t i : Nat) : Prop:=∀ s,s<i→WZ v.marks x s=true→WZ v.marks x t=false→Tu v ((v.BI.getD x default).getD t default) ((v.BI.getD x default).getD s default)→WZ v.marks x t=true
def mW (v : NQ) (x k : Nat) : Prop:=∀ t,t<k→mQ v x t (v.marks.getD x default).length
def P3 (v : NQ) (k : Nat) : Prop:=∀ x,x<k→mW v x (v.BI.getD x default).length
theorem all_succ {p : Nat→Prop} {k : Nat} : (∀ i,i<k+1→p i)↔(∀ i,i<k→p i)∧p k :=
 ⟨fun h=>⟨fun i hi=>h i (by omega),h k (by omega)⟩,fun ⟨h,hk⟩=>AG h hk⟩
theorem Tv {j : Dw} (tab : Ds j.shape (AN j.shape)) {x s t : Nat} (hx : x<(AN j.shape).length) (hs : s<((AN j.shape).getD x default).length) (ht : t<((AN j.shape).getD x default).length) :
  Tu (BS j) (((AN j.shape).getD x default).getD t default) (((AN j.shape).getD x default).getD s default)↔QT j.shape (AN j.shape) (BS j).marks x s t:=by
 have EZ:=tab.sv hx hs;rw [Tu,QT,DZ];refine forall_congr' fun i=>imp_congr_right fun hi=>?_
 have ha:=EZ.arr (AE.mpr ⟨i,hi,rfl⟩)
 generalize N7 : (((AN j.shape).getD x default).getD s default).getD i default=a at *
 have DS:=tab.to ha.1
 have e : (ix (BC j.shape (AN j.shape)) a).getD t default=indexOf (ix (AN j.shape) (ix j.shape.to a)) (Dc j.shape a (((AN j.shape).getD x default).getD t default)):=by
  rw [M5 ha.1,ha.2,AH,BB _ ht]
 rw [e]; rfl
theorem kE {j : Dw} (hF : j.Form) (hf : Bg j.shape) (hM : (BS j).marks.length=(AN j.shape).length) :
  (P1 j.shape (AN j.shape) (BS j).marks (AN j.shape).length∧P2 j.shape (AN j.shape) (BS j).marks j.shape.AJ.length∧P3 (BS j) (AN j.shape).length)↔Ia j.shape j.AP:=by
 have tab:=Hj hF.is hf
 have Kl:=EW hF hf
 have K8 : DU (AN j.shape) (BS j).marks:=GH;rw [← TR (L:=AN j.shape) tab fun x hx s hs=>(Kl.2 x hx s hs).1]
 have Jm : marksOf (AN j.shape) j.AP=(BS j).marks:=rfl
 have EZ : (BS j).BI=AN j.shape:=rfl;rw [Jm]
 constructor
 ·rintro ⟨h1,h2,h3⟩ x hx
  have ky : x<(AN j.shape).length:=by omega
  refine ⟨h1 x ky,fun s hs Kk=>⟨fun a ha e=>?_,fun k hk=>?_⟩⟩
  ·have Qk : (j.shape.AJ.getD a default).toNat=x:=by rw [e]; simp
   refine h2 a ha s (by rw [Qk]; exact hs) ?_;rw [Qk]; exact Kk
  ·rw [K8.row x ky] at hs hk
   by_cases hl : QT j.shape (AN j.shape) (BS j).marks x s k
   ·left
    cases hb : WZ (BS j).marks x k with
    | true=>exact hb
    | false =>
     have:=h3 x ky k (by rw [EZ]; exact hk) s (by rw [K8.row x ky]; exact hs) Kk hb (by rw [EZ]; exact (Tv tab ky hs hk).mpr hl);rw [hb] at this; cases this
   ·exact .inr hl
 ·intro h;refine ⟨fun x hx=>(h x (by omega)).1,fun a ha s hs Kk=>?_,fun x hx t ht s hs Kk htm hl=>?_⟩
  ·have Ge : 0≤(a : Int)∧(a : Int).toNat<j.shape.AJ.length:=⟨by omega,by simpa using ha⟩
   have Na:=tab.AJ Ge;rw [AH] at Na;exact ((h _ (by rw [hM]; exact Na.2)).2 s hs Kk).1 a ha (by rw [Int.toNat_of_nonneg Na.1])
  ·rw [EZ] at ht hl;rw [K8.row x hx] at hs
   rcases ((h x (by rw [hM]; exact hx)).2 s (by rw [K8.row x hx]; exact hs) Kk).2 t (by rw [K8.row x hx]; exact ht) with h4 | h4
   ·exact h4
   ·exact absurd ((Tv tab hx hs ht).mp hl) h4
end Go.Shf
