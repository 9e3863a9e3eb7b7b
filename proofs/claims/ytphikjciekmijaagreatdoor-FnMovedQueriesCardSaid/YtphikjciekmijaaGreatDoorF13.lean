/- A part of a proof. -/
import Derived.Test.YtphikjciekmijaaGreatDoorF12
import Derived.Test.YtphikjciekmijaaGreatDoorProg
import Derived.Shelf.SlSortCmp.Whole1
import Derived.Shelf.SlLaysF
import Derived.Shelf.SlSortCmp.NoneTotal
import Derived.Deep.Slices
import Derived.SizedLaws
set_option linter.unusedVariables false
set_option linter.unusedSimpArgs false
set_option linter.unusedSectionVars false
set_option maxRecDepth 100000
open Nat (reduceEqDiff reduceAdd reduceMul reduceLeDiff reduceLT)
namespace Go.Proofs.Shf
open Go.AW Go.Proofs Go.Shf
theorem ansQ_len (f : SF) (q : QS) : (ansQ f q).length≤4096:=by
 rw [ansQ]
 split
 ·rename_i h
  have h1:=(codQ_0 h).2
  have h2:=solK_len f q (prodT (szT f q.v)).toNat;rw [solK_all] at h2;omega
 ·simp
end Go.Proofs.Shf
namespace Go.Proofs.Shf
open Go.AW Go.Proofs Go.Shf Go.RowKit Go.Sort
theorem cmp_ntr {a b c : List Int} (h1 : ¬ cmp a b<0) (h2 : ¬ cmp b c<0) : ¬ cmp a c<0:=by
 intro h
 have n1:=cmp_neg a b
 have n2:=cmp_neg b c
 have n3:=cmp_neg a c
 by_cases e1 : cmp a b=0
 ·rw [cmp_zero] at e1; subst e1; exact h2 h
 ·by_cases e2 : cmp b c=0
  ·rw [cmp_zero] at e2; subst e2; exact h1 h
  ·have:=cmp_trans (a:=c) (b:=b) (c:=a) (by omega) (by omega);omega
theorem swo_cmp {n : Nat} (S : List (List Int)) : SWO (ltOf fun x y : Fin n=>cmp (S.getD x default) (S.getD y default)) where
 irrefl x:=by simp [ltOf,cmp_zero.mpr rfl]
 trans x y z h1 h2:=decide_eq_true (cmp_trans (of_decide_eq_true h1) (of_decide_eq_true h2))
 ntrans x y z h1 h2:=decide_eq_false (cmp_ntr (of_decide_eq_false h1) (of_decide_eq_false h2))
end Go.Proofs.Shf
namespace Go.Proofs
open Go.Shelf
def Tryz.sortR_ren : Go.Shelf.Ren:=⟨fun | 6=>103 | 15=>129 | 14=>128 | 28=>154 | 29=>155 | 20=>146 | 21=>147 | 22=>148 | 23=>149 | 24=>150 | 25=>151 | 26=>152 | 27=>153 | 46=>169 | 47=>170 | 48=>171 | 49=>172 | 50=>173 | 57=>185 | n=>n,fun | 22=>25 | 24=>24 | 25=>158 | 3=>3 | 39=>74 | 0=>0 | 53=>104 | 55=>41 | 4=>4 | 46=>202 | 45=>201 | 50=>206 | 5=>5 | 9=>9 | 66=>222 | 70=>226 | 76=>234 | 77=>235 | n=>n,fun | n=>n⟩
theorem Tryz.sortR : Go.Proofs.SlLaysF.n6 Tryz.prog Tryz.sortR_ren:={
 mixed:=by kernel_rfl
 f6:=⟨Tryz.f103.name,by decide,Tryz.func103.trans (congrArg some (by kernel_rfl))⟩
 f14:=⟨Tryz.f128.name,by decide,Tryz.func128.trans (congrArg some (by kernel_rfl))⟩
 f15:=Tryz.func129.trans (congrArg some (by kernel_rfl))
 f20:=⟨Tryz.f146.name,by decide,Tryz.func146.trans (congrArg some (by kernel_rfl))⟩
 f21:=⟨Tryz.f147.name,by decide,Tryz.func147.trans (congrArg some (by kernel_rfl))⟩
 f22:=⟨Tryz.f148.name,by decide,Tryz.func148.trans (congrArg some (by kernel_rfl))⟩
 f23:=⟨Tryz.f149.name,by decide,Tryz.func149.trans (congrArg some (by kernel_rfl))⟩
 f24:=⟨Tryz.f150.name,by decide,Tryz.func150.trans (congrArg some (by kernel_rfl))⟩
 f25:=⟨Tryz.f151.name,by decide,Tryz.func151.trans (congrArg some (by kernel_rfl))⟩
 f26:=⟨Tryz.f152.name,by decide,Tryz.func152.trans (congrArg some (by kernel_rfl))⟩
 f27:=⟨Tryz.f153.name,by decide,Tryz.func153.trans (congrArg some (by kernel_rfl))⟩
 f28:=Tryz.func154.trans (congrArg some (by kernel_rfl))
 f29:=Tryz.func155.trans (congrArg some (by kernel_rfl))
 f46:=⟨Tryz.f169.name,by decide,Tryz.func169.trans (congrArg some (by kernel_rfl))⟩
 f47:=Tryz.func170.trans (congrArg some (by kernel_rfl))
 f48:=Tryz.func171.trans (congrArg some (by kernel_rfl))
 f49:=⟨Tryz.f172.name,by decide,Tryz.func172.trans (congrArg some (by kernel_rfl))⟩
 f50:=⟨Tryz.f173.name,by decide,Tryz.func173.trans (congrArg some (by kernel_rfl))⟩
 f57:=⟨Tryz.f185.name,by decide,Tryz.func185.trans (congrArg some (by kernel_rfl))⟩
 t0:=Tryz.underlying0
 a0:=Tryz.isAgg0
 z0:=Tryz.sizeOf0
 v0:=Tryz.zeroValue0
 t3:=Tryz.underlying3
 a3:=Tryz.isAgg3
 z3:=Tryz.sizeOf3
 v3:=Tryz.zeroValue3
 t4:=Tryz.underlying4
 a4:=Tryz.isAgg4
 z4:=Tryz.sizeOf4
 v4:=Tryz.zeroValue4
 t5:=Tryz.underlying5
 a5:=Tryz.isAgg5
 z5:=Tryz.sizeOf5
 v5:=Tryz.zeroValue5
 t9:=Tryz.underlying9
 a9:=Tryz.isAgg9
 z9:=Tryz.sizeOf9
 v9:=Tryz.zeroValue9
 t22:=Tryz.underlying25
 a22:=Tryz.isAgg25
 z22:=Tryz.sizeOf25
 v22:=Tryz.zeroValue25
 a24:=Tryz.isAgg24
 z24:=Tryz.sizeOf24
 t25:=Tryz.underlying158
 a25:=Tryz.isAgg158
 z25:=Tryz.sizeOf158
 v25:=Tryz.zeroValue158
 t39:=Tryz.underlying74
 a39:=Tryz.isAgg74
 z39:=Tryz.sizeOf74
 v39:=Tryz.zeroValue74
 t45:=Tryz.underlying201
 a45:=Tryz.isAgg201
 z45:=Tryz.sizeOf201
 v45:=Tryz.zeroValue201
 t46:=Tryz.underlying202
 a46:=Tryz.isAgg202
 z46:=Tryz.sizeOf202
 v46:=Tryz.zeroValue202
 t50:=Tryz.underlying206
 a50:=Tryz.isAgg206
 z50:=Tryz.sizeOf206
 v50:=Tryz.zeroValue206
 t53:=Tryz.underlying104
 a53:=Tryz.isAgg104
 z53:=Tryz.sizeOf104
 v53:=Tryz.zeroValue104
 t55:=Tryz.underlying41
 a55:=Tryz.isAgg41
 z55:=Tryz.sizeOf41
 v55:=Tryz.zeroValue41
 t66:=Tryz.underlying222
 a66:=Tryz.isAgg222
 z66:=Tryz.sizeOf222
 v66:=Tryz.zeroValue222
 t70:=Tryz.underlying226
 a70:=Tryz.isAgg226
 z70:=Tryz.sizeOf226
 v70:=Tryz.zeroValue226
 t76:=Tryz.underlying234
 a76:=Tryz.isAgg234
 z76:=Tryz.sizeOf234
 v76:=Tryz.zeroValue234
 t77:=Tryz.underlying235
 a77:=Tryz.isAgg235
 z77:=Tryz.sizeOf235
 v77:=Tryz.zeroValue235 }
end Go.Proofs
namespace Go.AW
open Go.Proofs Go.Proofs.Shf Go.Shf Go.RowKit
theorem cmp_laysR {g : Gh} {B : Nat} {H : Heap} {w : World} (h : WRel g B H w) (S : Nat→List Int) (b size : Nat) (hfz : ∀ o,g.fz b o=none) (hfm : g.fm b=none) {α : Type} [Inhabited α] (nm : α→Nat) (enc : α→Value) (hv : ∀ x,VRel g (iL (S (nm x))) (enc x)) :
  ∀ (m : Nat) (os : Array Obj) (dk : Array α),dk.size=size→∀ x y : α,
  Calls Tryz.prog 104 (#[enc x,enc y]++#[]) (Sort.grow (Sort.putRow enc (Sort.ahead w m) b 0 dk) os) fun e w'=>e=.returned (.int .i64 (cmp (S (nm x)) (S (nm y))))∧∃ q os',w'=Sort.grow ((Sort.grow (Sort.putRow enc (Sort.ahead w m) b 0 dk) os).drewN q) os':=by
 intro m os dk hs x y
 have hW:=h.other b hfz hfm fun k hk hl=>row_other enc w b 0 m dk os k hk hl
 generalize (Sort.grow (Sort.putRow enc (Sort.ahead w m) b 0 dk) os)=W at hW ⊢
 have hc:=(compare_ok (2*W.heap.size) (S (nm x)) (S (nm y))).run [];refine (hc.2 g W _ hW ⟨rfl,fun i hi=>?_⟩).mono ?_
 ·obtain rfl | rfl : i=0∨i=1:=by simp only [List.length_cons,List.length_nil] at hi; omega
  ·exact hv x
  ·exact hv y
 rintro e w' ⟨v,rfl,g',r,H',_,⟨rfl,rfl⟩,hv2,_,hb⟩
 cases hv2;exact ⟨rfl,below_grow hb⟩
def LibSortR (n : Nat) [Inhabited (Fin n)] (cf : Fin n→Fin n→Int) : Prop :=
 ∀ (b cap : Nat) (w : World) (enc : Fin n→Value),(∀ x,(enc x).oneCell'=true) →
  (∀ (m : Nat) (os : Array Obj) (dk : Array (Fin n)),dk.size=(Array.ofFn fun i : Fin n=>i).size→∀ x y : Fin n,
   Calls Tryz.prog 104 (#[enc x,enc y]++#[]) (Sort.grow (Sort.putRow enc (Sort.ahead w m) b 0 dk) os) fun e w'=>e=.returned (.int .i64 (cf x y))∧∃ q os',w'=Sort.grow ((Sort.grow (Sort.putRow enc (Sort.ahead w m) b 0 dk) os).drewN q) os') →
  Sort.Holds enc w b 0 (Array.ofFn fun i : Fin n=>i)→b<w.heap.size →
  Calls Tryz.prog 103 #[.slice (some ⟨b,0,none⟩) (Array.ofFn fun i : Fin n=>i).size cap,.func (.func 104) #[] #[]] w fun e w' =>
   e=.returned (.tuple #[])∧∃ d' m os,Sort.PermIn 0 (Array.ofFn fun i : Fin n=>i).size (Array.ofFn fun i : Fin n=>i) d'∧Sort.SortedIn (fun x y=>decide (cf x y<0)) 0 (Array.ofFn fun i : Fin n=>i).size d'∧w'=Sort.grow (Sort.putRow enc (Sort.ahead w m) b 0 d') os
theorem sort_ownR (B : Nat) (S : List (List Int)) [Inhabited (Fin S.length)] (hlib : LibSortR S.length fun x y=>cmp (S.getD x default) (S.getD y default)) (hent : Enters Tryz.prog 103) {H0 H : Heap} {l : List (Nat × MObj)} {id : Nat} {K : Kont}
  (o : Owns H0 H ((id,.cells 1 (S.map iL) 0)::l)) (hk : ∀ (H' : Heap) (S' : List (List Int)),S'.Perm S→(S'.Pairwise fun s t=>cmp s t≤0)→Owns H0 H' ((id,.cells 1 (S'.map iL) 0)::l)→K (.tup []) H') :
  CallH Tryz.prog B 103 [.buf id S.length,.fn (.func 104) []] H K:=by
 refine ⟨hent,fun g w vs hW hv=>?_⟩
 have hS0 : 0<S.length:=(default : Fin S.length).pos
 have h0:=o.h0;simp only at h0
 obtain ⟨p,hp,hr⟩:=hW.ob id _ h0
 cases p with
 | nil=>simp only [ObjRel] at hr; have:=hr.1; simp at this; rw [this] at hS0; simp at hS0
 | mp b=>simp [ObjRel] at hr
 | blk b cap =>
  simp only [ObjRel] at hr
  obtain ⟨r1,r2,r3,r4,c,el,r5,r6,r7,r8⟩:=hr;rw [List.length_map] at r7 r8
  obtain ⟨hv0,hv1⟩:=hv
  obtain ⟨v0,v1,rfl⟩ : ∃ v0 v1,vs=#[v0,v1]:=by
   rcases vs with ⟨l⟩
   simp only [List.length_cons,List.length_nil] at hv0
   match l,hv0 with
   | [a,b],_=>exact ⟨a,b,rfl⟩
  have e0 : VRel g (.buf id S.length) v0:=hv1 0 (by simp)
  have e1 : VRel g (.fn (.func 104) []) v1:=hv1 1 (by simp)
  have hv0' : ∃ cap',v0=.slice (some ⟨b,0,none⟩) S.length cap':=by
   generalize hn : S.length=n at *
   cases e0 with
   | bufnil _ hq=>rw [hq] at hp; cases hp
   | buf _ _ b' cap' hq=>rw [hq] at hp; cases hp; exact ⟨_,rfl⟩
  obtain ⟨cap',rfl⟩:=hv0'
  have hv1' : v1=.func (.func 104) #[] #[]:=by
   cases e1 with
   | fn _ _ vs hs _ =>
    have : vs=#[]:=Array.eq_empty_of_size_eq_zero (by simpa using hs);rw [this]
  subst hv1'
  have hsz : (Array.ofFn fun i : Fin S.length=>i).size=S.length:=by simp
  have hbl : b<w.heap.size:=(Array.getElem?_eq_some_iff.1 r5).1
  have hfm : g.fm b=none:=by
   cases e : g.fm b with
   | none=>rfl
   | some es=>obtain ⟨clk,h⟩:=hW.fm _ _ e; rw [r5] at h; cases h
  have henc : ∀ x : Fin S.length,VRel g (iL (S.getD x default)) (c.getD x undef):=fun x=>by
   have:=r8 x x.2; rw [getD_map S x.2] at this; exact this
  have hl:=hlib b cap' w (fun x=>c.getD x undef) (fun x=>by
   have:=henc x;exact sl_one this) (cmp_laysR hW (fun i=>S.getD i default) b _ (fun o=>r4 o (Nat.zero_le _)) hfm (fun x : Fin S.length=>x.val) _ henc) (fun j hj=>?_) hbl
  ·rw [hsz] at hl;refine hl.mono ?_
   rintro e w' ⟨rfl,d',m,os,hp2,hs2,rfl⟩
   have hd' : d'.size=S.length:=by rw [hp2.1,hsz]
   have hperm : d'.toList.Perm (Array.ofFn fun i : Fin S.length=>i).toList:=by
    have:=hp2.2.2;rw [Array.extract_eq_self_of_le (by omega),Array.extract_eq_self_of_le (by omega)] at this;exact this
   have hmap : (Array.ofFn fun i : Fin S.length=>i).toList.map (fun i : Fin S.length=>S.getD i default)=S:=by
    apply List.ext_getElem (by simp)
    intro i h1 h2
    simp [List.getD_eq_getElem?_getD,h2]
   have hSp : (d'.toList.map fun i : Fin S.length=>S.getD i default).Perm S:=by
    have:=hperm.map fun i : Fin S.length=>S.getD i default
    rwa [hmap] at this
   have hget : ∀ k (hk : k<d'.size),d'[k]! = d'[k]:=fun k hk=>getElem!_pos d' k hk
   have hpw : (d'.toList.map fun i : Fin S.length=>S.getD i default).Pairwise fun s t=>cmp s t≤0:=by
    rw [List.pairwise_iff_getElem]
    intro i j hi hj hij;rw [List.length_map,Array.length_toList] at hi hj
    have h1:=hs2 i j (Nat.zero_le _) hij (by omega);rw [hget i hi,hget j hj] at h1
    have h2 : ¬ cmp (S.getD d'[j] default) (S.getD d'[i] default)<0:=of_decide_eq_false h1;simp only [List.getElem_map,Array.getElem_toList]
    have h4:=cmp_neg (S.getD d'[i] default) (S.getD d'[j] default)
    show cmp (S.getD d'[i] default) (S.getD d'[j] default)≤0
    omega
   obtain ⟨q1,q2⟩:=hW.sorted (fun x : Fin S.length=>c.getD x undef) d' h0 hp r5 (by rw [hd']; simp) (cs':=(d'.toList.map fun i : Fin S.length=>S.getD i default).map iL) (by simp [hd']) (fun k hk=>by
    rw [List.length_map,List.length_map,Array.length_toList] at hk;rw [hget k hk]
    have : ((d'.toList.map fun i : Fin S.length=>S.getD i default).map iL).getD k nv=iL (S.getD d'[k] default):=by simp [List.getD_eq_getElem?_getD,hk]
    rw [this]; exact henc _) m os
   exact ⟨_,rfl,g,.tup [],_,.refl g,hk _ _ hSp hpw (o.put _),.tup [] #[] rfl (by simp),q1,q2⟩
  ·rw [hsz] at hj
   have hjc : j<c.size:=by omega
   refine ⟨?_, ?_⟩
   ·simp [World.cell?,r5,hjc,hj]
   ·simp [World.frozen?,r5]
end Go.AW
namespace Go.Proofs.Shf
open Go.AW Go.Proofs Go.Shf Go.RowKit Go.Sort
theorem lib_sortR (S : List (List Int)) [Inhabited (Fin S.length)] (hsz : S.length<4611686018427387904) : LibSortR S.length fun x y=>cmp (S.getD x default) (S.getD y default):=by
 intro b cap w enc h1 hcmp hH hbl
 have eg : ∀ args w,(callFunc 104 args).run Tryz.prog w=.ok (.enter 104 args) w:=enters_of Tryz.func104 (by kernel_rfl) rfl
 have h:=Any.slices_SortFunc Tryz.sortR enc h1 (fun x y=>cmp (S.getD x default) (S.getD y default)) (swo_cmp S) 104 #[] b 0 cap (Array.ofFn fun i=>i) w eg hcmp hH hbl (by simpa using hsz);exact h
end Go.Proofs.Shf
namespace Go.AW
theorem WRel.cut {g : Gh} {B : Nat} {H : Heap} {w : World} (h : WRel g B H w) {i sz : Nat} {cs z : List AV} (hi : H.get i=some (.cells sz (cs++z) 0)) : WRel g B (H.set i (.cells sz cs 0)) w:=by
 have hs : ∀ j,((H.set i (.cells sz cs 0)).get j).isSome→(H.get j).isSome:=by
  intro j hj
  by_cases e : j=i
  ·subst e; simp [hi]
  ·rwa [Heap.get_set_ne _ _ e] at hj
 constructor
 ·exact h.fz
 ·exact h.fm
 ·intro j o e
  by_cases hj : j=i
  ·subst hj
   simp at e; subst e
   obtain ⟨p,hp,hr⟩:=h.ob _ _ hi;refine ⟨p,hp, ?_⟩
   cases p with
   | nil =>
    simp only [ObjRel] at hr ⊢;exact ⟨(List.append_eq_nil_iff.mp hr.1).1,trivial⟩
   | mp b=>simp [ObjRel] at hr
   | blk b cap =>
    simp only [ObjRel,List.length_append] at hr ⊢
    obtain ⟨h1,h2,h3,h4,c,el,h5,h6,h7,h8⟩:=hr;refine ⟨h1,by omega,by omega,h4,c,el,h5,h6,by omega,fun k hk=>?_⟩
    have:=h8 k (by omega)
    rwa [List.getD_eq_getElem?_getD,List.getElem?_append_left hk,← List.getD_eq_getElem?_getD] at this
  ·rw [Heap.get_set_ne _ _ hj] at e; exact h.ob j o e
 ·intro a b x y z n e1 e2; exact h.inj a b x y z n (hs a e1) (hs b e2)
 ·intro a b x n e1 e2; exact h.injm a b x n (hs a e1) (hs b e2)
 ·exact h.base
 ·exact h.fin
theorem wk_cut {F : Env→Heap→Prop} {σ : Env} {H0 H : Heap} {l : List (Nat × MObj)} {id sz : Nat} {cs z : List AV} (o : Owns H0 H ((id,.cells sz (cs++z) 0)::l)) (hk : ∀ H',Owns H0 H' ((id,.cells sz cs 0)::l)→wkW F σ H') : wkW F σ H :=
 wkW_step (fun g B w tm hW hE=>⟨g,.refl g,hW.cut o.h0,hE⟩) (hk _ (o.put _))
theorem slb_own {K : Kont} {H0 H : Heap} {l : List (Nat × MObj)} {id sz n : Nat} {cs : List AV} {p : Prop} {r : AV} (o : Owns H0 H ((id,.cells sz cs 0)::l)) (hn : cs.length=n*sz) (hp : p) (hk : K r H) : slb1 sz n (some (p,r)) (H.get id) K H:=by
 have h0:=o.h0;simp only at h0;rw [h0]; exact ⟨⟨rfl,hn⟩,hp,hk⟩
theorem rep_all {z : List AV} {p : AV→Prop} (h : ∀ c,c∈z→p c) : ∀ n c,c∈rep n z→p c
 | 0,c,hc=>by simp [rep] at hc
 | n+1,c,hc=>by
  rw [rep,List.mem_append] at hc;exact hc.elim (h c) (rep_all h n c)
theorem wr_take : ∀ (vs cs : List AV) (o n : Nat),n≤o→(wr cs o vs).take n=cs.take n
 | [],_,_,_,_=>rfl
 | v::vs,cs,o,n,h=>by
  rw [wr,wr_take vs _ _ _ (by omega),List.take_set_of_le h]
end Go.AW
namespace Go.Proofs.Shf
open Go.AW Go.Proofs Go.Shf
theorem compact_own (B : Nat) (A : List (List Int)) (hA : A.length≤1048576) {H0 H : Heap} {l : List (Nat × MObj)} {id : Nat} (o : Owns H0 H ((id,.cells 1 (A.map iL) 0)::l)) :
  CallH Tryz.prog B 65 [.buf id A.length,.fn (.func 67) []] H fun r H'=>r=iLL (cpT A)∧Owns H0 H' l:=by
 refine c65p (by simp) fun _=>?_;unfold s65p;refine tt ?_;apply bk <;> intro h0
 ·have h0p : (A.length : Int)<2:=of_decide h0
  have e : cpT A=A:=by
   rw [cpT,cpK_all (Nat.le_refl _) (fun j hj=>?_),List.take_length];exact decide_eq_true (.inl (by omega))
  refine tt ?_;refine wk_slot 4 (.inr ⟨id,rfl,o⟩) rfl fun H o=>wkW_done ?_;refine tt ?_;exact ⟨H,.refl H,by rw [e],o⟩
 have h0p : ¬ (A.length : Int)<2:=of_ndecide h0;refine tt ?_
 refine awp_while [0,1] (G:=Nat) (fun k=>[(5,some (.int .i64 (k : Int)))])
  (fun m k H=>m=A.length - k∧1≤k∧k≤A.length∧(∀ j,j<k→kpC A j=true)∧Owns H0 H ((id,.cells 1 (A.map iL) 0)::l)) (A.length - 1) 1 ⟨rfl,by omega,by omega,fun j hj=>decide_eq_true (.inl (by omega)),o⟩ rfl ?_
 clear o
 rintro m k H ⟨hm,hk1,hkn,hall,o⟩;refine tt ?_;apply bk <;> intro h1
 ·have h1p : k<A.length:=of_decide h1
  have w1:=wsucc (k:=k) (by omega)
  have w0 : IntKind.i64.wrap ((k : Int) - 1)=((k - 1 : Nat) : Int):=by rw [wrap_i64 (by omega) (by omega)]; omega
  refine tw w0 ?_;refine ⟨h1p, ?_⟩;refine rd_cells o (by simpa using h1p) ?_;rw [map_getD _ h1p];refine tw w0 ?_;refine ⟨by omega, ?_⟩;refine rd_cells o (by simp; omega) ?_;rw [map_getD _ (show k - 1<A.length by omega)];refine tt ?_;refine ⟨_,(same_ok B _ _).run, ?_⟩
  by_cases h2 : A.getD k default=A.getD (k - 1) default
  rotate_left 1
  ·rw [dec_f h2];refine tw w1 ?_
   exact while_next (A.length - (k+1)) (k+1) (by omega) ⟨rfl,by omega,by omega,fun j hj=>by
    by_cases e : j=k
    ·subst e; exact decide_eq_true (.inr h2)
    ·exact hall j (by omega),o⟩ rfl
  have hf : kpC A k=false:=decide_eq_false fun h=>h.elim (by omega) fun h=>h h2;rw [dec_t h2]
  have hck : (cpK A (k+1)).length=k:=by
   rw [cpK_f hf,cpK_all (by omega) hall,List.length_take]; omega
  refine tt ?_;refine slb_own o (by simp) h1p ?_;refine tt ?_
  refine awp_while [0,1,6] (G:=Nat × List (List Int)) (fun g=>[(5,some (.int .i64 ((cpK A (k+g.1)).length : Int))),(7,some (.int .i64 (g.1 : Int)))])
   (fun m g H=>m=A.length - (k+g.1)∧1≤g.1∧k+g.1≤A.length∧CpInv A (k+g.1) g.2∧Owns H0 H ((id,.cells 1 (g.2.map iL) 0)::l)) (A.length - (k+1)) (1,A)
   ⟨rfl,by omega,by omega,CpInv.start h1p hall hf,o⟩ (by simp only [hck]; rfl) ?_
  clear o
  rintro m2 ⟨k2,D⟩ H ⟨hm2,hk21,hk2n,hI,o⟩;dsimp only at hm2 hk21 hk2n hI o
  have hDl:=hI.len
  have hcl:=cpK_short hf (k+k2) (by omega);refine tt ?_;apply bk <;> intro h3
  ·have h3p : k2<A.length - k:=of_decide h3
   have h3q : k+k2<A.length:=by omega
   have w3:=wsucc (k:=k2) (by omega)
   have w4:=wsucc (k:=(cpK A (k+k2)).length) (by omega)
   have w2 : IntKind.i64.wrap ((k2 : Int) - 1)=((k2 - 1 : Nat) : Int):=by rw [wrap_i64 (by omega) (by omega)]; omega
   have hd1:=hI.tail (k+k2) (by omega)
   have hd2:=hI.tail (k+(k2 - 1)) (by omega);refine tw w2 ?_;refine ⟨h3p, ?_⟩;refine rd_cells o (by simp; omega) ?_;rw [map_getD _ (by omega),hd1];refine tw w2 ?_;refine ⟨by omega, ?_⟩;refine rd_cells o (by simp; omega) ?_;rw [map_getD _ (by omega),hd2,show k+(k2 - 1)=k+k2 - 1 by omega];refine tt ?_;refine ⟨_,(same_ok B _ _).run, ?_⟩
   by_cases h4 : A.getD (k+k2) default=A.getD (k+k2 - 1) default
   ·have hf2 : kpC A (k+k2)=false:=decide_eq_false fun h=>h.elim (by omega) fun h=>h h4;rw [dec_t h4];refine tw w3 ?_;exact while_next (A.length - (k+(k2+1))) (k2+1,D) (by omega) ⟨rfl,by omega,by omega,hI.skip hf2,o⟩ (by rw [← Nat.add_assoc,cpK_f hf2])
   ·have ht2 : kpC A (k+k2)=true:=decide_eq_true (.inr h4);rw [dec_f h4];refine tt ?_;refine ⟨h3p, ?_⟩;refine rd_cells o (by simp; omega) ?_;rw [map_getD _ (by omega),hd1];refine tt ?_;refine ⟨by omega, ?_⟩;refine set_own (f:=iL) (A.getD (k+k2) default) o rfl (by omega) fun H o=>?_;try simp only [go_sem,↓reduceIte,reduceEqDiff,reduceAdd,reduceMul,reduceLeDiff,reduceLT,w3,w4]
    exact while_next (A.length - (k+(k2+1))) (k2+1,D.set (cpK A (k+k2)).length (A.getD (k+k2) default)) (by omega) ⟨rfl,by omega,by omega,hI.keep h3q hcl ht2,o⟩ (by rw [← Nat.add_assoc,cpK_t ht2,List.length_append]; rfl)
  have h3p : ¬ k2<A.length - k:=of_ndecide h3
  have hend : k+k2=A.length:=by omega
  rw [hend] at hI hcl ⊢
  have hct : (cpT A).length=(cpK A A.length).length:=rfl;refine tt ?_;refine slb_own o (by simp [hDl]) hcl ?_;refine tt ?_;refine ⟨by omega, ?_⟩;refine st_cells o (by simp; omega) (by simp [rep_length]) (fun c hc=>?_) fun H o=>?_
  ·rw [rep_all (p:=fun c=>c=.nilsl) (by simp) _ c hc]; rfl
  refine tt ?_
  have hw : ∃ Z,wr (D.map iL) (cpK A A.length).length (rep (A.length - (cpK A A.length).length) [.nilsl])=(cpT A).map iL++Z:=by
   refine ⟨(wr (D.map iL) (cpK A A.length).length (rep (A.length - (cpK A A.length).length) [.nilsl])).drop (cpK A A.length).length, ?_⟩
   have h5:=wr_take (rep (A.length - (cpK A A.length).length) [.nilsl]) (D.map iL) (cpK A A.length).length (cpK A A.length).length (Nat.le_refl _)
   have h6 : (D.map iL).take (cpK A A.length).length=(cpT A).map iL:=by rw [← List.map_take]; exact congrArg _ hI.take
   rw [← h6,← h5,List.take_append_drop]
  refine slb_own o (by rw [wr_length]; simp [hDl]) ⟨by omega,by omega⟩ ?_;refine tt ?_
  obtain ⟨Z,hZ⟩:=hw;rw [hZ] at o;refine wk_cut o fun H o=>wk_slot 4 (.inr ⟨id,rfl,o⟩) rfl fun H o=>wkW_done ?_;refine tt ?_;exact ⟨H,.refl H,rfl,o⟩
 ·have h1p:=of_ndecide h1
  have e : cpT A=A:=by rw [cpT,cpK_all (Nat.le_refl _) (fun j hj=>hall j (by omega)),List.take_length]
  refine tt ?_;refine wk_slot 4 (.inr ⟨id,rfl,o⟩) rfl fun H o=>wkW_done ?_;refine tt ?_;exact ⟨H,.refl H,by rw [e],o⟩
end Go.Proofs.Shf
namespace Go.Proofs.Shf
open Go.AW Go.Proofs Go.Shf Go.RowKit Go.Sort
theorem sort_noneR (B : Nat) {H : Heap} {id : Nat} {K : Kont} (hk : K (.tup []) H) : CallH Tryz.prog B 103 [.buf id 0,.fn (.func 104) []] H K:=by
 refine ⟨⟨_,Tryz.func103,by kernel_rfl,by kernel_rfl⟩,fun g w vs hW hv=>?_⟩
 obtain ⟨hv0,hv1⟩:=hv
 obtain ⟨v0,v1,rfl⟩ : ∃ v0 v1,vs=#[v0,v1]:=by
  rcases vs with ⟨l⟩
  simp only [List.length_cons,List.length_nil] at hv0
  match l,hv0 with
  | [a,b],_=>exact ⟨a,b,rfl⟩
 have e0 : VRel g (.buf id 0) v0:=hv1 0 (by simp)
 obtain ⟨p,cap,rfl⟩ : ∃ p cap,v0=.slice p 0 cap:=by
  cases e0 with
  | bufnil _ _=>exact ⟨_,_,rfl⟩
  | buf _ _ _ _ _=>exact ⟨_,_,rfl⟩
 refine (AnyF.slices_SortFunc_none { Tryz.sortR with } p cap v1 w).mono ?_
 rintro e w' ⟨rfl,rfl⟩;exact ⟨_,rfl,g,.tup [],H,.refl g,hk,.tup [] #[] rfl (by simp),hW,.refl B _⟩
theorem sort_anyR (B : Nat) (S : List (List Int)) (hS : S.length<4611686018427387904) {H0 H : Heap} {l : List (Nat × MObj)} {id : Nat} {K : Kont}
  (o : Owns H0 H ((id,.cells 1 (S.map iL) 0)::l)) (hk : ∀ (H' : Heap) (S' : List (List Int)),S'.Perm S→(S'.Pairwise fun s t=>cmp s t≤0)→Owns H0 H' ((id,.cells 1 (S'.map iL) 0)::l)→K (.tup []) H') :
  CallH Tryz.prog B 103 [.buf id S.length,.fn (.func 104) []] H K:=by
 by_cases h : S=[]
 ·subst h;exact sort_noneR B (hk H [] (.refl _) .nil o)
 ·have : Inhabited (Fin S.length):=⟨⟨0,List.length_pos_iff.mpr h⟩⟩;exact sort_ownR B S (lib_sortR S hS) ⟨_,Tryz.func103,by kernel_rfl,by kernel_rfl⟩ o hk
end Go.Proofs.Shf
namespace Go.Proofs.Shf
open Go.AW Go.Proofs Go.Shf
theorem distinct_own (B : Nat) (S : List (List Int)) (hS : S.length≤1048576) {H0 H : Heap} {l : List (Nat × MObj)} {id : Nat} (o : Owns H0 H ((id,.cells 1 (S.map iL) 0)::l)) :
  CallH Tryz.prog B 35 [.buf id S.length] H fun r H'=>∃ T,r=iLL T∧(∀ t,t∈T↔t∈S)∧(T.Pairwise fun a b=>cmp a b<0)∧Owns H0 H' l:=by
 refine c35 (by simp) fun _=>?_;unfold s35;refine tt ?_
 have asc : CallH Tryz.prog B 66 [.buf id S.length] H fun r H'=>∃ S' : List (List Int),r=.buf id S.length∧S'.Perm S∧(S'.Pairwise fun a b=>cmp a b≤0)∧Owns H0 H' ((id,.cells 1 (S'.map iL) 0)::l):=by
  refine c66p (by simp) fun _=>?_;unfold s66p;refine tt ?_;refine sort_anyR B S (by omega) o fun H S' hp hs o=>tt ?_;exact ⟨H,.refl H,S',rfl,hp,hs,o⟩
 refine asc.mono ?_
 rintro r H ⟨S',rfl,hp,hs,o⟩;refine tt ?_;rw [← hp.length_eq];refine (compact_own B S' (by rw [hp.length_eq]; exact hS) o).mono ?_
 rintro r H ⟨rfl,o⟩;refine tt ?_;exact ⟨H,.refl H,cpT S',rfl,fun t=>mem_cpT.trans hp.mem_iff,cpT_sorted hs,o⟩
noncomputable def ansR (f : SF) (q : QS) : List (List Int):=if codQ f q=0 then rowsQ f q else []
theorem rows_uniq {f : SF} {q : QS} (hf : f.Is) (hq : q.Ok f.shape) {T : List (List Int)} (h1 : ∀ t,t∈T↔t∈(solQ f q).map (thenT q.o)) (h2 : T.Pairwise fun a b=>cmp a b<0) : T=rowsQ f q :=
 asc_uniq h2 (rowsQ_sorted hf hq) fun t=>by rw [h1,List.mem_map,mem_rowsQ hf hq]
theorem runQuery_ok (B : Nat) (f : SF) (q : QS) : Pur Tryz.prog B 14 [.agg f.cells,.agg q.cells] (.tup [iLL (ansR f q),iI (codQ f q)]):=by
 refine ⟨fun H0=>c14p (by simp) fun _=>?_⟩;unfold s14p
 have o : Owns H0 H0 []:=.nil _;refine tt ?_;refine (solutionsCode_ok B f q).go fun _=>?_
 by_cases hC : codQ f q=0
 rotate_left 1
 ·have e : ansR f q=[]:=by rw [ansR,if_neg hC]
  refine tt ?_;rw [decide_eq_false hC];refine tt ?_;exact pure_ret (by rw [e]; rfl) (.refl _)
 obtain ⟨⟨hf,hq⟩,hP⟩:=codQ_0 hC
 have hA : ansQ f q=solQ f q:=by rw [ansQ,if_pos hC]
 have hsl:=ansQ_len f q;rw [hA] at hsl;rw [hC,hA];refine td ?_;refine new_list iL o fun id H o=>tt ?_
 refine awp_for [3,19,20] (G:=Nat × List (List Int)) (fun k g=>[(8,some (.buf g.1 g.2.length)),(21,some (.int .i64 (k : Int)))])
  (fun k g H=>g.2=((solQ f q).take k).map (thenT q.o)∧Owns H0 H [(g.1,.cells 1 (g.2.map iL) 0)]) (solQ f q).length (id,[]) ⟨by simp,o⟩ rfl ?_
 clear o
 rintro k ⟨id,out⟩ H hk ⟨hout,o⟩;dsimp only at hout o
 have houl : out.length≤k:=by rw [hout,List.length_map,List.length_take]; omega
 refine tt ?_;apply bk <;> intro h1
 ·have h1p : k<(solQ f q).length:=of_decide h1
  have w1:=wsucc (k:=k) (by omega)
  have hil:=(((mem_solQ hf hq).mp (mem_getD.mpr ⟨k,h1p,rfl⟩)).1).len;rw [szT_len] at hil;refine tt ?_;refine ⟨h1p,tt ?_⟩;refine ⟨_,(then_ok B _ _ fun y hy=>by have:=hq.ov y hy; omega).run,tt ?_⟩;refine app_own (thenT q.o ((solQ f q).getD k default)) o rfl rfl (by simp only [maxL]; omega) fun z H o=>?_;refine tw w1 ?_;exact for_next (z,out++[thenT q.o ((solQ f q).getD k default)]) h1p ⟨by rw [hout,take_one _ h1p,List.map_append]; rfl,o⟩ rfl
 have h1p:=of_ndecide h1
 obtain rfl : k=(solQ f q).length:=by omega
 rw [List.take_length] at hout;refine tt ?_;refine (distinct_own B out (by omega) o).mono ?_
 rintro r H ⟨T,rfl,hT,hs,o⟩;refine tt ?_;rw [hout] at hT;exact pure_ret (by rw [ansR,if_pos hC,rows_uniq hf hq hT hs]) o.sub
theorem mov_cod {k : FU} {g : SF} {q : QS} (hk : k.Is) (hq : q.Ok k.src) (hg : g.Is) (hs : g.shape=k.tgt) : codQ (alongF k g) q=codQ g (movQ k q)∧ansR (alongF k g) q=ansR g (movQ k q):=by
 have hm : (movQ k q).Ok g.shape:=by rw [hs]; exact mov_ok hk hq
 have e : codQ (alongF k g) q=codQ g (movQ k q):=by
  have e1 : (alongF k g).Is∧q.Ok (alongF k g).shape:=⟨along_is hk hg hs.symm,hq⟩
  have e2 : g.Is∧(movQ k q).Ok g.shape:=⟨hg,hm⟩;unfold codQ;rw [if_pos e1,if_pos e2,mov_szT hk hq]
 exact ⟨e,by rw [ansR,ansR,e,mov_rows hk hq]⟩
theorem fnMovedQueries_ok (B : Nat) (hB : B % 2=1) (code : List UInt8) : Pur Tryz.prog B 3 [mL Go.AW.iB code] (.bool true):=by
 refine ⟨fun H0=>c3p (by simp) fun _=>?_⟩;unfold s3p
 have d10 : decide ((1 : Int)=0)=false:=rfl
 have d30 : decide ((3 : Int)=0)=false:=rfl
 have o : Owns H0 H0 []:=.nil _;refine tt ?_;refine (big_ok B code).go fun _=>tt ?_;apply bk <;> intro g0
 ·refine tt ?_;exact pure_ret rfl (.refl _)
 refine tt ?_;refine (drawMove_ok B code).go fun r _ ⟨k,q,e⟩=>?_;subst e;refine tt ?_;refine nb o fun id3 H o=>tt ?_;refine newRef_own o fun id4 H o=>tt ?_;refine sw o.swap fun H o=>tt ?_;refine sw o.swap fun H o=>?_
 have o : Owns H0 H [(id4,.cells 4 q.cells 0),(id3,.cells 12 k.cells 0)]:=o;refine tt ?_;refine wk_ref 4 o rfl fun H o=>wk_ref 3 o rfl fun H o=>wkW_done ?_;refine tt ?_;refine (moveI_ok B k q).go fun _=>?_
 by_cases h : k.Is∧q.Ok k.src
 rotate_left
 ·rw [show mvR k q=.tup [.agg [.nilsl,.nilsl,.nilsl,.nilsl],iI 1] by rw [mvR,dec_f h]; rfl];refine tt ?_;refine newRef_own o fun id5 H o=>tt ?_;refine sw o fun H o=>tt ?_;refine wk_ref 5 o rfl fun H o=>wkW_done ?_;refine tt ?_;refine (moveS_ok B k q).go fun _=>?_;rw [show mvR k q=.tup [.agg [.nilsl,.nilsl,.nilsl,.nilsl],iI 1] by rw [mvR,dec_f h]; rfl];refine tt ?_;refine newRef_own o fun id7 H o=>tt ?_;refine sw o fun H o=>?_;try simp only [go_sem,↓reduceIte,reduceEqDiff,reduceAdd,reduceMul,reduceLeDiff,reduceLT,dTrue,d10]
  exact pure_ret rfl o.sub
 have em : mvR k q=.tup [.agg (movQ k q).cells,iI 0]:=by rw [mvR,dec_t h]; rfl
 rw [em];refine tt ?_;refine newRef_own o fun id5 H o=>tt ?_;refine sw o fun H o=>?_
 have o : Owns H0 H [(id5,.cells 4 (movQ k q).cells 0)]:=o;refine tt ?_;refine wk_ref 5 o rfl fun H o=>wkW_done ?_;refine tt ?_;refine (moveS_ok B k q).go fun _=>?_;rw [em];refine tt ?_;refine newRef_own o fun id7 H o=>tt ?_;refine sw o fun H o=>?_;refine td ?_
 have hm:=mov_ok h.1 h.2
 have et : txR k.tgt (movQ k q)=.tup [.str (textB (movQ k q)),iI 0]:=by rw [txR,dec_t ⟨h.1.tI,hm⟩]; rfl
 refine (queryTextI_ok B hB k.tgt (movQ k q)).go fun _=>?_;rw [et];refine tt ?_;refine (moveS_ok B k q).go fun _=>?_;rw [em];refine tt ?_;refine newRef_own o fun id11 H o=>tt ?_;refine sw o fun H o=>?_
 have o : Owns H0 H ((id11,.cells 4 (movQ k q).cells 0)::[(id7,.cells 4 (movQ k q).cells 0)]):=o;refine tt ?_;refine wk_ref 11 o rfl fun H o=>wkW_done ?_;refine tt ?_;refine (queryTextS_ok B k.tgt (movQ k q)).go fun _=>?_;rw [et];refine td ?_;apply bk <;> intro g1
 ·refine td ?_;exact pure_ret rfl o.sub
 have g1p:=of_ndecide g1
 have to:=h.1.tI.1.o
 have hobj : 1≤k.tgt.objs:=by omega
 refine tt ?_;refine (roll_ok B code 17 _).mono' fun r H1 _ ⟨id,s2,e,hs2,o2⟩=>?_;subst e
 have o : Owns H0 H1 [(id,s2.obj)]:=(o.tl.trans o2);refine tt ?_
 have hrep : ∀ n : Int,0≤n∧n<k.tgt.objs→∃ (g : SF) (c : Int),PureF Tryz.prog B 11 [.agg k.tgt.cells,iI n] (.tup [.agg g.cells,iI c])∧((c=0∧g.shape=k.tgt∧g.Is)∨c=3):=fun n hn=>by
  by_cases hf : RepFew k.tgt n
  ·exact ⟨repF k.tgt n,0,fun H=>(representableG_ok B k.tgt h.1.tI n hn H).mono fun r H' ⟨hr,e⟩=>⟨hr.elim (fun x=>x.2) (fun x=>absurd hf x.1),e⟩,.inl ⟨rfl,rfl,rep_is h.1.tI hf⟩⟩
  ·exact ⟨nilF,3,fun H=>(representableG_ok B k.tgt h.1.tI n hn H).mono fun r H' ⟨hr,e⟩=>⟨hr.elim (fun x=>absurd x.1 hf) (fun x=>x.2),e⟩,.inr rfl⟩
 refine ⟨?_, ?_⟩
 focus
  refine (below_ok B k.tgt.objs).go hs2 o fun r s3 H _ ⟨n,e,hk0,hk1,_⟩ hs o=>?_;subst e
  obtain ⟨g,c6,hpr,hgk⟩:=hrep n ⟨hk0,hk1 (by omega)⟩;refine tt ?_;refine ⟨_,hpr,tt ?_⟩;refine nb o fun id16 H o=>tt ?_
 rotate_left 1
 focus
  refine nb o fun id16 H o=>tt ?_;refine (below_ok B k.tgt.objs).go hs2 o.swap fun r s3 H _ ⟨n,e,hk0,hk1,_⟩ hs o=>?_;subst e
  obtain ⟨g,c6,hpr,hgk⟩:=hrep n ⟨hk0,hk1 (by omega)⟩;refine tt ?_;refine ⟨_,hpr, ?_⟩
  replace o:=o.swap;refine tt ?_
 all_goals
  refine sw o fun H o=>tt ?_;refine wk_ref 16 o rfl fun H o=>wkW_done ?_
  rcases hgk with ⟨rfl,hgs,hgI⟩ | rfl
  rotate_left 1
  ·try simp only [go_sem,↓reduceIte,reduceEqDiff,reduceAdd,reduceMul,reduceLeDiff,reduceLT,dTrue,d30]
   exact pure_ret rfl o.sub
  try simp only [go_sem,↓reduceIte,reduceEqDiff,reduceAdd,reduceMul,reduceLeDiff,reduceLT,dTrue,d30]
  refine (alongFunctor_ok B h.1 hgI hgs.symm).go fun _=>tt ?_;refine nb o fun id18 H o=>tt ?_;refine st_cells o (by simp [SF.cells]) (by (try simp only [go_sem]); (try simp)) (by first | (simp only [go_sem]; done) | ((try simp only [go_sem]); simp [AV.one,one_mL])) fun H o=>?_;simp only [wr_cons,wr_nil,List.set_cons_zero,List.set_cons_succ] at o
  have o : Owns H0 H ((id18,.cells 7 (alongF k g).cells 0)::[(id,s3.obj)]):=o;refine tt ?_;refine wk_ref 18 o rfl fun H o=>wkW_done ?_;refine tt ?_;refine (runQuery_ok B (alongF k g) q).go fun _=>tt ?_;refine (runQuery_ok B g (movQ k q)).go fun _=>?_;rw [(mov_cod h.1 h.2 hgI hgs).1,(mov_cod h.1 h.2 hgI hgs).2];refine td ?_;refine (same29_ok B _ _).go fun _=>?_;rw [dec_t rfl];refine tt ?_;exact pure_ret rfl o.sub
end Go.Proofs.Shf
namespace Go.AW
def WN (P : AV→Prop) (a : AV) : Prop:=(∃ al : List AV,a=.sl al∧∀ x,x∈al→P x)∨∃ n,1048576<n∧n≤140737488355328∧a=.big n
def WB (a : AV) : Prop:=(∃ l : List UInt8,a=mL iB l)∨∃ n,1048576<n∧n≤140737488355328∧a=.big n
end Go.AW
namespace Go.Proofs.Shf
open Go.AW Go.Proofs Go.Shf
open Go.Deep
def gh0 (W : World) : Gh:=⟨fun b o=>W.cell? ⟨b,o,none⟩,fun _=>none,fun _=>none⟩
theorem wrel0 (W : World) : WRel (gh0 W) (2*W.heap.size+1) [] W where
 fz b o v h:=h
 fm b es h:=by cases h
 ob i o h:=by simp [Heap.get] at h
 inj i j b c c' n h:=by simp [Heap.get] at h
 injm i j b n h:=by simp [Heap.get] at h
 base:=by omega
 fin:=⟨0,fun i _=>rfl⟩
section
variable {H : Type} {enc : TypeId × Value→H} {W : World}
def RdV (enc : TypeId × Value→H) (W : World) (t : TypeId) (Q : AV→Prop) : Prop :=
 ∀ fuel v d ps,DataW.trod enc Tryz.prog W 0 (fun _=>true) true fuel t [v]=some (d,ps)→(∀ n,n∈d.weights Tryz.prog t→n≤reachBytes)→∃ a,Q a∧VRel (gh0 W) a v
theorem rd_byte : RdV enc W 5 fun a=>∃ b : UInt8,a=Go.AW.iB b:=by
 intro fuel v d ps h _
 cases fuel with
 | zero=>simp [DataW.trod] at h
 | succ fuel =>
  cases v <;> simp only [DataW.trod,Tryz.underlying5] at h <;> try (cases h; done)
  rename_i k n
  split at h
  ·rename_i hk
   obtain ⟨rfl,hf⟩:=hk
   have hr : 0≤n∧n≤255:=by
    simp only [Lit.wf,Bool.and_eq_true,decide_eq_true_eq] at hf;exact ⟨hf.1,hf.2⟩
   refine ⟨_,⟨UInt8.ofNat n.toNat,rfl⟩, ?_⟩
   have e : Go.AW.iB (UInt8.ofNat n.toNat)=.int .u8 n:=by
    have h1 : (UInt8.ofNat n.toNat).toNat=n.toNat:=by rw [UInt8.toNat_ofNat']; omega
    rw [Go.AW.iB,h1,Int.toNat_of_nonneg hr.1]
   rw [e];exact .int _ n
  ·cases h
theorem weightsAll_mem {P : Program} {e : TypeId} {l : List (DataW H)} {x : DataW H} (hx : x∈l) {n : Nat} (hn : n∈x.weights P e) : n∈DataW.weightsAll P e l:=by
 induction l with
 | nil=>simp at hx
 | cons y r ih =>
  simp only [DataW.weightsAll,List.mem_append]
  rcases List.mem_cons.mp hx with rfl | hx
  ·exact .inl hn
  ·exact .inr (ih hx)
theorem rd_slice {t e : TypeId} {Q : AV→Prop} (ht : Tryz.prog.underlying t=some (.slice e)) (hc : Tryz.prog.cellsOf e=1) (hb : 1≤Tryz.prog.bytesOf e) (hQ : ∀ a,Q a→a.cells=[a]) (h : RdV enc W e Q) : RdV enc W t (WN Q):=by
 intro fuel v d ps htr hw
 rcases open_slice1 ht hc htr with ⟨hv,hx⟩ | ⟨a,len,cap,m,n,V,D,Pl,hv,_,hl,hm,hmm,hx,hel⟩
 ·injection hv with hv
  subst hv;exact ⟨.sl [],.inl ⟨[],rfl,by simp⟩,.slnil none 0⟩
 ·injection hv with hv
  subst hv;simp only [if_true] at hmm;subst hmm;simp only [Prod.mk.injEq] at hx
  obtain ⟨rfl,rfl⟩:=hx
  have hw0 : (((List.range len).map D).length+((List.range (m - len)).map fun j=>D (len+j)).length)*Tryz.prog.bytesOf e≤reachBytes:=hw _ (by simp [DataW.weights,ht])
  have hlen : len≤140737488355328:=by
   simp only [List.length_map,List.length_range] at hw0
   have h1 : len*1≤(len+(m - len))*Tryz.prog.bytesOf e:=Nat.mul_le_mul (by omega) hb
   have h2 : reachBytes≤140737488355328:=by decide
   omega
  by_cases hbig : 1099511627776<len
  ·exact ⟨.big len,.inr ⟨len,by omega,hlen,rfl⟩,.big _ _ _ hlen⟩
  ·have hall : ∀ i,∃ x,i<len→Q x∧VRel (gh0 W) x (V i):=by
    intro i
    by_cases hi : i<len
    ·obtain ⟨x,q1,q2⟩:=h n (V i) (D i) (Pl i) (hel i (by omega)).2 fun k hk=>hw k (by
      simp only [DataW.weights,ht,List.mem_cons,List.mem_append];exact .inr (.inl (weightsAll_mem (List.mem_map.mpr ⟨i,List.mem_range.mpr hi,rfl⟩) hk)))
     exact ⟨x,fun _=>⟨q1,q2⟩⟩
    ·exact ⟨.nilp,fun h=>absurd h hi⟩
   obtain ⟨A,hA⟩:=Classical.axiomOfChoice hall
   have hget : ∀ i,i<len→((List.range len).map A).getD i nv=A i:=fun i hi=>getD_map_range A nv hi;refine ⟨.sl ((List.range len).map A),.inl ⟨_,rfl,fun x hx=>?_⟩, ?_⟩
   ·obtain ⟨i,hi,rfl⟩:=List.mem_map.mp hx;exact (hA i (List.mem_range.mp hi)).1
   ·by_cases h0 : len=0
    ·subst h0; exact .slnil _ _
    ·have hsp : a=⟨a.block,a.off,none⟩:=by
      have:=(hel 0 (by omega)).1
      obtain ⟨b,o,s⟩:=a
      cases s with
      | none=>rfl
      | some s=>exfalso; simp [Addr.add,World.cell?] at this; split at this <;> simp at this
     have hadd : ∀ i,a.add i=⟨a.block,a.off+i,none⟩:=by
      intro i;rw [hsp];unfold Addr.add
      split
      ·rename_i e; simp [e]
      ·rfl
     have key : VRel (gh0 W) (.sl ((List.range len).map A)) (.slice (some ⟨a.block,a.off,none⟩) ((List.range len).map A).length m):=by
      refine .sl _ a.block a.off 1 m V (by simp [maxL]; omega) (by simp; omega) (fun i hi=>?_) (fun i j hi hj=>?_) (fun i j hi hj=>?_)
      ·rw [hget i (by simpa using hi),hQ _ (hA i (by simpa using hi)).1]; rfl
      ·have hi' : i<len:=by simpa using hi
       have:=(hel i (by omega)).1;rw [hadd] at this
       have e : i*1+j=i:=by omega
       rw [e]; exact this
      ·have hi' : i<len:=by simpa using hi
       have e : i*1+j=i:=by omega
       obtain rfl : j=0:=by omega
       rw [e,hget i hi',hQ _ (hA i hi').1];exact (hA i hi').2
     rw [List.length_map,List.length_range,← hsp] at key;exact key
theorem WB.of {a : AV} (h : WN (fun a=>∃ b : UInt8,a=Go.AW.iB b) a) : WB a:=by
 rcases h with ⟨l,rfl,hl⟩ | h
 ·refine .inl ⟨l.map fun x=>match x with | .int _ n=>UInt8.ofNat n.toNat | _=>0, ?_⟩
  rw [mL,List.map_map]
  congr 1
  have : ∀ x,x∈l→(Go.AW.iB ∘ fun x : AV=>match x with | .int _ n=>UInt8.ofNat n.toNat | _=>0) x=x:=fun x hx=>by
   obtain ⟨n,rfl⟩:=hl x hx
   simp [Go.AW.iB]
  exact ((List.map_congr_left this).trans (by simp)).symm
 ·exact .inr h
theorem rd_bytes : ∀ fuel v d ps,DataW.trod enc Tryz.prog W 0 (fun _=>true) true fuel 22 [v]=some (d,ps)→(∀ n,n∈d.weights Tryz.prog 22→n≤reachBytes)→∃ a,WB a∧VRel (gh0 W) a v:=fun fuel v d ps k w=>by
 obtain ⟨a,q1,q2⟩:=rd_slice Tryz.underlying22 (by kernel_rfl) (of_decide_eq_true (by kernel_rfl)) (fun a ⟨n,e⟩=>by rw [e]; rfl) rd_byte fuel v d ps k w;exact ⟨a,WB.of q1,q2⟩
end
theorem big_big (B n : Nat) (hn : 1048576<n) : Pur Tryz.prog B 4 [.big n] (.bool true):=by
 refine ⟨fun H0=>c4 (by simp) fun hf=>?_⟩;unfold s4;refine tt ?_;exact pure_ret (by congr 1; simp; omega) (.refl _)
end Go.Proofs.Shf
namespace Go.Proofs.Shf
open Go.AW Go.Proofs Go.Shf
theorem fnMovedQueries_all (B : Nat) (hB : B % 2=1) (a : AV) (h : WB a) : Pur Tryz.prog B 3 [a] (.bool true):=by
 rcases h with ⟨l,rfl⟩ | ⟨n,hn,_,rfl⟩
 ·exact fnMovedQueries_ok B hB l
 ·refine ⟨fun H0=>c3 (by simp) fun _=>?_⟩;unfold s3;refine tt ?_;refine (big_big B n hn).go fun _=>tt ?_;exact pure_ret rfl (.refl _)
end Go.Proofs.Shf
