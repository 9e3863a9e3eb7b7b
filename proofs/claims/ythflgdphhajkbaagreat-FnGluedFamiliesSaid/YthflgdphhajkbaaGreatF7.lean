/- A part of a proof. -/
import Derived.Test.YthflgdphhajkbaaGreatF6
import Derived.WalkKit
import Derived.Laws.LoneSync
import Derived.WalkSmall
set_option linter.unusedVariables false
set_option linter.unusedSimpArgs false
set_option linter.unusedSectionVars false
open Nat (reduceEqDiff reduceAdd reduceMul reduceLeDiff reduceLT)
namespace Go.AW
open Go.RowKit
theorem LsG.app {α : Type} {O : Ob→AV→α→Prop} {p q l : Ob} {X Y : AV} {A : List α} {a : α} {H0 H : Heap} {K : Kont} (h : LsG O q X A) (hy : O p Y a) (h1 : Y.cells=[Y]∧Y.one=true) (o : Owns H0 H (p++(q++l))) (hm : A.length+1≤maxL)
  (hk : ∀ X' q' H',X'.one=true→LsG O q' X' (A++[a])→Owns H0 H' (q'++l)→K X' H') : appW 1 (some X) (some (.sl [Y])) K H:=by
 have hok : okEls 1 [Y]:=by
  intro e he;rw [List.mem_singleton] at he; subst he;rw [h1.1];exact ⟨rfl,fun c hc=>by rw [List.mem_singleton] at hc; subst hc; exact h1.2⟩
 have hfl : flat [Y]=[Y]:=by simp [flat,h1.1]
 rcases h with ⟨rfl,rfl,rfl⟩ | ⟨id,Xs,r,rfl,rfl,hr⟩
 ·simp only [appW,srcOf,app1];refine ⟨⟨by simp [maxL],by simp [maxL],hok⟩,fun id hn=>?_⟩;rw [hfl];refine hk (.buf id 1) ((id,.cells 1 [Y] 0)::p) _ rfl (.inr ⟨id,[Y],p,rfl,rfl, ?_⟩) ?_
  ·have:=RowsG.cons hy RowsG.nil;rw [List.append_nil] at this; exact this
  ·have:=o.new hn (.cells 1 [Y] 0)
   simpa using this
 ·have o2 : Owns H0 H ((id,.cells 1 Xs 0)::(p++(r++l))):=by
   refine o.perm ?_
   simp
  have h0:=o2.h0;simp only at h0
  have hl:=hr.len;simp only [appW,h0,srcOf,app2];refine ⟨⟨trivial,by simp,by simp; omega,by simp; omega,hok⟩,fun id' hn=>?_⟩;rw [hfl];refine hk (.buf id' (Xs.length+1)) ((id',.cells 1 (Xs++[Y]) 0)::(r++p)) _ rfl (.inr ⟨id',Xs++[Y],r++p,rfl,by simp, ?_⟩) ?_
  ·refine hr.app ?_
   have:=RowsG.cons hy RowsG.nil;rw [List.append_nil] at this; exact this
  ·have:=o2.mv hn (.cells 1 (Xs++[Y]) 0);refine this.perm (List.Perm.cons _ ?_);rw [← List.append_assoc];exact List.Perm.append_right l List.perm_append_comm
def OB (p : Ob) (X : AV) (b : Bool) : Prop:=p=[]∧X=.bool b
theorem Ow.bool : Ow OB AV.bool where
 io p X a h:=by rw [h.2]; exact .bool _
 pl p X a h x hx:=by rw [h.1] at hx; simp at hx
 ln p X a h g B H w v hW _ hv:=by rw [h.2] at hv; exact hv.mono (Gh.le_lend hW)
 fz p X a h g B H0 H l w hW o:=by
  obtain ⟨rfl,rfl⟩:=h;exact ⟨g,H,.refl g,hW,o,fun v hv=>hv⟩
abbrev OBL:=LsG OB
abbrev OBLL:=LsG OBL
theorem owBL : Ow OBL (mL AV.bool):=Ow.bool.ls
theorem owBLL : Ow OBLL (mL (mL AV.bool)):=owBL.ls
theorem rowsB : ∀ (l : List Bool),RowsG OB (l.map AV.bool) l []
 | []=>.nil
 | a::r=>.cons (p:=[]) ⟨rfl,rfl⟩ (rowsB r)
theorem RowsG.bools {Xs : List AV} {l : List Bool} {o : Ob} (h : RowsG OB Xs l o) : o=[]∧Xs=l.map AV.bool:=by
 induction h with
 | nil=>exact ⟨rfl,rfl⟩
 | cons h _ ih=>exact ⟨by rw [h.1,ih.1]; rfl,by rw [h.2,ih.2]; rfl⟩
end Go.AW
namespace Go.Proofs.Shf
open Go.AW Go.Proofs Go.Shf Go.RowKit
theorem add_calls (w : World) (b : Nat) (n d s : Int) (hs : ∀ w',(Op.intArith .add .i64 n d).run Tryz.prog w'=.ok (.int .i64 s) w') (hc : w.cell? ⟨b,0,none⟩=some (.int .i64 n)) (hz : w.frozen? ⟨b,0,none⟩=false) :
  Calls Tryz.prog 324 #[.pointer (some ⟨b,0,none⟩),.int .i64 d] w fun e w'=>e=.returned (.int .i64 s)∧w'=w.setCell ⟨b,0,none⟩ (.int .i64 s):=by
 have h204:=run_call_add (P:=Tryz.prog) Tryz.func336 (by kernel_rfl) (by kernel_rfl) (by kernel_rfl) .i64 (by kernel_rfl) hc hz (hs w)
 go_enter Tryz.func324,Tryz.ntmps324
 go_wp2
 go_ret
 exact ⟨rfl,rfl⟩
theorem add_own (B : Nat) {H0 H : Heap} {l : Ob} {ic : Nat} {n d : Int} {K : Kont} (o : Owns H0 H ((ic,.cells 1 [iI n] 0)::l)) (hk : ∀ r n' H',Owns H0 H' ((ic,.cells 1 [iI n'] 0)::l)→K r H') :
  CallH Tryz.prog B 324 [.ref ic 0,.int .i64 d] H K:=by
 refine ⟨⟨_,Tryz.func324,by kernel_rfl,by kernel_rfl⟩,fun g w vs hW hv=>?_⟩
 have h0:=o.h0;simp only at h0
 obtain ⟨v0,v1,rfl⟩ : ∃ v0 v1,vs=#[v0,v1]:=by
  have hv0:=hv.1
  rcases vs with ⟨l⟩
  simp only [List.length_cons,List.length_nil] at hv0
  match l,hv0 with
  | [a,b],_=>exact ⟨a,b,rfl⟩
 have e0 : VRel g (.ref ic 0) v0:=hv.2 0 (by simp)
 have e1 : VRel g (.int .i64 d) v1:=hv.2 1 (by simp)
 cases e1
 cases e0 with
 | ref _ _ b cap hio =>
  obtain ⟨c,el,h5,hb,hf,hm,h6,h7,h8⟩:=hW.obj hio h0
  have hlt : 0<c.size:=by simp at h7; omega
  have hv0:=h8 0 (by simp)
  have hc0 : w.cell? ⟨b,0,none⟩=some (c.getD 0 undef):=by rw [cell_of_row w b 0 c el (0,0) h5]; exact getD_some hlt
  have e2 : c.getD 0 undef=.int .i64 n:=by
   have hx : VRel g (.int .i64 n) (c.getD 0 undef):=hv0
   generalize c.getD 0 undef=u at hx
   cases hx; rfl
  rw [e2] at hc0
  have hz : w.frozen? ⟨b,0,none⟩=false:=by simp [World.frozen?,h5]
  refine (add_calls w b n d (IntKind.i64.wrap (n+d)) (fun w'=>by simp [Op.intArith]) hc0 hz).mono ?_
  rintro e w' ⟨rfl,rfl⟩
  have hbs : b<w.heap.size:=(Array.getElem?_eq_some_iff.1 h5).1
  have hb' : (w.setCell ⟨b,0,none⟩ (.int .i64 (IntKind.i64.wrap (n+d)))).heap[b]? = some (.cells (c.setIfInBounds 0 (.int .i64 (IntKind.i64.wrap (n+d)))) el (0,0)):=by
   simp [World.setCell,Array.getElem?_modify,h5]
  have hoth : ∀ k,k≠b→(w.setCell ⟨b,0,none⟩ (.int .i64 (IntKind.i64.wrap (n+d)))).heap[k]? = w.heap[k]? := by
   intro k hk;simp only [World.setCell];rw [Array.getElem?_modify,if_neg (by omega)]
  have hsz : (w.setCell ⟨b,0,none⟩ (.int .i64 (IntKind.i64.wrap (n+d)))).heap.size=w.heap.size:=by simp [World.setCell]
  refine ⟨_,rfl,g,.int .i64 (IntKind.i64.wrap (n+d)),H.set ic (.cells 1 [iI (IntKind.i64.wrap (n+d))] 0),.refl g,hk _ _ _ (o.put _),.int _ _, ?_, ?_⟩
  ·refine hW.write ic b cap 1 [iI n] _ 0 c _ el h0 hio h5 hb' hsz hoth (by simp) (fun k hk=>by omega) (by simp) (by simp [maxL]) (by simp; omega) (fun k hk=>?_)
   have : k=0:=by simp at hk; omega
   subst this
   simp [Array.getD,hlt];exact .int _ _
  ·exact ⟨rfl,rfl,rfl,by rw [hsz]; exact Nat.le_refl _,fun k hk=>hoth k (by omega),Nat.le_refl _⟩
@[go_sem] def covO (cs cc : List AV) (id ic : Nat) (X : AV) (n : Int) (q l : Ob) : Ob:=(id,.cells 4 [.ptr cs,.ptr cc,X,.ref ic 0] 0)::(ic,.cells 1 [iI n] 0)::(q++l)
def markIn (M : List (List Bool)) (x s : Nat) : List (List Bool):=M.set x ((M.getD x default).set s true)
theorem markIn_same {M : List (List Bool)} {x s : Nat} (h : (M.getD x default).getD s default=true) : markIn M x s=M:=by
 have h1 : ∀ {β : Type} (l : List β) (i : Nat) (d : β),l.set i (l.getD i d)=l:=by
  intro β l i d;apply List.ext_getElem?
  intro j
  by_cases e : j=i
  ·subst e
   by_cases hj : j<l.length
   ·simp [List.getD_eq_getElem?_getD,hj]
   ·rw [List.getElem?_eq_none (by simp; omega),List.getElem?_eq_none (by omega)]
  ·rw [List.getElem?_set_ne (by omega)]
 have h2:=h1 (M.getD x default) s default;rw [h] at h2;rw [markIn,h2,h1]
theorem mark_own (B : Nat) {cs cc : List AV} {id ic : Nat} {X : AV} {n : Int} {q l : Ob} {M : List (List Bool)} {H0 H : Heap} {K : Kont} {x s : Int} (hX : OBLL q X M) (o : Owns H0 H (covO cs cc id ic X n q l))
  (hx : 0≤x∧x.toNat<M.length) (hs : 0≤s∧s.toNat<(ix M x).length)
  (hk : ∀ n' q' H',OBLL q' X (markIn M x.toNat s.toNat)→Owns H0 H' (covO cs cc id ic X n' q' l)→K (.tup []) H') :
  CallH Tryz.prog B 311 [.ref id 0,.int .i64 x,.int .i64 s] H K:=by
 refine c311.go fun _=>?_
 obtain ⟨idX,Xs,r,rfl,rfl,hr⟩:=hX.pos (i:=x.toNat) hx.2
 have hXl:=hr.len
 have o1 : Owns H0 H ((((idX,.cells 1 Xs 0)::r))++((id,.cells 4 [.ptr cs,.ptr cc,.buf idX Xs.length,.ref ic 0] 0)::(ic,.cells 1 [iI n] 0)::l)):=by
  refine o.perm ?_;simp only [covO]
  have e1 : ((id,MObj.cells 4 [.ptr cs,.ptr cc,.buf idX Xs.length,.ref ic 0] 0)::(ic,MObj.cells 1 [iI n] 0)::(((idX,MObj.cells 1 Xs 0)::r)++l)) =
   [(id,MObj.cells 4 [.ptr cs,.ptr cc,.buf idX Xs.length,.ref ic 0] 0),(ic,MObj.cells 1 [iI n] 0)]++(((idX,MObj.cells 1 Xs 0)::r)++l):=rfl
  rw [e1];refine (List.perm_append_comm).trans ?_;rw [List.append_assoc];exact List.Perm.append_left _ List.perm_append_comm
 obtain ⟨p,r2,o2,hO,back⟩:=o1.row hr (i:=x.toNat) (by omega)
 obtain ⟨idR,Ys,rr,rfl,hY,hrr⟩:=hO.pos (i:=s.toNat) hs.2
 obtain ⟨rfl,rfl⟩:=hrr.bools
 have hgid : H.get id=some (.cells 4 [.ptr cs,.ptr cc,.buf idX Xs.length,.ref ic 0] 0):=o.h0
 have hgX : H.get idX=some (.cells 1 Xs 0):=o1.h0
 have hgR : H.get idR=some (.cells 1 ((M.getD x.toNat default).map AV.bool) 0):=o2.h0
 have hsl : s.toNat<(M.getD x.toNat default).length:=hs.2;rw [List.length_map] at hY;refine tt ?_;refine rd_get hgid (by simp) ?_;refine tt ?_;refine ⟨⟨hx.1,by omega⟩,rd_get hgX (by omega) ?_⟩;rw [hY];refine tt ?_;refine ⟨⟨hs.1,hsl⟩, ?_⟩;refine rd_inner (f:=AV.bool) hgR hsl ?_;refine tt ?_
 cases hm : (M.getD x.toNat default).getD s.toNat default with
 | true =>
  refine tw hm ?_;refine ⟨H,.refl H, ?_⟩;refine hk n _ H ?_ o;rw [markIn_same hm]; exact hX
 | false =>
  refine tw hm ?_;refine rd_get hgid (by simp) ?_;refine tt ?_;refine ⟨⟨hx.1,by omega⟩,rd_get hgX (by omega) ?_⟩;rw [hY];refine tt ?_;refine ⟨⟨hs.1,hsl⟩, ?_⟩;refine set_own (f:=AV.bool) true o2 rfl hsl fun H o3=>?_
  obtain ⟨q',hr',o4⟩:=back ((M.getD x.toNat default).set s.toNat true) [(idR,.cells 1 (((M.getD x.toNat default).set s.toNat true).map AV.bool) 0)] H (by rw [hY]; exact .inr ⟨idR,_,[],rfl,by simp,rowsB _⟩) o3
  have o5 : Owns H0 H ((ic,.cells 1 [iI n] 0)::((id,.cells 4 [.ptr cs,.ptr cc,.buf idX Xs.length,.ref ic 0] 0)::(((idX,.cells 1 Xs 0)::q')++l))):=by
   refine o4.perm ?_
   have e1 : ((id,MObj.cells 4 [.ptr cs,.ptr cc,.buf idX Xs.length,.ref ic 0] 0)::(ic,MObj.cells 1 [iI n] 0)::l)=[(id,MObj.cells 4 [.ptr cs,.ptr cc,.buf idX Xs.length,.ref ic 0] 0),(ic,MObj.cells 1 [iI n] 0)]++l:=rfl;rw [e1,← List.append_assoc];refine (List.Perm.append_right l List.perm_append_comm).trans ?_;rw [List.append_assoc];exact List.Perm.swap _ _ _
  have hgid : H.get id=some (.cells 4 [.ptr cs,.ptr cc,.buf idX Xs.length,.ref ic 0] 0):=o5.tl.h0;refine tt ?_;refine rd_get hgid (by simp) ?_;refine tt ?_;refine add_own B o5 fun r n' H o6=>tt ?_;exact ⟨H,.refl H,hk n' ((idX,.cells 1 Xs 0)::q') H (.inr ⟨idX,Xs,q',rfl,rfl,hr'⟩) o6.swap⟩
end Go.Proofs.Shf
namespace Go.Proofs.Shf
open Go.AW Go.Proofs Go.Shf
theorem covO_perm (cs cc : List AV) (id ic : Nat) (X : AV) (n : Int) (q l : Ob) : (covO cs cc id ic X n q l).Perm (q++((id,.cells 4 [.ptr cs,.ptr cc,X,.ref ic 0] 0)::(ic,.cells 1 [iI n] 0)::l)):=by
 have e1 : covO cs cc id ic X n q l=[(id,MObj.cells 4 [.ptr cs,.ptr cc,X,.ref ic 0] 0),(ic,MObj.cells 1 [iI n] 0)]++(q++l):=rfl;rw [e1];refine (List.perm_append_comm).trans ?_;rw [List.append_assoc];exact List.Perm.append_left _ List.perm_append_comm
noncomputable def clsV (c : Cat) : List AV:=clsCells c (listsOf c) (iL (lensOf (listsOf c))) (iLL (pullsOf c (listsOf c)))
def noMarks (L : List (List (List Int))) : List (List Bool):=L.map fun s=>List.replicate s.length false
theorem coverageOf_own (B : Nat) (c : Cat) (hc : c.Is) {H0 H : Heap} {l : Ob} {K : Kont} (o : Owns H0 H l) (hno : ¬ AllFew c→∀ X,K (.tup [X,.bool false]) H)
  (hk : AllFew c→∀ id ic X q H',OBLL q X (noMarks (listsOf c))→Owns H0 H' (covO (clsV c) c.cells id ic X 0 q l)→K (.tup [.ref id 0,.bool true]) H') : CallH Tryz.prog B 310 [.ptr c.cells] H K:=by
 refine c310p.go fun _=>?_
 have hob:=hc.1.o;refine tt ?_;refine (classifier_ok B c hc (sieves_all B libSorts c hc)).go fun _=>?_
 by_cases hf : AllFew c
 ·rw [clsOr,if_pos hf,dec_t hf]
  replace hk:=hk hf
  have tab:=tabOk hc hf
  have htf:=tab.few
  have htl:=tab.len
  have hcv : clsV c=clsCells c (listsOf c) (iL (lensOf (listsOf c))) (iLL (pullsOf c (listsOf c))):=rfl
  generalize hcs : clsV c=cs at *
  generalize hL : listsOf c=L at *;subst hcv;refine tt ?_;refine newRef_own o fun ic H o=>tt ?_;refine newRef_own o fun id H o=>tt ?_
  refine awp_for [6,24,25] (G:=AV × Ob) (fun k g=>[(26,some (.int .i64 (k : Int)))])
   (fun k g H=>OBLL g.2 g.1 (noMarks (L.take k))∧Owns H0 H (covO (clsCells c L (iL (lensOf L)) (iLL (pullsOf c L))) c.cells id ic g.1 0 g.2 l)) L.length (.nilsl,[]) ⟨.inl ⟨rfl,rfl,rfl⟩,o⟩ rfl ?_
  clear o
  rintro k ⟨X,q⟩ H hkk ⟨hX,o⟩;dsimp only at hX o;refine tt ?_;apply bk <;> intro h1
  ·have h1p:=of_decide h1
   have w:=wsucc (k:=k) (by omega)
   have hfk:=htf k h1p;refine tt ?_;refine ⟨h1p, ?_⟩
   have hgid : H.get id=some (.cells 4 [.ptr (clsCells c L (iL (lensOf L)) (iLL (pullsOf c L))),.ptr c.cells,X,.ref ic 0] 0):=o.h0;refine rd_get hgid (by simp) ?_;refine tt ?_;refine ⟨by simp only [maxL]; omega, ?_⟩;refine mks_list AV.bool false rfl o fun idn H o=>tt ?_
   have hY : OBL [(idn,.cells 1 ((List.replicate (L.getD k default).length false).map AV.bool) 0)] (.buf idn (L.getD k default).length) (List.replicate (L.getD k default).length false):=.inr ⟨idn,_,[],rfl,by simp,rowsB _⟩
   have o2:=o.perm (List.Perm.cons _ (covO_perm _ _ _ _ _ _ _ _));refine hX.app (a:=List.replicate (L.getD k default).length false) hY ⟨rfl,rfl⟩ o2 (by simp [noMarks,maxL]; omega) fun X' q' H hX1 hX' o3=>?_
   have o4:=o3.perm (covO_perm (clsCells c L (iL (lensOf L)) (iLL (pullsOf c L))) c.cells id ic X 0 q' l).symm;simp only [covO] at o4;refine tt ?_;rw [AV.cells_one hX1];refine st_cells o4 (by simp) rfl (fun c hc=>by rw [List.mem_singleton] at hc; subst hc; exact hX1) fun H o=>?_;simp only [wr_cons,wr_nil,List.set_cons_zero,List.set_cons_succ] at o;refine tw w ?_;refine for_next (X',q') h1p ⟨?_,o⟩ rfl
   simp only;rw [take_succ_getD L h1p,noMarks,List.map_append]; exact hX'
  ·have h1p:=of_ndecide h1
   obtain rfl : k=L.length:=by omega
   rw [List.take_length] at hX;refine tt ?_;exact ⟨H,.refl H,hk id ic X q H hX o⟩
 ·rw [clsOr,if_neg hf,dec_f hf];refine tt ?_;exact ⟨H,.refl H,hno hf _⟩
end Go.Proofs.Shf
namespace Go.Shf
open Go.AW
def marksK (L C : List (List (List Int))) (k : Nat) : List (List Bool):=(List.range L.length).map fun x=>if x<k then markAt L C x else List.replicate (L.getD x default).length false
theorem marksK_len {L C : List (List (List Int))} {k : Nat} : (marksK L C k).length=L.length:=by simp [marksK]
theorem marksK_get {L C : List (List (List Int))} {k x : Nat} (hx : x<L.length) : (marksK L C k).getD x default=if x<k then markAt L C x else List.replicate (L.getD x default).length false:=by
 rw [marksK,getD_map_range _ _ hx]
theorem getD_getElem {α : Type} [Inhabited α] (l : List α) {a : Nat} (h : a<l.length) : l.getD a default=l[a]:=by simp [List.getD_eq_getElem?_getD,h]
theorem marksK_0 {L C : List (List (List Int))} : marksK L C 0=L.map fun s=>List.replicate s.length false:=by
 apply List.ext_getElem (by simp [marksK])
 intro i h1 h2
 have hi : i<L.length:=by simpa using h2
 simp [marksK,List.getD_eq_getElem?_getD,hi]
theorem marksK_all {L C : List (List (List Int))} : marksK L C L.length=marksOf L C:=by
 apply List.ext_getElem (by simp [marksK,marksOf])
 intro i h1 h2
 have hi : i<L.length:=by simpa [marksOf] using h2
 simp [marksK,marksOf,hi]
theorem marksK_succ {L C : List (List (List Int))} {k : Nat} (hk : k<L.length) : (marksK L C k).set k (markAt L C k)=marksK L C (k+1):=by
 apply List.ext_getElem (by simp [marksK])
 intro i h1 h2
 have hi : i<L.length:=by simpa [marksK] using h2
 rw [List.getElem_set];simp only [marksK,List.getElem_map,List.getElem_range]
 by_cases e : k=i
 ·subst e; simp
 ·rw [if_neg e]
  by_cases e2 : i<k
  ·rw [if_pos e2,if_pos (by omega)]
  ·rw [if_neg e2,if_neg (by omega)]
end Go.Shf
namespace Go.Proofs.Shf
open Go.AW Go.Proofs Go.Shf
theorem coverage_own (B : Nat) (j : Top) (hF : j.Form) {H0 H : Heap} {l : Ob} {K : Kont} (o : Owns H0 H l) (hno : ¬ AllFew j.shape→∀ X,K (.tup [X,.bool false]) H)
  (hk : AllFew j.shape→∀ id ic X n q H',OBLL q X (marksOf (listsOf j.shape) j.covers)→Owns H0 H' (covO (clsV j.shape) j.shape.cells id ic X n q l)→K (.tup [.ref id 0,.bool true]) H') :
  CallH Tryz.prog B 292 [.ptr j.cells] H K:=by
 refine c292.go fun ⟨hfj,_⟩=>?_
 have hc:=hF.is
 have hob:=hc.1.o;refine tt ?_;refine coverageOf_own B j.shape hc o (fun hf X=>?_) fun hf id ic X q H hX o=>?_
 ·refine tt ?_;exact ⟨H,.refl H,hno hf _⟩
 replace hk:=hk hf
 have tab:=tabOk hc hf
 have htf:=tab.few
 have htl:=tab.len
 have hcv:=form_covers hF hf
 have hall:=tab.all
 generalize hL : listsOf j.shape=L at *
 have hcs : clsV j.shape=clsCells j.shape L (iL (lensOf L)) (iLL (pullsOf j.shape L)):=by rw [clsV,hL]
 have hCl:=hcv.1
 have hCm:=hcv.2
 have hflc : j.covers.length≤8:=by omega
 have hn0 : noMarks L=marksK L j.covers 0:=by rw [marksK_0]; rfl
 rw [hn0] at hX;refine tt ?_
 refine awp_for [4,22,23] (G:=List (List Bool) × Int × Ob) (fun k g=>[(24,some (.int .i64 (k : Int)))])
  (fun k g H=>g.1=marksK L j.covers k∧OBLL g.2.2 X g.1∧Owns H0 H (covO (clsV j.shape) j.shape.cells id ic X g.2.1 g.2.2 l)) j.covers.length (_,0,q) ⟨rfl,hX,o⟩ rfl ?_
 clear o hX
 rintro k ⟨M,n,q⟩ H hkk ⟨hM,hX,o⟩;dsimp only at hM hX o;refine tt ?_;apply bk <;> intro h1
 ·have h1p:=of_decide h1
  have w:=wsucc (k:=k) (by omega)
  have hkL : k<L.length:=by omega
  have hCk:=hCm k hkL
  have hfk:=htf k hkL
  have hnd:=(hall k hkL).nodup
  have hCkl : (j.covers.getD k default).length≤1000000:=by
   have hnd2 : (j.covers.getD k default).Nodup:=by
    rw [List.nodup_iff_pairwise_ne,List.pairwise_iff_getElem]
    intro a b ha hb hab e
    have hlt : ∀ d a,a+d+1<(j.covers.getD k default).length→cmp ((j.covers.getD k default).getD a default) ((j.covers.getD k default).getD (a+d+1) default)<0:=by
     intro d
     induction d with
     | zero=>intro a ha; exact hF.ord k (by omega) a ha
     | succ d ih=>intro a ha; exact cmp_trans (ih a (by omega)) (hF.ord k (by omega) (a+d+1) (by omega))
    have:=hlt (b - a - 1) a (by omega);rw [show a+(b - a - 1)+1=b by omega] at this
    have e1:=getD_getElem (j.covers.getD k default) ha
    have e2:=getD_getElem (j.covers.getD k default) hb;rw [e1,e2,e,cmp_zero.mpr rfl] at this;exact absurd this (by omega)
   have:=List.Nodup.length_le_of_subset hnd2 fun s hs=>(hCk s hs).2;omega
  refine tt ?_;refine ⟨h1p, ?_⟩
  have hMs : M=(marksK L j.covers k).set k (List.replicate (L.getD k default).length false):=by
   rw [hM]
   have h3 : (marksK L j.covers k).getD k default=List.replicate (L.getD k default).length false:=by rw [marksK_get hkL,if_neg (by omega)]
   rw [← h3];apply List.ext_getElem (by simp)
   intro i hi1 hi2;rw [List.getElem_set]
   split
   ·rename_i e; subst e; simp [List.getD_eq_getElem?_getD,hi1]
   ·rfl
  generalize hS : L.getD k default=S at *
  generalize hR : j.covers.getD k default=R at *
  refine awp_for [4,6,22,23,24,29,30] (G:=List Bool × Int × Ob) (fun i g=>[(31,some (.int .i64 (i : Int)))])
   (fun i g H=>RowI S R i g.1∧OBLL g.2.2 X ((marksK L j.covers k).set k g.1)∧Owns H0 H (covO (clsV j.shape) j.shape.cells id ic X g.2.1 g.2.2 l)) R.length (List.replicate S.length false,n,q) ⟨RowI.zero S R,by simp only; rw [← hMs]; exact hX,o⟩ rfl ?_
  clear o hX hMs hM M n q
  rintro i ⟨A,n,q⟩ H hi ⟨hA,hX,o⟩;dsimp only at hA hX o;refine tt ?_;apply bk <;> intro h2
  ·have h2p:=of_decide h2
   have w2:=wsucc (k:=i) (by omega)
   have hmem:=(hCk _ (mem_getD.mpr ⟨i,h2p,rfl⟩)).2
   have hin:=indexOf_in hmem
   have hix : ix L k=S:=by rw [ix_nat,hS]
   have hstep:=hA.step hnd hmem;refine tt ?_;refine ⟨h2p, ?_⟩
   have hgid : H.get id=some (.cells 4 [.ptr (clsV j.shape),.ptr j.shape.cells,X,.ref ic 0] 0):=o.h0;refine rd_get hgid (by simp) ?_;rw [hcs];refine tt ?_;refine (number_ok B j.shape L (iL (lensOf L)) (iLL (pullsOf j.shape L)) k ⟨by omega,by omega⟩ (R.getD i default)).go fun _=>?_;rw [hix];refine tt ?_
   have hget : ix ((marksK L j.covers k).set k A) (k : Int)=A:=by
    rw [ix_nat,getD_set,if_pos ⟨rfl,by rw [marksK_len]; exact hkL⟩]
   refine mark_own B hX o ⟨by omega,by rw [List.length_set,marksK_len]; simpa using hkL⟩ ⟨hin.1,by rw [hget,hA.1]; exact hin.2.1⟩ fun n' q' H hX' o'=>?_;refine tw w2 ?_;refine for_next (A.set (indexOf S (R.getD i default)).toNat true,n',q') h2p ⟨hstep, ?_,by rw [hcs] at o'; exact o'⟩ rfl
   simp only
   have e : markIn ((marksK L j.covers k).set k A) (k : Int).toNat (indexOf S (R.getD i default)).toNat=(marksK L j.covers k).set k (A.set (indexOf S (R.getD i default)).toNat true):=by
    rw [markIn,Int.toNat_natCast,← ix_nat,hget,List.set_set]
   rw [e] at hX'; exact hX'
  ·have h2p:=of_ndecide h2
   obtain rfl : i=R.length:=by omega
   have hdone:=hA.done
   have e : markRow S R=markAt L j.covers k:=by rw [markAt,hS,hR]
   rw [hdone,e,marksK_succ hkL] at hX;refine tw w ?_;exact for_next (marksK L j.covers (k+1),n,q) h1p ⟨rfl,hX,o⟩ rfl
 ·have h1p:=of_ndecide h1
  obtain rfl : k=j.covers.length:=by omega
  rw [hM,hCl,marksK_all] at hX;refine tt ?_;exact ⟨H,.refl H,hk id ic X n q H hX o⟩
end Go.Proofs.Shf
namespace Go.AW
open Go.RowKit
theorem Owns.base {H0 H : Heap} {l : Ob} (o : Owns H0 H l) : Owns H0 (l++H0) l:=by
 refine ⟨fun i x hx=>?_,fun x hx=>?_,o.nd,o.out⟩
 ·rw [Heap.get_append]
  cases e1 : Heap.get l i with
  | some o1=>have:=o.out _ (Heap.get_mem e1); simp only at this; rw [this] at hx; cases hx
  | none=>simpa using hx
 ·rw [Heap.get_append,Heap.mem_get o.nd hx]; rfl
theorem Owns.base_sub {H0 H : Heap} {l : Ob} (o : Owns H0 H l) : Heap.sub (l++H0) H:=by
 intro i x e;rw [Heap.get_append] at e
 cases e1 : Heap.get l i with
 | some o1 =>
  rw [e1] at e
  have:=o.get _ (Heap.get_mem e1);simp only at this;rw [this]; exact e
 | none=>rw [e1,Option.none_or] at e; exact o.sub _ _ e
theorem wk_cov {F : Env→Heap→Prop} {σ : Env} {H0 H : Heap} {l q : Ob} {cs cc : List AV} {id ic : Nat} {X : AV} {n : Int} {M : List (List Bool)} (t : Nat) (hX : OBLL q X M)
  (o : Owns H0 H (Go.Proofs.Shf.covO cs cc id ic X n q l)) (ht : σ.get t=some (.ref id 0))
  (hk : ∀ H',Owns H0 H' l→wkW F ((t,some (.ptr [.ptr cs,.ptr cc,mL (mL AV.bool) M,.ref ic 0]))::σ) H') : wkW F σ H:=by
 have ol : Owns H0 H l:=by
  have:=o.perm (Go.Proofs.Shf.covO_perm cs cc id ic X n q l)
  have o2 : Owns H0 H ((id,.cells 4 [.ptr cs,.ptr cc,X,.ref ic 0] 0)::(ic,.cells 1 [iI n] 0)::(l++q)):=o.perm (List.Perm.cons _ (List.Perm.cons _ List.perm_append_comm));exact ⟨o2.sub,fun x hx=>o2.get x (by simp [hx]),(List.nodup_append.mp (by simpa using o2.tl.tl.nd)).1,fun x hx=>o2.out x (by simp [hx])⟩
 have h1 : H.get id=some (.cells 4 [.ptr cs,.ptr cc,X,.ref ic 0] 0):=o.h0;refine wkW_step (σ1:=(t,some (.ptr [.ptr cs,.ptr cc,mL (mL AV.bool) M,.ref ic 0]))::σ) ?_ (hk _ ol.base)
 intro g B w tm hW hE
 obtain ⟨q1,q2⟩:=hE t _ ht
 generalize hu : tm.getD t undef=u at q2
 cases q2 with
 | ref _ _ b cap hio =>
  obtain ⟨c,el,h5,hb,hf,hm,h6,h7,h8⟩:=hW.obj hio h1
  obtain ⟨g1,H1,r1,r2,r3,r4⟩:=owBLL.fz _ _ _ hX g B H0 H _ w hW (o.perm (Go.Proofs.Shf.covO_perm cs cc id ic X n q l))
  have h1' : H1.get id=some (.cells 4 [.ptr cs,.ptr cc,X,.ref ic 0] 0):=r3.h0
  obtain ⟨c2,g2,s1,s2,s3,s4,s5,s6⟩:=r2.give id b cap 4 _ 0 h1' (r1.io _ _ hio)
  have hc : ∀ i,i<4→c2.getD i undef=c.getD i undef:=by
   intro i hi
   have:=s2.fz _ _ _ (s5 i hi);rw [cell_of_row w b i c el (0,0) h5] at this
   have hi' : i<c.size:=by simp at h7; omega
   rw [Array.getElem?_eq_getElem hi'] at this;rw [← Option.some.inj this]; simp [Array.getD,hi']
  have o3:=(r3.put (.cells 4 [.ptr cs,.ptr cc,X,.ref ic 0] [AV.ptr cs,.ptr cc,X,.ref ic 0].length)).tl.tl;refine ⟨g2,r1.trans s1,s2.sub o3.base_sub,fun s x e=>?_⟩;simp only [Env.get] at e
  split at e
  ·rename_i hs; cases e; subst hs
   refine ⟨q1, ?_⟩;rw [hu];refine .ptr _ b 0 (fun k=>c2.getD k undef) (fun i hi=>by rw [Nat.zero_add]; exact s5 i (by simpa using hi)) (fun i hi=>?_)
   have hi4 : i<4:=by simpa using hi
   by_cases e2 : i=2
   ·subst e2;rw [hc 2 (by omega)]
    have:=h8 2 (by simp);exact (r4 _ (by simpa using this)).mono s1
   ·have:=s6 i (by simpa using hi4)
    obtain rfl | rfl | rfl : i=0∨i=1∨i=3:=by omega
    all_goals simpa using this
  ·obtain ⟨z1,z2⟩:=hE s x e; exact ⟨z1,z2.mono (r1.trans s1)⟩
end Go.AW
namespace Go.Shf
open Go.AW Go.Proofs.Shf
noncomputable def covV (j : Top) : Cov:=⟨j.shape,lensOf (listsOf j.shape),pullsOf j.shape (listsOf j.shape),listsOf j.shape,marksOf (listsOf j.shape) j.covers⟩
def mk2 (M : List (List Bool)) (x s : Nat) : Bool:=(M.getD x default).getD s default
def P1 (c : Cat) (L : List (List (List Int))) (M : List (List Bool)) (k : Nat) : Prop:=∀ x,x<k→mg M x ((topsOf c L).getD x default)=true
def P2i (c : Cat) (L : List (List (List Int))) (M : List (List Bool)) (a i : Nat) : Prop:=∀ s,s<i→mk2 M (c.frm.getD a default).toNat s=true→mg M (c.to.getD a default) (((pullsOf c L).getD a default).getD s default)=true
def P2 (c : Cat) (L : List (List (List Int))) (M : List (List Bool)) (k : Nat) : Prop:=∀ a,a<k→P2i c L M a (M.getD (c.frm.getD a default).toNat default).length
def P3s (v : Cov) (x t i : Nat) : Prop:=∀ s,s<i→mk2 v.marks x s=true→mk2 v.marks x t=false→locP v ((v.sieves.getD x default).getD t default) ((v.sieves.getD x default).getD s default)→mk2 v.marks x t=true
def P3t (v : Cov) (x k : Nat) : Prop:=∀ t,t<k→P3s v x t (v.marks.getD x default).length
def P3 (v : Cov) (k : Nat) : Prop:=∀ x,x<k→P3t v x (v.sieves.getD x default).length
theorem all_succ {p : Nat→Prop} {k : Nat} : (∀ i,i<k+1→p i)↔(∀ i,i<k→p i)∧p k :=
 ⟨fun h=>⟨fun i hi=>h i (by omega),h k (by omega)⟩,fun ⟨h,hk⟩=>lt_succ_all h hk⟩
theorem locP_iff {j : Top} (tab : TabOk j.shape (listsOf j.shape)) {x s t : Nat} (hx : x<(listsOf j.shape).length) (hs : s<((listsOf j.shape).getD x default).length) (ht : t<((listsOf j.shape).getD x default).length) :
  locP (covV j) (((listsOf j.shape).getD x default).getD t default) (((listsOf j.shape).getD x default).getD s default)↔LocP j.shape (listsOf j.shape) (covV j).marks x s t:=by
 have hsv:=tab.sv hx hs;rw [locP,LocP,all_getD];refine forall_congr' fun i=>imp_congr_right fun hi=>?_
 have ha:=hsv.arr (mem_getD.mpr ⟨i,hi,rfl⟩)
 generalize hav : (((listsOf j.shape).getD x default).getD s default).getD i default=a at *
 have hto:=tab.to ha.1
 have e : (ix (pullsOf j.shape (listsOf j.shape)) a).getD t default=indexOf (ix (listsOf j.shape) (ix j.shape.to a)) (pullS j.shape a (((listsOf j.shape).getD x default).getD t default)):=by
  rw [pulls_get ha.1,ha.2,ix_nat,map_getD _ ht]
 rw [e]; rfl
theorem cov_top {j : Top} (hF : j.Form) (hf : AllFew j.shape) (hM : (covV j).marks.length=(listsOf j.shape).length) :
  (P1 j.shape (listsOf j.shape) (covV j).marks (listsOf j.shape).length∧P2 j.shape (listsOf j.shape) (covV j).marks j.shape.frm.length∧P3 (covV j) (listsOf j.shape).length)↔TopIs j.shape j.covers:=by
 have tab:=tabOk hF.is hf
 have hcv:=form_covers hF hf
 have hmk : MarkOk (listsOf j.shape) (covV j).marks:=markOk;rw [← topM_iff (L:=listsOf j.shape) tab fun x hx s hs=>(hcv.2 x hx s hs).1]
 have hms : marksOf (listsOf j.shape) j.covers=(covV j).marks:=rfl
 have hsv : (covV j).sieves=listsOf j.shape:=rfl;rw [hms]
 constructor
 ·rintro ⟨h1,h2,h3⟩ x hx
  have hxL : x<(listsOf j.shape).length:=by omega
  refine ⟨h1 x hxL,fun s hs hsm=>⟨fun a ha e=>?_,fun k hk=>?_⟩⟩
  ·have hx2 : (j.shape.frm.getD a default).toNat=x:=by rw [e]; simp
   refine h2 a ha s (by rw [hx2]; exact hs) ?_;rw [hx2]; exact hsm
  ·rw [hmk.row x hxL] at hs hk
   by_cases hl : LocP j.shape (listsOf j.shape) (covV j).marks x s k
   ·left
    cases hb : mk2 (covV j).marks x k with
    | true=>exact hb
    | false =>
     have:=h3 x hxL k (by rw [hsv]; exact hk) s (by rw [hmk.row x hxL]; exact hs) hsm hb (by rw [hsv]; exact (locP_iff tab hxL hs hk).mpr hl);rw [hb] at this; cases this
   ·exact .inr hl
 ·intro h;refine ⟨fun x hx=>(h x (by omega)).1,fun a ha s hs hsm=>?_,fun x hx t ht s hs hsm htm hl=>?_⟩
  ·have haa : 0≤(a : Int)∧(a : Int).toNat<j.shape.frm.length:=⟨by omega,by simpa using ha⟩
   have hfr:=tab.frm haa;rw [ix_nat] at hfr;exact ((h _ (by rw [hM]; exact hfr.2)).2 s hs hsm).1 a ha (by rw [Int.toNat_of_nonneg hfr.1])
  ·rw [hsv] at ht hl;rw [hmk.row x hx] at hs
   rcases ((h x (by rw [hM]; exact hx)).2 s (by rw [hmk.row x hx]; exact hs) hsm).2 t (by rw [hmk.row x hx]; exact ht) with h4 | h4
   ·exact h4
   ·exact absurd ((locP_iff tab hx hs ht).mp hl) h4
end Go.Shf
namespace Go.Proofs.Shf
open Go.AW Go.Proofs Go.Shf
theorem visit_own (B : Nat) (v : Cov) (cnt : AV) {H0 H : Heap} {l : Ob} {gid : Nat} {b : Bool} {K : Kont} {x s : Int} (o : Owns H0 H ((gid,.cells 1 [.bool b] 0)::l)) (hx : 0≤x∧x.toNat<v.marks.length) (hs : 0≤s∧s.toNat<(ix v.marks x).length)
  (hk : ∀ H',Owns H0 H' ((gid,.cells 1 [.bool (b && mg v.marks x s)] 0)::l)→K (.tup []) H') : CallH Tryz.prog B 314 [.int .i64 x,.int .i64 s,.ref gid 0,.ptr [.ptr (v.cells cnt)]] H K:=by
 refine c314.go fun _=>?_
 have hg : H.get gid=some (.cells 1 [.bool b] 0):=o.h0;refine tt ?_;refine rd_get hg (by simp) ?_
 have e : (ix v.marks x).getD s.toNat default=mg v.marks x s:=rfl
 cases b with
 | false =>
  refine tt ?_;refine sw o fun H o=>tt ?_;exact ⟨H,.refl H,hk H o⟩
 | true =>
  refine tt ?_;refine ⟨hx,hs, ?_⟩;refine sw o fun H o=>tt ?_;refine ⟨H,.refl H,hk H ?_⟩;rw [Bool.true_and,← e]; exact o
theorem follows_own (B : Nat) (j : Top) (hF : j.Form) (hf : AllFew j.shape) (cnt : AV) {H0 H : Heap} {l : Ob} {gid : Nat} {K : Kont} (o : Owns H0 H ((gid,.cells 1 [.bool true] 0)::l))
  (hk : ∀ b H',(b=true↔TopIs j.shape j.covers)→Owns H0 H' ((gid,.cells 1 [.bool b] 0)::l)→K (.tup []) H') :
  CallH Tryz.prog B 313 [.ptr ((covV j).cells cnt),.fn (.func 314) [.ref gid 0,.ptr [.ptr ((covV j).cells cnt)]]] H K:=by
 have tab:=tabOk hF.is hf
 have hc:=hF.is
 have hob:=hc.1.o
 have hm:=hc.1.m
 have htl:=hc.1.tol
 have hL:=tab.len
 have hcv:=form_covers hF hf
 have hmk : MarkOk (listsOf j.shape) (covV j).marks:=markOk
 have hfin:=cov_top hF hf hmk.len
 have hsv : (covV j).sieves=listsOf j.shape:=rfl
 have hsh : (covV j).shape=j.shape:=rfl
 have hcells : (covV j).cells cnt=[.ptr (clsCells j.shape (listsOf j.shape) (iL (lensOf (listsOf j.shape))) (iLL (pullsOf j.shape (listsOf j.shape)))),.ptr j.shape.cells,mL (mL AV.bool) (covV j).marks,cnt]:=rfl
 have htops:=tops_ok B j.shape (listsOf j.shape) tab (iL (lensOf (listsOf j.shape))) (iLL (pullsOf j.shape (listsOf j.shape)))
 have hvis:=fun (H0 H : Heap) (l : Ob) (gid : Nat) (b : Bool) (K : Kont) (x s : Int)=>visit_own B (covV j) cnt (H0:=H0) (H:=H) (l:=l) (gid:=gid) (b:=b) (K:=K) (x:=x) (s:=s)
 have hloc : ∀ x s t : Nat,x<(listsOf j.shape).length→s<((listsOf j.shape).getD x default).length→t<((listsOf j.shape).getD x default).length →
   Pur Tryz.prog B 329 [.ptr ((covV j).cells cnt),iL (((listsOf j.shape).getD x default).getD t default),iL (((listsOf j.shape).getD x default).getD s default)] (.bool (dec (locP (covV j) (((listsOf j.shape).getD x default).getD t default) (((listsOf j.shape).getD x default).getD s default)))):=by
  intro x s t hx hs ht;refine locally_ok B (covV j) hc cnt _ _ x (tab.sv hx ht) (fun a ha=>?_) hL hmk.len (fun y hy=>⟨?_,fun s hs=>?_⟩) ?_
  ·have:=(tab.sv hx hs).arr ha; exact ⟨this.1.1,this.1.2,this.2⟩
  ·have hy2 : 0≤y∧y<j.shape.objs:=hy
   have:=hmk.row y.toNat (by omega); exact this
  ·have hy2 : 0≤y∧y<j.shape.objs:=hy;exact ((tab.at hy2.1 (by omega)).mem s).mpr hs
  ·have:=(tab.sv hx hs).len; omega
 rw [hcells] at hvis hloc ⊢;refine c313p.go fun _=>?_
 have hml:=hmk.len
 have hrow:=hmk.row
 have hfew:=tab.few
 have htop : ∀ x : Nat,x<(listsOf j.shape).length→0≤(topsOf j.shape (listsOf j.shape)).getD x default∧((topsOf j.shape (listsOf j.shape)).getD x default).toNat<((listsOf j.shape).getD x default).length:=fun x hx=>(tab.top hx).1
 have htlen : (topsOf j.shape (listsOf j.shape)).length=(listsOf j.shape).length:=tops_len
 have hfr : ∀ a : Nat,a<j.shape.frm.length→0≤j.shape.frm.getD a default∧(j.shape.frm.getD a default).toNat<(listsOf j.shape).length:=fun a ha=>by
  have:=tab.frm (a:=a) ⟨by omega,by simpa using ha⟩
  rwa [ix_nat] at this
 have hto : ∀ a : Nat,a<j.shape.frm.length→0≤j.shape.to.getD a default∧(j.shape.to.getD a default).toNat<(listsOf j.shape).length:=fun a ha=>by
  have:=tab.to (a:=a) ⟨by omega,by simpa using ha⟩
  rwa [ix_nat] at this
 have hpl : ∀ a s : Nat,a<j.shape.frm.length→s<((listsOf j.shape).getD (j.shape.frm.getD a default).toNat default).length→(s<((pullsOf j.shape (listsOf j.shape)).getD a default).length) ∧
   0≤((pullsOf j.shape (listsOf j.shape)).getD a default).getD s default∧(((pullsOf j.shape (listsOf j.shape)).getD a default).getD s default).toNat<((listsOf j.shape).getD (j.shape.to.getD a default).toNat default).length:=fun a s ha hs=>by
  have haa : 0≤(a : Int)∧(a : Int).toNat<j.shape.frm.length:=⟨by omega,by simpa using ha⟩
  have h1:=tab.pull haa (k:=s) (by rw [ix_nat]; exact hs)
  have h2:=pulls_row (L:=listsOf j.shape) haa;simp only [ix_nat] at h1 h2;refine ⟨?_,h1.1⟩;rw [h2]; exact hs
 have hpll : (pullsOf j.shape (listsOf j.shape)).length=j.shape.frm.length:=pulls_len
 have hmgs : ∀ x s : Nat,mk2 (covV j).marks x s=((covV j).marks.getD x default).getD s default:=fun _ _=>rfl
 generalize hLv : listsOf j.shape=L at *
 have hP3 : ∀ x t i,P3s (covV j) x t i↔∀ s,s<i→mk2 (covV j).marks x s=true→mk2 (covV j).marks x t=false→locP (covV j) ((L.getD x default).getD t default) ((L.getD x default).getD s default)→mk2 (covV j).marks x t=true:=fun x t i=>by
  rw [P3s,hsv]
 have hP3f : ∀ x k,P3t (covV j) x k↔∀ t,t<k→P3s (covV j) x t ((covV j).marks.getD x default).length:=fun _ _=>Iff.rfl
 have hP3x : ∀ k,P3 (covV j) k↔∀ x,x<k→P3t (covV j) x (L.getD x default).length:=fun k=>by rw [P3,hsv]
 generalize hMv : (covV j).marks=M at *;refine tt ?_;refine htops.go fun _=>tt ?_
 refine awp_for [0,1,18,19] (G:=Bool) (fun k g=>[(20,some (.int .i64 (k : Int)))])
  (fun k b H=>(b=true↔P1 j.shape L M k)∧Owns H0 H ((gid,.cells 1 [.bool b] 0)::l)) (topsOf j.shape L).length true ⟨by simp [P1],o⟩ rfl ?_
 clear o
 rintro x b H hx ⟨hb,o⟩
 replace o : Owns H0 H ((gid,.cells 1 [.bool b] 0)::l):=o;refine tt ?_;apply bk <;> intro h1
 ·have h1p:=of_decide h1
  have w:=wsucc (k:=x) (by omega)
  have h2:=htop x (by omega);refine tt ?_;refine ⟨h1p, ?_⟩;refine hvis H0 H l gid b _ x _ o ⟨by omega,by simpa using (by omega : x<M.length)⟩ ⟨h2.1,by rw [ix_nat,hrow x (by omega)]; exact h2.2⟩ fun H o=>?_;refine tw w ?_;refine for_next (b && mg M x ((topsOf j.shape L).getD x default)) h1p ⟨?_,o⟩ rfl;rw [P1,all_succ,Bool.and_eq_true,hb,P1]
 have h1p:=of_ndecide h1
 obtain rfl : x=(topsOf j.shape L).length:=by omega
 rw [htlen] at hb;refine tt ?_
 refine awp_for [0,1,37] (G:=Bool) (fun k g=>[(38,some (.int .i64 (k : Int)))])
  (fun k b H=>(b=true↔P1 j.shape L M L.length∧P2 j.shape L M k)∧Owns H0 H ((gid,.cells 1 [.bool b] 0)::l)) j.shape.frm.length b ⟨by rw [hb,P2]; simp,o⟩ rfl ?_
 clear o hb h1 b hx H h1p
 rintro a b H ha ⟨hb,o⟩
 replace o : Owns H0 H ((gid,.cells 1 [.bool b] 0)::l):=o;refine tt ?_;apply bk <;> intro h1
 ·have h1p:=of_decide h1
  have w:=wsucc (k:=a) (by omega)
  have hfa:=hfr a h1p
  have hta:=hto a h1p;refine tt ?_;refine ⟨h1p,⟨hfa.1,by omega⟩,_,(cloneB_ok B (M.getD (j.shape.frm.getD a default).toNat default)).run, ?_⟩
  have hrl:=hrow _ hfa.2
  have hfw:=hfew _ hfa.2;refine tt ?_
  refine awp_for [0,1,6,37,38,57,58] (G:=Bool) (fun k g=>[(59,some (.int .i64 (k : Int)))])
   (fun i b H=>(b=true↔P1 j.shape L M L.length∧P2 j.shape L M a∧P2i j.shape L M a i)∧Owns H0 H ((gid,.cells 1 [.bool b] 0)::l)) (M.getD (j.shape.frm.getD a default).toNat default).length b ⟨by rw [hb,P2i]; simp,o⟩ rfl ?_
  clear o hb b H
  rintro s b H hs ⟨hb,o⟩
  replace o : Owns H0 H ((gid,.cells 1 [.bool b] 0)::l):=o;refine tt ?_;apply bk <;> intro h2
  ·have h2p:=of_decide h2
   have w2:=wsucc (k:=s) (by omega)
   have hp:=hpl a s h1p (by omega);refine tt ?_;refine ⟨h2p, ?_⟩
   cases hms : mk2 M (j.shape.frm.getD a default).toNat s with
   | false =>
    have hms2:=hms;rw [hmgs] at hms2;refine tw hms2 ?_;refine tw w2 ?_;refine for_next b h2p ⟨?_,o⟩ rfl
    have : P2i j.shape L M a (s+1)↔P2i j.shape L M a s:=by
     rw [P2i,all_succ,P2i,hms]; simp
    rw [this]; exact hb
   | true =>
    have hms2:=hms;rw [hmgs] at hms2;refine tw hms2 ?_;refine ⟨by omega,by omega,hp.1, ?_⟩;refine hvis H0 H l gid b _ _ _ o ⟨hta.1,by omega⟩ ⟨hp.2.1,by rw [ix,hrow _ hta.2]; exact hp.2.2⟩ fun H o=>?_;refine tw w2 ?_;refine for_next (b && mg M (j.shape.to.getD a default) (((pullsOf j.shape L).getD a default).getD s default)) h2p ⟨?_,o⟩ rfl
    have : P2i j.shape L M a (s+1)↔P2i j.shape L M a s∧mg M (j.shape.to.getD a default) (((pullsOf j.shape L).getD a default).getD s default)=true:=by
     rw [P2i,all_succ,P2i,hms]; simp
    rw [this,Bool.and_eq_true,hb,and_assoc,and_assoc]
  ·have h2p:=of_ndecide h2
   obtain rfl : s=(M.getD (j.shape.frm.getD a default).toNat default).length:=by omega
   refine tw w ?_;refine for_next b h1p ⟨?_,o⟩ rfl
   have : P2 j.shape L M (a+1)↔P2 j.shape L M a∧P2i j.shape L M a (M.getD (j.shape.frm.getD a default).toNat default).length:=by rw [P2,all_succ,P2]
   rw [this]; exact hb
 have h1p:=of_ndecide h1
 obtain rfl : a=j.shape.frm.length:=by omega
 refine tt ?_
 refine awp_for [0,1,99,100] (G:=Bool) (fun k g=>[(101,some (.int .i64 (k : Int)))])
  (fun k b H=>(b=true↔P1 j.shape L M L.length∧P2 j.shape L M j.shape.frm.length∧P3 (covV j) k)∧Owns H0 H ((gid,.cells 1 [.bool b] 0)::l)) L.length b ⟨by rw [hb,hP3x]; simp,o⟩ rfl ?_
 clear o hb h1 b ha H h1p
 rintro x b H hx ⟨hb,o⟩
 replace o : Owns H0 H ((gid,.cells 1 [.bool b] 0)::l):=o;refine tt ?_;apply bk <;> intro h1
 ·have h1p:=of_decide h1
  have w:=wsucc (k:=x) (by omega)
  have hrl:=hrow x h1p
  have hfw:=hfew x h1p;refine tt ?_;refine ⟨h1p, ?_⟩
  refine awp_for [0,1,9,10,99,100,101,107] (G:=Bool) (fun k g=>[(108,some (.int .i64 (k : Int)))])
   (fun t b H=>(b=true↔(P1 j.shape L M L.length∧P2 j.shape L M j.shape.frm.length∧P3 (covV j) x)∧P3t (covV j) x t)∧Owns H0 H ((gid,.cells 1 [.bool b] 0)::l)) (L.getD x default).length b ⟨by rw [hb,hP3f]; simp,o⟩ rfl ?_
  clear o hb b H
  rintro t b H ht ⟨hb,o⟩
  replace o : Owns H0 H ((gid,.cells 1 [.bool b] 0)::l):=o;refine tt ?_;apply bk <;> intro h2
  ·have h2p:=of_decide h2
   have w2:=wsucc (k:=t) (by omega);refine tt ?_;refine ⟨by omega, ?_⟩;refine (cloneB_ok B (M.getD x default)).go fun _=>tt ?_
   refine awp_for [0,1,9,10,11,99,100,101,107,108,118,119] (G:=Bool) (fun k g=>[(120,some (.int .i64 (k : Int)))])
    (fun i b H=>(b=true↔((P1 j.shape L M L.length∧P2 j.shape L M j.shape.frm.length∧P3 (covV j) x)∧P3t (covV j) x t)∧P3s (covV j) x t i)∧Owns H0 H ((gid,.cells 1 [.bool b] 0)::l)) (M.getD x default).length b ⟨by rw [hb,hP3]; simp,o⟩ rfl ?_
   clear o hb b H
   rintro s b H hs ⟨hb,o⟩
   replace o : Owns H0 H ((gid,.cells 1 [.bool b] 0)::l):=o;refine tt ?_;apply bk <;> intro h3
   ·have h3p:=of_decide h3
    have w3:=wsucc (k:=s) (by omega)
    have hlo:=hloc x s t h1p (by omega) h2p;refine tt ?_;refine ⟨h3p, ?_⟩
    have hstep : P3s (covV j) x t (s+1)↔P3s (covV j) x t s∧(mk2 M x s=true→mk2 M x t=false→locP (covV j) ((L.getD x default).getD t default) ((L.getD x default).getD s default)→mk2 M x t=true):=by
     rw [hP3,all_succ,hP3]
    cases hms : mk2 M x s with
    | false =>
     have hms2:=hms;rw [hmgs] at hms2;refine tw hms2 ?_;refine tw w3 ?_;refine for_next b h3p ⟨?_,o⟩ rfl;rw [hstep,hms]
     simpa using hb
    | true =>
     have hms2:=hms;rw [hmgs] at hms2
     cases hmt : mk2 M x t with
     | true =>
      have hmt2:=hmt;rw [hmgs] at hmt2;refine tw hms2 ?_;try simp only [go_sem,↓reduceIte,reduceEqDiff,reduceAdd,reduceMul,reduceLeDiff,reduceLT,hms2,hmt2]
      refine ⟨by omega,by omega, ?_⟩;refine tw w3 ?_;refine for_next b h3p ⟨?_,o⟩ rfl;rw [hstep,hmt]
      simpa using hb
     | false =>
      have hmt2:=hmt;rw [hmgs] at hmt2;refine tw hms2 ?_;try simp only [go_sem,↓reduceIte,reduceEqDiff,reduceAdd,reduceMul,reduceLeDiff,reduceLT,hms2,hmt2]
      refine ⟨by omega,by omega,h2p,by omega,_,hlo.run, ?_⟩
      by_cases hl : locP (covV j) ((L.getD x default).getD t default) ((L.getD x default).getD s default)
      ·rw [dec_t hl];refine tt ?_;refine hvis H0 H l gid b _ x t o ⟨by omega,by simpa using (by omega : x<M.length)⟩ ⟨by omega,by rw [ix_nat]; simpa using (by omega : t<(M.getD x default).length)⟩ fun H o=>?_
       have hmg : mg M (x : Int) (t : Int)=false:=by
        rw [mg,ix_nat,ix_nat]; exact hmt2
       rw [hmg,Bool.and_false] at o;refine tw w3 ?_;refine for_next false h3p ⟨?_,o⟩ rfl;rw [hstep];refine ⟨fun e=>(by cases e),fun e=>?_⟩
       have:=e.2.2 hms hmt hl;rw [hmt] at this; cases this
      ·rw [dec_f hl];refine tw w3 ?_;refine for_next b h3p ⟨?_,o⟩ rfl;rw [hstep,hb];exact ⟨fun e=>⟨e.1,e.2,fun _ _ h=>absurd h hl⟩,fun e=>⟨e.1,e.2.1⟩⟩
   ·have h3p:=of_ndecide h3
    obtain rfl : s=(M.getD x default).length:=by omega
    refine tw w2 ?_;refine for_next b h2p ⟨?_,o⟩ rfl
    have : P3t (covV j) x (t+1)↔P3t (covV j) x t∧P3s (covV j) x t (M.getD x default).length:=by rw [hP3f,all_succ,hP3f]
    rw [this,← and_assoc]; exact hb
  ·have h2p:=of_ndecide h2
   obtain rfl : t=(L.getD x default).length:=by omega
   refine tw w ?_;refine for_next b h1p ⟨?_,o⟩ rfl
   have : P3 (covV j) (x+1)↔P3 (covV j) x∧P3t (covV j) x (L.getD x default).length:=by rw [hP3x,all_succ,hP3x]
   rw [this,hb]
   constructor
   ·rintro ⟨⟨a1,a2,a3⟩,a4⟩; exact ⟨a1,a2,a3,a4⟩
   ·rintro ⟨a1,a2,a3,a4⟩; exact ⟨⟨a1,a2,a3⟩,a4⟩
 ·have h1p:=of_ndecide h1
  obtain rfl : x=L.length:=by omega
  refine tt ?_;exact ⟨H,.refl H,hk b H (by rw [hb]; exact hfin) o⟩
theorem isTopology_ok (B : Nat) (j : Top) (hF : j.Form) (hf : AllFew j.shape) (cnt : AV) : Pur Tryz.prog B 293 [.ptr ((covV j).cells cnt)] (.bool (dec (TopIs j.shape j.covers))):=by
 have hfol:=fun (H0 H : Heap) (l : Ob) (gid : Nat) (K : Kont)=>follows_own B j hF hf cnt (H0:=H0) (H:=H) (l:=l) (gid:=gid) (K:=K)
 generalize (covV j).cells cnt=cv at *;refine ⟨fun H0=>c293.go fun _=>?_⟩;refine tt ?_;refine newRef_own (.nil _) fun gid H o=>tt ?_;refine sw o fun H o=>tt ?_;refine hfol H0 H [] gid _ o fun b H hb o=>tt ?_;refine rd_cells o (by simp) ?_;refine tt ?_;refine pure_ret ?_ o.sub
 cases b with
 | true=>rw [dec_t (hb.mp rfl)]
 | false=>rw [dec_f (fun e=>by have:=hb.mpr e; cases this)]
def CovK (j : Top) (code : Int) (H0 : Heap) : Kont:=fun r H'=>H'=H0∧∃ X,r=.tup [X,.int .i64 code]∧(code=0→∃ cnt,X=.ptr ((covV j).cells cnt))
theorem cov_ret {j : Top} {code n : Int} {H0 H : Heap} {X : AV} (hs : H0.sub H) (hn : n=code) (h : code=0→∃ cnt,X=.ptr ((covV j).cells cnt)) : subW (CovK j code H0) (.tup [X,.int .i64 n]) H :=
 ⟨H0,hs,rfl,X,by rw [hn],h⟩
theorem limitCode_ok (B : Nat) (j : Top) (hF : j.Form) (H0 : Heap) : CallH Tryz.prog B 253 [.ptr j.cells] H0 (CovK j (codeT j) H0):=by
 refine c253p.go fun _=>?_;refine tt ?_;refine coverage_own B j hF (.nil H0) (fun hf X=>?_) fun hf id ic X n q H hX o=>?_
 ·have e : codeT j=3:=by rw [codeT,if_neg (fun e=>e hF),if_pos hf]
  refine tt ?_;exact cov_ret (.refl _) e.symm (fun e2=>by rw [e] at e2; cases e2)
 ·refine tt ?_;refine wk_cov 4 hX o rfl fun H o=>wkW_done ?_
  have hcv : [AV.ptr (clsV j.shape),.ptr j.shape.cells,mL (mL AV.bool) (marksOf (listsOf j.shape) j.covers),.ref ic 0]=(covV j).cells (.ref ic 0):=rfl
  have htop:=isTopology_ok B j hF hf (.ref ic 0);rw [hcv]
  generalize hcc : (covV j).cells (.ref ic 0)=cv at *;refine tt ?_;refine htop.go fun _=>?_
  by_cases ht : TopIs j.shape j.covers
  ·have e : codeT j=0:=by rw [codeT,if_neg (fun e=>e hF),if_neg (fun e=>e hf),if_pos ht]
   rw [dec_t ht];refine tt ?_;exact cov_ret o.sub e.symm fun _=>⟨_,by rw [hcc]⟩
  ·have e : codeT j=5:=by rw [codeT,if_neg (fun e=>e hF),if_neg (fun e=>e hf),if_neg ht]
   rw [dec_f ht];refine tt ?_;exact cov_ret o.sub e.symm (fun e2=>by rw [e] at e2; cases e2)
open Classical in
noncomputable def codeO (j : Top) (f : SF) : Int:=if codeT j=0∧¬ j.shape=f.shape then 5 else codeT j
open Classical in
theorem onCode_ok (B : Nat) (j : Top) (f : SF) (hF : j.Form) (H0 : Heap) : CallH Tryz.prog B 176 [.ptr j.cells,mL sfP [f]] H0 (CovK j (codeO j f) H0):=by
 refine c176.go fun _=>?_;refine tt ?_;refine (limitCode_ok B j hF H0).mono ?_
 rintro r H ⟨rfl,X,rfl,hX⟩
 by_cases h0 : codeT j=0
 ·obtain ⟨cnt,rfl⟩:=hX h0
  have e0 : codeO j f=if j.shape=f.shape then 0 else 5:=by
   rw [codeO]
   by_cases h : j.shape=f.shape
   ·rw [if_neg (fun e=>e.2 h),if_pos h,h0]
   ·rw [if_pos ⟨h0,h⟩,if_neg h]
  rw [h0]
  generalize hcc : (covV j).cells cnt=cv at *;refine tt ?_;refine ⟨fun e=>(by simp at e),fun _=>At.mk ?_⟩;refine tt ?_;refine awp_for [0,6,18,19] (G:=Unit) (fun k _=>[(20,some (.int .i64 (k : Int)))]) (fun k _ H'=>H'=H∧(0<k→j.shape=f.shape)) 1 () ⟨rfl,by simp⟩ rfl ?_
  rintro k _ H' hk ⟨rfl,hall⟩;refine tt ?_;apply bk <;> intro h1
  ·have h1p:=of_decide h1
   obtain rfl : k=0:=by simp at h1p; omega
   have w:=wsucc (k:=0) (by omega);refine tt ?_;refine ⟨_,(sameCategory_ok B j.shape f.shape).run, ?_⟩
   by_cases h : j.shape=f.shape
   ·rw [dec_t h];refine tw w ?_;exact for_next () (by omega) ⟨rfl,fun _=>h⟩ rfl
   ·rw [dec_f h];refine tt ?_;rw [if_neg h] at e0;exact cov_ret (.refl _) e0.symm (fun e2=>by rw [e0] at e2; cases e2)
  ·have h1p:=of_ndecide h1
   have hk1 : 0<k:=by simp at h1p; omega
   rw [if_pos (hall hk1)] at e0;refine tt ?_;exact cov_ret (.refl _) e0.symm fun _=>⟨_,by rw [hcc]⟩
 ·have e0 : codeO j f=codeT j:=by rw [codeO,if_neg (fun e=>h0 e.1)]
  refine tt ?_;refine ⟨fun _=>At.mk ?_,fun e=>?_⟩;rotate_left
  ·exact absurd (by simpa using e) h0
  refine tt ?_;exact cov_ret (.refl _) e0.symm (fun e2=>absurd (e0.symm.trans e2) h0)
theorem sheafCode_ok (B : Nat) (j : Top) (f : SF) (H0 : Heap) : CallH Tryz.prog B 96 [.ptr j.cells,mL sfP [f]] H0 (CovK j (codeF j f) H0):=by
 refine c96.go fun _=>?_;refine tt ?_;refine (hasForm_ok B j).go fun _=>?_
 by_cases hF : j.Form
 ·rw [dec_t hF];refine tt ?_;refine (areSetFunctors_ok B [f]).go fun _=>?_
  by_cases hf : f.Is
  ·have e0 : codeF j f=codeO j f:=by rw [codeF,if_neg (fun e=>e ⟨hF,hf⟩),codeO]
   rw [dec_t (by simpa using hf)];refine tt ?_;refine (onCode_ok B j f hF H0).mono ?_
   rintro r H ⟨rfl,X,rfl,hX⟩;refine tt ?_;rw [← e0] at hX ⊢;exact cov_ret (.refl _) rfl hX
  ·have e0 : codeF j f=1:=by rw [codeF,if_pos (fun e=>hf e.2)]
   rw [dec_f (by simpa using hf)];refine tt ?_;exact cov_ret (.refl _) e0.symm (fun e2=>by rw [e0] at e2; cases e2)
 ·have e0 : codeF j f=1:=by rw [codeF,if_pos (fun e=>hF e.1)]
  rw [dec_f hF];refine tt ?_;exact cov_ret (.refl _) e0.symm (fun e2=>by rw [e0] at e2; cases e2)
end Go.Proofs.Shf
namespace Go.AW
theorem New.go {P : Program} {B : Nat} {fn : FuncId} {args : List AV} {O : Ob→AV→Prop} {H0 H : Heap} {l : Ob} {K : Kont} (h : New P B fn args O) (o : Owns H0 H l) (hk : ∀ r p H',O p r→Owns H0 H' (p++l)→H.sub H'→K r H') : CallH P B fn args H K :=
 (h.run H).mono fun r H' ⟨p,q1,q2⟩=>hk r p H' q1 (o.trans q2) q2.sub
theorem Owns.last {H0 H : Heap} {q : Ob} {x : Nat × MObj} (o : Owns H0 H (q++[x])) : Owns H0 H (x::q):=o.perm List.perm_append_comm
end Go.AW
namespace Go.Proofs.Shf
open Go.AW Go.Proofs Go.Shf
theorem perm_rev3 (a b c : Ob) : (c++(b++a)).Perm (a++(b++c)):=by
 refine List.perm_append_comm.trans ?_;rw [← List.append_assoc];exact List.Perm.append_right c List.perm_append_comm
theorem perm_rev4 (a b c d : Ob) : (d++(c++(b++a))).Perm (a++(b++(c++d))):=by
 refine List.perm_append_comm.trans ?_
 have:=List.Perm.append_right d (perm_rev3 a b c)
 simpa only [List.append_assoc] using this
theorem clone_new (B : Nat) (l : List Int) : New Tryz.prog B 221 [iL l] fun p X=>OL p X l :=
 ⟨fun H=>(clone_own B l H H [] (.nil H)).mono fun r H' ⟨id,A,e,o,q⟩=>by
  subst e q;exact ⟨_,.inr ⟨id,_,[],rfl,by simp,rowsI _⟩,o⟩⟩
theorem clones_new (B : Nat) (l : List (List Int)) : New Tryz.prog B 179 [iLL l] fun p X=>OLL p X l:=by
 refine ⟨fun H0=>c179p.go fun ⟨hf,_⟩=>?_⟩
 have hl:=fine_mL_le hf;simp only [maxL] at hl;refine tt ?_;refine ⟨by simp only [maxL]; omega,newBuf_own (.nil _) fun id H o=>?_⟩;refine tt ?_
 refine awp_for [9,10] (G:=AV × Ob) (fun k g=>[(3,some g.1),(11,some (.int .i64 (k : Int)))])
  (fun k g H=>OLL g.2 g.1 (l.take k)∧Owns H0 H (g.2++[])) l.length (.buf id 0,[(id,.cells 1 [] 0)]) ⟨.inr ⟨id,[],[],rfl,rfl,.nil⟩,o⟩ rfl ?_
 clear o
 rintro k ⟨X,q⟩ H hk ⟨hX,o⟩;dsimp only at hX o;refine tt ?_;apply bk <;> intro h1
 ·have h1p:=of_decide h1
  have w:=wsucc (k:=k) (by omega);refine tt ?_;refine ⟨h1p, ?_⟩;refine (clone_new B (l.getD k default)).go o fun Y p H hY o _=>?_
  have hY1:=hY.one;refine tt ?_;refine ⟨by simp [okEls,AV.cells_one hY1,hY1], ?_⟩;refine hX.app hY ⟨AV.cells_one hY1,hY1⟩ o (by rw [List.length_take]; simp only [maxL]; omega) fun X' q' H hX1 hX' o=>?_;refine tw w ?_;refine for_next (X',q') h1p ⟨?_,o⟩ rfl
  simp only;rw [take_succ_getD l h1p]; exact hX'
 ·have h1p:=of_ndecide h1
  obtain rfl : k=l.length:=by omega
  rw [List.take_length] at hX;rw [List.append_nil] at o;refine tt ?_;exact ⟨H,.refl H,q,hX,o⟩
theorem catCopy_new (B : Nat) (c : Cat) : New Tryz.prog B 220 [.ptr c.cells] fun p X=>OCat p X c:=by
 refine ⟨fun H0=>c220p.go fun _=>?_⟩;refine tt ?_;refine newRef_own (.nil _) fun id H o=>tt ?_;refine (clone_new B c.frm).go o fun X1 p1 H q1 o hs=>⟨hs, ?_⟩;refine tt ?_;refine (clone_new B c.to).go o fun X2 p2 H q2 o hs=>⟨hs, ?_⟩;refine tt ?_;refine (clone_new B c.idn).go o fun X3 p3 H q3 o hs=>⟨hs, ?_⟩;refine tt ?_;refine (clones_new B c.comp).go o fun X4 p4 H q4 o hs=>⟨hs, ?_⟩
 have v1:=q1.one
 have v2:=q2.one
 have v3:=q3.one
 have v4:=q4.one;try simp only [go_sem,↓reduceIte,reduceEqDiff,reduceAdd,reduceMul,reduceLeDiff,reduceLT,AV.cells_one v1,AV.cells_one v2,AV.cells_one v3,AV.cells_one v4]
 have o:=Owns.last (q:=p4++(p3++(p2++p1))) (by simpa only [List.append_assoc] using o);refine st_cells o (by simp) rfl (by simp only [memcons,memnil]; exact ⟨rfl,v1,v2,v3,v4,trivial⟩) fun H o=>?_;simp only [wr_cons,wr_nil,List.set_cons_zero,List.set_cons_succ] at o;refine tt ?_
 have hr:=o.rc 5 0 (by simp);simp only [List.drop_zero] at hr;rw [hr];exact ⟨H,.refl H,_,⟨X1,X2,X3,X4,p1,p2,p3,p4,rfl,rfl,q1,q2,q3,q4⟩,o.tl.perm (perm_rev4 _ _ _ _)⟩
theorem sfCopy_new (B : Nat) (f : SF) : New Tryz.prog B 178 [.ptr f.cells] fun p X=>OSF p X f:=by
 refine ⟨fun H0=>c178p.go fun _=>?_⟩;refine tt ?_;refine nb (.nil _) fun id H o=>tt ?_;refine (catCopy_new B f.shape).go o fun Z p1 H q1 o hs=>⟨hs, ?_⟩;refine tt ?_;refine (clone_new B f.sizes).go o fun X5 p2 H q2 o hs=>⟨hs, ?_⟩;refine tt ?_;refine (clones_new B f.acts).go o fun X6 p3 H q3 o hs=>⟨hs, ?_⟩
 have v5:=q2.one
 have v6:=q3.one
 obtain ⟨X1,X2,X3,X4,a1,a2,a3,a4,rfl,rfl,b1,b2,b3,b4⟩:=q1
 have v1:=b1.one
 have v2:=b2.one
 have v3:=b3.one
 have v4:=b4.one;try simp only [go_sem,↓reduceIte,reduceEqDiff,reduceAdd,reduceMul,reduceLeDiff,reduceLT,AV.cells_one v5,AV.cells_one v6]
 have o:=Owns.last (q:=p3++(p2++(a1++(a2++(a3++a4))))) (by simpa only [List.append_assoc] using o);refine st_cells o (by simp) rfl (by simp only [memcons,memnil]; exact ⟨rfl,v1,v2,v3,v4,v5,v6,trivial⟩) fun H o=>?_;simp only [wr_cons,wr_nil,List.set_cons_zero,List.set_cons_succ] at o;refine tt ?_
 have hr:=o.rc 7 0 (by simp);simp only [List.drop_zero] at hr;rw [hr];refine ⟨H,.refl H,_,⟨X1,X2,X3,X4,X5,X6,a1,a2,a3,a4,p2,p3,rfl,rfl,b1,b2,b3,b4,q2,q3⟩, ?_⟩
 have o:=o.tl.perm (perm_rev3 _ _ _)
 simpa only [List.append_assoc] using o
theorem OSF.seven {p : Ob} {X : AV} {f : SF} (h : OSF p X f) : ∃ X1 X2 X3 X4 X5 X6,X=.agg [iI f.shape.objs,X1,X2,X3,X4,X5,X6]∧X1.one=true∧X2.one=true∧X3.one=true∧X4.one=true∧X5.one=true∧X6.one=true:=by
 obtain ⟨X1,X2,X3,X4,X5,X6,a1,a2,a3,a4,a5,a6,rfl,rfl,b1,b2,b3,b4,b5,b6⟩:=h;exact ⟨_,_,_,_,_,_,rfl,b1.one,b2.one,b3.one,b4.one,b5.one,b6.one⟩
theorem setMap_new (B : Nat) (f g : SF) (t : List (List Int)) : New Tryz.prog B 98 [.ptr f.cells,.ptr g.cells,iLL t] fun p X=>OSM p X ⟨f,g,t⟩:=by
 refine ⟨fun H0=>c98.go fun _=>?_⟩;refine tt ?_;refine nb (.nil _) fun id H o=>tt ?_;refine (sfCopy_new B f).go o fun Z p1 H q1 o _=>tt ?_;refine (sfCopy_new B g).go o fun Y p2 H q2 o _=>tt ?_;refine (clones_new B t).go o fun W p3 H q3 o _=>?_
 obtain ⟨X1,X2,X3,X4,X5,X6,rfl,u1,u2,u3,u4,u5,u6⟩:=OSF.seven q1
 obtain ⟨Y1,Y2,Y3,Y4,Y5,Y6,rfl,v1,v2,v3,v4,v5,v6⟩:=OSF.seven q2
 have w:=q3.one;try simp only [go_sem,↓reduceIte,reduceEqDiff,reduceAdd,reduceMul,reduceLeDiff,reduceLT,AV.cells_one w]
 have o:=Owns.last (q:=p3++(p2++p1)) (by simpa only [List.append_assoc] using o);refine st_cells o (by simp) rfl (by simp only [memcons,memnil]; exact ⟨rfl,u1,u2,u3,u4,u5,u6,rfl,v1,v2,v3,v4,v5,v6,w,trivial⟩) fun H o=>?_;simp only [wr_cons,wr_nil,List.set_cons_zero,List.set_cons_succ] at o;refine tt ?_
 have hr:=o.rc 15 0 (by simp);simp only [List.drop_zero] at hr;rw [hr];exact ⟨H,.refl H,_,⟨[_,X1,X2,X3,X4,X5,X6],[_,Y1,Y2,Y3,Y4,Y5,Y6],W,p1,p2,p3,rfl,rfl,q1,q2,q3⟩,o.tl.perm (perm_rev3 _ _ _)⟩
end Go.Proofs.Shf
namespace Go.Shf
open Go.AW Go.Proofs.Shf
theorem leastV_eq {j : Top} (hF : j.Form) (hf : AllFew j.shape) : leastV (covV j)=leastL j.shape j.covers:=by
 have hcv:=form_covers hF hf
 have hml : (covV j).marks.length=(listsOf j.shape).length:=marks_len;rw [leastV,leastL,hml,hcv.1];apply List.map_congr_left
 intro x hx
 have hx' : x<(listsOf j.shape).length:=by have:=List.mem_range.mp hx; omega
 rw [leastM,leastAt];apply List.filter_congr
 intro a ha
 have hsv : (covV j).sieves=listsOf j.shape:=rfl
 have hmr : (covV j).marks.getD x default=((listsOf j.shape).getD x default).map fun s=>decide (s∈j.covers.getD x default):=marks_get hx';rw [hsv,hmr,List.length_map,leastP,Bool.eq_iff_iff,chkP,List.all_eq_true,decide_eq_true_eq]
 constructor
 ·intro h s hs
  obtain ⟨n,hn,rfl⟩:=mem_getD.mp (hcv.2 x hx' s hs).2
  have:=h n (List.mem_range.mpr hn);rw [map_getD _ hn] at this;simp only [Bool.or_eq_true,Bool.not_eq_true',decide_eq_true_eq,decide_eq_false_iff_not] at this;exact this.resolve_left fun e=>e hs
 ·intro h n hn
  have hn:=List.mem_range.mp hn;rw [map_getD _ hn]
  by_cases hs : ((listsOf j.shape).getD x default).getD n default∈j.covers.getD x default
  ·simp only [Bool.or_eq_true,decide_eq_true_eq];exact .inr (h _ hs)
  ·simp only [Bool.or_eq_true,Bool.not_eq_true',decide_eq_false_iff_not];exact .inl hs
def zSF : SF:=⟨⟨0,[],[],[],[]⟩,[],[]⟩
def zSM : SM:=⟨zSF,zSF,[]⟩
theorem zSF_own : OSF [] (.agg [.int .i64 0,.nilsl,.nilsl,.nilsl,.nilsl,.nilsl,.nilsl]) zSF :=
 ⟨.nilsl,.nilsl,.nilsl,.nilsl,.nilsl,.nilsl,[],[],[],[],[],[],rfl,rfl,.inl ⟨rfl,rfl,rfl⟩,.inl ⟨rfl,rfl,rfl⟩,.inl ⟨rfl,rfl,rfl⟩,.inl ⟨rfl,rfl,rfl⟩,.inl ⟨rfl,rfl,rfl⟩,.inl ⟨rfl,rfl,rfl⟩⟩
theorem zSM_own : OSM [] (.agg [.int .i64 0,.nilsl,.nilsl,.nilsl,.nilsl,.nilsl,.nilsl,.int .i64 0,.nilsl,.nilsl,.nilsl,.nilsl,.nilsl,.nilsl,.nilsl]) zSM :=
 ⟨[_,_,_,_,_,_,_],[_,_,_,_,_,_,_],.nilsl,[],[],[],rfl,rfl,zSF_own,zSF_own,.inl ⟨rfl,rfl,rfl⟩⟩
end Go.Shf
namespace Go.AW
def OTc {α : Type} (O : Ob→AV→α→Prop) (code : Int) (p : Ob) (X : AV) (a : α) : Prop:=∃ Y,X=.tup [Y,.int .i64 code]∧O p Y a
theorem Ow.tupc {α : Type} {O : Ob→AV→α→Prop} {f : α→AV} (h : Ow O f) (code : Int) : Ow (OTc O code) fun a=>.tup [f a,.int .i64 code] :=
 (Ow.tup fun a=>[f a,.int .i64 code]).of fun p X a ⟨Y,e,hY⟩=>⟨_,e,by
  have:=Flds.cons h hY (fldI code .nil);rw [List.append_nil] at this; exact this⟩
end Go.AW
namespace Go.Proofs.Shf
open Go.AW Go.Proofs Go.Shf
theorem OSM.fifteen {p : Ob} {X : AV} {m : SM} (h : OSM p X m) : ∃ Xs,X=.agg Xs∧Xs.length=15∧∀ c,c∈Xs→c.one=true:=by
 obtain ⟨Xs,Ys,Z,p1,p2,p3,rfl,rfl,h1,h2,h3⟩:=h
 obtain ⟨X1,X2,X3,X4,X5,X6,e,u1,u2,u3,u4,u5,u6⟩:=OSF.seven h1
 obtain ⟨Y1,Y2,Y3,Y4,Y5,Y6,e2,v1,v2,v3,v4,v5,v6⟩:=OSF.seven h2
 injection e with e
 injection e2 with e2
 subst e e2;refine ⟨_,rfl,rfl, ?_⟩;simp only [List.cons_append,List.nil_append,memcons,memnil];exact ⟨rfl,u1,u2,u3,u4,u5,u6,rfl,v1,v2,v3,v4,v5,v6,h3.one,trivial⟩
theorem len15 {l : List AV} (h : l.length=15) : ∃ a b c d e f g h i j k m n o p,l=[a,b,c,d,e,f,g,h,i,j,k,m,n,o,p]:=by
 match l,h with
 | [a,b,c,d,e,f,g,h,i,j,k,m,n,o,p],_=>exact ⟨a,b,c,d,e,f,g,h,i,j,k,m,n,o,p,rfl⟩
theorem twoB8 (j : Top) (f : SF) : ∃ a1 a2 a3 a4 a5 a6 a7 a8,twoB j f=[a1,a2,a3,a4,a5,a6,a7,a8]∧∀ c,c∈[a1,a2,a3,a4,a5,a6,a7,a8]→c.one=true:=by
 unfold twoB
 split
 ·exact ⟨_,_,_,_,_,_,_,_,rfl,by simp only [memcons,memnil]; exact ⟨rfl,rfl,rfl,rfl,rfl,rfl,rfl,rfl,trivial⟩⟩
 ·exact ⟨_,_,_,_,_,_,_,_,rfl,by simp only [memcons,memnil]; exact ⟨rfl,rfl,rfl,rfl,rfl,rfl,rfl,rfl,trivial⟩⟩
theorem twoA8 (j : Top) (f : SF) : ∃ a1 a2 a3 a4 a5 a6 a7 a8,twoA j f=[a1,a2,a3,a4,a5,a6,a7,a8]∧∀ c,c∈[a1,a2,a3,a4,a5,a6,a7,a8]→c.one=true:=by
 unfold twoA
 split
 ·exact ⟨_,_,_,_,_,_,_,_,rfl,by simp only [memcons,memnil]; exact ⟨rfl,rfl,rfl,rfl,rfl,rfl,rfl,rfl,trivial⟩⟩
 ·exact ⟨_,_,_,_,_,_,_,_,rfl,by simp only [memcons,memnil]; exact ⟨rfl,rfl,rfl,rfl,rfl,rfl,rfl,rfl,trivial⟩⟩
theorem SheafOf_ok (B : Nat) (j : Top) (f : SF) : Pur Tryz.prog B 32 [.agg j.cells,.agg f.cells] (.tup [.agg ((twoB j f).take 7),.int .i64 (twoC j f)]):=by
 refine ⟨fun H0=>c32.go fun hfi=>?_⟩;refine tt ?_;refine nb (.nil _) fun id4 H o=>tt ?_;refine (l28Two_ok B j f).go fun _=>?_
 generalize hcd : twoC j f=cd
 obtain ⟨a1,a2,a3,a4,a5,a6,a7,a8,hA,h1⟩:=twoA8 j f
 obtain ⟨b1,b2,b3,b4,b5,b6,b7,b8,hB,h2⟩:=twoB8 j f;rw [hA,hB];refine tt ?_;refine nb o fun id6 H o=>tt ?_;refine nb o fun id7 H o=>tt ?_;refine st_cells o.swap (by simp) (by simp) h1 fun H o=>?_;simp only [wr_cons,wr_nil,List.set_cons_zero,List.set_cons_succ] at o;refine tt ?_;refine st_cells o.swap (by simp) (by simp) h2 fun H o=>?_;simp only [wr_cons,wr_nil,List.set_cons_zero,List.set_cons_succ] at o;refine tt ?_;refine rd_celln o (by simp) ?_;refine tt ?_;refine st_cells o.tl.tl (by simp) (by simp) (fun c hc=>h2 c (List.mem_of_mem_take (i:=7) (l:=[b1,b2,b3,b4,b5,b6,b7,b8]) hc)) fun H o=>?_;simp only [wr_cons,wr_nil,List.set_cons_zero,List.set_cons_succ] at o;refine tt ?_
 have hr:=o.rc 7 0 (by simp);simp only [List.drop_zero] at hr;rw [hr];exact pure_ret (by simp) o.sub
theorem two_z {j : Top} {f : SF} (hz : twoC j f=0) : codeF j f=0∧TwoFew f (leastL j.shape j.covers):=by
 have hcf : codeF j f=0:=by
  apply Classical.byContradiction; intro e;rw [twoC,if_neg e] at hz; exact e hz
 refine ⟨hcf, ?_⟩;rw [twoC,if_pos hcf] at hz;apply Classical.byContradiction; intro e;rw [if_neg e] at hz; cases hz
end Go.Proofs.Shf
namespace Go.Shf
open Go.AW Go.Proofs.Shf
open Classical in
noncomputable def shfM (j : Top) (f : SF) : SM:=if codeF j f=0∧TwoFew f (leastL j.shape j.covers) then
 ⟨f,stepSF (stepSF f (leastL j.shape j.covers)) (leastL j.shape j.covers),thenS (unitS f (leastL j.shape j.covers)) (unitS (stepSF f (leastL j.shape j.covers)) (leastL j.shape j.covers))⟩ else zSM
open Classical in
noncomputable def shfOr (f : SF) (V : List (List Int)) : AV:=if TwoFew f V then .ptr [stepVal f V,stepVal (stepSF f V) V] else .nilp
end Go.Shf
namespace Go.Proofs.Shf
open Go.AW Go.Proofs Go.Shf
theorem sheaf_ok (B : Nat) (v : Cov) (cnt : AV) (f : SF) (h : f.Shape) (hsh : v.shape=f.shape) (hml : (v.marks.length : Int)=f.shape.objs) (hsl : v.sieves.length=v.marks.length)
  (hms : ∀ x,x<v.marks.length→(v.marks.getD x default).length≤(v.sieves.getD x default).length∧(v.marks.getD x default).length≤1000000)
  (c : CovOk f.shape (leastV v)) : Pur Tryz.prog B 97 [.ptr (v.cells cnt),.ptr f.cells] (.tup [shfOr f (leastV v),.bool (dec (TwoFew f (leastV v)))]):=by
 refine ⟨fun H0=>c97.go fun hfi=>?_⟩
 have q1:=step_ok B v cnt f h hsh hml hsl hms c
 have q2:=fun h1=>step_ok B v cnt (stepSF f (leastV v)) (step_shape h c h1) hsh hml hsl hms c
 generalize v.cells cnt=cv at *
 generalize leastV v=V at *;refine tt ?_;refine q1.go fun _=>?_
 by_cases h1 : StepFew f V
 ·rw [stepOr,if_pos h1,dec_t h1];refine tt ?_;refine (q2 h1).go fun _=>?_
  by_cases h2 : StepFew (stepSF f V) V
  ·rw [stepOr,if_pos h2,dec_t h2,shfOr,if_pos ⟨h1,h2⟩,dec_t ⟨h1,h2⟩];refine tt ?_;exact pure_ret rfl (.refl _)
  ·rw [stepOr,if_neg h2,dec_f h2,shfOr,if_neg (fun e=>h2 e.2),dec_f (fun e=>h2 e.2)];refine tt ?_;exact pure_ret rfl (.refl _)
 ·rw [stepOr,if_neg h1,dec_f h1,shfOr,if_neg (fun e=>h1 e.1),dec_f (fun e=>h1 e.1)];refine tt ?_;exact pure_ret rfl (.refl _)
theorem sheafUnit_ok (B : Nat) (f : SF) (h : f.Shape) (hc : f.CompL) (V : List (List Int)) (c : CovOk f.shape V) (hfew : TwoFew f V) :
  Pur Tryz.prog B 99 [.ptr [stepVal f V,stepVal (stepSF f V) V]] (iLL (thenS (unitS f V) (unitS (stepSF f V) V))):=by
 refine ⟨fun H0=>c99.go fun hfi=>?_⟩
 have q1:=unit_ok B f h hc V c hfew.1
 have q2:=unit_ok B (stepSF f V) (step_shape h c hfew.1) (step_comp h c hfew.1) V c hfew.2
 have q3:=thenParts_okS B h hc c
 generalize hx1 : stepVal f V=x1 at *
 generalize hx2 : stepVal (stepSF f V) V=x2 at *
 generalize hu1 : unitS f V=u1 at *
 generalize hu2 : unitS (stepSF f V) V=u2 at *
 have o1 : x1.one=true:=by rw [← hx1]; rfl
 have o2 : x2.one=true:=by rw [← hx2]; rfl
 try simp only [go_sem,↓reduceIte,reduceEqDiff,reduceAdd,reduceMul,reduceLeDiff,reduceLT,o1,o2]
 refine ⟨_,q1.run, ?_⟩;try simp only [go_sem,↓reduceIte,reduceEqDiff,reduceAdd,reduceMul,reduceLeDiff,reduceLT,o1,o2]
 refine ⟨_,q2.run, ?_⟩;refine ⟨_,q3.run,tt ?_⟩;exact pure_ret rfl (.refl _)
theorem implSheafUnit_new (B : Nat) (j : Top) (f : SF) : New Tryz.prog B 37 [.agg j.cells,.agg f.cells] fun p X=>OTc OSM (twoC j f) p X (shfM j f):=by
 refine ⟨fun H0=>c37p.go fun _=>?_⟩
 have hsc:=fun H=>sheafCode_ok B j f H;refine tt ?_;refine nb (.nil _) fun id H o=>tt ?_;refine (hsc H).mono ?_
 rintro r H ⟨rfl,X,rfl,hX⟩
 by_cases h0 : codeF j f=0
 ·obtain ⟨cnt,rfl⟩:=hX h0
  obtain ⟨hF,hf,hct,hsh⟩:=codeF_z h0
  have haf : AllFew j.shape:=by
   unfold codeT at hct;rw [if_neg (fun e=>e hF)] at hct;apply Classical.byContradiction; intro e;rw [if_pos e] at hct; cases hct
  have htop : TopIs j.shape j.covers:=by
   unfold codeT at hct;rw [if_neg (fun e=>e hF),if_neg (fun e=>e haf)] at hct;apply Classical.byContradiction; intro e;rw [if_neg e] at hct; cases hct
  have hcov:=least_cov hF.is hF.len (fun x hx s hs=>by
   obtain ⟨k,hk,rfl⟩:=mem_getD.mp hs;exact hF.sv x hx k hk) htop
  have tab:=tabOk hF.is haf
  have hml : (covV j).marks.length=(listsOf j.shape).length:=marks_len
  have hmk : MarkOk (listsOf j.shape) (covV j).marks:=markOk
  have hstep:=sheaf_ok B (covV j) cnt f hf.1 hsh (by rw [hml,← hsh]; exact tab.len) hml.symm (fun x hx=>by
   have hx' : x<(listsOf j.shape).length:=by rw [← hml]; exact hx
   have h1:=hmk.row x hx'
   have h2:=tab.few x hx'
   have h3 : (covV j).sieves=listsOf j.shape:=rfl;rw [h1,h3];exact ⟨Nat.le_refl _,by omega⟩) (by rw [leastV_eq hF haf,← hsh]; exact hcov)
  rw [leastV_eq hF haf] at hstep;rw [h0];rw [hsh] at hcov
  generalize hcc : (covV j).cells cnt=cv at *
  generalize hV : leastL j.shape j.covers=V at *
  have hVs : leastL f.shape j.covers=V:=by rw [← hsh]; exact hV
  rw [hVs] at hcov
  have hunit:=fun hfew=>sheafUnit_ok B f hf.1 hf.compL V hcov hfew
  have hset:=setMap_new B f (stepSF (stepSF f V) V) (thenS (unitS f V) (unitS (stepSF f V) V));refine tt ?_;refine ⟨fun e=>(by simp at e),fun _=>At.mk ?_⟩;refine tt ?_;refine hstep.go fun _=>?_
  by_cases hfew : TwoFew f V
  ·have hM : shfM j f=⟨f,stepSF (stepSF f V) V,thenS (unitS f V) (unitS (stepSF f V) V)⟩:=by rw [shfM,hV,if_pos ⟨h0,hfew⟩]
   have hC : twoC j f=0:=by rw [twoC,hV,if_pos h0,if_pos hfew]
   rw [shfOr,if_pos hfew,dec_t hfew,hM,hC]
   replace hunit:=hunit hfew;refine tt ?_;refine ⟨_,hunit.run,tt ?_⟩;refine hset.go o fun Y p H q o _=>?_
   obtain ⟨Ys,rfl,hl,h1⟩:=OSM.fifteen q;refine tt ?_
   have o:=Owns.last o;refine st_cells o (by simp) hl h1 fun H o=>?_
   obtain ⟨y1,y2,y3,y4,y5,y6,y7,y8,y9,y10,y11,y12,y13,y14,y15,rfl⟩:=len15 hl;simp only [wr_cons,wr_nil,List.set_cons_zero,List.set_cons_succ] at o;refine tt ?_
   have hr:=o.rc 15 0 (by simp);simp only [List.drop_zero] at hr;rw [hr];exact ⟨H,.refl H,p,⟨_,rfl,q⟩,o.tl⟩
  ·have hM : shfM j f=zSM:=by rw [shfM,hV,if_neg (fun e=>hfew e.2)]
   have hC : twoC j f=3:=by rw [twoC,hV,if_pos h0,if_neg hfew]
   rw [shfOr,if_neg hfew,dec_f hfew,hM,hC];refine tt ?_;refine sw o fun H o=>tt ?_
   have hr:=o.rc 15 0 (by simp);simp only [List.drop_zero] at hr;rw [hr];exact ⟨H,.refl H,[],⟨_,rfl,zSM_own⟩,o.tl⟩
 ·have hM : shfM j f=zSM:=by rw [shfM,if_neg (fun e=>h0 e.1)]
  have hC : twoC j f=codeF j f:=by rw [twoC,if_neg h0]
  rw [hM,hC];refine tt ?_;refine ⟨fun _=>At.mk ?_,fun e=>?_⟩;rotate_left
  ·exact absurd (by simpa using e) h0
  refine tt ?_;refine sw o fun H o=>tt ?_
  have hr:=o.rc 15 0 (by simp);simp only [List.drop_zero] at hr;rw [hr];exact ⟨H,.refl H,[],⟨_,rfl,zSM_own⟩,o.tl⟩
theorem implSheafOf_new (B : Nat) (j : Top) (f : SF) : New Tryz.prog B 31 [.agg j.cells,.agg f.cells] fun p X=>OTc OSF (twoC j f) p X (shfM j f).tgt:=by
 refine ⟨fun H0=>c31.go fun _=>?_⟩
 have hsu:=implSheafUnit_new B j f
 generalize shfM j f=m at *
 generalize twoC j f=code at *;refine tt ?_;refine nb (.nil _) fun id H o=>tt ?_;refine hsu.go o fun Z p H ⟨Y,e,q⟩ o _=>?_;subst e
 obtain ⟨Xs,Ys,W,p1,p2,p3,rfl,rfl,h1,h2,h3⟩:=q
 obtain ⟨X1,X2,X3,X4,X5,X6,e,u1,u2,u3,u4,u5,u6⟩:=OSF.seven h1
 obtain ⟨Y1,Y2,Y3,Y4,Y5,Y6,e2,v1,v2,v3,v4,v5,v6⟩:=OSF.seven h2
 have w:=h3.one
 injection e with e
 injection e2 with e2
 subst e e2;simp only [List.cons_append,List.nil_append];refine tt ?_;refine nb o fun id6 H o=>tt ?_;refine st_cells o (by simp) rfl (by simp only [memcons,memnil]; exact ⟨rfl,u1,u2,u3,u4,u5,u6,rfl,v1,v2,v3,v4,v5,v6,w,trivial⟩) fun H o=>?_;simp only [wr_cons,wr_nil,List.set_cons_zero,List.set_cons_succ] at o;refine tt ?_;refine rd_celln o (by simp) ?_;refine tt ?_
 have o:=Owns.last (q:=p1++(p2++p3)) (by simpa only [List.append_assoc] using o.tl);refine st_cells o (by simp) rfl (by simp only [memcons,memnil]; exact ⟨rfl,v1,v2,v3,v4,v5,v6,trivial⟩) fun H o=>?_;simp only [wr_cons,wr_nil,List.set_cons_zero,List.set_cons_succ] at o;refine tt ?_
 have hr:=o.rc 7 0 (by simp);simp only [List.drop_zero] at hr;rw [hr];refine ⟨H,.refl H,p2,⟨_,rfl,h2⟩, ?_⟩
 have o2 : Owns H0 H (p2++(p3++p1)):=by
  have:=o.tl.rot
  simpa only [List.append_assoc] using this
 exact ⟨o2.sub,fun x hx=>o2.get x (List.mem_append_left _ hx),(List.nodup_append.mp (by simpa using o2.nd)).1,fun x hx=>o2.out x (List.mem_append_left _ hx)⟩
end Go.Proofs.Shf
namespace Go.AW
open Go.RowKit
def FinP (g : Gh) (B : Nat) (w : World) (X : Heap→Prop) (w' : World) : Prop:=∃ g' H',g.le g'∧X H'∧WRel g' B H' w'∧Below B w w'
def Chn (ch : List PanicEntry) : Prop:=∃ t v,ch=[{ v:=.iface t v,recovered:=false }]
def CallX (P : Program) (B : Nat) (f : FuncId) (args : List AV) (H : Heap) (K : Kont) (X : Heap→Prop) : Prop :=
 Enters P f∧∀ g w vs,WRel g B H w→VRels g args vs→Calls P f vs w fun e w'=>(∃ v,e=.returned v∧FinV g B w K v w')∨∃ ch,e=.panicked ch∧Chn ch∧FinP g B w X w'
def callXW (P : Program) (B : Nat) : Option AV→Option (List AV)→Kont→(Heap→Prop)→Heap→Prop
 | some (.fn (.func f) ca),some ais,K,X,H=>CallX P B f (ais++ca) H K X
 | _,_,_,_,_=>False
@[go_sem] theorem callXW_fn {P : Program} {B : Nat} {H : Heap} (f : FuncId) (ca ais : List AV) (K : Kont) (X : Heap→Prop) : callXW P B (some (.fn (.func f) ca)) (some ais) K X H=CallX P B f (ais++ca) H K X:=rfl
inductive XC where
 | sc (s : SC)
 | seq (a b : XC)
 | cond (x : X) (a b : XC)
 | block (id : Nat) (c : XC)
 | loop (l : List Nat) (c : XC)
 | keep (l : List Nat) (c : XC)
 | callx (pre : List SOp) (d : Option Nat) (f : X) (xs : List X)
 | pnc (pre : List SOp) (x : X)
def isI : Option AV→Prop
 | some (.ifc _ _)=>True
 | _=>False
@[go_sem] theorem isI_ifc (t : TypeId) (v : AV) : isI (some (.ifc t v))=True:=rfl
def pncW (x : X) (X0 : Heap→Prop) (σ : Env) (H : Heap) : Prop:=isI (val σ x)∧X0 H
def clxW (P : Program) (B : Nat) (d : Option Nat) (f : X) (xs : List X) (F : Env→Heap→Prop) (X0 : Heap→Prop) (σ : Env) (H : Heap) : Prop :=
 callXW P B (val σ f) (vals σ xs) (putK d F σ) X0 H
def xwp (P : Program) (B : Nat) : XC→AQ→(Heap→Prop)→Env→Heap→Prop
 | .sc s,Q,_,σ,H=>awp P B s Q σ H
 | .seq a b,Q,X0,σ,H=>xwp P B a (seqQ (xwp P B b Q X0) Q) X0 σ H
 | .cond x a b,Q,X0,σ,H=>cndW (val σ x) (xwp P B a Q X0) (xwp P B b Q X0) σ H
 | .block id c,Q,X0,σ,H=>xwp P B c (blkQ id Q) X0 σ H
 | .loop l c,Q,X0,σ,H=>loopW l (fun Q=>xwp P B c Q X0) Q (Env.keep l σ) H
 | .keep l c,Q,X0,σ,H=>xwp P B c Q X0 (Env.keep l σ) H
 | .callx pre d f xs,Q,X0,σ,H=>opsW P B pre (clxW P B d f xs (Q .norm) X0) σ H
 | .pnc pre x,_,X0,σ,H=>opsW P B pre (pncW x X0) σ H
section
variable {P : Program} {B : Nat} {Q : AQ} {X0 : Heap→Prop} {σ : Env} {H : Heap}
@[go_sem] theorem xwp_sc (s : SC) : xwp P B (.sc s) Q X0 σ H=awp P B s Q σ H:=rfl
@[go_sem] theorem xwp_seq (a b : XC) : xwp P B (.seq a b) Q X0 σ H=xwp P B a (seqQ (xwp P B b Q X0) Q) X0 σ H:=rfl
@[go_sem] theorem xwp_cond (x : X) (a b : XC) : xwp P B (.cond x a b) Q X0 σ H=cndW (val σ x) (xwp P B a Q X0) (xwp P B b Q X0) σ H:=rfl
@[go_sem] theorem xwp_block (id : Nat) (c : XC) : xwp P B (.block id c) Q X0 σ H=xwp P B c (blkQ id Q) X0 σ H:=rfl
@[go_sem] theorem xwp_keep (l : List Nat) (c : XC) : xwp P B (.keep l c) Q X0 σ H=xwp P B c Q X0 (Env.keep l σ) H:=rfl
@[go_sem] theorem xwp_callx (pre : List SOp) (d : Option Nat) (f : X) (xs : List X) : xwp P B (.callx pre d f xs) Q X0 σ H=opsW P B pre (clxW P B d f xs (Q .norm) X0) σ H:=rfl
@[go_sem] theorem xwp_pnc (pre : List SOp) (x : X) : xwp P B (.pnc pre x) Q X0 σ H=opsW P B pre (pncW x X0) σ H:=rfl
@[go_sem] theorem clxW_eq (d : Option Nat) (f : X) (xs : List X) (F : Env→Heap→Prop) : clxW P B d f xs F X0 σ H=callXW P B (val σ f) (vals σ xs) (putK d F σ) X0 H:=rfl
@[go_sem] theorem pncW_eq (x : X) : pncW x X0 σ H=(isI (val σ x)∧X0 H):=rfl
end
end Go.AW
namespace Go.AW
open Go.RowKit
end Go.AW
namespace Go.AW
open Go.RowKit
end Go.AW
namespace Go.AW
open Go.RowKit
end Go.AW
