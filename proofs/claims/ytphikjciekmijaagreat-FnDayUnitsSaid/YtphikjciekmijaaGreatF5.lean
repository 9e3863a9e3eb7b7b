/- Contracts, part 5. -/
import Derived.Test.YtphikjciekmijaaGreatF4
import Derived.Sort.Row
import Derived.Sort.Grow
import Derived.Deep.Draws
import Derived.Test.YtphikjciekmijaaGreatProg
import Derived.Tactics
import Derived.Tactics2
import Derived.Defers
import Derived.Laws.Pointers
import Derived.Laws.LoneSync
import Derived.RegionTactic
import Derived.RegionCalls
import Derived.ChangeAlike
set_option linter.unusedVariables false
set_option linter.unusedSimpArgs false
set_option linter.unusedSectionVars false
set_option maxRecDepth 100000
open Nat (reduceEqDiff reduceAdd reduceMul reduceLeDiff reduceLT)
namespace Go.Proofs.Shf
open Go.AW Go.Proofs Go.Shf
end Go.Proofs.Shf
namespace Go.AW
open Go.Proofs Go.Proofs.Shf Go.Shf Go.RowKit
end Go.AW
namespace Go.AW
open Go.Proofs Go.Proofs.Shf Go.Shf Go.RowKit
end Go.AW
namespace Go.AW
open Go.Proofs Go.Proofs.Shf Go.Shf Go.RowKit
end Go.AW
namespace Go.Proofs.Shf
open Go.AW Go.Proofs Go.Shf
end Go.Proofs.Shf
namespace Go.Shf
open Go.AW
end Go.Shf
namespace Go.Proofs.Shf
open Go.AW Go.Proofs Go.Shf
theorem dTrue {p : Decidable True} : @decide True p=true:=@decide_eq_true True p trivial
end Go.Proofs.Shf
namespace Go.Proofs.Shf
open Go.AW Go.Proofs Go.RowKit
end Go.Proofs.Shf
namespace Go.AW
open Go.Proofs Go.Shf Go.Proofs.Shf
theorem WRel.peek {g : Gh} {B : Nat} {H : Heap} {w : World} (hW : WRel g B H w) {id b cap sz off : Nat} {cs : List AV} (hio : g.io id=some (.blk b cap)) (ho : H.get id=some (.cells sz cs 0))
  {k : IntKind} {n : Int} (hc : cs[off]? = some (.int k n)) : w.cell? ⟨b,off,none⟩=some (.int k n)∧w.frozen? ⟨b,off,none⟩=false:=by
 obtain ⟨c,el,h5,_,_,_,h6,h7,h8⟩:=hW.obj hio ho
 have hl : off<cs.length:=(List.getElem?_eq_some_iff.1 hc).1
 have hv:=h8 off hl;rw [List.getD_eq_getElem?_getD,hc] at hv
 have hr : w.cell? ⟨b,off,none⟩=some (c.getD off undef):=by rw [cell_of_row w b off c el _ h5]; exact getD_some (by omega)
 refine ⟨?_,by simp [World.frozen?,h5]⟩;rw [hr]
 generalize c.getD off undef=v at hv
 cases hv; rfl
end Go.AW
namespace Go.Proofs.Shf
open Go.AW Go.Proofs Go.RowKit
end Go.Proofs.Shf
namespace Go.AW
open Go.Proofs Go.Shf Go.Proofs.Shf
theorem WRel.poke {g : Gh} {B : Nat} {H : Heap} {w : World} (hW : WRel g B H w) {id b cap sz off : Nat} {cs : List AV} (hio : g.io id=some (.blk b cap)) (ho : H.get id=some (.cells sz cs 0))
  (h2 : off<cs.length) (k : IntKind) (n : Int) :
  WRel g B (H.set id (.cells sz (cs.set off (.int k n)) 0)) (w.setCell ⟨b,off,none⟩ (.int k n))∧Go.AW.Below B w (w.setCell ⟨b,off,none⟩ (.int k n)):=by
 obtain ⟨w',r1,r2,r3⟩:=hW.store (P:=Tryz.prog) hio ho (off:=off) (vs:=[.int k n]) (us:=[.int k n]) (by omega) (by simp; omega) rfl (by simp [AV.one]) (fun i hi=>by
  have : i=0:=by simpa using hi
  subst this; exact .int k n)
 obtain ⟨c,el,h5,_,_,_,h6,h7,h8⟩:=hW.obj hio ho
 have hr : w.cell? ⟨b,off,none⟩=some (c.getD off undef):=by rw [cell_of_row w b off c el _ h5]; exact getD_some (by omega)
 have hz : w.frozen? ⟨b,off,none⟩=false:=by simp [World.frozen?,h5]
 have e : w'=w.setCell ⟨b,off,none⟩ (.int k n):=by
  have ea : (⟨b,off,none⟩ : Addr).add 0=⟨b,off,none⟩:=rfl;simp only [storeCells,ea,Sem.run_bind,run_store (hv:=(rfl : (Value.int k n).oneCell'=true)),hr,hz] at r1
  simpa [Result.andThen] using r1.symm
 subst e;exact ⟨r2,r3⟩
end Go.AW
namespace Go.Proofs.Shf
open Go.AW Go.Proofs Go.RowKit
end Go.Proofs.Shf
namespace Go.Shf
open Go.AW
def homs (c : Cat) (x : Int) (n : Nat) : List (List Int):=(List.range n).map fun (y : Nat)=>hom c x (y : Int)
theorem homs_succ (c : Cat) (x : Int) (n : Nat) : homs c x (n+1)=homs c x n++[hom c x n]:=by simp [homs,List.range_succ]
theorem homs_len (c : Cat) (x : Int) (n : Nat) : (homs c x n).length=n:=by simp [homs]
theorem homs_get (c : Cat) (x : Int) {n k : Nat} (h : k<n) : (homs c x n).getD k default=hom c x k:=getD_map_range _ _ h
def OutO (c : Cat) (x : Int) (d st : Int) (X : AV) : MObj:=.cells 6 [.ptr c.cells,iI x,.int .u32 d,.int .i32 st,.int .u32 0,X] 0
end Go.Shf
namespace Go.Proofs.Shf
open Go.AW Go.Proofs Go.Shf
end Go.Proofs.Shf
namespace Go.AW
open Go.Proofs Go.Shf Go.Proofs.Shf
theorem LsO.at {α : Type} {f : α→AV} {H0 H : Heap} {l : List (Nat × MObj)} {X : AV} {A : List α} {id : Nat} {a : MObj} (o : LsO f H0 H ((id,a)::l) X A) :
  H.get id=some a∧∀ b,LsO f H0 (H.set id b) ((id,b)::l) X A:=by
 rcases o with ⟨h1,h2,o⟩ | ⟨id2,h1,o⟩
 ·exact ⟨o.h0,fun b=>.inl ⟨h1,h2,o.put b⟩⟩
 ·exact ⟨o.tl.h0,fun b=>.inr ⟨id2,h1,(o.swap.put b).swap⟩⟩
end Go.AW
namespace Go.Proofs.Shf
open Go.AW Go.Proofs Go.Shf
def RepO (c : Cat) (X Y : AV) : MObj:=.cells 7 [iI c.objs,iL c.frm,iL c.to,iL c.idn,iLL c.comp,X,Y] 0
def zSF : List AV:=[.int .i64 0,.nilsl,.nilsl,.nilsl,.nilsl,.nilsl,.nilsl]
def RepQ (c : Cat) (x : Int) (r : AV) : Prop:=(RepFew c x∧r=.tup [.agg (repF c x).cells,.bool true])∨(¬ RepFew c x∧r=.tup [.agg zSF,.bool false])
def sizesN (c : Cat) (x : Int) (n : Nat) : List Int:=(List.range n).map (repSize c x)
theorem sizesN_succ (c : Cat) (x : Int) (n : Nat) : sizesN c x (n+1)=sizesN c x n++[repSize c x n]:=by simp [sizesN,List.range_succ]
theorem sizesN_len (c : Cat) (x : Int) (n : Nat) : (sizesN c x n).length=n:=by simp [sizesN]
def actsN (c : Cat) (x : Int) (n : Nat) : List (List Int):=(List.range n).map (repAct c x)
theorem actsN_succ (c : Cat) (x : Int) (n : Nat) : actsN c x (n+1)=actsN c x n++[repAct c x n]:=by simp [actsN,List.range_succ]
theorem actsN_len (c : Cat) (x : Int) (n : Nat) : (actsN c x n).length=n:=by simp [actsN]
theorem homs_ix (c : Cat) (x : Int) {n : Nat} {y : Int} (h0 : 0≤y) (h : y.toNat<n) : ix (homs c x n) y=hom c x y:=by
 rw [ix,homs_get c x h,Int.toNat_of_nonneg h0]
theorem rd_at {H : Heap} {K : Kont} {id sz fr off : Nat} {cs : List AV} (h : H.get id=some (.cells sz cs fr)) (h1 : off<cs.length) (hk : K (cs.getD off nv) H) : rd1 (H.get id) none off K H:=by
 rw [h,rd1_1]; exact ⟨h1,hk⟩
def nilF : SF:={ shape:={ objs:=0,frm:=[],to:=[],idn:=[],comp:=[] },sizes:=[],acts:=[] }
def RepQ2 (c : Cat) (x : Int) (r : AV) : Prop:=(RepFew c x∧r=.tup [.agg (repF c x).cells,iI 0])∨(¬ RepFew c x∧r=.tup [.agg nilF.cells,iI 3])
end Go.Proofs.Shf
namespace Go.AW
end Go.AW
namespace Go.Proofs.Shf
open Go.AW Go.Proofs Go.Shf
end Go.Proofs.Shf
namespace Go.Shf
open Go.AW
end Go.Shf
namespace Go.Proofs.Shf
open Go.AW Go.Proofs Go.Shf
theorem elements_ok (B : Nat) (f : SF) (hl : f.sizes.length≤8) (hz : ∀ y,y∈f.sizes→0≤y∧y<17) : ∃ n : Int,Pur Tryz.prog B 78 [.ptr f.cells] (iI n):=by
 refine ⟨f.sizes.sum,⟨fun H0=>c78p.go fun _=>?_⟩⟩;refine tt ?_;refine awp_for [9,10] (G:=Unit) (fun k _=>[(3,some (.int .i64 (f.sizes.take k).sum)),(11,some (.int .i64 (k : Int)))]) (fun k _ H=>H=H0∧0≤(f.sizes.take k).sum∧(f.sizes.take k).sum≤17*k) f.sizes.length () ⟨rfl,by simp,by simp⟩ rfl ?_
 rintro k _ H hk ⟨rfl,hs⟩;refine tt ?_;apply bk <;> intro h1
 ·have h1:=of_decide h1
  have w1:=wsucc (k:=k) (by omega)
  have hsz:=hz _ (mem_getD.mpr ⟨k,h1,rfl⟩)
  have e : (f.sizes.take (k+1)).sum=(f.sizes.take k).sum+f.sizes.getD k default:=by rw [take_succ' _ h1]; simp
  have w2 : IntKind.i64.wrap ((f.sizes.take k).sum+f.sizes.getD k default)=(f.sizes.take (k+1)).sum:=by rw [wrap_i64 (by omega) (by omega),e]
  refine tt ?_;refine ⟨h1, ?_⟩;try simp only [go_sem,↓reduceIte,reduceEqDiff,reduceAdd,reduceMul,reduceLeDiff,reduceLT,w1,w2]
  exact for_next () (by omega) ⟨rfl,by omega,by omega⟩ rfl
 ·have h1:=of_ndecide h1
  obtain rfl : k=f.sizes.length:=by omega
  refine tt ?_;exact pure_ret (by rw [List.take_length]) (.refl _)
end Go.Proofs.Shf
namespace Go.Shf
open Go.AW
theorem labs_iff {n : Nat} {ps : List (List Int)} (hp : ∀ q,q∈ps→(0≤ix q 0∧(ix q 0).toNat<n)∧0≤ix q 1∧(ix q 1).toNat<n) {u v : Nat} (hu : u<n) (hv : v<n) :
  (labs n ps).getD u default=(labs n ps).getD v default↔EqN (prN ps) (u : Int) (v : Int):=by
 constructor
 ·intro e
  have h:=labs_min n ps hp ps.length (Nat.le_refl _) u v hu hv;rw [List.take_length] at h;exact h e
 ·intro e
  have hr : ∀ q,q∈[]++ps→(ix q 0).toNat<((List.range n).map Int.ofNat).length∧(ix q 1).toNat<((List.range n).map Int.ofNat).length:=fun q hq=>by
   have:=hp q (by simpa using hq);simp only [List.length_map,List.length_range];exact ⟨this.1.2,this.2.2⟩
  have hg : Glued ps (labs n ps):=by
   have:=(labs_fold ps [] ((List.range n).map Int.ofNat) hr (fun q hq=>by simp at hq)).2
   simpa [labs] using this
  have key : ∀ x y,EqN (prN ps) x y→ix (labs n ps) x=ix (labs n ps) y:=by
   intro x y e
   induction e with
   | gen x y h =>
    obtain ⟨q,hq,e⟩:=List.mem_map.mp h
    injection e with e1 e2
    rw [← e1,← e2]; exact hg q hq
   | refl x=>rfl
   | symm _ ih=>exact ih.symm
   | trans _ _ ih1 ih2=>exact ih1.trans ih2
  have:=key _ _ e
  rwa [ix_nat,ix_nat] at this
end Go.Shf
namespace Go.Shf
open Go.AW
structure Mo where
 on : Cat
 unit : Int
 ob : List (List Int)
 ar : List (List Int)
 deriving Inhabited
@[go_sem] def Mo.cells (m : Mo) : List AV:=[iI m.on.objs,iL m.on.frm,iL m.on.to,iL m.on.idn,iLL m.on.comp,iI m.unit,iLL m.ob,iLL m.ar]
def Mo.o (m : Mo) (x y : Int) : Int:=ix (ix m.ob x) y
def Mo.a (m : Mo) (f g : Int) : Int:=ix (ix m.ar f) g
def Mo.c (m : Mo) (f g : Int) : Int:=ix (ix m.on.comp f) g
def TabN (n : Nat) (T : List (List Int)) : Prop:=T.length=n∧∀ r,r∈T→r.length=n∧∀ v,v∈r→0≤v∧v<(n : Int)
def WholeAt (T : List (List Int)) (u : Int) (i : Nat) : Prop:=(ix (ix T u) i=i∧ix (ix T i) u=i)∧∀ j : Nat,j<T.length→∀ k : Nat,k<T.length→ix (ix T (ix (ix T i) j)) k=ix (ix T i) (ix (ix T j) k)
def Whole (T : List (List Int)) (u : Int) : Prop:=∀ i : Nat,i<T.length→WholeAt T u i
structure Mo.Pre (m : Mo) : Prop where
 on : m.on.Is
 un : m.on.ObR m.unit
 ot : TabN m.on.objs.toNat m.ob
 at' : TabN m.on.frm.length m.ar
structure Mo.Is (m : Mo) : Prop extends Mo.Pre m where
 ends : ∀ f g,m.on.ArR f→m.on.ArR g→ix m.on.frm (m.a f g)=m.o (ix m.on.frm f) (ix m.on.frm g)∧ix m.on.to (m.a f g)=m.o (ix m.on.to f) (ix m.on.to g)
 wo : Whole m.ob m.unit
 wa : Whole m.ar (ix m.on.idn m.unit)
 idn : ∀ x y,m.on.ObR x→m.on.ObR y→m.a (ix m.on.idn x) (ix m.on.idn y)=ix m.on.idn (m.o x y)
 inter : ∀ f h g k,m.on.ArR f→m.on.ArR h→m.on.ArR g→m.on.ArR k→ix m.on.to f=ix m.on.frm h→ix m.on.to g=ix m.on.frm k→m.a (m.c f h) (m.c g k)=m.c (m.a f g) (m.a h k)
theorem TabN.at {n : Nat} {T : List (List Int)} (h : TabN n T) {i j : Int} (hi : 0≤i∧i.toNat<n) (hj : 0≤j∧j.toNat<n) : (i.toNat<T.length∧j.toNat<(ix T i).length)∧0≤ix (ix T i) j∧ix (ix T i) j<n:=by
 have h1 : i.toNat<T.length:=by rw [h.1]; exact hi.2
 obtain ⟨h2,h3⟩:=h.2 _ (ix_mem (i:=i) h1)
 have h4 : j.toNat<(ix T i).length:=by rw [h2]; exact hj.2
 exact ⟨⟨h1,h4⟩,h3 _ (ix_mem h4)⟩
section
variable {m : Mo} {x y z f g a b h k : Int}
theorem Mo.Pre.oO (p : m.Pre) (hx : m.on.ObR x) (hy : m.on.ObR y) : m.on.ObR (m.o x y):=by
 have:=p.ot.at (i:=x) (j:=y) ⟨hx.1,by have:=hx.1; have:=hx.2; omega⟩ ⟨hy.1,by have:=hy.1; have:=hy.2; omega⟩
 have ho:=p.on.1.o;exact ⟨this.2.1,by have:=this.2.2; show ix (ix m.ob x) y<m.on.objs; omega⟩
theorem Mo.Pre.aA (p : m.Pre) (hf : m.on.ArR f) (hg : m.on.ArR g) : m.on.ArR (m.a f g):=by
 have:=p.at'.at (i:=f) (j:=g) hf hg;exact ⟨this.2.1,by have h1:=this.2.1; have h2:=this.2.2; show (ix (ix m.ar f) g).toNat<m.on.frm.length; omega⟩
theorem Mo.Is.oU (p : m.Is) (hx : m.on.ObR x) : m.o m.unit x=x:=by
 have:=(p.wo x.toNat (by rw [p.ot.1]; have:=hx.1; have:=hx.2; omega)).1.1;rw [Int.toNat_of_nonneg hx.1] at this;exact this
theorem Mo.Is.aU (p : m.Is) (hf : m.on.ArR f) : m.a (ix m.on.idn m.unit) f=f:=by
 have:=(p.wa f.toNat (by rw [p.at'.1]; exact hf.2)).1.1;rw [Int.toNat_of_nonneg hf.1] at this;exact this
theorem Mo.Pre.cE (p : m.Pre) (ha : m.on.ArR a) (hb : m.on.ArR b) (e : ix m.on.to a=ix m.on.frm b) : m.on.ArR (m.c a b)∧ix m.on.frm (m.c a b)=ix m.on.frm a∧ix m.on.to (m.c a b)=ix m.on.to b:=p.on.1.compEnds ha hb e
theorem Mo.Pre.idE (p : m.Pre) (hx : m.on.ObR x) : m.on.ArR (ix m.on.idn x)∧ix m.on.frm (ix m.on.idn x)=x∧ix m.on.to (ix m.on.idn x)=x:=p.on.1.idArr hx
theorem Mo.Pre.fO (p : m.Pre) (ha : m.on.ArR a) : m.on.ObR (ix m.on.frm a):=p.on.1.frmObj ha.2
theorem Mo.Pre.tO (p : m.Pre) (ha : m.on.ArR a) : m.on.ObR (ix m.on.to a):=p.on.1.toObj ha.2
theorem Mo.Pre.cL (p : m.Pre) (hf : m.on.ArR f) : m.c (ix m.on.idn (ix m.on.frm f)) f=f:=p.on.idl hf
theorem Mo.Pre.cR (p : m.Pre) (hf : m.on.ArR f) : m.c f (ix m.on.idn (ix m.on.to f))=f:=p.on.idr hf
theorem Mo.Pre.cA (p : m.Pre) (hf : m.on.ArR f) (hg : m.on.ArR g) (hk : m.on.ArR k) (e1 : ix m.on.to f=ix m.on.frm g) (e2 : ix m.on.to g=ix m.on.frm k) : m.c (m.c f g) k=m.c f (m.c g k):=p.on.assoc hf hg hk e1 e2
theorem Mo.Is.pull (p : m.Is) (ha : m.on.ArR a) (hb : m.on.ArR b) (hh : m.on.ArR h) (e : ix m.on.frm h=m.o (ix m.on.to a) (ix m.on.to b)) :
  m.on.ArR (m.c (m.a a b) h)∧ix m.on.frm (m.c (m.a a b) h)=m.o (ix m.on.frm a) (ix m.on.frm b)∧ix m.on.to (m.c (m.a a b) h)=ix m.on.to h:=by
 have q:=p.ends a b ha hb
 have k:=p.toPre.cE (p.toPre.aA ha hb) hh (by rw [q.2,e]);exact ⟨k.1,by rw [k.2.1,q.1],k.2.2⟩
end
def dayH (f g : SF) (x y : Nat) (h : Int) : List (List Int):=catL (fun e=>(List.range (ix g.sizes y).toNat).map fun d : Nat=>[(x : Int),(y : Int),h,(e : Int),(d : Int)]) (ix f.sizes x).toNat
def dayY (m : Mo) (f g : SF) (z : Int) (x y : Nat) : List (List Int):=(homC m.on (m.o x y) z).flatMap (dayH f g x y)
def dayX (m : Mo) (f g : SF) (z : Int) (x : Nat) : List (List Int):=catL (dayY m f g z x) m.on.objs.toNat
def dayE (m : Mo) (f g : SF) (z : Int) : List (List Int):=catL (dayX m f g z) m.on.objs.toNat
theorem mem_catL {α : Type} {g : Nat→List α} {n : Nat} {x : α} : x∈catL g n↔∃ i,i<n∧x∈g i:=by
 simp [catL,List.mem_flatMap,List.mem_range]
structure Ent (m : Mo) (f g : SF) (z : Int) (t : List Int) : Prop where
 ex : t=[ix t 0,ix t 1,ix t 2,ix t 3,ix t 4]
 x : m.on.ObR (ix t 0)
 y : m.on.ObR (ix t 1)
 h : m.on.ArR (ix t 2)
 hf : ix m.on.frm (ix t 2)=m.o (ix t 0) (ix t 1)
 ht : ix m.on.to (ix t 2)=z
 e : 0≤ix t 3∧ix t 3<ix f.sizes (ix t 0)
 d : 0≤ix t 4∧ix t 4<ix g.sizes (ix t 1)
section
variable {m : Mo} {f g : SF} {z : Int} {s t : List Int}
theorem mem_dayH {x y : Nat} {h : Int} : t∈dayH f g x y h↔∃ e d : Int,t=[(x : Int),(y : Int),h,e,d]∧(0≤e∧e<ix f.sizes x)∧0≤d∧d<ix g.sizes y:=by
 rw [dayH,mem_catL]
 constructor
 ·rintro ⟨e,he,ht⟩
  obtain ⟨d,hd,rfl⟩:=List.mem_map.mp ht
  have:=List.mem_range.mp hd;exact ⟨e,d,rfl,⟨by omega,by omega⟩,by omega,by omega⟩
 ·rintro ⟨e,d,rfl,he,hd⟩;refine ⟨e.toNat,by omega,List.mem_map.mpr ⟨d.toNat,List.mem_range.mpr (by omega), ?_⟩⟩;rw [Int.toNat_of_nonneg he.1,Int.toNat_of_nonneg hd.1]
theorem mem_dayE : t∈dayE m f g z↔Ent m f g z t:=by
 rw [dayE,mem_catL]
 constructor
 ·rintro ⟨x,hx,ht⟩;rw [dayX,mem_catL] at ht
  obtain ⟨y,hy,ht⟩:=ht;rw [dayY,List.mem_flatMap] at ht
  obtain ⟨h,hh,ht⟩:=ht
  obtain ⟨e,d,rfl,he,hd⟩:=mem_dayH.mp ht
  have hh:=homC_mem.mp hh;exact ⟨rfl,⟨by show (0 : Int)≤(x : Int); omega,by show (x : Int)<_; omega⟩,⟨by show (0 : Int)≤(y : Int); omega,by show (y : Int)<_; omega⟩,hh.1,hh.2.1,hh.2.2,he,hd⟩
 ·intro E;refine ⟨(ix t 0).toNat,by have:=E.x.1; have:=E.x.2; omega, ?_⟩;rw [dayX,mem_catL];refine ⟨(ix t 1).toNat,by have:=E.y.1; have:=E.y.2; omega, ?_⟩;rw [dayY,List.mem_flatMap];refine ⟨ix t 2,homC_mem.mpr ⟨E.h, ?_,E.ht⟩, ?_⟩
  ·rw [Int.toNat_of_nonneg E.x.1,Int.toNat_of_nonneg E.y.1]; exact E.hf
  ·refine mem_dayH.mpr ⟨ix t 3,ix t 4, ?_, ?_, ?_⟩
   ·rw [Int.toNat_of_nonneg E.x.1,Int.toNat_of_nonneg E.y.1]; exact E.ex
   ·rw [Int.toNat_of_nonneg E.x.1]; exact E.e
   ·rw [Int.toNat_of_nonneg E.y.1]; exact E.d
end
theorem nodup_catL {α : Type} {g : Nat→List α} (p : α→Int) : ∀ n : Nat,(∀ i,i<n→(g i).Nodup)→(∀ i x,i<n→x∈g i→p x=i)→(catL g n).Nodup
 | 0,_,_=>by rw [catL_zero]; exact List.nodup_nil
 | n+1,h1,h2=>by
  rw [catL_succ,List.nodup_append];refine ⟨nodup_catL p n (fun i hi=>h1 i (by omega)) fun i x hi=>h2 i x (by omega),h1 n (by omega),fun a ha b hb e=>?_⟩
  obtain ⟨i,hi,hx⟩:=mem_catL.mp ha
  have e1:=h2 i a (by omega) hx
  have e2:=h2 n b (by omega) hb;rw [e,e2] at e1;omega
theorem nodup_fl {α : Type} {g : Int→List α} (p : α→Int) : ∀ l : List Int,l.Nodup→(∀ h,h∈l→(g h).Nodup)→(∀ h x,h∈l→x∈g h→p x=h)→(l.flatMap g).Nodup
 | [],_,_,_=>by simp
 | a::l,hn,h1,h2=>by
  rw [List.flatMap_cons,List.nodup_append];rw [List.nodup_cons] at hn;refine ⟨h1 a (by simp),nodup_fl p l hn.2 (fun h hh=>h1 h (by simp [hh])) fun h x hh=>h2 h x (by simp [hh]),fun u hu v hv e=>?_⟩
  obtain ⟨h,hh,hx⟩:=List.mem_flatMap.mp hv
  have e1:=h2 a u (by simp) hu
  have e2:=h2 h v (by simp [hh]) hx;rw [e,e2] at e1;exact hn.1 (e1 ▸ hh)
theorem homC_nd (c : Cat) (x y : Int) : (homC c x y).Nodup:=by
 rw [homC,outs];refine List.Pairwise.sublist List.filter_sublist ?_;rw [List.pairwise_map];exact (List.nodup_range.sublist List.filter_sublist).imp fun {a b} h e=>h (Int.ofNat.inj e)
theorem nodup_mapd (l : List Int) (n : Nat) : ((List.range n).map fun d : Nat=>l++[(d : Int)]).Nodup:=by
 rw [List.nodup_iff_pairwise_ne,List.pairwise_map];exact List.nodup_range.imp fun {a b} h e=>h (by have:=List.append_cancel_left e; injection this with q; omega)
theorem dayE_nodup (m : Mo) (f g : SF) (z : Int) : (dayE m f g z).Nodup:=by
 refine nodup_catL (fun t=>ix t 0) _ (fun x hx=>nodup_catL (fun t=>ix t 1) _ (fun y hy=>nodup_fl (fun t=>ix t 2) _ (homC_nd _ _ _) (fun h hh=>nodup_catL (fun t=>ix t 3) _ (fun e he=>?_) fun e t he ht=>?_) fun h t hh ht=>?_) fun y t hy ht=>?_) fun x t hx ht=>?_
 ·exact nodup_mapd [(x : Int),(y : Int),h,(e : Int)] _
 ·obtain ⟨d,_,rfl⟩:=List.mem_map.mp ht; rfl
 ·obtain ⟨e,d,rfl,_⟩:=mem_dayH.mp ht; rfl
 ·rw [dayY,List.mem_flatMap] at ht
  obtain ⟨h,_,ht⟩:=ht
  obtain ⟨e,d,rfl,_⟩:=mem_dayH.mp ht; rfl
 ·rw [dayX,mem_catL] at ht
  obtain ⟨y,_,ht⟩:=ht;rw [dayY,List.mem_flatMap] at ht
  obtain ⟨h,_,ht⟩:=ht
  obtain ⟨e,d,rfl,_⟩:=mem_dayH.mp ht; rfl
end Go.Shf
