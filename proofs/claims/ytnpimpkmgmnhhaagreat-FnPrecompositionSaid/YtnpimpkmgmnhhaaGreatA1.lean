/- Abstract values and an abstract heap, their relation to the worlds of the model, operations on them. -/
import Derived.Below
import Derived.KernelRfl
import Derived.Laws.Cells
import Derived.Laws.Build
import Derived.Laws.World
import Derived.Laws.Slices
import Derived.Laws.AppendOwn
import Derived.Laws.MakeOwn
import Derived.Calls
import Derived.WalkKit
import Derived.Laws.IdiomRangeMap
set_option linter.unusedVariables false
set_option linter.unusedSimpArgs false
set_option linter.unusedSectionVars false
namespace Go.AW
open Go.RowKit
structure Below (B : Nat) (w w' : World) : Prop where
 os : w'.os=w.os
 tape : w'.tape=w.tape
 output : w'.output=w.output
 size : w.heap.size≤w'.heap.size
 block : ∀ k,k<B→w'.heap[k]? = w.heap[k]?
 drawn : w.drawn≤w'.drawn
theorem Below.refl (B : Nat) (w : World) : Below B w w:=⟨rfl,rfl,rfl,Nat.le_refl _,fun _ _=>rfl,Nat.le_refl _⟩
theorem Below.trans {B : Nat} {a b c : World} (h : Below B a b) (k : Below B b c) : Below B a c :=
 ⟨k.os.trans h.os,k.tape.trans h.tape,k.output.trans h.output,Nat.le_trans h.size k.size,fun i hi=>(k.block i hi).trans (h.block i hi),Nat.le_trans h.drawn k.drawn⟩
theorem Below.drew {B : Nat} {a w : World} (h : Below B a w) : Below B a w.drew:=⟨h.os,h.tape,h.output,h.size,h.block,Nat.le_trans h.drawn (Nat.le_succ _)⟩
theorem Below.heap_alloc (w : World) (o : Obj) (k : Nat) (h : k<w.heap.size) : (w.alloc o).heap[k]? = w.heap[k]? := by
 exact Go.RowKit.Below.heap_alloc w o k h
theorem Below.alloc {B : Nat} {a w : World} (h : Below B a w) (hB : B≤w.heap.size) (o : Obj) : Below B a (w.alloc o) :=
 ⟨h.os,h.tape,h.output,((Go.RowKit.Below.refl B w).alloc hB o).size |> Nat.le_trans h.size,fun k hk=>(Below.heap_alloc w o k (by omega)).trans (h.block k hk),h.drawn⟩
inductive AV where
 | bool (b : Bool)
 | int (k : IntKind) (n : Int)
 | str (l : List UInt8)
 | nilp
 | ptr (cs : List AV)
 | ref (id off : Nat)
 | dual (cs : List AV) (id : Nat)
 | nilsl
 | emsl
 | sl (es : List AV)
 | buf (id n : Nat)
 | sub (id off n : Nat)
 | tbuf (id n : Nat)
 | big (n : Nat)
 | imap (ks vs : List AV)
 | mref (id : Nat)
 | fn (f : Fn) (ca : List AV)
 | nilf
 | ifc (t : TypeId) (v : AV)
 | nili
 | agg (cs : List AV)
 | tup (vs : List AV)
 deriving Inhabited
def AV.cells : AV→List AV
 | .agg cs=>cs
 | v=>[v]
abbrev nv : AV:=.tup []
def maxL : Nat:=1099511627776
inductive Place where
 | nil
 | blk (b cap : Nat)
 | mp (b : Nat)
structure Gh where
 fz : Nat→Nat→Option Value
 fm : Nat→Option (Array MapEntry)
 io : Nat→Option Place
structure Gh.le (g g' : Gh) : Prop where
 fz : ∀ b o v,g.fz b o=some v→g'.fz b o=some v
 fm : ∀ b v,g.fm b=some v→g'.fm b=some v
 io : ∀ i p,g.io i=some p→g'.io i=some p
theorem Gh.le.refl (g : Gh) : g.le g:=⟨fun _ _ _ h=>h,fun _ _ h=>h,fun _ _ h=>h⟩
theorem Gh.le.trans {a b c : Gh} (h : a.le b) (k : b.le c) : a.le c :=
 ⟨fun x y z e=>k.fz x y z (h.fz x y z e),fun x y e=>k.fm x y (h.fm x y e),fun x y e=>k.io x y (h.io x y e)⟩
inductive VRel (g : Gh) : AV→Value→Prop
 | bool (b : Bool) : VRel g (.bool b) (.bool b)
 | int (k : IntKind) (n : Int) : VRel g (.int k n) (.int k n)
 | str (l : List UInt8) : VRel g (.str l) (.string ⟨l.toArray⟩)
 | nilp : VRel g .nilp (.pointer none)
 | ptr (cs : List AV) (b o : Nat) (vs : Nat→Value)
   (hf : ∀ i,i<cs.length→g.fz b (o+i)=some (vs i))
   (hv : ∀ i,i<cs.length→VRel g (cs.getD i nv) (vs i)) : VRel g (.ptr cs) (.pointer (some ⟨b,o,none⟩))
 | ref (id off b cap : Nat) (h : g.io id=some (.blk b cap)) : VRel g (.ref id off) (.pointer (some ⟨b,off,none⟩))
 | dual (cs : List AV) (id b cap : Nat) (vs : Nat→Value) (h : g.io id=some (.blk b cap))
   (hf : ∀ i,i<cs.length→g.fz b i=some (vs i))
   (hv : ∀ i,i<cs.length→VRel g (cs.getD i nv) (vs i)) : VRel g (.dual cs id) (.pointer (some ⟨b,0,none⟩))
 | nilsl : VRel g .nilsl (.slice none 0 0)
 | emsl (a : Option Addr) : VRel g .emsl (.slice a 0 0)
 | slnil (a : Option Addr) (cap : Nat) : VRel g (.sl []) (.slice a 0 cap)
 | sl (es : List AV) (b o sz cap : Nat) (vs : Nat→Value) (hm : es.length≤maxL) (hcap : es.length≤cap)
   (hsz : ∀ i,i<es.length→(es.getD i nv).cells.length=sz)
   (hf : ∀ i j,i<es.length→j<sz→g.fz b (o+(i*sz+j))=some (vs (i*sz+j)))
   (hv : ∀ i j,i<es.length→j<sz→VRel g ((es.getD i nv).cells.getD j nv) (vs (i*sz+j))) :
   VRel g (.sl es) (.slice (some ⟨b,o,none⟩) es.length cap)
 | bufnil (id : Nat) (h : g.io id=some .nil) : VRel g (.buf id 0) (.slice none 0 0)
 | buf (id n b cap : Nat) (h : g.io id=some (.blk b cap)) : VRel g (.buf id n) (.slice (some ⟨b,0,none⟩) n cap)
 | sub (id off n b cap c : Nat) (h : g.io id=some (.blk b cap)) : VRel g (.sub id off n) (.slice (some ⟨b,off,none⟩) n c)
 | tbuf (id n b cap : Nat) (h : g.io id=some (.blk b cap)) : VRel g (.tbuf id n) (.slice (some ⟨b,0,none⟩) n n)
 | big (a : Option Addr) (n cap : Nat) (h : n≤140737488355328) : VRel g (.big n) (.slice a n cap)
 | imapnil : VRel g (.imap [] []) (.map none)
 | imap (ks vs : List AV) (b : Nat) (es : Array MapEntry) (h : g.fm b=some es) (h1 : es.size=ks.length) (h2 : vs.length=ks.length)
   (hk : ∀ i,i<ks.length→VRel g (ks.getD i nv) (es.getD i default).key)
   (hv : ∀ i,i<ks.length→VRel g (vs.getD i nv) (es.getD i default).val) : VRel g (.imap ks vs) (.map (some b))
 | mref (id b : Nat) (h : g.io id=some (.mp b)) : VRel g (.mref id) (.map (some b))
 | fn (f : Fn) (ca : List AV) (vs : Array Value) (hs : vs.size=ca.length)
   (hv : ∀ i,i<ca.length→VRel g (ca.getD i nv) (vs.getD i undef)) : VRel g (.fn f ca) (.func f #[] vs)
 | nilf : VRel g .nilf .nilFunc
 | ifc (t : TypeId) (v : AV) (w : Value) (h : VRel g v w) : VRel g (.ifc t v) (.iface t w)
 | nili : VRel g .nili .nilIface
 | agg (cs : List AV) (vs : Array Value) (hs : vs.size=cs.length)
   (hv : ∀ i,i<cs.length→VRel g (cs.getD i nv) (vs.getD i undef)) : VRel g (.agg cs) (.agg vs)
 | tup (cs : List AV) (vs : Array Value) (hs : vs.size=cs.length)
   (hv : ∀ i,i<cs.length→VRel g (cs.getD i nv) (vs.getD i undef)) : VRel g (.tup cs) (.tuple vs)
theorem VRel.mono {g g' : Gh} (hg : g.le g') {a : AV} {v : Value} (h : VRel g a v) : VRel g' a v:=by
 induction h with
 | bool b=>exact .bool b
 | int k n=>exact .int k n
 | str l=>exact .str l
 | nilp=>exact .nilp
 | ptr cs b o vs hf _ ih=>exact .ptr cs b o vs (fun i hi=>hg.fz _ _ _ (hf i hi)) ih
 | ref id off b cap h=>exact .ref id off b cap (hg.io _ _ h)
 | dual cs id b cap vs h hf _ ih=>exact .dual cs id b cap vs (hg.io _ _ h) (fun i hi=>hg.fz _ _ _ (hf i hi)) ih
 | nilsl=>exact .nilsl
 | emsl a=>exact .emsl a
 | slnil a cap=>exact .slnil a cap
 | sl es b o sz cap vs hm hcap hsz hf _ ih=>exact .sl es b o sz cap vs hm hcap hsz (fun i j hi hj=>hg.fz _ _ _ (hf i j hi hj)) ih
 | bufnil id h=>exact .bufnil id (hg.io _ _ h)
 | buf id n b cap h=>exact .buf id n b cap (hg.io _ _ h)
 | sub id off n b cap c h=>exact .sub id off n b cap c (hg.io _ _ h)
 | tbuf id n b cap h=>exact .tbuf id n b cap (hg.io _ _ h)
 | big a n cap h=>exact .big a n cap h
 | imapnil=>exact .imapnil
 | imap ks vs b es h h1 h2 _ _ ihk ihv=>exact .imap ks vs b es (hg.fm _ _ h) h1 h2 ihk ihv
 | mref id b h=>exact .mref id b (hg.io _ _ h)
 | fn f ca vs hs _ ih=>exact .fn f ca vs hs ih
 | nilf=>exact .nilf
 | ifc t v w _ ih=>exact .ifc t v w ih
 | nili=>exact .nili
 | agg cs vs hs _ ih=>exact .agg cs vs hs ih
 | tup cs vs hs _ ih=>exact .tup cs vs hs ih
def VRels (g : Gh) (as : List AV) (vs : Array Value) : Prop :=
 vs.size=as.length∧∀ i,i<as.length→VRel g (as.getD i nv) (vs.getD i undef)
inductive MObj where
 | cells (sz : Nat) (cs : List AV) (f : Nat)
 | map (ks vs : List AV)
abbrev Heap:=List (Nat × MObj)
def Heap.get (H : Heap) (i : Nat) : Option MObj:=H.lookup i
def Heap.set (H : Heap) (i : Nat) (o : MObj) : Heap:=(i,o)::H
def Heap.del (H : Heap) (i : Nat) : Heap:=H.filter fun x=>x.1 != i
@[simp] theorem Heap.get_set_same (H : Heap) (i : Nat) (o : MObj) : (H.set i o).get i=some o:=by simp [Heap.get,Heap.set]
theorem Heap.get_set_ne (H : Heap) {i j : Nat} (o : MObj) (h : j≠i) : (H.set i o).get j=H.get j:=by
 simp only [Heap.get,Heap.set,List.lookup]
 have : (j == i)=false:=by simpa using h
 simp [this]
theorem Heap.get_del_same (H : Heap) (i : Nat) : (H.del i).get i=none:=by
 induction H with
 | nil=>rfl
 | cons x r ih =>
  simp only [Heap.del,Heap.get,List.filter_cons] at *
  by_cases h : x.1=i
  ·simp [h,ih]
  ·have h' : (i == x.1)=false:=by simpa using fun e=>h e.symm
   simp [h,List.lookup,h',ih]
theorem Heap.get_del_ne (H : Heap) {i j : Nat} (hj : j≠i) : (H.del i).get j=H.get j:=by
 induction H with
 | nil=>rfl
 | cons x r ih =>
  obtain ⟨k,o⟩:=x;simp only [Heap.del,Heap.get,List.filter_cons] at *
  by_cases h : k=i
  ·have h' : (j == k)=false:=by simpa [h] using hj
   simp [h,List.lookup,ih];subst h; simp [h']
  ·by_cases hk : j=k
   ·subst hk; simp [h,List.lookup]
   ·have h' : (j == k)=false:=by simpa using hk
    simp [h,List.lookup,h',ih]
def Heap.sub (H H' : Heap) : Prop:=∀ i o,H.get i=some o→H'.get i=some o
theorem Heap.sub.refl (H : Heap) : H.sub H:=fun _ _ h=>h
theorem Heap.sub.trans {a b c : Heap} (h : a.sub b) (k : b.sub c) : a.sub c:=fun i o e=>k i o (h i o e)
theorem Heap.sub_set {H H' : Heap} {i : Nat} (o : MObj) (hi : H.get i=none) (h : H.sub H') : H.sub (H'.set i o):=fun j x e=>by
 have : j≠i:=by rintro rfl; simp [hi] at e
 rw [Heap.get_set_ne _ _ this]; exact h j x e
def BirthOk (es : Array MapEntry) (clk : Nat) : Prop:=(∀ x∈es.toList,x.born<clk)∧(es.toList.map (·.born)).Nodup
def SzB (es : Array MapEntry) (clk n : Nat) : Prop:=es.size=n∧BirthOk es clk
def ObjRel (g : Gh) (B : Nat) (w : World) : Place→MObj→Prop
 | .nil,.cells _ cs f=>cs=[]∧f=0
 | .blk b cap,.cells sz cs f=>B≤b∧f≤cs.length∧cs.length≤maxL∧(∀ o,f≤o→g.fz b o=none) ∧
   ∃ c el,w.heap[b]? = some (.cells c el (0,0))∧c.size=cap*sz∧cs.length≤c.size ∧
    ∀ i,i<cs.length→VRel g (cs.getD i nv) (c.getD i undef)
 | .mp b,.map ks vs=>B≤b∧g.fm b=none∧∃ es clk,w.heap[b]? = some (.map es clk)∧SzB es clk ks.length∧vs.length=ks.length ∧
   (∀ i,i<ks.length→VRel g (ks.getD i nv) (es.getD i default).key)∧∀ i,i<ks.length→VRel g (vs.getD i nv) (es.getD i default).val
 | _,_=>False
structure WRel (g : Gh) (B : Nat) (H : Heap) (w : World) : Prop where
 fz : ∀ b o v,g.fz b o=some v→w.cell? ⟨b,o,none⟩=some v
 fm : ∀ b es,g.fm b=some es→∃ clk,w.heap[b]? = some (.map es clk)∧BirthOk es clk
 ob : ∀ i o,H.get i=some o→∃ p,g.io i=some p∧ObjRel g B w p o
 inj : ∀ i j b c c',i≠j→(H.get i).isSome→(H.get j).isSome→g.io i=some (.blk b c)→g.io j=some (.blk b c')→False
 injm : ∀ i j b,i≠j→(H.get i).isSome→(H.get j).isSome→g.io i=some (.mp b)→g.io j=some (.mp b)→False
 base : B≤w.heap.size
 fin : ∃ N,∀ i,N≤i→g.io i=none
theorem WRel.sub {g : Gh} {B : Nat} {H H' : Heap} {w : World} (h : WRel g B H w) (s : H'.sub H) : WRel g B H' w where
 fz:=h.fz
 fm:=h.fm
 ob i o e:=h.ob i o (s i o e)
 inj i j b c c' n e1 e2:=by
  obtain ⟨o1,e1⟩:=Option.isSome_iff_exists.1 e1
  obtain ⟨o2,e2⟩:=Option.isSome_iff_exists.1 e2;exact h.inj i j b c c' n (by simp [s _ _ e1]) (by simp [s _ _ e2])
 injm i j b n e1 e2:=by
  obtain ⟨o1,e1⟩:=Option.isSome_iff_exists.1 e1
  obtain ⟨o2,e2⟩:=Option.isSome_iff_exists.1 e2;exact h.injm i j b n (by simp [s _ _ e1]) (by simp [s _ _ e2])
 base:=h.base
 fin:=h.fin
abbrev Env:=List (Nat × Option AV)
def Env.get : Env→Nat→Option AV
 | [],_=>none
 | (s,v)::r,t=>if t=s then v else Env.get r t
def Env.put (σ : Env) (d : Nat) (v : AV) : Env:=(d,some v)::σ
def Env.forget (σ : Env) (d : Nat) : Env:=(d,none)::σ
def Env.keep : List Nat→Env→Env
 | [],_=>[]
 | t::r,σ=>(t,σ.get t)::Env.keep r σ
theorem Env.get_cons (s : Nat) (v : Option AV) (r : Env) (t : Nat) : Env.get ((s,v)::r) t=if t=s then v else Env.get r t:=rfl
theorem Env.get_keep (l : List Nat) (σ : Env) (t : Nat) (v : AV) (h : (Env.keep l σ).get t=some v) : σ.get t=some v:=by
 induction l with
 | nil=>simp [Env.keep,Env.get] at h
 | cons x r ih =>
  simp only [Env.keep,Env.get] at h
  split at h
  ·rename_i e; rw [e]; exact h
  ·exact ih h
def ERel (g : Gh) (σ : Env) (tm : Array Value) : Prop:=∀ t v,σ.get t=some v→t<tm.size∧VRel g v (tm.getD t undef)
theorem ERel.mono {g g' : Gh} (hg : g.le g') {σ : Env} {tm : Array Value} (h : ERel g σ tm) : ERel g' σ tm :=
 fun t v e=>⟨(h t v e).1,(h t v e).2.mono hg⟩
theorem ERel.keep {g : Gh} {σ : Env} {tm : Array Value} (l : List Nat) (h : ERel g σ tm) : ERel g (σ.keep l) tm :=
 fun t v e=>h t v (Env.get_keep l σ t v e)
theorem ERel.put {g : Gh} {σ : Env} {tm : Array Value} (h : ERel g σ tm) {d : Nat} (hd : d<tm.size) {a : AV} {v : Value} (hv : VRel g a v) :
  ERel g (σ.put d a) (tm.setIfInBounds d v):=by
 intro t x e;simp only [Env.put,Env.get] at e
 split at e
 ·rename_i ht
  cases e;subst ht
  simp [hd,Array.getD,hv]
 ·rename_i ht
  obtain ⟨h1,h2⟩:=h t x e;refine ⟨by simpa using h1, ?_⟩
  have : (tm.setIfInBounds d v).getD t undef=tm.getD t undef:=by
   simp only [Array.getD_eq_getD_getElem?];rw [Array.getElem?_setIfInBounds_ne (by omega)]
  rw [this]; exact h2
end Go.AW
namespace Go.AW
open Go.RowKit
def Gh.addF (g : Gh) (b n : Nat) (c : Array Value) : Gh :=
 { g with fz:=fun b' o=>if b'=b∧o<n then c[o]? else g.fz b' o }
def Gh.addM (g : Gh) (b : Nat) (es : Array MapEntry) : Gh:={ g with fm:=fun b'=>if b'=b then some es else g.fm b' }
def Gh.addO (g : Gh) (i : Nat) (p : Place) : Gh:={ g with io:=fun j=>if j=i then some p else g.io j }
theorem Gh.le_addO (g : Gh) (i : Nat) (p : Place) (h : g.io i=none) : g.le (g.addO i p) :=
 ⟨fun _ _ _ h=>h,fun _ _ h=>h,fun j q hj=>by
  have : j≠i:=by rintro rfl; simp [h] at hj
  simpa [Gh.addO,this] using hj⟩
theorem Gh.io_addO (g : Gh) (i : Nat) (p : Place) : (g.addO i p).io i=some p:=by simp [Gh.addO]
theorem Gh.io_addO_ne (g : Gh) {i j : Nat} (p : Place) (h : j≠i) : (g.addO i p).io j=g.io j:=by simp [Gh.addO,h]
theorem Gh.fin_addO {g : Gh} (i : Nat) (p : Place) (h : ∃ N,∀ i,N≤i→g.io i=none) : ∃ N,∀ j,N≤j→(g.addO i p).io j=none:=by
 obtain ⟨N,hN⟩:=h;exact ⟨max N (i+1),fun j hj=>by rw [Gh.io_addO_ne _ _ (by omega)]; exact hN j (by omega)⟩
def Place.block : Place→Option Nat
 | .nil=>none
 | .blk b _=>some b
 | .mp b=>some b
theorem ObjRel.keep {g g' : Gh} {B : Nat} {w w' : World} {p : Place} {o : MObj} (h : ObjRel g B w p o) (hg : g.le g')
  (hb : ∀ b,p.block=some b→w'.heap[b]? = w.heap[b]?)
  (hf : ∀ b x,p.block=some b→g.fz b x=none→g'.fz b x=none)
  (hm : ∀ b,p.block=some b→g.fm b=none→g'.fm b=none) : ObjRel g' B w' p o:=by
 cases p with
 | nil=>cases o <;> simp only [ObjRel] at h ⊢; exact h
 | blk b cap =>
  cases o with
  | cells sz cs f =>
   simp only [ObjRel] at h ⊢
   obtain ⟨h1,h2,h3,h4,c,el,h5,h6,h7,h8⟩:=h;exact ⟨h1,h2,h3,fun x hx=>hf b x rfl (h4 x hx),c,el,by rw [hb b rfl]; exact h5,h6,h7,fun i hi=>(h8 i hi).mono hg⟩
  | map ks vs=>simp [ObjRel] at h
 | mp b =>
  cases o with
  | cells sz cs f=>simp [ObjRel] at h
  | map ks vs =>
   simp only [ObjRel] at h ⊢
   obtain ⟨h1,h2,es,clk,h5,h6,h7,h8,h9⟩:=h;exact ⟨h1,hm b rfl h2,es,clk,by rw [hb b rfl]; exact h5,h6,h7,fun i hi=>(h8 i hi).mono hg,fun i hi=>(h9 i hi).mono hg⟩
theorem ObjRel.lt {g : Gh} {B : Nat} {w : World} {p : Place} {o : MObj} (h : ObjRel g B w p o) {b : Nat} (hp : p.block=some b) : B≤b∧b<w.heap.size:=by
 cases p with
 | nil=>cases hp
 | blk b' cap =>
  cases o with
  | cells sz cs f =>
   simp only [ObjRel] at h
   cases hp
   obtain ⟨h1,h2,h3,h4,c,el,h5,_⟩:=h;exact ⟨h1,(Array.getElem?_eq_some_iff.1 h5).1⟩
  | map ks vs=>simp [ObjRel] at h
 | mp b' =>
  cases o with
  | cells sz cs f=>simp [ObjRel] at h
  | map ks vs =>
   simp only [ObjRel] at h
   cases hp
   obtain ⟨h1,h2,es,clk,h5,_⟩:=h;exact ⟨h1,(Array.getElem?_eq_some_iff.1 h5).1⟩
theorem WRel.fz_lt {g : Gh} {B : Nat} {H : Heap} {w : World} (h : WRel g B H w) {b o : Nat} {v : Value} (e : g.fz b o=some v) : b<w.heap.size :=
 World.block_lt_of_cell? w ⟨b,o,none⟩ (h.fz b o v e)
theorem WRel.fz_new {g : Gh} {B : Nat} {H : Heap} {w : World} (h : WRel g B H w) (b o : Nat) (hb : w.heap.size≤b) : g.fz b o=none:=by
 cases e : g.fz b o with
 | none=>rfl
 | some v=>have:=h.fz_lt e; omega
theorem WRel.fm_lt {g : Gh} {B : Nat} {H : Heap} {w : World} (h : WRel g B H w) {b : Nat} {es} (e : g.fm b=some es) : b<w.heap.size:=by
 obtain ⟨clk,hc,_⟩:=h.fm b es e;exact (Array.getElem?_eq_some_iff.1 hc).1
theorem WRel.fm_new {g : Gh} {B : Nat} {H : Heap} {w : World} (h : WRel g B H w) (b : Nat) (hb : w.heap.size≤b) : g.fm b=none:=by
 cases e : g.fm b with
 | none=>rfl
 | some v=>have:=h.fm_lt e; omega
theorem WRel.drew {g : Gh} {B : Nat} {H : Heap} {w : World} (h : WRel g B H w) : WRel g B H w.drew where
 fz b o v e:=h.fz b o v e
 fm b es e:=h.fm b es e
 ob i o e:=by
  obtain ⟨p,hp,hr⟩:=h.ob i o e;exact ⟨p,hp,hr.keep (Gh.le.refl g) (fun _ _=>rfl) (fun _ _ _ h=>h) (fun _ _ h=>h)⟩
 inj:=h.inj
 injm:=h.injm
 base:=h.base
 fin:=h.fin
theorem WRel.grow {g : Gh} {B : Nat} {H : Heap} {w w' : World} (h : WRel g B H w) (hs : w.heap.size≤w'.heap.size)
  (hb : ∀ b,b<w.heap.size→w'.heap[b]? = w.heap[b]?) : WRel g B H w' where
 fz b o v e:=by
  have hl:=h.fz_lt e
  have:=h.fz b o v e;rw [World.cell?_of_block (w:=w) (hb b hl)]; exact this
 fm b es e:=by
  obtain ⟨clk,hc,hbo⟩:=h.fm b es e;exact ⟨clk,by rw [hb b (h.fm_lt e)]; exact hc,hbo⟩
 ob i o e:=by
  obtain ⟨p,hp,hr⟩:=h.ob i o e;exact ⟨p,hp,hr.keep (Gh.le.refl g) (fun b hb'=>hb b (hr.lt hb').2) (fun _ _ _ h=>h) (fun _ _ h=>h)⟩
 inj:=h.inj
 injm:=h.injm
 base:=by have:=h.base; omega
 fin:=h.fin
theorem WRel.alloc {g : Gh} {B : Nat} {H : Heap} {w : World} (h : WRel g B H w) (x : Obj) : WRel g B H (w.alloc x) :=
 h.grow (by simp) (fun b hb=>Below.heap_alloc w x b hb)
theorem WRel.addF {g : Gh} {B : Nat} {H : Heap} {w : World} (h : WRel g B H w) (b n : Nat) (c : Array Value) (el : TypeId) (fr : Nat × Nat)
  (hb : w.heap[b]? = some (.cells c el fr))
  (ho : ∀ i p o,H.get i=some o→g.io i=some p→p.block=some b→∃ sz cs f,o=.cells sz cs f∧n≤f) :
  g.le (g.addF b n c)∧WRel (g.addF b n c) B H w:=by
 have hle : g.le (g.addF b n c):=by
  refine ⟨fun b' o v e=>?_,fun _ _ h=>h,fun _ _ h=>h⟩;simp only [Gh.addF]
  split
  ·rename_i hx
   obtain ⟨rfl,hx⟩:=hx
   have:=h.fz _ _ _ e
   rwa [cell_of_row w b' o c el fr hb] at this
  ·exact e
 refine ⟨hle, ?_⟩
 constructor
 ·intro b' o v e;simp only [Gh.addF] at e
  split at e
  ·rename_i hx
   obtain ⟨rfl,hx⟩:=hx;rw [cell_of_row w b' o c el fr hb]; exact e
  ·exact h.fz _ _ _ e
 ·exact h.fm
 ·intro i o e
  obtain ⟨p,hp,hr⟩:=h.ob i o e;refine ⟨p,hp, ?_⟩
  by_cases hpb : p.block=some b
  ·obtain ⟨sz,cs,f,rfl,hn⟩:=ho i p o e hp hpb
   cases p with
   | nil=>cases hpb
   | mp b'=>simp [ObjRel] at hr
   | blk b' cap =>
    cases hpb;simp only [ObjRel] at hr ⊢
    obtain ⟨h1,h2,h3,h4,c',el',h5,h6,h7,h8⟩:=hr;refine ⟨h1,h2,h3,fun x hx=>?_,c',el',h5,h6,h7,fun i hi=>(h8 i hi).mono hle⟩;simp only [Gh.addF];rw [if_neg (by omega)];exact h4 x hx
  ·refine hr.keep hle (fun _ _=>rfl) (fun b' x hb' hx=>?_) (fun _ _ h=>h);simp only [Gh.addF];rw [if_neg]
   ·exact hx
   ·rintro ⟨rfl,_⟩; exact hpb hb'
 ·exact h.inj
 ·exact h.injm
 ·exact h.base
 ·exact h.fin
theorem WRel.alloc_fz {g : Gh} {B : Nat} {H : Heap} {w : World} (h : WRel g B H w) (c : Array Value) (el : TypeId) :
  g.le (g.addF w.heap.size c.size c)∧WRel (g.addF w.heap.size c.size c) B H (w.alloc (.cells c el)) :=
 (h.alloc _).addF w.heap.size c.size c el (0,0) (World.alloc_heap_new' w c el)
  (fun i p o e hp hpb=>by
   obtain ⟨p',hp',hr⟩:=h.ob i o e;rw [hp] at hp'; cases hp'
   have:=(hr.lt hpb).2; omega)
where
 World.alloc_heap_new' (w : World) (c : Array Value) (el : TypeId) : (w.alloc (.cells c el)).heap[w.heap.size]? = some (.cells c el (0,0)):=by
  show (w.heap.push _)[w.heap.size]? = _
  simp
theorem WRel.addO {g : Gh} {B : Nat} {H : Heap} {w : World} (h : WRel g B H w) (i : Nat) (hi : g.io i=none) (p : Place) (o : MObj)
  (hp : ∀ b,p.block=some b→∀ j q o',H.get j=some o'→g.io j=some q→q.block≠some b)
  (hr : ObjRel (g.addO i p) B w p o) : g.le (g.addO i p)∧WRel (g.addO i p) B (H.set i o) w:=by
 have hle:=Gh.le_addO g i p hi;refine ⟨hle, ?_⟩
 have hnot : ∀ j o',H.get j=some o'→j≠i:=by
  rintro j o' e rfl
  obtain ⟨q,hq,_⟩:=h.ob _ o' e
  simp [hi] at hq
 have hget : ∀ j,((H.set i o).get j).isSome→j≠i→(H.get j).isSome:=by
  intro j hj hne
  rwa [Heap.get_set_ne _ _ hne] at hj
 constructor
 ·exact h.fz
 ·exact h.fm
 ·intro j o' e
  by_cases hj : j=i
  ·subst hj
   simp at e;subst e;exact ⟨p,Gh.io_addO _ _ _,hr⟩
  ·rw [Heap.get_set_ne _ _ hj] at e
   obtain ⟨q,hq,hqr⟩:=h.ob j o' e;exact ⟨q,by rw [Gh.io_addO_ne _ _ hj]; exact hq,hqr.keep hle (fun _ _=>rfl) (fun _ _ _ h=>h) (fun _ _ h=>h)⟩
 ·intro j k b c c' hne e1 e2 p1 p2
  by_cases hj : j=i
  ·subst hj
   have hk : k≠j:=fun e=>hne e.symm;rw [Gh.io_addO] at p1;rw [Gh.io_addO_ne _ _ hk] at p2
   cases p1
   obtain ⟨o',e2⟩:=Option.isSome_iff_exists.1 (hget k e2 hk);exact hp b rfl k _ o' e2 p2 rfl
  ·by_cases hk : k=i
   ·subst hk;rw [Gh.io_addO_ne _ _ hj] at p1;rw [Gh.io_addO] at p2
    cases p2
    obtain ⟨o',e1⟩:=Option.isSome_iff_exists.1 (hget j e1 hj);exact hp b rfl j _ o' e1 p1 rfl
   ·rw [Gh.io_addO_ne _ _ hj] at p1;rw [Gh.io_addO_ne _ _ hk] at p2;exact h.inj j k b c c' hne (hget j e1 hj) (hget k e2 hk) p1 p2
 ·intro j k b hne e1 e2 p1 p2
  by_cases hj : j=i
  ·subst hj
   have hk : k≠j:=fun e=>hne e.symm;rw [Gh.io_addO] at p1;rw [Gh.io_addO_ne _ _ hk] at p2
   cases p1
   obtain ⟨o',e2⟩:=Option.isSome_iff_exists.1 (hget k e2 hk);exact hp b rfl k _ o' e2 p2 rfl
  ·by_cases hk : k=i
   ·subst hk;rw [Gh.io_addO_ne _ _ hj] at p1;rw [Gh.io_addO] at p2
    cases p2
    obtain ⟨o',e1⟩:=Option.isSome_iff_exists.1 (hget j e1 hj);exact hp b rfl j _ o' e1 p1 rfl
   ·rw [Gh.io_addO_ne _ _ hj] at p1;rw [Gh.io_addO_ne _ _ hk] at p2;exact h.injm j k b hne (hget j e1 hj) (hget k e2 hk) p1 p2
 ·exact h.base
 ·exact Gh.fin_addO i p h.fin
theorem WRel.fresh {g : Gh} {B : Nat} {H : Heap} {w : World} (h : WRel g B H w) : ∃ i,g.io i=none∧H.get i=none:=by
 obtain ⟨N,hN⟩:=h.fin;refine ⟨N,hN N (Nat.le_refl _), ?_⟩
 cases e : H.get N with
 | none=>rfl
 | some o=>obtain ⟨p,hp,_⟩:=h.ob N o e; simp [hN N (Nat.le_refl _)] at hp
theorem WRel.alloc_ob {g : Gh} {B : Nat} {H : Heap} {w : World} (h : WRel g B H w) (i : Nat) (hi : g.io i=none) (c : Array Value) (el : TypeId)
  (sz cap : Nat) (cs : List AV) (hm : cs.length≤maxL) (hc : c.size=cap*sz) (hl : cs.length≤c.size) (hv : ∀ k,k<cs.length→VRel g (cs.getD k nv) (c.getD k undef)) :
  g.le (g.addO i (.blk w.heap.size cap))∧WRel (g.addO i (.blk w.heap.size cap)) B (H.set i (.cells sz cs 0)) (w.alloc (.cells c el)):=by
 refine (h.alloc _).addO i hi (.blk w.heap.size cap) (.cells sz cs 0) ?_ ?_
 ·intro b hb j q o' e hq hqb
  cases hb
  obtain ⟨q',hq',hr⟩:=h.ob j o' e;rw [hq] at hq'; cases hq'
  have:=(hr.lt hqb).2; omega
 ·simp only [ObjRel];refine ⟨h.base,Nat.zero_le _,hm,fun o _=>h.fz_new _ o (Nat.le_refl _),c,el,WRel.alloc_fz.World.alloc_heap_new' w c el,hc,hl,fun k hk=>(hv k hk).mono (Gh.le_addO g i _ hi)⟩
theorem WRel.alloc_map {g : Gh} {B : Nat} {H : Heap} {w : World} (h : WRel g B H w) (i : Nat) (hi : g.io i=none) (clk : Nat) :
  g.le (g.addO i (.mp w.heap.size))∧WRel (g.addO i (.mp w.heap.size)) B (H.set i (.map [] [])) (w.alloc (.map #[] clk)):=by
 refine (h.alloc _).addO i hi (.mp w.heap.size) (.map [] []) ?_ ?_
 ·intro b hb j q o' e hq hqb
  cases hb
  obtain ⟨q',hq',hr⟩:=h.ob j o' e;rw [hq] at hq'; cases hq'
  have:=(hr.lt hqb).2; omega
 ·simp only [ObjRel];refine ⟨h.base,h.fm_new _ (Nat.le_refl _),#[],clk, ?_,⟨by simp,fun x hx=>by simp at hx,by simp⟩,by simp,fun i hi=>by simp at hi,fun i hi=>by simp at hi⟩
  show (w.heap.push _)[w.heap.size]? = _
  simp
theorem WRel.write {g : Gh} {B : Nat} {H : Heap} {w w' : World} (h : WRel g B H w) (i b cap sz : Nat) (cs cs' : List AV) (f : Nat) (c c' : Array Value) (el : TypeId)
  (hi : H.get i=some (.cells sz cs f)) (hp : g.io i=some (.blk b cap)) (hb : w.heap[b]? = some (.cells c el (0,0)))
  (hb' : w'.heap[b]? = some (.cells c' el (0,0))) (hs : w'.heap.size=w.heap.size) (ho : ∀ k,k≠b→w'.heap[k]? = w.heap[k]?)
  (hcs : c'.size=c.size) (hpre : ∀ k,k<f→c'[k]? = c[k]?) (hf' : f≤cs'.length) (hm : cs'.length≤maxL) (hl' : cs'.length≤c'.size)
  (hv : ∀ k,k<cs'.length→VRel g (cs'.getD k nv) (c'.getD k undef)) : WRel g B (H.set i (.cells sz cs' f)) w':=by
 obtain ⟨p,hp',hr⟩:=h.ob i _ hi;rw [hp] at hp'; cases hp';simp only [ObjRel] at hr
 obtain ⟨h1,h2,h3,h4,c0,el0,h5,h6,h7,h8⟩:=hr;rw [hb] at h5; cases h5
 have hget : ∀ j,((H.set i (.cells sz cs' f)).get j).isSome→(H.get j).isSome:=by
  intro j hj
  by_cases e : j=i
  ·subst e; simp [hi]
  ·rwa [Heap.get_set_ne _ _ e] at hj
 constructor
 ·intro b' o v e
  have hl:=h.fz_lt e
  by_cases hbb : b'=b
  ·subst hbb
   have hof : o<f:=by
    rcases Nat.lt_or_ge o f with x | x
    ·exact x
    ·simp [h4 o x] at e
   have:=h.fz _ _ _ e;rw [cell_of_row w b' o c el (0,0) hb] at this;rw [cell_of_row w' b' o c' el (0,0) hb',hpre o hof]; exact this
  ·rw [World.cell?_of_block (w:=w) (a:=⟨b',o,none⟩) (ho b' hbb)]; exact h.fz _ _ _ e
 ·intro b' es e
  obtain ⟨clk,hc,hbo⟩:=h.fm b' es e
  have : b'≠b:=by rintro rfl; rw [hb] at hc; cases hc
  exact ⟨clk,by rw [ho b' this]; exact hc,hbo⟩
 ·intro j o e
  by_cases hj : j=i
  ·subst hj
   simp at e; subst e;refine ⟨.blk b cap,hp, ?_⟩;simp only [ObjRel];exact ⟨h1,hf',hm,h4,c',el,hb',by rw [hcs]; exact h6,hl',hv⟩
  ·rw [Heap.get_set_ne _ _ hj] at e
   obtain ⟨q,hq,hqr⟩:=h.ob j o e;refine ⟨q,hq,hqr.keep (Gh.le.refl g) (fun b'' hb''=>ho b'' ?_) (fun _ _ _ h=>h) (fun _ _ h=>h)⟩
   rintro rfl
   cases q with
   | nil=>cases hb''
   | blk b2 c2 =>
    cases hb'';exact h.inj j i _ c2 cap hj (by simp [e]) (by simp [hi]) hq hp
   | mp b2 =>
    cases hb''
    cases o with
    | cells _ _ _=>simp [ObjRel] at hqr
    | map ks vs =>
     simp only [ObjRel] at hqr
     obtain ⟨_,_,es,clk,h5',_⟩:=hqr;rw [hb] at h5'; cases h5'
 ·intro j k b2 c2 c3 hne e1 e2;exact h.inj j k b2 c2 c3 hne (hget j e1) (hget k e2)
 ·intro j k b2 hne e1 e2;exact h.injm j k b2 hne (hget j e1) (hget k e2)
 ·rw [hs]; exact h.base
 ·exact h.fin
theorem WRel.rename {g : Gh} {B : Nat} {H : Heap} {w : World} (h : WRel g B H w) (i j : Nat) (o : MObj) (p : Place)
  (hi : H.get i=some o) (hp : g.io i=some p) (hj : g.io j=none) :
  g.le (g.addO j p)∧WRel (g.addO j p) B ((H.del i).set j o) w:=by
 have hsub : (H.del i).sub H:=fun k x e=>by
  by_cases hk : k=i
  ·subst hk; rw [Heap.get_del_same] at e; cases e
  ·rwa [Heap.get_del_ne _ hk] at e
 obtain ⟨q,hq,hr⟩:=h.ob i o hi;rw [hp] at hq; cases hq;refine (h.sub hsub).addO j hj p o ?_ ?_
 ·intro b hb k q o' e hq hqb
  have hki : k≠i:=by rintro rfl; rw [Heap.get_del_same] at e; cases e
  have e' : H.get k=some o':=hsub k o' e
  obtain ⟨q',hq',hqr⟩:=h.ob k o' e';rw [hq] at hq'; cases hq'
  cases p with
  | nil=>cases hb
  | blk b1 c1 =>
   cases hb
   cases q with
   | nil=>cases hqb
   | blk b2 c2=>cases hqb; exact h.inj k i _ _ _ hki (by simp [e']) (by simp [hi]) hq hp
   | mp b2 =>
    cases hqb
    cases o' with
    | cells _ _ _=>simp [ObjRel] at hqr
    | map ks vs =>
     cases o with
     | map _ _=>simp [ObjRel] at hr
     | cells _ _ _ =>
      simp only [ObjRel] at hqr hr
      obtain ⟨_,_,es,clk,h5',_⟩:=hqr
      obtain ⟨_,_,_,_,c,el,h5,_⟩:=hr;rw [h5] at h5'; cases h5'
  | mp b1 =>
   cases hb
   cases q with
   | nil=>cases hqb
   | mp b2=>cases hqb; exact h.injm k i _ hki (by simp [e']) (by simp [hi]) hq hp
   | blk b2 c2 =>
    cases hqb
    cases o with
    | cells _ _ _=>simp [ObjRel] at hr
    | map ks vs =>
     cases o' with
     | map _ _=>simp [ObjRel] at hqr
     | cells _ _ _ =>
      simp only [ObjRel] at hqr hr
      obtain ⟨_,_,es,clk,h5',_⟩:=hr
      obtain ⟨_,_,_,_,c,el,h5,_⟩:=hqr;rw [h5] at h5'; cases h5'
 ·exact hr.keep (Gh.le_addO g j p hj) (fun _ _=>rfl) (fun _ _ _ h=>h) (fun _ _ h=>h)
theorem WRel.give {g : Gh} {B : Nat} {H : Heap} {w : World} (h : WRel g B H w) (i b cap sz : Nat) (cs : List AV) (f : Nat)
  (hi : H.get i=some (.cells sz cs f)) (hp : g.io i=some (.blk b cap)) :
  ∃ (c : Array Value) (g' : Gh),g.le g'∧WRel g' B (H.set i (.cells sz cs cs.length)) w∧c.size=cap*sz∧cs.length≤c.size ∧
   (∀ k,k<cs.length→g'.fz b k=some (c.getD k undef))∧∀ k,k<cs.length→VRel g' (cs.getD k nv) (c.getD k undef):=by
 obtain ⟨p,hp',hr⟩:=h.ob i _ hi;rw [hp] at hp'; cases hp';simp only [ObjRel] at hr
 obtain ⟨h1,h2,h3,h4,c,el,h5,h6,h7,h8⟩:=hr
 have hget : ∀ j,((H.set i (.cells sz cs cs.length)).get j).isSome→(H.get j).isSome:=by
  intro j hj
  by_cases e : j=i
  ·subst e; simp [hi]
  ·rwa [Heap.get_set_ne _ _ e] at hj
 have h' : WRel g B (H.set i (.cells sz cs cs.length)) w:=by
  constructor
  ·exact h.fz
  ·exact h.fm
  ·intro j o e
   by_cases hj : j=i
   ·subst hj
    simp at e; subst e;refine ⟨.blk b cap,hp, ?_⟩;simp only [ObjRel];exact ⟨h1,Nat.le_refl _,h3,fun o ho=>h4 o (by omega),c,el,h5,h6,h7,h8⟩
   ·rw [Heap.get_set_ne _ _ hj] at e;exact h.ob j o e
  ·intro j k b2 c2 c3 hne e1 e2;exact h.inj j k b2 c2 c3 hne (hget j e1) (hget k e2)
  ·intro j k b2 hne e1 e2;exact h.injm j k b2 hne (hget j e1) (hget k e2)
  ·exact h.base
  ·exact h.fin
 have:=h'.addF b cs.length c el (0,0) h5 (fun j q o e hq hqb=>by
  by_cases hj : j=i
  ·subst hj; simp at e; subst e; exact ⟨_,_,_,rfl,Nat.le_refl _⟩
  ·exfalso
   rw [Heap.get_set_ne _ _ hj] at e
   cases q with
   | nil=>cases hqb
   | blk b2 c2=>cases hqb; exact h.inj j i _ _ _ hj (by simp [e]) (by simp [hi]) hq hp
   | mp b2 =>
    cases hqb
    obtain ⟨q',hq',hqr⟩:=h.ob j o e;rw [hq] at hq'; cases hq'
    cases o with
    | cells _ _ _=>simp [ObjRel] at hqr
    | map ks vs =>
     simp only [ObjRel] at hqr
     obtain ⟨_,_,es,clk,h5',_⟩:=hqr;rw [h5] at h5'; cases h5')
 refine ⟨c,_,this.1,this.2,h6,h7,fun k hk=>?_,fun k hk=>(h8 k hk).mono this.1⟩;simp only [Gh.addF]
 simp [hk,Array.getD,show k<c.size by omega]
end Go.AW
namespace Go.AW
open Go.RowKit
inductive X where
 | t (n : Nat)
 | c (v : AV)
 deriving Inhabited
inductive Ins where
 | mv (x : X)
 | pick (c a b : X)
 | ar (op : BinOp) (k : IntKind) (x y : X)
 | bq (neg : Bool) (x y : X)
 | nq (neg : Bool) (x : X)
 | aq (neg : Bool) (n : Nat) (x y : X)
 | nt (x : X)
 | conv (k : IntKind) (x : X)
 | len (x : X)
 | lenS (x : X)
 | idx (sz : Nat) (x i : X)
 | fld (off n : Nat) (x : X)
 | ldP (n : Option Nat) (x : X)
 | nck (x : X)
 | bld (zero : List AV) (parts : List (Nat × Nat × X))
 | prt (off : Nat) (n : Option Nat) (x : X)
 | ext (x : X) (i : Nat)
 | slc (sz : Nat) (x : X) (lo hi : Option X)
 | mkf (f : Fn) (ca : List X)
 | mki (t : TypeId) (x : X)
 | litP (sz : Nat) (xs : List X)
 | emp
 | boxP (n : Nat) (x : X)
 | callP (f : X) (xs : List X)
 | mx (big : Bool) (x y : X)
 | b2s (x : X)
 | ld (n : Option Nat) (x : X)
 | ldZ (z : Nat) (n : Option Nat) (x : X)
 | st (n : Nat) (p v : X)
 | litW (sz : Nat) (xs : List X)
 | boxW (n : Nat) (x : X)
 | alc (zero : List AV)
 | app (sz bytes : Nat) (s x : X)
 | mks (sz : Nat) (zero : List AV) (l c : X)
 | mkm
 | lkm (s : Nat) (ok : Bool) (zero : AV) (m k : X)
 | upd (s : Nat) (m k v : X)
 | lenM (x : X)
 | slb (sz : Nat) (x : X) (lo hi : Option X)
 | clr (zero : List AV) (x : X)
 | cpy (x y : X)
 | sl3 (sz : Nat) (x h m : X)
 | call (f : X) (xs : List X)
 | callQ (f : X) (xs : List X)
 | callZ (z : Nat) (f : X) (xs : List X)
 | inv (x : X) (name : String) (xs : List X)
 | nls (neg : Bool) (x : X)
 | tas (t : TypeId) (x : X)
 deriving Inhabited
structure SOp where
 d : Option Nat
 g : Option (Nat × Bool)
 i : Ins
 deriving Inhabited
def val (σ : Env) : X→Option AV
 | .t n=>σ.get n
 | .c v=>some v
def consO : Option AV→Option (List AV)→Option (List AV)
 | some a,some r=>some (a::r)
 | _,_=>none
def vals (σ : Env) : List X→Option (List AV)
 | []=>some []
 | x::r=>consO (val σ x) (vals σ r)
def AV.one : AV→Bool
 | .agg _ | .tup _=>false
 | _=>true
def flat : List AV→List AV
 | []=>[]
 | e::r=>e.cells++flat r
def okEls (sz : Nat) (es : List AV) : Prop:=∀ e,e∈es→e.cells.length=sz∧∀ c,c∈e.cells→c.one=true
def chunk (sz : Nat) : Nat→List AV→List AV
 | 0,_=>[]
 | n+1,cs=>(if sz=1 then cs.headD nv else .agg (cs.take sz))::chunk sz n (cs.drop sz)
def wr (cs : List AV) : Nat→List AV→List AV
 | _,[]=>cs
 | o,v::r=>wr (cs.set o v) (o+1) r
def rep : Nat→List AV→List AV
 | 0,_=>[]
 | n+1,z=>z++rep n z
abbrev PV:=Option (Prop × AV)
def mvE : Option AV→PV
 | some v=>some (True,v)
 | none=>none
def pickE : Option AV→Option AV→Option AV→PV
 | some (.bool true),a,_=>mvE a
 | some (.bool false),_,b=>mvE b
 | _,_,_=>none
def arI : BinOp→IntKind→Int→Int→PV
 | .add,k,a,b=>some (True,.int k (k.wrap (a+b)))
 | .sub,k,a,b=>some (True,.int k (k.wrap (a - b)))
 | .mul,k,a,b=>some (True,.int k (k.wrap (a*b)))
 | .quo,k,a,b=>some (b≠0,.int k (k.wrap (a.tdiv b)))
 | .rem,k,a,b=>some (b≠0,.int k (a.tmod b))
 | .eql,_,a,b=>some (True,.bool (decide (a=b)))
 | .neq,_,a,b=>some (True,.bool (!decide (a=b)))
 | .lss,_,a,b=>some (True,.bool (decide (a<b)))
 | .leq,_,a,b=>some (True,.bool (decide (a≤b)))
 | .gtr,_,a,b=>some (True,.bool (decide (b<a)))
 | .geq,_,a,b=>some (True,.bool (decide (b≤a)))
 | .and,k,a,b=>some (True,.int k (k.wrap (BitVec.ofInt k.bits a &&& BitVec.ofInt k.bits b).toNat))
 | .shr,k,a,b=>some (0≤b,.int k (a.fdiv (2 ^ min b.toNat k.bits)))
 | _,_,_,_=>none
def isShr : BinOp→Bool
 | .shr=>true
 | _=>false
def strI : BinOp→List UInt8→List UInt8→PV
 | .add,a,b=>some (a.length+b.length≤maxL,.str (a++b))
 | .eql,a,b=>some (True,.bool (decide (a=b)))
 | .neq,a,b=>some (True,.bool (!decide (a=b)))
 | _,_,_=>none
def arE (op : BinOp) (k : IntKind) : Option AV→Option AV→PV
 | some (.int k1 a),some (.int k2 b)=>if k1=k∧(k2=k∨isShr op=true) then arI op k a b else none
 | some (.str a),some (.str b)=>strI op a b
 | _,_=>none
def bqE (neg : Bool) : Option AV→Option AV→PV
 | some (.bool a),some (.bool b)=>some (True,.bool (neg ^^ (a == b)))
 | _,_=>none
def nqE (neg : Bool) : Option AV→PV
 | some .nilp=>some (True,.bool (!neg))
 | some (.ptr _)=>some (True,.bool neg)
 | some (.ref _ _)=>some (True,.bool neg)
 | _=>none
def ntE : Option AV→PV
 | some (.bool a)=>some (True,.bool (!a))
 | _=>none
def convE (k : IntKind) : Option AV→PV
 | some (.int _ a)=>some (True,.int k (k.wrap a))
 | _=>none
def lenE : Option AV→PV
 | some (.sl es)=>some (True,.int .i64 es.length)
 | some (.buf _ n)=>some (True,.int .i64 n)
 | some (.sub _ _ n)=>some (True,.int .i64 n)
 | some (.tbuf _ n)=>some (True,.int .i64 n)
 | some (.big n)=>some (True,.int .i64 n)
 | some .nilsl=>some (True,.int .i64 0)
 | some .emsl=>some (True,.int .i64 0)
 | _=>none
def lenSE : Option AV→PV
 | some (.str l)=>some (True,.int .i64 l.length)
 | _=>none
def idxE (sz : Nat) : Option AV→Option AV→PV
 | some (.sl es),some (.int _ n)=>some (0≤n∧n.toNat<es.length∧(es.getD n.toNat nv).cells.length=sz,.ptr (es.getD n.toNat nv).cells)
 | some (.buf id m),some (.int _ n)=>some (0≤n∧n.toNat<m,.ref id (n.toNat*sz))
 | some (.sub id o m),some (.int _ n)=>some (0≤n∧n.toNat<m,.ref id (o+n.toNat*sz))
 | _,_=>none
def fldE (off n : Nat) : Option AV→PV
 | some (.ptr cs)=>some (off+n≤cs.length,.ptr ((cs.drop off).take n))
 | some (.ref id o)=>some (True,.ref id (o+off))
 | some (.dual cs id)=>some (True,if off+n≤cs.length then .ptr ((cs.drop off).take n) else .ref id off)
 | _=>none
def ldE : Option Nat→Option AV→PV
 | none,some (.ptr (c::_))=>some (True,c)
 | some n,some (.ptr cs)=>some (cs.length=n,.agg cs)
 | _,_=>none
def nckE : Option AV→PV
 | some (.ptr cs)=>some (True,.ptr cs)
 | some (.ref id o)=>some (True,.ref id o)
 | some (.dual cs id)=>some (True,.dual cs id)
 | _=>none
def bldT (p : Prop) : Option (Prop × List AV)→Option (Prop × List AV)
 | some (q,r)=>some (p∧q,r)
 | none=>none
def bldS (n off : Nat) : Option AV→List AV→(List AV→Option (Prop × List AV))→Option (Prop × List AV)
 | some a,cs,F=>bldT (a.cells.length=n∧off+n≤cs.length) (F (wr cs off a.cells))
 | none,_,_=>none
def bldL (σ : Env) : List (Nat × Nat × X)→List AV→Option (Prop × List AV)
 | [],cs=>some (True,cs)
 | (off,n,x)::r,cs=>bldS n off (val σ x) cs (bldL σ r)
def bldE : Option (Prop × List AV)→PV
 | some (p,cs)=>some (p,.agg cs)
 | none=>none
def prtE (off : Nat) : Option Nat→Option AV→PV
 | none,some (.agg cs)=>some (off<cs.length,cs.getD off nv)
 | some n,some (.agg cs)=>some (off+n≤cs.length,.agg ((cs.drop off).take n))
 | _,_=>none
def extE (i : Nat) : Option AV→PV
 | some (.tup vs)=>some (i<vs.length,vs.getD i nv)
 | _=>none
def slcL (sz : Nat) (es : List AV) (a b : Int) : PV:=some ((0≤a∧a≤b∧b≤es.length)∧okEls sz es,.sl ((es.take b.toNat).drop a.toNat))
def slcB (sz : Nat) (es : List AV) (a : Int) : Option (Option AV)→PV
 | none=>slcL sz es a es.length
 | some (some (.int _ b))=>slcL sz es a b
 | _=>none
def slcA (sz : Nat) : Option AV→Option (Option AV)→Option (Option AV)→PV
 | some (.sl es),none,hi=>slcB sz es 0 hi
 | some (.sl es),some (some (.int _ a)),hi=>slcB sz es a hi
 | _,_,_=>none
def slcS : Option AV→Option (Option AV)→Option (Option AV)→PV
 | some (.str l),some (some (.int _ a)),none=>some (0≤a∧a≤l.length,.str (l.drop a.toNat))
 | _,_,_=>none
def slcE (sz : Nat) (x : Option AV) (lo hi : Option (Option AV)) : PV:=if sz=0 then slcS x lo hi else slcA sz x lo hi
def mkfE (f : Fn) : Option (List AV)→PV
 | some ca=>some (True,.fn f ca)
 | none=>none
def mkiE (t : TypeId) : Option AV→PV
 | some v=>some (True,.ifc t v)
 | none=>none
def litE (sz : Nat) : Option (List AV)→PV
 | some as=>some (okEls sz as∧as.length≤maxL,.sl as)
 | none=>none
def boxE (n : Nat) : Option AV→PV
 | some a=>some (a.cells.length=n∧∀ c,c∈a.cells→c.one=true,.ptr a.cells)
 | none=>none
def mxE (big : Bool) : Option AV→Option AV→PV
 | some (.int k1 a),some (.int k2 b)=>some (k1=k2,.int k1 (if big then (if b > a then b else a) else (if b<a then b else a)))
 | _,_=>none
def AV.byte : AV→UInt8
 | .int _ n=>UInt8.ofNat n.toNat
 | _=>0
def AV.isByte : AV→Bool
 | .int .u8 _=>true
 | _=>false
def b2sE : Option AV→PV
 | some (.sl es)=>some (∀ e,e∈es→e.isByte=true,.str (es.map AV.byte))
 | some .nilsl=>some (True,.str [])
 | _=>none
def aqL : List AV→List AV→Bool
 | .int _ a::r,.int _ b::s=>decide (a=b) && aqL r s
 | _,_=>true
def aqE (neg : Bool) (n : Nat) : Option AV→Option AV→PV
 | some (.agg as),some (.agg bs)=>some (∃ k1 k2 a1 a2 b1 b2,as=[.int k1 a1,.int k2 a2]∧bs=[.int k1 b1,.int k2 b2],.bool (neg ^^ aqL as bs))
 | _,_=>none
def evP (σ : Env) : Ins→PV
 | .mv x=>mvE (val σ x)
 | .pick c a b=>pickE (val σ c) (val σ a) (val σ b)
 | .ar op k x y=>arE op k (val σ x) (val σ y)
 | .bq neg x y=>bqE neg (val σ x) (val σ y)
 | .nq neg x=>nqE neg (val σ x)
 | .nt x=>ntE (val σ x)
 | .conv k x=>convE k (val σ x)
 | .len x=>lenE (val σ x)
 | .lenS x=>lenSE (val σ x)
 | .idx sz x i=>idxE sz (val σ x) (val σ i)
 | .fld off n x=>fldE off n (val σ x)
 | .ldP n x=>ldE n (val σ x)
 | .nck x=>nckE (val σ x)
 | .bld zero parts=>bldE (bldL σ parts zero)
 | .prt off n x=>prtE off n (val σ x)
 | .ext x i=>extE i (val σ x)
 | .slc sz x lo hi=>slcE sz (val σ x) (lo.map (val σ)) (hi.map (val σ))
 | .mkf f ca=>mkfE f (vals σ ca)
 | .mki t x=>mkiE t (val σ x)
 | .litP sz xs=>litE sz (vals σ xs)
 | .emp=>some (True,.emsl)
 | .boxP n x=>boxE n (val σ x)
 | .mx big x y=>mxE big (val σ x) (val σ y)
 | .b2s x=>b2sE (val σ x)
 | .aq neg n x y=>aqE neg n (val σ x) (val σ y)
 | _=>none
abbrev Kont:=AV→Heap→Prop
def pW : PV→Kont→Heap→Prop
 | some (p,r),K,H=>p∧K r H
 | none,_,_=>False
def rd1 : Option MObj→Option Nat→Nat→Kont→Heap→Prop
 | some (.cells _ cs _),none,off,K,H=>off<cs.length∧K (cs.getD off nv) H
 | some (.cells _ cs _),some n,off,K,H=>off+n≤cs.length∧K (.agg ((cs.drop off).take n)) H
 | _,_,_,_,_=>False
def ldW : Option Nat→Option AV→Kont→Heap→Prop
 | n,some (.ref id off),K,H=>rd1 (H.get id) n off K H
 | n,x,K,H=>pW (ldE n x) K H
def ldZW (z : Nat) (n : Option Nat) : Option AV→Kont→Heap→Prop
 | some (.ref id off),K,H=>(∃ cs f,H.get id=some (.cells z cs f))∧rd1 (H.get id) n off K H
 | _,_,_=>False
def Heap.subZ (z : Nat) (H H' : Heap) : Prop:=∀ i cs f,H.get i=some (.cells z cs f)→H'.get i=some (.cells z cs f)
def st1 : Option MObj→Nat→Nat→Nat→List AV→Kont→Heap→Prop
 | some (.cells sz cs f),id,off,n,vs,K,H =>
  (f≤off∧off+n≤cs.length∧vs.length=n∧∀ c,c∈vs→c.one=true)∧K nv (H.set id (.cells sz (wr cs off vs) f))
 | _,_,_,_,_,_,_=>False
def stW (n : Nat) : Option AV→Option AV→Kont→Heap→Prop
 | some (.ref id off),some v,K,H=>st1 (H.get id) id off n v.cells K H
 | _,_,_,_=>False
def newBuf (n sz : Nat) (cs : List AV) (K : Kont) (H : Heap) : Prop:=∀ id,H.get id=none→K (.buf id n) (H.set id (.cells sz cs 0))
def newRef (sz : Nat) (cs : List AV) (K : Kont) (H : Heap) : Prop:=∀ id,H.get id=none→K (.ref id 0) (H.set id (.cells sz cs 0))
def newMap (K : Kont) (H : Heap) : Prop:=∀ id,H.get id=none→K (.mref id) (H.set id (.map [] []))
def litWW (sz : Nat) : Option (List AV)→Kont→Heap→Prop
 | some as,K,H=>(okEls sz as∧as.length≤maxL)∧newBuf as.length sz (flat as) K H
 | none,_,_=>False
def boxWW (n : Nat) : Option AV→Kont→Heap→Prop
 | some a,K,H=>(a.cells.length=n∧n≤maxL)∧newRef n a.cells K H
 | none,_,_=>False
def srcB (sz n : Nat) : Option MObj→Option (Prop × Nat × List AV)
 | some (.cells sz' cs _)=>some ((sz'=sz∧cs.length=n*sz∧0<n)∧∀ c,c∈cs→c.one=true,n,cs)
 | _=>none
def srcOf (sz : Nat) : Option AV→Heap→Option (Prop × Nat × List AV)
 | some (.sl es),_=>some (okEls sz es,es.length,flat es)
 | some .nilsl,_=>some (True,0,[])
 | some (.buf id n),H=>srcB sz n (H.get id)
 | _,_=>none
def app2 (sz : Nat) : Option MObj→Nat→Nat→Option (Prop × Nat × List AV)→Kont→Heap→Prop
 | some (.cells sz' cs f),id,n,some (p,m,new),K,H=>(sz'=sz∧cs.length=n*sz∧n+m≤maxL∧(n+m)*sz≤maxL∧p) ∧
   ∀ id',H.get id'=none→K (.buf id' (n+m)) ((H.del id).set id' (.cells sz (cs++new) f))
 | _,_,_,_,_,_=>False
def app1 (sz : Nat) : Option (Prop × Nat × List AV)→Kont→Heap→Prop
 | some (p,m,new),K,H=>(m≤maxL∧m*sz≤maxL∧p)∧newBuf m sz new K H
 | none,_,_=>False
def app0 (sz : Nat) : Option (Prop × Nat × List AV)→Kont→Heap→Prop
 | some (p,m,new),K,H=>(0<m∧m≤maxL∧m*sz≤maxL∧p)∧newBuf m sz new K H
 | none,_,_=>False
def app3 (sz : Nat) : Option MObj→Nat→Option (Prop × Nat × List AV)→Kont→Heap→Prop
 | some (.cells sz' cs _),n,some (p,m,new),K,H=>(sz'=sz∧cs.length=n*sz∧0<m∧n+m≤maxL∧(n+m)*sz≤maxL∧p) ∧
   ∀ id',H.get id'=none→K (.buf id' (n+m)) (H.set id' (.cells sz (cs++new) 0))
 | _,_,_,_,_=>False
def appW (sz : Nat) : Option AV→Option AV→Kont→Heap→Prop
 | some (.buf id n),x,K,H=>app2 sz (H.get id) id n (srcOf sz x H) K H
 | some .nilsl,x,K,H=>app1 sz (srcOf sz x H) K H
 | some .emsl,x,K,H=>app0 sz (srcOf sz x H) K H
 | some (.tbuf id n),x,K,H=>app3 sz (H.get id) n (srcOf sz x H) K H
 | _,_,_,_=>False
def mksW (sz : Nat) (zero : List AV) : Option AV→Option AV→Kont→Heap→Prop
 | some (.int _ l),some (.int _ c),K,H=>(0≤l∧l≤c∧c.toNat≤maxL∧l.toNat*sz≤maxL)∧newBuf l.toNat sz (rep l.toNat zero) K H
 | _,_,_,_=>False
def AV.keq : AV→AV→Bool
 | .int _ a,.int _ b=>decide (a=b)
 | .str a,.str b=>decide (a=b)
 | .agg [.int _ a,.int _ b],.agg [.int _ c,.int _ d]=>decide (a=c) && decide (b=d)
 | _,_=>false
def AV.keyLike (s : Nat) : AV→AV→Bool
 | .int k _,.int k' _=>s == 0 && decide (k=k')
 | .str _,.str _=>s == 1
 | .agg [.int k _,.int l _],.agg [.int k' _,.int l' _]=>s == 2 && (decide (k=k') && decide (l=l'))
 | _,_=>false
def okKey (s : Nat) (k : AV) (ks : List AV) : Prop:=k.keyLike s k=true∧∀ a,a∈ks→k.keyLike s a=true
def mget (k : AV) : List AV→List AV→Option AV
 | a::ks,v::vs=>if k.keq a then some v else mget k ks vs
 | _,_=>none
def mput (k x : AV) : List AV→List AV→List AV × List AV
 | a::ks,v::vs=>if k.keq a then (k::ks,x::vs) else ((a::(mput k x ks vs).1),(v::(mput k x ks vs).2))
 | _,_=>([k],[x])
def lkR (ok : Bool) (zero : AV) (r : Option AV) : AV :=
 if ok then .tup [r.getD zero,.bool r.isSome] else r.getD zero
def lk1 (s : Nat) (ok : Bool) (zero : AV) : Option MObj→AV→Kont→Heap→Prop
 | some (.map ks vs),k,K,H=>okKey s k ks∧K (lkR ok zero (mget k ks vs)) H
 | _,_,_,_=>False
def lkW (s : Nat) (ok : Bool) (zero : AV) : Option AV→Option AV→Kont→Heap→Prop
 | some (.imap ks vs),some k,K,H=>okKey s k ks∧K (lkR ok zero (mget k ks vs)) H
 | some (.mref id),some k,K,H=>lk1 s ok zero (H.get id) k K H
 | _,_,_,_=>False
def up1 (s : Nat) : Option MObj→Nat→AV→AV→Kont→Heap→Prop
 | some (.map ks vs),id,k,x,K,H=>okKey s k ks∧K nv (H.set id (.map (mput k x ks vs).1 (mput k x ks vs).2))
 | _,_,_,_,_,_=>False
def upW (s : Nat) : Option AV→Option AV→Option AV→Kont→Heap→Prop
 | some (.mref id),some k,some x,K,H=>up1 s (H.get id) id k x K H
 | _,_,_,_,_=>False
def lm1 : Option MObj→Kont→Heap→Prop
 | some (.map ks _),K,H=>K (.int .i64 ks.length) H
 | _,_,_=>False
def lmW : Option AV→Kont→Heap→Prop
 | some (.mref id),K,H=>lm1 (H.get id) K H
 | _,_,_=>False
def slbP (sz id n : Nat) : Option (Option AV)→Option (Option AV)→PV
 | some (some (.int _ a)),none=>some (0≤a∧a.toNat<n,.sub id (a.toNat*sz) (n - a.toNat))
 | none,some (some (.int _ b))=>some (0≤b∧b.toNat≤n∧0<n,.buf id b.toNat)
 | _,_=>none
def slb1 (sz n : Nat) (r : PV) : Option MObj→Kont→Heap→Prop
 | some (.cells sz' cs _),K,H=>(sz'=sz∧cs.length=n*sz)∧pW r K H
 | _,_,_=>False
def slbW (sz : Nat) : Option AV→Option (Option AV)→Option (Option AV)→Kont→Heap→Prop
 | some (.buf id n),lo,hi,K,H=>slb1 sz n (slbP sz id n lo hi) (H.get id) K H
 | _,_,_,_,_=>False
def sl3P (id n : Nat) (a b : Int) : PV:=some (a=n∧b=n,if n=0 then .emsl else .tbuf id n)
def sl3W (sz : Nat) : Option AV→Option AV→Option AV→Kont→Heap→Prop
 | some (.buf id n),some (.int _ a),some (.int _ b),K,H=>slb1 sz n (sl3P id n a b) (H.get id) K H
 | _,_,_,_,_=>False
def cpyW : Option AV→Option AV→Kont→Heap→Prop
 | some (.buf id n),some (.sl es),K,H=>(0<n∧es.length=n)∧st1 (H.get id) id 0 n es (fun _ H'=>K (.int .i64 n) H') H
 | _,_,_,_=>False
def clrW (zero : List AV) : Option AV→Kont→Heap→Prop
 | some (.sub id off n),K,H=>0<n∧st1 (H.get id) id off (n*zero.length) (rep n zero) K H
 | _,_,_=>False
def FinV (g : Gh) (B : Nat) (w : World) (K : Kont) (v : Value) (w' : World) : Prop :=
 ∃ g' r H',g.le g'∧K r H'∧VRel g' r v∧WRel g' B H' w'∧Below B w w'
def Enters (P : Program) (f : FuncId) : Prop := ∃ fn, P.funcs[f]? = some fn ∧ fn.body.isNone = false ∧ (fn.name == "runtime.NumGoroutine") = false
def CallH (P : Program) (B : Nat) (f : FuncId) (args : List AV) (H : Heap) (K : Kont) : Prop :=
 Enters P f∧∀ g w vs,WRel g B H w→VRels g args vs→Calls P f vs w fun e w'=>∃ v,e=.returned v∧FinV g B w K v w'
def PureF (P : Program) (B : Nat) (f : FuncId) (args : List AV) (r : AV) : Prop :=
 ∀ H,CallH P B f args H fun r' H'=>r'=r∧H'=H
theorem FinV.mono {g : Gh} {B : Nat} {w : World} {K K' : Kont} {v : Value} {w' : World} (h : FinV g B w K v w') (hk : ∀ r H,K r H→K' r H) : FinV g B w K' v w':=by
 obtain ⟨g',r,H',a,b,c⟩:=h;exact ⟨g',r,H',a,hk _ _ b,c⟩
theorem CallH.mono {P : Program} {B : Nat} {f : FuncId} {args : List AV} {H : Heap} {K K' : Kont} (h : CallH P B f args H K) (hk : ∀ r H,K r H→K' r H) : CallH P B f args H K' :=
 ⟨h.1,fun g w vs hw hv=>(h.2 g w vs hw hv).mono fun _ _ ⟨v,e,hf⟩=>⟨v,e,hf.mono hk⟩⟩
theorem PureF.use {P : Program} {B : Nat} {f : FuncId} {args : List AV} {r : AV} {H : Heap} {K : Kont} (h : PureF P B f args r) (hk : K r H) : CallH P B f args H K :=
 (h H).mono fun _ _ ⟨a,b⟩=>by subst a; subst b; exact hk
def callW (P : Program) (B : Nat) : Option AV→Option (List AV)→Kont→Heap→Prop
 | some (.fn (.func f) ca),some as,K,H=>CallH P B f (as++ca) H K
 | _,_,_,_=>False
def callPW (P : Program) (B : Nat) : Option AV→Option (List AV)→AV→Prop
 | some (.fn (.func f) ca),some as,r=>PureF P B f (as++ca) r
 | _,_,_=>False
def Meth (P : Program) (t : TypeId) (name : String) (f : FuncId) : Prop :=
 ∀ v w,(method (P.types.size+Made.depth) t v name).run P w=.ok (f,v) w
def invW (P : Program) (B : Nat) (name : String) : Option AV→Option (List AV)→Kont→Heap→Prop
 | some (.ifc t v),some as,K,H=>∃ f,Meth P t name f∧CallH P B f (v::as) H K
 | _,_,_,_=>False
def nlsW (neg : Bool) : Option AV→Kont→Heap→Prop
 | some .nilsl,K,H=>K (.bool (!neg)) H
 | some (.sl es),K,H=>(es=[]→∀ b,K (.bool b) H)∧(es≠[]→K (.bool neg) H)
 | _,_,_=>False
def AsOk (P : Program) (t asserted : TypeId) : Prop :=
 ∀ (v : Value) (xT : TypeId) (w : World),(Instr.typeAssert (.iface t v) xT asserted true).run P w=.ok (.tuple #[.iface t v,.bool true]) w
def tasW (P : Program) (asserted : TypeId) : Option AV→Kont→Heap→Prop
 | some (.ifc t v),K,H=>AsOk P t asserted∧K (.tup [.ifc t v,.bool true]) H
 | _,_,_=>False
def opW (P : Program) (B : Nat) (K : Kont) (σ : Env) (H : Heap) : Ins→Prop
 | .ld n x=>ldW n (val σ x) K H
 | .ldZ z n x=>ldZW z n (val σ x) K H
 | .st n p v=>stW n (val σ p) (val σ v) K H
 | .litW sz xs=>litWW sz (vals σ xs) K H
 | .boxW n x=>boxWW n (val σ x) K H
 | .alc zero=>zero.length≤maxL∧newRef zero.length zero K H
 | .app sz _ s x=>appW sz (val σ s) (val σ x) K H
 | .mks sz zero l c=>mksW sz zero (val σ l) (val σ c) K H
 | .mkm=>newMap K H
 | .lkm s ok zero m k=>lkW s ok zero (val σ m) (val σ k) K H
 | .upd s m k v=>upW s (val σ m) (val σ k) (val σ v) K H
 | .lenM x=>lmW (val σ x) K H
 | .slb sz x lo hi=>slbW sz (val σ x) (lo.map (val σ)) (hi.map (val σ)) K H
 | .clr z x=>clrW z (val σ x) K H
 | .cpy x y=>cpyW (val σ x) (val σ y) K H
 | .sl3 sz x a b=>sl3W sz (val σ x) (val σ a) (val σ b) K H
 | .call f xs=>callW P B (val σ f) (vals σ xs) K H
 | .callQ f xs=>callW P B (val σ f) (vals σ xs) (fun r H'=>H.sub H'∧K r H') H
 | .callZ y f xs=>callW P B (val σ f) (vals σ xs) (fun r H'=>(∀ z,z≠y→H.subZ z H')∧K r H') H
 | .callP f xs=>∃ r,callPW P B (val σ f) (vals σ xs) r∧K r H
 | .inv x name xs=>invW P B name (val σ x) (vals σ xs) K H
 | .nls neg x=>nlsW neg (val σ x) K H
 | .tas t x=>tasW P t (val σ x) K H
 | i=>pW (evP σ i) K H
def putK (d : Option Nat) (F : Env→Heap→Prop) (σ : Env) : Kont:=fun v H =>
 match d with
 | some d=>F (σ.put d v) H
 | none=>F σ H
def At (F : Env→Heap→Prop) (σ : Env) (H : Heap) : Prop:=F σ H
theorem At.mk {F : Env→Heap→Prop} {σ : Env} {H : Heap} (h : F σ H) : At F σ H:=h
def opE (P : Program) (B : Nat) (d : Option Nat) (i : Ins) (F : Env→Heap→Prop) (σ : Env) (H : Heap) : Prop:=opW P B (putK d F σ) σ H i
def gdW (o : Option AV) (b : Bool) (A C : Env→Heap→Prop) (σ : Env) (H : Heap) : Prop :=
 match o with
 | some (.bool c)=>(c=b→At A σ H)∧(c=(!b)→At C σ H)
 | some (.tup _)=>At C σ H
 | _=>False
def offG (b : Bool) (q : AV) : Prop:=q=.bool (!b)∨∃ cs,q=.tup cs
def forgetD : Option Nat→Env→Env
 | some d,σ=>σ.put d nv
 | none,σ=>σ
def skE (d : Option Nat) (F : Env→Heap→Prop) (σ : Env) (H : Heap) : Prop:=F (forgetD d σ) H
def opsW (P : Program) (B : Nat) : List SOp→(Env→Heap→Prop)→Env→Heap→Prop
 | [],K,σ,H=>K σ H
 | ⟨d,none,i⟩::r,K,σ,H=>opE P B d i (opsW P B r K) σ H
 | ⟨d,some (t,b),i⟩::r,K,σ,H=>gdW (σ.get t) b (opE P B d i (opsW P B r K)) (skE d (opsW P B r K)) σ H
end Go.AW
namespace Go.AW
open Go.RowKit
def const0 : Value→Option AV
 | .bool b=>some (.bool b)
 | .int k n=>some (.int k n)
 | .string s=>some (.str s.data.toList)
 | .pointer none=>some .nilp
 | .slice none 0 0=>some .nilsl
 | .map none=>some (.imap [] [])
 | .nilFunc=>some .nilf
 | .nilIface=>some .nili
 | _=>none
def consts : List Value→Option (List AV)
 | []=>some []
 | v::r=>consO (const0 v) (consts r)
def constV : Value→Option AV
 | .agg cs=>(consts cs.toList).map AV.agg
 | v=>const0 v
def cx : Operand→Option X
 | .tmp t=>some (.t t)
 | .const v=>(constV v).map X.c
 | .func f=>some (.c (.fn (.func f) []))
 | .global _=>none
def consX : Option X→Option (List X)→Option (List X)
 | some a,some r=>some (a::r)
 | _,_=>none
def cxs : List Operand→Option (List X)
 | []=>some []
 | x::r=>consX (cx x) (cxs r)
def cxo : Option Operand→Option (Option X)
 | none=>some none
 | some x=>(cx x).map some
def aggOf (P : Program) (t : TypeId) : Option (Option Nat) :=
 match P.underlying t,P.info? t with
 | some (.struct _),some i=>some (some i.size)
 | some (.array _ _),some i=>some (some i.size)
 | some _,some i=>if i.size=1 then some none else none
 | _,_=>none
def fieldsOf (P : Program) (t : TypeId) : Option (Array Field) :=
 match P.underlying t with
 | some (.struct fs)=>some fs
 | _=>none
def fieldOf (P : Program) (t : TypeId) (i : Nat) : Option (Nat × Nat × Option Nat) :=
 match fieldsOf P t with
 | some fs=>match fs[i]? with
  | some f=>match P.info? f.type,aggOf P f.type with
   | some j,some a=>if j.size=0 then none else some (f.offset,j.size,a)
   | _,_=>none
  | none=>none
 | none=>none
def elemOf' (P : Program) (t : TypeId) : Option (TypeId × TypeInfo) :=
 match P.underlying t with
 | some (.slice e)=>match P.info? e with
  | some i=>if i.size=0 then none else some (e,i)
  | none=>none
 | _=>none
def intOf' (P : Program) (t : TypeId) : Option IntKind :=
 match P.underlying t with
 | some (.int k)=>some k
 | _=>none
def zerosOf (P : Program) (t : TypeId) : Option (List AV) :=
 match P.info? t with
 | some i=>match i.zero with
  | some z=>match consts z.cells.toList with
   | some zs=>if zs.length=i.size then some zs else none
   | none=>none
  | none=>none
 | none=>none
def zeroOf (P : Program) (t : TypeId) : Option AV :=
 match P.info? t with
 | some i=>match i.zero with
  | some z=>const0 z
  | none=>none
 | none=>none
def partsOf (P : Program) (t : TypeId) : List (Nat × Operand)→Option (List (Nat × Nat × X))
 | []=>some []
 | (i,x)::r=>match fieldOf P t i,cx x,partsOf P t r with
  | some (off,n,_),some x,some r=>some ((off,n,x)::r)
  | _,_,_=>none
def inOrder : Nat→List (Nat × Operand)→Option (List X)
 | _,[]=>some []
 | k,(i,x)::r=>if i=k then consX (cx x) (inOrder (k+1) r) else none
def isNilS : Operand→Bool
 | .const (.slice none 0 0)=>true
 | _=>false
def isNilC : Operand→Bool
 | .const (.pointer none)=>true
 | _=>false
def allInts (P : Program) : Nat→List Field→Bool
 | _,[]=>true
 | o, f :: r => f.offset == o && (match P.underlying f.type with | some (.int _) => true | _ => false) && ((P.info? f.type).map (·.size) == some 1) && f.name != "_" && allInts P (o + 1) r
def pairT (P : Program) (t : TypeId) (fs : Array Field) : Bool:=allInts P 0 fs.toList && !P.stoodInHeld t && fs.size == 2
def goodOp : BinOp→Bool
 | .add | .sub | .mul | .quo | .rem | .eql | .neq | .lss | .leq | .gtr | .geq | .and | .shr=>true
 | _=>false
def compileOp (P : Program) (h : Nat) : Op→Option Ins
 | .move x | .assign x=>(cx x).map .mv
 | .pick c a b=>match cx c,cx a,cx b with
  | some c,some a,some b=>some (.pick c a b)
  | _,_,_=>none
 | .alloc t=>(zerosOf P t).map .alc
 | .box t x=>match aggOf P t,P.info? t,cx x with
  | some _,some i,some x=>if h=1 then some (.boxW i.size x) else some (.boxP i.size x)
  | _,_,_=>none
 | .build t parts=>match zerosOf P t,fieldsOf P t,partsOf P t parts.toList with
  | some z,some fs,some ps=>if fs.all (fun f=>(P.info? f.type).isSome) then some (.bld z ps) else none
  | _,_,_=>none
 | .buildSlice t n parts=>match elemOf' P t,inOrder 0 parts.toList,zerosOf P ((P.underlying t).elim 0 fun | .slice e=>e | _=>0) with
  | some (_,i),some xs,some _=>if xs.length=n∧n*i.size≤16777216 then (if h=2∧n=0 then some .emp else if h=1 then some (.litP i.size xs) else some (.litW i.size xs)) else none
  | _,_,_=>none
 | .load t x=>match aggOf P t,cx x with
  | some n,some x=>if h=1 then some (.ldP n x) else if 10≤h then some (.ldZ (h - 10) n x) else some (.ld n x)
  | _,_=>none
 | .store t p v=>match P.info? t,cx p,cx v with
  | some i,some p,some v=>some (.st i.size p v)
  | _,_,_=>none
 | .nilCheck x=>(cx x).map .nck
 | .binOp op t x y _=>match P.underlying t with
  | some (.int k)=>match cx x,cx y with
   | some x,some y=>if goodOp op then some (.ar op k x y) else none
   | _,_=>none
  | some .bool=>match op,cx x,cx y with
   | .eql,some x,some y=>some (.bq false x y)
   | .neq,some x,some y=>some (.bq true x y)
   | _,_,_=>none
  | some .string=>match cx x,cx y with
   | some x,some y=>some (.ar op .i64 x y)
   | _,_=>none
  | some (.pointer _)=>match op,cx x,isNilC y with
   | .eql,some x,true=>some (.nq false x)
   | .neq,some x,true=>some (.nq true x)
   | _,_,_=>none
  | some (.slice _)=>match op,cx x,isNilS y with
   | .eql,some x,true=>some (.nls false x)
   | .neq,some x,true=>some (.nls true x)
   | _,_,_=>none
  | some (.struct fs)=>match op,cx x,cx y with
   | .eql,some x,some y=>if allInts P 0 fs.toList && !P.stoodInHeld t && !P.eqGuardType P.depth t && fs.size == 2 then some (.aq false fs.size x y) else none
   | .neq,some x,some y=>if allInts P 0 fs.toList && !P.stoodInHeld t && !P.eqGuardType P.depth t && fs.size == 2 then some (.aq true fs.size x y) else none
   | _,_,_=>none
  | _=>none
 | .unOp .not _ x=>(cx x).map .nt
 | .convert s d x=>match P.underlying s,P.underlying d with
  | some (.int _),some (.int k)=>(cx x).map (.conv k)
  | some (.slice e),some .string=>if intOf' P e=some .u8 then (cx x).map .b2s else none
  | _,_=>none
 | .makeInterface t x=>match P.underlying t with
  | some (.interface _)=>none
  | some _=>(cx x).map (.mki t)
  | none=>none
 | .typeAssert x _ asserted true=>(cx x).map (.tas asserted)
 | .makeFunc f first ca=>if first.size=0 then (cxs ca.toList).map (.mkf f) else none
 | .makeMap t r=>match P.underlying t,r with
  | some (.map _ _),none=>some .mkm
  | _,_=>none
 | .makeSlice t l c=>match elemOf' P t,cx l,cx c,zerosOf P ((P.underlying t).elim 0 fun | .slice e=>e | _=>0) with
  | some (_,i),some l,some c,some z=>if i.bytes≤256 then some (.mks i.size z l c) else none
  | _,_,_,_=>none
 | .fieldAddr t x f=>match fieldOf P t f,cx x with
  | some (off,n,_),some x=>some (.fld off n x)
  | _,_=>none
 | .field t x f=>match fieldOf P t f,cx x with
  | some (off,_,a),some x=>some (.prt off a x)
  | _,_=>none
 | .indexAddr t x i=>match elemOf' P t,cx x,cx i with
  | some (_,j),some x,some i=>some (.idx j.size x i)
  | _,_,_=>none
 | .lookup t m k ok=>match P.underlying t,cx m,cx k with
  | some (.map kt et),some m,some k=>match P.underlying kt,zeroOf P et with
   | some (.int _),some z=>some (.lkm 0 ok z m k)
   | some .string,some z=>some (.lkm 1 ok z m k)
   | some (.struct fs),some z=>if pairT P kt fs then some (.lkm 2 ok z m k) else none
   | _,_=>none
  | _,_,_=>none
 | .mapUpdate t m k v=>match P.underlying t,cx m,cx k,cx v with
  | some (.map kt _),some m,some k,some v=>match P.underlying kt with
   | some (.int _)=>some (.upd 0 m k v)
   | some .string=>some (.upd 1 m k v)
   | some (.struct fs)=>if pairT P kt fs then some (.upd 2 m k v) else none
   | _=>none
  | _,_,_,_=>none
 | .extract x i=>(cx x).map (.ext · i)
 | .slice t x lo hi none=>match elemOf' P t,cx x,cxo lo,cxo hi with
  | some (_,ti),some x,some lo,some hi=>if h=1 then some (.slb ti.size x lo hi) else some (.slc ti.size x lo hi)
  | none,some x,some lo,some hi=>match P.underlying t with
   | some .string=>some (.slc 0 x lo hi)
   | _=>none
  | _,_,_,_=>none
 | .slice t x none (some hi) (some mx)=>match elemOf' P t,cx x,cx hi,cx mx with
  | some (_,ti),some x,some hi,some mx=>some (.sl3 ti.size x hi mx)
  | _,_,_,_=>none
 | .call c=>match c.callee with
  | .builtin .len=>match c.args.toList,c.argTypes.toList with
   | [x],[t]=>match P.underlying t with
    | some (.slice _)=>(cx x).map .len
    | some .string=>(cx x).map .lenS
    | some (.map _ _)=>(cx x).map .lenM
    | _=>none
   | _,_=>none
  | .builtin .clear=>match c.args.toList,c.argTypes.toList with
   | [x],[t]=>match elemOf' P t with
    | some e=>match cx x,zerosOf P e.1 with
     | some x,some z=>some (.clr z x)
     | _,_=>none
    | none=>none
   | _,_=>none
  | .builtin .copy=>match c.args.toList,c.argTypes.toList with
   | [x,y],[t,_]=>match elemOf' P t,cx x,cx y with
    | some (_,i),some x,some y=>if i.size=1 then some (.cpy x y) else none
    | _,_,_=>none
   | _,_=>none
  | .builtin .append=>match c.args.toList,c.argTypes.toList with
   | [s,x],[t,t']=>match elemOf' P t,cx s,cx x,zerosOf P ((P.underlying t).elim 0 fun | .slice e=>e | _=>0) with
    | some (_,i),some s,some x,some _=>if t=t'∧i.bytes≤128*i.size then some (.app i.size i.bytes s x) else none
    | _,_,_,_=>none
   | _,_=>none
  | .builtin .max=>match c.args.toList with
   | [x,y]=>match cx x,cx y with
    | some x,some y=>some (.mx true x y)
    | _,_=>none
   | _=>none
  | .builtin .min=>match c.args.toList with
   | [x,y]=>match cx x,cx y with
    | some x,some y=>some (.mx false x y)
    | _,_=>none
   | _=>none
  | .value f=>match cx f,cxs c.args.toList with
   | some f,some xs=>if h=1 then some (.callP f xs) else if h=2 then some (.callQ f xs) else if 10≤h then some (.callZ (h - 10) f xs) else some (.call f xs)
   | _,_=>none
  | .invoke x name=>match cx x,cxs c.args.toList with
   | some x,some xs=>some (.inv x name xs)
   | _,_=>none
  | _=>none
 | _=>none
def compileG (ops : Array Oper) : Option (Nat × Bool)→Option (Option (Nat × Bool))
 | none=>some none
 | some (j,b)=>match (ops[j]?).bind (·.dst) with
  | some t=>some (some (t,b))
  | none=>none
def isUnit : Ins→Bool
 | .st .. | .upd ..=>true
 | _=>false
def dstOk (N : Nat) (i : Ins) : Option Nat→Bool
 | some d=>decide (d<N) && !isUnit i
 | none=>true
def compileO (P : Program) (N : Nat) (ops : Array Oper) (h : Nat) (o : Oper) : Option SOp :=
 match compileOp P h o.op,compileG ops o.guard with
 | some i,some g=>if dstOk N i o.dst then some ⟨o.dst,g,i⟩ else none
 | _,_=>none
end Go.AW
namespace Go.AW
open Go.RowKit
theorem list_getD_append {α} (a b : List α) (i : Nat) (d : α) : (a++b).getD i d=if i<a.length then a.getD i d else b.getD (i - a.length) d:=by
 simp only [List.getD_eq_getElem?_getD,List.getElem?_append]
 split <;> rfl
theorem const0_rel {g : Gh} {v : Value} {a : AV} (h : const0 v=some a) : VRel g a v:=by
 unfold const0 at h
 split at h <;> first | (cases h; done) | skip
 all_goals (cases h)
 ·exact .bool _
 ·exact .int _ _
 ·rename_i s
  obtain ⟨⟨l⟩⟩:=s;exact .str l
 ·exact .nilp
 ·exact .nilsl
 ·exact .imapnil
 ·exact .nilf
 ·exact .nili
theorem consO_some {a : Option AV} {r : Option (List AV)} {l : List AV} (h : consO a r=some l) : ∃ x s,a=some x∧r=some s∧l=x::s:=by
 cases a <;> cases r <;> simp [consO] at h
 exact ⟨_,_,rfl,rfl,h.symm⟩
theorem consX_some {a : Option X} {r : Option (List X)} {l : List X} (h : consX a r=some l) : ∃ x s,a=some x∧r=some s∧l=x::s:=by
 cases a <;> cases r <;> simp [consX] at h
 exact ⟨_,_,rfl,rfl,h.symm⟩
theorem consts_rel {g : Gh} : ∀ {vs : List Value} {as : List AV},consts vs=some as→as.length=vs.length∧∀ i,i<as.length→VRel g (as.getD i nv) (vs.getD i undef)
 | [],as,h=>by cases h; simp
 | v::r,as,h=>by
  obtain ⟨x,s,h1,h2,rfl⟩:=consO_some h
  obtain ⟨hl,hr⟩:=consts_rel (g:=g) h2;refine ⟨by simp [hl],fun i hi=>?_⟩
  cases i with
  | zero=>exact const0_rel h1
  | succ i=>simpa using hr i (by simpa using hi)
theorem constV_rel {g : Gh} {v : Value} {a : AV} (h : constV v=some a) : VRel g a v:=by
 unfold constV at h
 split at h
 ·rename_i cs
  cases e : consts cs.toList with
  | none=>simp [e] at h
  | some as =>
   simp [e] at h; subst h
   obtain ⟨hl,hr⟩:=consts_rel (g:=g) e;exact .agg as cs (by simpa using hl.symm) (fun i hi=>by simpa using hr i hi)
 ·exact const0_rel h
section
variable {g : Gh} {σ : Env} {a : Act}
theorem val_rel {x : Operand} {x' : X} {v : AV} (hE : ERel g σ a.tmps) (hx : cx x=some x') (hv : val σ x'=some v) : VRel g v (a.eval x):=by
 cases x with
 | tmp t=>simp [cx] at hx; subst hx; exact (hE t v hv).2
 | const c =>
  simp [cx] at hx
  obtain ⟨av,h1,rfl⟩:=hx
  simp [val] at hv; subst hv;exact constV_rel h1
 | func f=>simp [cx] at hx; subst hx; simp [val] at hv; subst hv; exact .fn _ [] #[] rfl (fun i hi=>by simp at hi)
 | global _=>simp [cx] at hx
theorem vals_rel (hE : ERel g σ a.tmps) : ∀ {xs : List Operand} {xs' : List X} {vs : List AV},cxs xs=some xs'→vals σ xs'=some vs →
  vs.length=xs.length∧∀ i,i<vs.length→VRel g (vs.getD i nv) ((xs.map a.eval).getD i undef)
 | [],xs',vs,h,hv=>by cases h; cases hv; simp
 | x::r,xs',vs,h,hv=>by
  obtain ⟨x',s,h1,h2,rfl⟩:=consX_some h
  obtain ⟨v,vs',h3,h4,rfl⟩:=consO_some hv
  obtain ⟨hl,hr⟩:=vals_rel hE h2 h4;refine ⟨by simp [hl],fun i hi=>?_⟩
  cases i with
  | zero=>exact val_rel hE h1 h3
  | succ i=>simpa using hr i (by simpa using hi)
theorem vals_rels (hE : ERel g σ a.tmps) {xs : List Operand} {xs' : List X} {vs : List AV} (h : cxs xs=some xs') (hv : vals σ xs'=some vs) :
  VRels g vs (xs.map a.eval).toArray:=by
 obtain ⟨h1,h2⟩:=vals_rel hE h hv;exact ⟨by simp [h1],fun i hi=>by simpa using h2 i hi⟩
end
section
variable {P : Program} {g : Gh} {B : Nat} {H : Heap} {w : World}
theorem pW_some {e : PV} {K : Kont} {H : Heap} (h : pW e K H) : ∃ p r,e=some (p,r)∧p∧K r H:=by
 cases e with
 | none=>exact h.elim
 | some x=>exact ⟨x.1,x.2,rfl,h.1,h.2⟩
theorem VRel.one {a : AV} {v : Value} (h : VRel g a v) (ho : a.one=true) : v.oneCell'=true:=by
 cases h <;> first | rfl | (simp [AV.one] at ho)
theorem VRel.cells {a : AV} {v : Value} (h : VRel g a v) : v.cells.size=a.cells.length∧∀ i,i<a.cells.length→VRel g (a.cells.getD i nv) (v.cells.getD i undef):=by
 cases h with
 | agg cs vs hs hv=>exact ⟨hs,hv⟩
 | _=>refine ⟨rfl,fun i hi=>?_⟩ <;> (have h0 : i=0:=by simp [AV.cells] at hi; omega) <;> subst h0 <;> first
   | exact .bool _ | exact .int _ _ | exact .str _ | exact .nilp | exact .nilsl | exact .emsl _ | exact .imapnil | exact .nilf | exact .nili
   | (rename_i cs b o vs hf hv; exact .ptr cs b o vs hf hv) | (rename_i id off b cap h; exact .ref id off b cap h) | (rename_i cs id b cap vs h hf hv; exact .dual cs id b cap vs h hf hv)
   | (rename_i a cap; exact .slnil a cap) | (rename_i es b o sz cap vs hm hcap hsz hf hv; exact .sl es b o sz cap vs hm hcap hsz hf hv)
   | (rename_i id h; exact .bufnil id h) | (rename_i id n b cap h; exact .buf id n b cap h) | (rename_i id n b cap h; exact .tbuf id n b cap h) | (rename_i id off n b cap c h; exact .sub id off n b cap c h) | (rename_i a n cap h; exact .big a n cap h)
   | (rename_i ks vs b es h h1 h2 hk hv; exact .imap ks vs b es h h1 h2 hk hv) | (rename_i id b h; exact .mref id b h)
   | (rename_i f ca vs hs hv; exact .fn f ca vs hs hv) | (rename_i t v w h; exact .ifc t v w h) | (rename_i cs vs hs hv; exact .tup cs vs hs hv)
theorem arI_sound {op : BinOp} {k : IntKind} {x y : Int} {p : Prop} {r : AV} (t : TypeId) (h : arI op k x y=some (p,r)) (hp : p) :
  ∃ u,(binOp op t (.int k x) (.int k y)).run P w=.ok u w∧VRel g r u:=by
 cases op <;> simp only [arI,Option.some.injEq,Prod.mk.injEq,reduceCtorEq] at h
 all_goals (obtain ⟨rfl,rfl⟩:=h)
 case quo=>exact ⟨_,by simp [binOp,Op.intDiv,hp],.int _ _⟩
 case rem=>exact ⟨_,by simp [binOp,Op.intDiv,hp],.int _ _⟩
 case add=>exact ⟨_,by simp [binOp,Op.intArith],.int _ _⟩
 case sub=>exact ⟨_,by simp [binOp,Op.intArith],.int _ _⟩
 case mul=>exact ⟨_,by simp [binOp,Op.intArith],.int _ _⟩
 case eql=>exact ⟨.bool (x == y),by simp [binOp,Op.intCmp],by rw [show decide (x=y)=(x == y) by rw [Bool.eq_iff_iff]; simp]; exact .bool _⟩
 case neq=>exact ⟨.bool (x != y),by simp [binOp,Op.intCmp],by rw [show (!decide (x=y))=(x != y) by rw [Bool.eq_iff_iff]; simp]; exact .bool _⟩
 case lss=>exact ⟨_,by simp [binOp,Op.intCmp],.bool _⟩
 case leq=>exact ⟨_,by simp [binOp,Op.intCmp],.bool _⟩
 case gtr=>exact ⟨_,by simp [binOp,Op.intCmp],.bool _⟩
 case geq=>exact ⟨_,by simp [binOp,Op.intCmp],.bool _⟩
 case and=>exact ⟨_,by simp [binOp,Op.intBits],.int _ _⟩
 case shr=>exact ⟨_,by
  have : ¬ y<0:=by omega
  simp [binOp,Op.shift,this],.int _ _⟩
theorem shr_any {k k' : IntKind} {x y : Int} (t : TypeId) (hp : 0≤y) :
  (binOp .shr t (.int k x) (.int k' y)).run P w=.ok (.int k (x.fdiv (2 ^ min y.toNat k.bits))) w:=by
 have : ¬ y<0:=by omega
 simp [binOp,Op.shift,this]
theorem fieldsOf_some {t : TypeId} {fs} (h : fieldsOf P t=some fs) : P.underlying t=some (.struct fs):=by
 unfold fieldsOf at h
 split at h <;> simp_all
theorem fieldOf_some {t : TypeId} {i off n : Nat} {a : Option Nat} (h : fieldOf P t i=some (off,n,a)) :
  ∃ fs f j,P.underlying t=some (.struct fs)∧fs[i]? = some f∧P.info? f.type=some j∧j.size=n∧n≠0∧f.offset=off∧aggOf P f.type=some a:=by
 unfold fieldOf at h
 cases h1 : fieldsOf P t with
 | none=>simp [h1] at h
 | some fs =>
  cases h2 : fs[i]? with
  | none=>simp [h1,h2] at h
  | some f =>
   simp only [h1,h2] at h
   cases h3 : P.info? f.type with
   | none=>simp [h3] at h
   | some j =>
    cases h4 : aggOf P f.type with
    | none=>simp [h3,h4] at h
    | some a' =>
     simp only [h3,h4] at h
     split at h
     ·cases h
     ·simp at h
      obtain ⟨h5,h6,h7⟩:=h;exact ⟨fs,f,j,fieldsOf_some h1,h2,h3,h6,by omega,h5,by rw [h4,h7]⟩
theorem elemOf_some {t : TypeId} {x : TypeId × TypeInfo} (h : elemOf' P t=some x) : P.underlying t=some (.slice x.1)∧P.info? x.1=some x.2∧x.2.size≠0:=by
 unfold elemOf' at h
 split at h
 ·rename_i e he
  split at h
  ·rename_i i hi
   split at h
   ·cases h
   ·cases h; exact ⟨he,hi,by assumption⟩
  ·cases h
 ·cases h
theorem aggOf_scalar {t : TypeId} (h : aggOf P t=some none) : (isAgg t).run P w=.ok false w:=by
 unfold aggOf at h
 split at h
 ·cases h
 ·cases h
 ·rename_i d i h1 h2 h3 h4
  unfold isAgg;simp only [Sem.run_bind,run_underlying h3,Result.andThen_ok]
  rfl
 ·cases h
theorem aggOf_agg {t : TypeId} {n : Nat} (h : aggOf P t=some (some n)) : (isAgg t).run P w=.ok true w∧∃ i,P.info? t=some i∧i.size=n:=by
 unfold aggOf at h
 split at h
 ·rename_i fs i h1 h2
  simp at h;exact ⟨by simp [isAgg,run_underlying h1],i,h2,h⟩
 ·rename_i fs i h1 h2
  simp at h;exact ⟨by simp [isAgg,run_underlying h1],i,by assumption,h⟩
 ·split at h <;> cases h
 ·cases h
theorem fieldAt_sound {t : TypeId} {i off n : Nat} {a : Option Nat} (h : fieldOf P t i=some (off,n,a)) {av : AV} {v : Value} (hv : VRel g av v) {p : Prop} {r : AV}
  (he : fldE off n (some av)=some (p,r)) (hp : p) : ∃ u,(Instr.fieldAt t v i).run P w=.ok u w∧VRel g r u:=by
 obtain ⟨fs,f,j,h1,h2,h3,h4,h5,h6,-⟩:=fieldOf_some h
 cases hv <;> simp only [fldE,Option.some.injEq,Prod.mk.injEq,reduceCtorEq] at he
 case ptr cs b o vs hf hv =>
  obtain ⟨rfl,rfl⟩:=he;refine ⟨.pointer (some ⟨b,o+off,none⟩), ?_, ?_⟩
  ·simp [Instr.fieldAt,run_underlying h1,h2,Instr.sureAddr,fieldPlace,sizeOf,typeInfo,h3,h4,h5,h6,Addr.add_lit]
  ·refine .ptr _ b (o+off) (fun k=>vs (off+k)) (fun k hk=>?_) (fun k hk=>?_)
   ·rw [Nat.add_assoc]; exact hf _ (by simp at hk; omega)
   ·have hk' : k<n:=by simp at hk; omega
    have : ((cs.drop off).take n).getD k nv=cs.getD (off+k) nv:=by simp [List.getD_eq_getElem?_getD,hk']
    rw [this]; exact hv _ (by simp at hk; omega)
 case ref id o b cap hio =>
  obtain ⟨rfl,rfl⟩:=he;exact ⟨.pointer (some ⟨b,o+off,none⟩),by simp [Instr.fieldAt,run_underlying h1,h2,Instr.sureAddr,fieldPlace,sizeOf,typeInfo,h3,h4,h5,h6,Addr.add_lit],.ref id _ b cap hio⟩
 case dual cs id b cap vs hio hf hv =>
  obtain ⟨rfl,rfl⟩:=he;refine ⟨.pointer (some ⟨b,0+off,none⟩),by simp [Instr.fieldAt,run_underlying h1,h2,Instr.sureAddr,fieldPlace,sizeOf,typeInfo,h3,h4,h5,h6,Addr.add_lit], ?_⟩;rw [Nat.zero_add]
  split
  ·refine .ptr _ b off (fun k=>vs (off+k)) (fun k hk=>hf _ (by simp at hk; omega)) (fun k hk=>?_)
   have hk' : k<n:=by simp at hk; omega
   have : ((cs.drop off).take n).getD k nv=cs.getD (off+k) nv:=by simp [List.getD_eq_getElem?_getD,hk']
   rw [this]; exact hv _ (by simp at hk; omega)
  ·exact .ref id off b cap hio
theorem indexAt_sound {t : TypeId} {x : TypeId × TypeInfo} (h : elemOf' P t=some x) {av iv : AV} {v u : Value} (hv : VRel g av v) (hi : VRel g iv u) {p : Prop} {r : AV}
  (he : idxE x.2.size (some av) (some iv)=some (p,r)) (hp : p) : ∃ z,(Instr.indexAt t v u).run P w=.ok z w∧VRel g r z:=by
 obtain ⟨h1,h2,h3⟩:=elemOf_some h
 cases hi <;> try (cases hv <;> simp [idxE] at he; done)
 rename_i k n
 cases hv <;> simp only [idxE,Option.some.injEq,Prod.mk.injEq,reduceCtorEq] at he
 case slnil a cap=>obtain ⟨rfl,rfl⟩:=he; simp at hp
 case bufnil id hio=>obtain ⟨rfl,rfl⟩:=he; simp at hp
 case sl es b o sz cap vs hm _ hsz hf hv =>
  obtain ⟨rfl,rfl⟩:=he
  obtain ⟨p1,p2,p3⟩:=hp
  have hz : sz=x.2.size:=by rw [← p3]; exact (hsz _ p2).symm
  subst hz
  have hn : n<(es.length : Int):=by omega
  refine ⟨.pointer (some ⟨b,o+n.toNat*x.2.size,none⟩), ?_, ?_⟩
  ·simp [Instr.indexAt,asIntOf,run_underlying h1,p1,hn,sizeOf,typeInfo,h2,Addr.add_lit]
  ·refine .ptr _ b _ (fun j=>vs (n.toNat*x.2.size+j)) (fun j hj=>?_) (fun j hj=>?_)
   ·rw [Nat.add_assoc]; exact hf _ _ p2 (by rw [p3] at hj; exact hj)
   ·exact hv _ _ p2 (by rw [p3] at hj; exact hj)
 case sub id o m b cap c hio =>
  obtain ⟨rfl,rfl⟩:=he
  obtain ⟨p1,p2⟩:=hp
  have hn : n<(m : Int):=by omega
  refine ⟨.pointer (some ⟨b,o+n.toNat*x.2.size,none⟩), ?_, ?_⟩
  ·simp [Instr.indexAt,asIntOf,run_underlying h1,p1,hn,sizeOf,typeInfo,h2,Addr.add_lit]
  ·exact .ref id _ b cap hio
 case buf id m b cap hio =>
  obtain ⟨rfl,rfl⟩:=he
  obtain ⟨p1,p2⟩:=hp
  have hn : n<(m : Int):=by omega
  refine ⟨.pointer (some ⟨b,0+n.toNat*x.2.size,none⟩), ?_, ?_⟩
  ·simp [Instr.indexAt,asIntOf,run_underlying h1,p1,hn,sizeOf,typeInfo,h2,Addr.add_lit]
  ·rw [Nat.zero_add]; exact .ref id _ b cap hio
theorem loadCells_sound (hW : WRel g B H w) (b o n : Nat) (vs : Nat→Value) (hf : ∀ i,i<n→g.fz b (o+i)=some (vs i)) :
  (loadCells ⟨b,o,none⟩ n).run P w=.ok ((List.range n).map vs).toArray w :=
 run_loadCells w ⟨b,o,none⟩ n vs fun j hj=>by rw [Addr.add_lit]; exact hW.fz _ _ _ (hf j hj)
theorem loadAt_ptr (hW : WRel g B H w) {t : TypeId} {n : Option Nat} (h : aggOf P t=some n) {av : AV} {v : Value} (hv : VRel g av v) {p : Prop} {r : AV}
  (he : ldE n (some av)=some (p,r)) (hp : p) : ∃ u,(Instr.loadAt t v).run P w=.ok u w∧VRel g r u:=by
 cases n with
 | none =>
  cases hv <;> simp only [ldE,reduceCtorEq] at he
  rename_i cs b o vs hf hv
  cases cs with
  | nil=>simp at he
  | cons c cs =>
   simp at he
   obtain ⟨-,rfl⟩:=he
   have h0:=hf 0 (by simp)
   have hc:=hW.fz _ _ _ h0;refine ⟨vs 0, ?_,by simpa using hv 0 (by simp)⟩;simp only [Instr.loadAt,Instr.sureAddr,loadVar,Sem.run_bind,Sem.run_pure,Result.andThen_ok,aggOf_scalar h];simp only [Bool.false_eq_true,if_false,run_load]
   simp at hc
   simp [hc]
 | some n =>
  obtain ⟨h1,i,h2,h3⟩:=aggOf_agg (w:=w) h
  cases hv <;> simp only [ldE,Option.some.injEq,Prod.mk.injEq,reduceCtorEq] at he
  rename_i cs b o vs hf hv
  obtain ⟨rfl,rfl⟩:=he;refine ⟨.agg ((List.range n).map vs).toArray, ?_, ?_⟩
  ·simp only [Instr.loadAt,Instr.sureAddr,loadVar,Sem.run_bind,Sem.run_pure,Result.andThen_ok,h1,if_true,sizeOf,typeInfo,run_program,h2,h3];simp only [loadCells_sound (P:=P) hW b o n vs (fun i hi=>hf i (by omega)),Result.andThen_ok,Sem.run_pure']
  ·refine .agg cs _ (by simp [hp]) (fun i hi=>?_)
   have : (((List.range n).map vs).toArray.getD i undef)=vs i:=by simp [Array.getD,show i<n by omega]
   rw [this]; exact hv i hi
end
end Go.AW
namespace Go.AW
open Go.RowKit
section
variable {P : Program} {g : Gh} {B : Nat} {H : Heap} {w : World}
theorem FinV.same {K : Kont} {r : AV} {v : Value} (hW : WRel g B H w) (hv : VRel g r v) (hk : K r H) : FinV g B w K v w :=
 ⟨g,r,H,.refl g,hk,hv,hW,.refl B w⟩
theorem wr_length : ∀ (vs : List AV) (cs : List AV) (o : Nat),(wr cs o vs).length=cs.length
 | [],_,_=>rfl
 | v::r,cs,o=>by simp [wr,wr_length r]
theorem wr_getD : ∀ (vs : List AV) (cs : List AV) (o i : Nat),o+vs.length≤cs.length →
  (wr cs o vs).getD i nv=if o≤i∧i<o+vs.length then vs.getD (i - o) nv else cs.getD i nv
 | [],cs,o,i,_=>by simp only [wr,List.length_nil,Nat.add_zero]; rw [if_neg (by omega)]
 | v::r,cs,o,i,h=>by
  have h' : o+(r.length+1)≤cs.length:=by simpa using h
  rw [wr,wr_getD r _ _ _ (by simp; omega)]
  by_cases hi : i=o
  ·subst hi;rw [if_neg (by omega),if_pos (by simp)]
   simp [List.getD_eq_getElem?_getD,show i<cs.length by omega]
  ·by_cases h2 : o+1≤i∧i<o+1+r.length
   ·rw [if_pos h2,if_pos (by simp; omega)]
    have : i - o=(i - (o+1))+1:=by omega
    rw [this]; simp
   ·rw [if_neg h2,if_neg (by simp; omega)];simp only [List.getD_eq_getElem?_getD];rw [List.getElem?_set_ne (by omega)]
theorem fold_fill (off : Nat) : ∀ (l : List Value) (k : Nat) (cs : Array Value),off+k+l.length≤cs.size →
  ((l.zipIdx k).foldl (fun (cs : Array Value) (x : Value × Nat)=>cs.setIfInBounds (off+x.2) x.1) cs).size=cs.size ∧
  ∀ i,((l.zipIdx k).foldl (fun (cs : Array Value) (x : Value × Nat)=>cs.setIfInBounds (off+x.2) x.1) cs).getD i undef =
   if off+k≤i∧i<off+k+l.length then l.getD (i - (off+k)) undef else cs.getD i undef
 | [],k,cs,_=>by simp; intro i h1 h2; omega
 | v::r,k,cs,h=>by
  have h' : off+k+(r.length+1)≤cs.size:=by simpa using h
  simp only [List.zipIdx_cons,List.foldl_cons]
  obtain ⟨h1,h2⟩:=fold_fill off r (k+1) (cs.setIfInBounds (off+k) v) (by simp; omega);refine ⟨by rw [h1]; simp,fun i=>?_⟩;rw [h2 i]
  by_cases hi : i=off+k
  ·subst hi;rw [if_neg (by omega),if_pos (by simp)]
   simp [Array.getD_eq_getD_getElem?,show off+k<cs.size by omega]
  ·by_cases h3 : off+(k+1)≤i∧i<off+(k+1)+r.length
   ·rw [if_pos h3,if_pos (by simp; omega)]
    have : i - (off+k)=(i - (off+(k+1)))+1:=by omega
    rw [this]; simp
   ·rw [if_neg h3,if_neg (by simp; omega)];simp only [Array.getD_eq_getD_getElem?];rw [Array.getElem?_setIfInBounds_ne (by omega)]
theorem consts_of_zero {t : TypeId} {z : List AV} (h : zerosOf P t=some z) : ∃ i zv,P.info? t=some i∧i.zero=some zv∧z.length=i.size∧zv.cells.size=i.size ∧
  ∀ (g : Gh) k,k<z.length→VRel g (z.getD k nv) (zv.cells.getD k undef):=by
 unfold zerosOf at h
 split at h
 ·rename_i i hi
  split at h
  ·rename_i zv hz
   split at h
   ·rename_i zs hc
    split at h
    ·rename_i hl
     cases h
     obtain ⟨h1,h2⟩:=consts_rel (g:=⟨fun _ _=>none,fun _=>none,fun _=>none⟩) hc;refine ⟨i,zv,hi,hz,hl,by rw [← hl,h1]; simp,fun g k hk=>?_⟩
     have:=(consts_rel (g:=g) hc).2 k hk
     simpa using this
    ·cases h
   ·cases h
  ·cases h
 ·cases h
theorem fill_sound {σ : Env} {a : Act} (hE : ERel g σ a.tmps) {t : TypeId} {fs : Array Field} (hfs : P.underlying t=some (.struct fs)) (pl : Array (Nat × Nat))
  (hpl : ∀ i off n ao,fieldOf P t i=some (off,n,ao)→pl[i]? = some (off,n)) :
  ∀ (parts : List (Nat × Operand)) (ps : List (Nat × Nat × X)) (cs : List AV) (vs : Array Value) (p : Prop) (r : List AV),partsOf P t parts=some ps →
   bldL σ ps cs=some (p,r)→p→vs.size=cs.length→(∀ i,i<cs.length→VRel g (cs.getD i nv) (vs.getD i undef)) →
   ∃ out,Instr.fill (pl[·]?) vs (parts.map fun x=>(x.1,a.eval x.2))=some out∧out.size=r.length∧∀ i,i<r.length→VRel g (r.getD i nv) (out.getD i undef)
 | [],ps,cs,vs,p,r,hp,hb,_,hs,hv=>by
  cases hp
  simp [bldL] at hb
  obtain ⟨-,rfl⟩:=hb;exact ⟨vs,rfl,hs,hv⟩
 | (i,x)::parts,ps,cs,vs,p,r,hp,hb,hpp,hs,hv=>by
  unfold partsOf at hp
  split at hp
  ·rename_i off n ao x' ps' h1 h2 h3
   cases hp;simp only [bldL] at hb
   cases hx : val σ x' with
   | none=>simp [hx,bldS] at hb
   | some av =>
    simp only [hx,bldS] at hb
    cases hb2 : bldL σ ps' (wr cs off av.cells) with
    | none=>simp [hb2,bldT] at hb
    | some q =>
     obtain ⟨q,r'⟩:=q;simp only [hb2,bldT,Option.some.injEq,Prod.mk.injEq] at hb
     obtain ⟨rfl,rfl⟩:=hb
     obtain ⟨⟨h4,h5⟩,h6⟩:=hpp
     have hav:=val_rel hE h2 hx
     obtain ⟨c1,c2⟩:=hav.cells
     have hpl':=hpl i off n ao h1
     obtain ⟨f1,f2⟩:=fold_fill off (a.eval x).cells.toList 0 vs (by simp; omega);simp only [List.map_cons,Instr.fill,hpl']
     have hcond : ¬ ((a.eval x).cells.size≠n∨off+(a.eval x).cells.size > vs.size):=by omega
     rw [if_neg (by simpa using hcond)]
     have hfold : ((a.eval x).cells.zipIdx.foldl (fun (cs : Array Value) (x : Value × Nat)=>cs.setIfInBounds (off+x.2) x.1) vs) =
       (((a.eval x).cells.toList.zipIdx 0).foldl (fun (cs : Array Value) (x : Value × Nat)=>cs.setIfInBounds (off+x.2) x.1) vs):=by
      rw [← Array.foldl_toList]; simp
     refine fill_sound hE hfs pl hpl parts ps' (wr cs off av.cells) _ q _ h3 hb2 h6 ?_ ?_
     ·rw [wr_length]; rw [hfold,f1]; exact hs
     ·intro k hk;rw [wr_length] at hk;rw [hfold,f2 k,wr_getD _ _ _ _ (by omega)];simp only [Array.length_toList,Nat.add_zero];rw [c1]
      split
      ·have:=c2 (k - off) (by omega)
       simpa using this
      ·exact hv k hk
  ·cases hp
theorem build_sound {σ : Env} {a : Act} (hE : ERel g σ a.tmps) {t : TypeId} {z : List AV} {fs : Array Field} {ps} {parts : Array (Nat × Operand)} (hz : zerosOf P t=some z)
  (hf : fieldsOf P t=some fs) (hps : partsOf P t parts.toList=some ps) (hall : ∀ f,f∈fs→(P.info? f.type).isSome) {p : Prop} {r : AV} (he : bldE (bldL σ ps z)=some (p,r)) (hp : p) :
  ∃ u,(Instr.build t (parts.map fun x=>(x.1,a.eval x.2))).run P w=.ok u w∧VRel g r u:=by
 obtain ⟨i,zv,h1,h2,h3,h4,h5⟩:=consts_of_zero hz
 have hfs:=fieldsOf_some hf
 cases hb : bldL σ ps z with
 | none=>simp [hb,bldE] at he
 | some q =>
  obtain ⟨q,cs⟩:=q;simp only [hb,bldE,Option.some.injEq,Prod.mk.injEq] at he
  obtain ⟨rfl,rfl⟩:=he
  let pl : Array (Nat × Nat):=fs.map fun f=>(f.offset,((P.info? f.type).map (·.size)).getD 0)
  have hmap : (fs.mapM fun f=>do pure (f.offset,← sizeOf f.type) : Sem (Array (Nat × Nat))).run P w=.ok pl w:=by
   have key : ∀ (l : List Field),(∀ f,f∈l→(P.info? f.type).isSome)→(l.mapM fun f=>do pure (f.offset,← sizeOf f.type) : Sem (List (Nat × Nat))).run P w =
     .ok (l.map fun f=>(f.offset,((P.info? f.type).map (·.size)).getD 0)) w:=by
    intro l
    induction l with
    | nil=>intro _; simp
    | cons f r ih =>
     intro hh
     obtain ⟨j,hj⟩:=Option.isSome_iff_exists.1 (hh f (by simp))
     have:=ih fun f' hf'=>hh f' (by simp [hf']);simp only [List.mapM_cons,Sem.run_bind,sizeOf,typeInfo,run_program,Result.andThen_ok,hj,Sem.run_pure,List.map_cons,Option.map_some,Option.getD_some] at this ⊢;rw [this]
     simp
   have:=key fs.toList (fun f hf=>hall f (by simpa using hf));rw [Array.mapM_eq_mapM_toList,Sem.run_map,this];simp only [Result.andThen_ok]
   congr 1
   apply Array.ext'
   simp [pl]
  obtain ⟨out,o1,o2,o3⟩:=fill_sound (P:=P) hE hfs pl (fun i off n ao h=>by
   obtain ⟨fs',f,j,k1,k2,k3,k4,k5,k6,-⟩:=fieldOf_some h;rw [hfs] at k1; cases k1
   simp [pl,k2,k3,k4,k6]) parts.toList ps z zv.cells _ cs hps hb hp (by omega) (fun k hk=>h5 g k hk)
  refine ⟨.agg out, ?_,.agg cs out o2 o3⟩;simp only [Instr.build,zeroValue,typeInfo,Sem.run_bind,run_program,Result.andThen_ok,h1,Sem.run_pure,h2,run_underlying hfs,hmap];simp only [Array.toList_map,o1,Sem.run_pure]
end
end Go.AW
namespace Go.AW
open Go.RowKit
section
variable {P : Program} {g : Gh} {B : Nat} {H : Heap} {w : World}
theorem flat_length {sz : Nat} : ∀ {es : List AV},okEls sz es→(flat es).length=es.length*sz
 | [],_=>by simp [flat]
 | e::r,h=>by
  have h1:=(h e (by simp)).1
  have h2:=flat_length (sz:=sz) (es:=r) fun x hx=>h x (by simp [hx])
  simp [flat,h1,h2,Nat.add_mul,Nat.add_comm]
theorem flat_getD {sz : Nat} : ∀ {es : List AV},okEls sz es→∀ i j,i<es.length→j<sz→(flat es).getD (i*sz+j) nv=(es.getD i nv).cells.getD j nv
 | [],_,i,j,hi,_=>by simp at hi
 | e::r,h,i,j,hi,hj=>by
  have h1:=(h e (by simp)).1;simp only [flat];rw [list_getD_append,h1]
  cases i with
  | zero=>simp [hj]
  | succ i =>
   rw [if_neg (by rw [Nat.add_mul]; omega)]
   have:=flat_getD (sz:=sz) (es:=r) (fun x hx=>h x (by simp [hx])) i j (by simpa using hi) hj;rw [show (i+1)*sz+j - sz=i*sz+j by rw [Nat.add_mul]; omega,this]
   simp
theorem flat_one {sz : Nat} {es : List AV} (h : okEls sz es) : ∀ c,c∈flat es→c.one=true:=by
 induction es with
 | nil=>intro c hc; simp [flat] at hc
 | cons e r ih =>
  intro c hc;simp only [flat,List.mem_append] at hc
  rcases hc with hc | hc
  ·exact (h e (by simp)).2 c hc
  ·exact ih (fun x hx=>h x (by simp [hx])) c hc
theorem fill_lit {σ : Env} {a : Act} (hE : ERel g σ a.tmps) (sz : Nat) : ∀ (parts : List (Nat × Operand)) (k : Nat) (xs : List X) (as pre : List AV) (vs : Array Value),
  inOrder k parts=some xs→vals σ xs=some as→okEls sz as→pre.length=k*sz→vs.size=k*sz+as.length*sz →
  (∀ i,i<pre.length→VRel g (pre.getD i nv) (vs.getD i undef)) →
  ∃ out,Instr.fill (fun i=>some (i*sz,sz)) vs (parts.map fun x=>(x.1,a.eval x.2))=some out∧out.size=vs.size ∧
   ∀ i,i<(pre++flat as).length→VRel g ((pre++flat as).getD i nv) (out.getD i undef)
 | [],k,xs,as,pre,vs,hx,hv,hok,hp,hs,hpre=>by
  cases hx; cases hv;exact ⟨vs,rfl,rfl,by simpa [flat] using hpre⟩
 | (i,x)::parts,k,xs,as,pre,vs,hx,hv,hok,hp,hs,hpre=>by
  unfold inOrder at hx
  split at hx
  ·rename_i hik
   subst hik
   obtain ⟨x',xs',h1,h2,rfl⟩:=consX_some hx
   obtain ⟨av,as',h3,h4,rfl⟩:=consO_some hv
   have hav:=val_rel hE h1 h3
   obtain ⟨c1,c2⟩:=hav.cells
   have hsz:=(hok av (by simp)).1
   have hmul : (as'.length+1)*sz=as'.length*sz+sz:=by rw [Nat.add_mul]; omega
   have hs' : vs.size=i*sz+(as'.length*sz+sz):=by rw [hs]; simp only [List.length_cons,hmul]
   obtain ⟨f1,f2⟩:=fold_fill (i*sz) (a.eval x).cells.toList 0 vs (by simp; omega);simp only [List.map_cons,Instr.fill]
   have hcond : ¬ ((a.eval x).cells.size≠sz∨i*sz+(a.eval x).cells.size > vs.size):=by omega
   rw [if_neg (by simpa using hcond)]
   have hfold : ((a.eval x).cells.zipIdx.foldl (fun (cs : Array Value) (x : Value × Nat)=>cs.setIfInBounds (i*sz+x.2) x.1) vs) =
     (((a.eval x).cells.toList.zipIdx 0).foldl (fun (cs : Array Value) (x : Value × Nat)=>cs.setIfInBounds (i*sz+x.2) x.1) vs):=by
    rw [← Array.foldl_toList]; simp
   obtain ⟨out,o1,o2,o3⟩:=fill_lit hE sz parts (i+1) xs' as' (pre++av.cells) (vs:=((a.eval x).cells.zipIdx.foldl (fun (cs : Array Value) (x : Value × Nat)=>cs.setIfInBounds (i*sz+x.2) x.1) vs)) h2 h4 (fun e he=>hok e (by simp [he])) (by simp [hp,hsz,Nat.add_mul])
    (by rw [hfold,f1,hs',Nat.add_mul]; omega) (by
     intro k hk;rw [hfold,f2 k,list_getD_append];simp only [Array.length_toList,Nat.add_zero,List.length_append] at hk ⊢
     by_cases hkp : k<pre.length
     ·rw [if_pos hkp,if_neg (by omega)]; exact hpre k hkp
     ·rw [if_neg hkp,if_pos (by omega)]
      have:=c2 (k - pre.length) (by omega);rw [hp] at this ⊢
      simpa using this)
   refine ⟨out,o1,by rw [o2,hfold,f1], ?_⟩
   simpa [flat,List.append_assoc] using o3
  ·cases hx
theorem vals_length {σ : Env} : ∀ {xs : List X} {as : List AV},vals σ xs=some as→as.length=xs.length
 | [],as,h=>by cases h; rfl
 | x::xs,as,h=>by
  obtain ⟨a,s,h1,h2,rfl⟩:=consO_some h
  simp [vals_length h2]
theorem lit_run {σ : Env} {a : Act} (hE : ERel g σ a.tmps) {t : TypeId} {x : TypeId × TypeInfo} (he : elemOf' P t=some x) {z : List AV} (hz : zerosOf P x.1=some z)
  {n : Nat} {parts : Array (Nat × Operand)} {xs : List X} (hx : inOrder 0 parts.toList=some xs) (hn : xs.length=n) (hmax : n*x.2.size≤16777216) {as : List AV}
  (hv : vals σ xs=some as) (hok : okEls x.2.size as) :
  ∃ out : Array Value,(Instr.buildSlice t n (parts.map fun x=>(x.1,a.eval x.2))).run P w=.ok (.slice (some ⟨w.heap.size,0,none⟩) n n) (w.alloc (.cells out x.1)) ∧
   out.size=n*x.2.size∧as.length=n∧∀ i,i<(flat as).length→VRel g ((flat as).getD i nv) (out.getD i undef):=by
 obtain ⟨h1,h2,h3⟩:=elemOf_some he
 obtain ⟨i,zv,k1,k2,k3,k4,k5⟩:=consts_of_zero hz;rw [h2] at k1; cases k1
 have has : as.length=n:=by rw [vals_length hv,hn]
 let z0 : Array Value:=if n*x.2.size=0 then #[] else zv.cells
 obtain ⟨out,o1,o2,o3⟩:=fill_lit hE x.2.size parts.toList 0 xs as [] ((Array.range (n*x.2.size)).map (z0[· % z0.size]!)) hx hv hok (by simp) (by simp [has]) (by simp);refine ⟨out, ?_,by rw [o2]; simp,has,by simpa using o3⟩
 have hgt : ¬ (n*x.2.size > 2 ^ 24):=by omega
 by_cases h0 : n*x.2.size=0
 ·have hz0 : z0=#[]:=by simp [z0,h0]
  rw [hz0] at o1
  simp only [Instr.buildSlice,Sem.run_bind,run_underlying h1,Result.andThen_ok,sizeOf,typeInfo,run_program,h2,Sem.run_pure,h0,if_true,Array.toList_map,
   show ¬ (0 > 2 ^ 24) by decide,if_false]
  rw [h0] at o1;rw [o1]
  simp [newRow]
 ·have hz0 : z0=zv.cells:=by simp [z0,h0]
  rw [hz0] at o1;simp only [Instr.buildSlice,Sem.run_bind,run_underlying h1,Result.andThen_ok,sizeOf,typeInfo,run_program,h2,Sem.run_pure,hgt,if_false,h0,Array.toList_map,zeroValue,k2,o1]
  simp [newRow]
theorem litP_sound {σ : Env} {a : Act} (hW : WRel g B H w) (hE : ERel g σ a.tmps) {t : TypeId} {x : TypeId × TypeInfo} (he : elemOf' P t=some x) {z : List AV} (hz : zerosOf P x.1=some z)
  {n : Nat} {parts : Array (Nat × Operand)} {xs : List X} (hx : inOrder 0 parts.toList=some xs) (hn : xs.length=n) (hmax : n*x.2.size≤16777216) {as : List AV}
  (hv : vals σ xs=some as) (hok : okEls x.2.size as) (hm : as.length≤maxL) :
  ∃ v w',(Instr.buildSlice t n (parts.map fun x=>(x.1,a.eval x.2))).run P w=.ok v w'∧FinV g B w (fun r' H'=>r'=.sl as∧H'=H) v w':=by
 obtain ⟨out,h1,h2,h3,h4⟩:=lit_run (P:=P) (w:=w) hE he hz hx hn hmax hv hok
 obtain ⟨k1,k2⟩:=hW.alloc_fz out x.1;refine ⟨_,_,h1,_,_,_,k1,⟨rfl,rfl⟩, ?_,k2,(Below.refl B w).alloc hW.base _⟩;subst h3;refine .sl as w.heap.size 0 x.2.size _ (fun i=>out.getD i undef) hm (by first | exact Nat.le_refl _ | omega) (fun i hi=>?_) (fun i j hi hj=>?_) (fun i j hi hj=>?_)
 ·have : as.getD i nv∈as:=by simp [List.getD_eq_getElem?_getD,hi]
  exact (hok _ this).1
 ·have hlt : i*x.2.size+j<out.size:=by
   rw [h2]
   have : (i+1)*x.2.size≤as.length*x.2.size:=Nat.mul_le_mul_right _ hi;rw [Nat.add_mul] at this; omega
  simp only [Gh.addF,Nat.zero_add]
  simp [hlt,Array.getD]
 ·have hlt : i*x.2.size+j<(flat as).length:=by
   rw [flat_length hok]
   have : (i+1)*x.2.size≤as.length*x.2.size:=Nat.mul_le_mul_right _ hi;rw [Nat.add_mul] at this; omega
  have:=(h4 _ hlt).mono k1
  rwa [flat_getD hok i j hi hj] at this
theorem emp_sound {σ : Env} {a : Act} (hW : WRel g B H w) (hE : ERel g σ a.tmps) {t : TypeId} {x : TypeId × TypeInfo} (he : elemOf' P t=some x) {z : List AV} (hz : zerosOf P x.1=some z)
  {parts : Array (Nat × Operand)} {xs : List X} (hx : inOrder 0 parts.toList=some xs) (hn : xs.length=0) :
  ∃ v w',(Instr.buildSlice t 0 (parts.map fun x=>(x.1,a.eval x.2))).run P w=.ok v w'∧FinV g B w (fun r' H'=>r'=.emsl∧H'=H) v w':=by
 have hxs : xs=[]:=List.eq_nil_of_length_eq_zero hn;subst hxs
 obtain ⟨out,h1,h2,h3,h4⟩:=lit_run (P:=P) (w:=w) (n:=0) hE he hz hx hn (by omega) (as:=[]) rfl (by intro e he; simp at he)
 obtain ⟨k1,k2⟩:=hW.alloc_fz out x.1;exact ⟨_,_,h1,_,_,_,k1,⟨rfl,rfl⟩,.emsl _,k2,(Below.refl B w).alloc hW.base _⟩
theorem boxP_sound (hW : WRel g B H w) {t : TypeId} {av : AV} {v : Value} (hv : VRel g av v) :
  ∃ u w',(Instr.box t v).run P w=.ok u w'∧FinV g B w (fun r' H'=>r'=.ptr av.cells∧H'=H) u w':=by
 obtain ⟨c1,c2⟩:=hv.cells
 obtain ⟨k1,k2⟩:=hW.alloc_fz v.cells t;refine ⟨.pointer (some ⟨w.heap.size,0,none⟩),w.alloc (.cells v.cells t),by simp [Instr.box,newVar,newRow],_,_,_,k1,⟨rfl,rfl⟩, ?_,k2,(Below.refl B w).alloc hW.base _⟩;refine .ptr _ _ 0 (fun i=>v.cells.getD i undef) (fun i hi=>?_) (fun i hi=>(c2 i hi).mono k1)
 simp [Gh.addF,c1,hi,Array.getD]
theorem b2s_loop : ∀ (es : List AV) (vs : List Value) (acc : ByteArray),(∀ e,e∈es→e.isByte=true)→es.length=vs.length→(∀ i,i<es.length→VRel g (es.getD i nv) (vs.getD i undef)) →
  (forIn (m:=Sem) vs acc fun c r =>
   match c with
   | .int .u8 n=>pure (ForInStep.yield (r.push (UInt8.ofNat n.toNat)))
   | _=>do
    stuck "bytesToString: byte expected"
    pure (ForInStep.yield r)).run P w=.ok ⟨(acc.data.toList++es.map AV.byte).toArray⟩ w
 | [],[],acc,_,_,_=>by simp
 | [],_::_,_,_,hl,_=>by simp at hl
 | _::_,[],_,_,hl,_=>by simp at hl
 | e::es,v::vs,acc,hb,hl,hr=>by
  have h0:=hr 0 (by simp);simp only [List.getD_cons_zero] at h0
  have hbe:=hb e (by simp)
  cases h0 <;> try (simp [AV.isByte] at hbe; done)
  rename_i k n
  cases k <;> try (simp [AV.isByte] at hbe; done)
  have ih:=b2s_loop es vs (acc.push (UInt8.ofNat n.toNat)) (fun x hx=>hb x (by simp [hx])) (by simpa using hl) (fun i hi=>by simpa using hr (i+1) (by simpa using hi));simp only [List.forIn_cons,Sem.run_bind,Sem.run_pure,Result.andThen_ok];rw [ih]
  simp [AV.byte,ByteArray.push]
end
end Go.AW
namespace Go.AW
open Go.RowKit
section
variable {P : Program} {g : Gh} {B : Nat} {H : Heap} {w : World}
theorem bytes_sound (hW : WRel g B H w) {av : AV} {v : Value} (hv : VRel g av v) {p : Prop} {r : AV} (he : b2sE (some av)=some (p,r)) (hp : p) :
  ∃ u,(Conv.bytesToString v).run P w=.ok u w∧VRel g r u:=by
 cases hv <;> simp only [b2sE,Option.some.injEq,Prod.mk.injEq,reduceCtorEq] at he
 case nilsl =>
  obtain ⟨-,rfl⟩:=he;exact ⟨.string ⟨#[]⟩,by simp [Conv.bytesToString]; rfl,.str []⟩
 case slnil a cap =>
  obtain ⟨-,rfl⟩:=he;refine ⟨.string ⟨#[]⟩, ?_,.str []⟩
  cases a with
  | none=>simp [Conv.bytesToString]; rfl
  | some a=>simp [Conv.bytesToString,loadCells,loadCellsFrom]; rfl
 case sl es b o sz cap vs hm _ hsz hf hv =>
  obtain ⟨rfl,rfl⟩:=he
  have hone : ∀ i,i<es.length→sz=1:=fun i hi=>by
   have h1:=hsz i hi
   have h2:=hp (es.getD i nv) (by simp [List.getD_eq_getElem?_getD,hi])
   generalize es.getD i nv=e at h1 h2
   cases e <;> simp [AV.isByte] at h2
   simpa [AV.cells] using h1.symm
  have hl : (loadCells ⟨b,o,none⟩ es.length).run P w=.ok ((List.range es.length).map vs).toArray w :=
   run_loadCells w ⟨b,o,none⟩ es.length vs fun j hj=>by
    have h1:=hone j hj;subst h1
    have:=hf j 0 hj (by omega);rw [Addr.add_lit];exact hW.fz _ _ _ (by simpa using this)
  have hr : ∀ i,i<es.length→VRel g (es.getD i nv) (((List.range es.length).map vs).getD i undef):=fun i hi=>by
   have h1:=hone i hi;subst h1
   have h3:=hv i 0 hi (by omega)
   have h2:=hp (es.getD i nv) (by simp [List.getD_eq_getElem?_getD,hi])
   have : ((List.range es.length).map vs).getD i undef=vs i:=by simp [List.getD_eq_getElem?_getD,hi]
   rw [this]
   generalize es.getD i nv=e at h3 h2 ⊢
   cases e <;> simp [AV.isByte] at h2
   simpa [AV.cells] using h3
  have:=b2s_loop (P:=P) (w:=w) es ((List.range es.length).map vs) ByteArray.empty hp (by simp) hr;refine ⟨.string ⟨(es.map AV.byte).toArray⟩, ?_,.str _⟩;simp only [Conv.bytesToString,Sem.run_bind,hl,Result.andThen_ok];rw [← Array.forIn_toList];exact Eq.trans (congrArg (fun r=>Result.andThen r _) this) rfl
theorem eqlInt_run {t : TypeId} {q : IntKind} (ht : P.underlying t=some (.int q)) (d : Nat) (k : IntKind) (a b : Int) :
  (Op.equalIn (d+1) t (.int k a) (.int k b)).run P w=.ok (a == b) w:=by
 simp [Op.equalIn,run_underlying ht]
theorem eql2_in {t : TypeId} {fs : Array Field} (ht : P.underlying t=some (.struct fs)) (hi : allInts P 0 fs.toList=true) (hs : P.stoodInHeld t=false)
  (h2 : fs.size=2) (k1 k2 : IntKind) (a b c d : Int) (dp : Nat) :
  (Op.equalIn (dp+2) t (.agg #[.int k1 a,.int k2 b]) (.agg #[.int k1 c,.int k2 d])).run P w=.ok (decide (a=c) && decide (b=d)) w:=by
 obtain ⟨l⟩:=fs
 match l,h2 with
 | [f0,f1],_ =>
  simp only [allInts,Bool.and_eq_true,beq_iff_eq,bne_iff_ne,ne_eq] at hi
  obtain ⟨⟨⟨⟨ho0,hu0⟩,hz0⟩,hn0⟩,⟨⟨⟨ho1,hu1⟩,hz1⟩,hn1⟩,-⟩:=hi
  have e0 : ∃ k,P.underlying f0.type=some (.int k):=by split at hu0 <;> simp_all
  have e1 : ∃ k,P.underlying f1.type=some (.int k):=by split at hu1 <;> simp_all
  obtain ⟨q0,e0⟩:=e0
  obtain ⟨q1,e1⟩:=e1;unfold Op.equalIn;simp only [Sem.run_bind,run_underlying ht,Result.andThen_ok,run_program,hs,Bool.false_eq_true,if_false]
  simp [hn0,hn1,ho0,ho1,part,isAgg,run_underlying e0,run_underlying e1,eqlInt_run e0,eqlInt_run e1]
  by_cases hac : a=c
  ·subst hac; by_cases hbd : b=d
   ·subst hbd; simp
   ·simp [hbd]
  ·simp [hac]
theorem eql2_run {t : TypeId} {fs : Array Field} (ht : P.underlying t=some (.struct fs)) (hi : allInts P 0 fs.toList=true) (hs : P.stoodInHeld t=false)
  (h2 : fs.size=2) (k1 k2 : IntKind) (a b c d : Int) :
  (Op.equal t (.agg #[.int k1 a,.int k2 b]) (.agg #[.int k1 c,.int k2 d])).run P w=.ok (decide (a=c) && decide (b=d)) w :=
 eql2_in ht hi hs h2 k1 k2 a b c d 9998
end
end Go.AW
namespace Go.AW
open Go.RowKit
section
variable {P : Program} {g : Gh} {B : Nat} {H : Heap} {w : World}
theorem WRel.obj (hW : WRel g B H w) {id b cap sz f : Nat} {cs : List AV} (hio : g.io id=some (.blk b cap)) (ho : H.get id=some (.cells sz cs f)) :
  ∃ c el,w.heap[b]? = some (.cells c el (0,0))∧B≤b∧f≤cs.length∧cs.length≤maxL∧c.size=cap*sz∧cs.length≤c.size∧∀ i,i<cs.length→VRel g (cs.getD i nv) (c.getD i undef):=by
 obtain ⟨p,hp,hr⟩:=hW.ob id _ ho;rw [hio] at hp; cases hp;simp only [ObjRel] at hr
 obtain ⟨h1,h2,h3,h4,c,el,h5,h6,h7,h8⟩:=hr;exact ⟨c,el,h5,h1,h2,h3,h6,h7,h8⟩
theorem getD_some {c : Array Value} {i : Nat} (h : i<c.size) : c[i]? = some (c.getD i undef):=by simp [Array.getD,h]
theorem load_ref (hW : WRel g B H w) {t : TypeId} {n : Option Nat} (h : aggOf P t=some n) {id off : Nat} {v : Value} (hv : VRel g (.ref id off) v) {K : Kont}
  (hk : rd1 (H.get id) n off K H) : ∃ u,(Instr.loadAt t v).run P w=.ok u w∧FinV g B w K u w:=by
 cases hv
 rename_i b cap hio
 cases ho : H.get id with
 | none=>simp [ho,rd1] at hk
 | some o =>
  cases o with
  | map ks vs=>cases n <;> simp [ho,rd1] at hk
  | cells sz cs f =>
   obtain ⟨c,el,h5,_,_,_,h6,h7,h8⟩:=hW.obj hio ho
   cases n with
   | none =>
    simp only [ho,rd1] at hk
    obtain ⟨k1,k2⟩:=hk
    have hc : w.cell? ⟨b,off,none⟩=some (c.getD off undef):=by rw [cell_of_row w b off c el _ h5]; exact getD_some (by omega)
    refine ⟨c.getD off undef, ?_,.same hW (h8 off k1) k2⟩;simp only [Instr.loadAt,Instr.sureAddr,loadVar,Sem.run_bind,Sem.run_pure,Result.andThen_ok,aggOf_scalar h];simp only [Bool.false_eq_true,if_false,run_load,hc]
   | some n =>
    simp only [ho,rd1] at hk
    obtain ⟨k1,k2⟩:=hk
    obtain ⟨h1,i,h2,h3⟩:=aggOf_agg (w:=w) h
    have hl:=run_loadCells (P:=P) w ⟨b,off,none⟩ n (fun j=>c.getD (off+j) undef) (fun j hj=>by
     rw [Addr.add_lit,cell_of_row w b (off+j) c el _ h5]; exact getD_some (by omega))
    refine ⟨.agg ((List.range n).map fun j=>c.getD (off+j) undef).toArray, ?_,.same hW (.agg _ _ ?_ ?_) k2⟩
    ·simp only [Instr.loadAt,Instr.sureAddr,loadVar,Sem.run_bind,Sem.run_pure,Result.andThen_ok,h1,if_true,sizeOf,typeInfo,run_program,h2,h3];simp only [hl,Result.andThen_ok,Sem.run_pure']
    ·simp; omega
    ·intro j hj
     have hj' : j<n:=by simp at hj; omega
     have e1 : ((cs.drop off).take n).getD j nv=cs.getD (off+j) nv:=by simp [List.getD_eq_getElem?_getD,hj']
     have e2 : (((List.range n).map fun j=>c.getD (off+j) undef).toArray).getD j undef=c.getD (off+j) undef:=by simp [Array.getD,hj']
     rw [e1,e2];exact h8 _ (by omega)
theorem WRel.store (hW : WRel g B H w) {id b cap sz f off : Nat} {cs : List AV} (hio : g.io id=some (.blk b cap)) (ho : H.get id=some (.cells sz cs f))
  {vs : List AV} {us : List Value} (h1 : f≤off) (h2 : off+vs.length≤cs.length) (hl : us.length=vs.length) (h3 : ∀ c,c∈vs→c.one=true)
  (hv : ∀ i,i<vs.length→VRel g (vs.getD i nv) (us.getD i undef)) :
  ∃ w',(storeCells ⟨b,off,none⟩ us).run P w=.ok () w'∧WRel g B (H.set id (.cells sz (wr cs off vs) f)) w'∧Below B w w':=by
 obtain ⟨c,el,h5,hb,hf,hm,h6,h7,h8⟩:=hW.obj hio ho
 have hone : ∀ u∈us,u.oneCell'=true:=by
  intro u hu
  obtain ⟨i,hi,rfl⟩:=List.getElem_of_mem hu
  have:=hv i (by omega)
  have e1 : us.getD i undef=us[i]:=by simp [List.getD_eq_getElem?_getD,hi]
  rw [e1] at this;refine this.one (h3 _ ?_)
  have : vs.getD i nv=vs[i]'(by omega):=by simp [List.getD_eq_getElem?_getD,show i<vs.length by omega]
  rw [this]; simp
 have hr:=run_storeCells_at P b off el us 0 c w h5 (by omega) hone;simp only [Nat.add_zero] at hr;refine ⟨_,hr, ?_, ?_⟩
 ·refine hW.write id b cap sz cs _ f c _ el ho hio h5 (setRow_heap w b c _ el _ h5) (by simp [World.setRow]) (fun k hk=>setRow_other w b k _ hk) ?_ ?_ ?_ ?_ ?_ ?_
  ·simp; omega
  ·intro k hk
   have : k<off:=by omega
   simp [List.getElem?_append,show k<min off c.size by omega,this]
  ·rw [wr_length]; exact hf
  ·rw [wr_length]; exact hm
  ·rw [wr_length]; simp; omega
  ·intro k hk;rw [wr_length] at hk;rw [wr_getD _ _ _ _ h2]
   have key : ((c.toList.take off++us++c.toList.drop (off+us.length)).toArray).getD k undef=if off≤k∧k<off+vs.length then us.getD (k - off) undef else c.getD k undef:=by
    simp only [Array.getD_eq_getD_getElem?,List.getElem?_toArray,List.getD_eq_getElem?_getD]
    by_cases a1 : k<off
    ·rw [if_neg (by omega),List.append_assoc,List.getElem?_append_left (by simp; omega)]
     simp [a1]
    ·by_cases a2 : k<off+us.length
     ·rw [if_pos (by omega),List.append_assoc,List.getElem?_append_right (by simp; omega),List.getElem?_append_left (by simp; omega)]
      simp [show min off c.size=off by omega]
     ·rw [if_neg (by omega),List.getElem?_append_right (by simp; omega)];simp only [List.length_append,List.length_take,Array.length_toList,List.getElem?_drop];rw [show off+us.length+(k - (min off c.size+us.length))=k by omega]
      simp
   rw [key]
   split
   ·exact hv _ (by omega)
   ·exact h8 k hk
 ·exact ⟨rfl,rfl,rfl,by simp [World.setRow],fun k hk=>setRow_other w b k _ (by omega),Nat.le_refl _⟩
theorem store_ref (hW : WRel g B H w) {t : TypeId} {i : TypeInfo} (hi : P.info? t=some i) {id off : Nat} {p u : Value} {av : AV} (hp : VRel g (.ref id off) p) (hu : VRel g av u) {K : Kont}
  (hk : st1 (H.get id) id off i.size av.cells K H) : ∃ w',(Instr.storeAt t p u).run P w=.ok () w'∧FinV g B w K undef w':=by
 cases hp
 rename_i b cap hio
 cases ho : H.get id with
 | none=>simp [ho,st1] at hk
 | some o =>
  cases o with
  | map ks vs=>simp [ho,st1] at hk
  | cells sz cs f =>
   simp only [ho,st1] at hk
   obtain ⟨⟨k1,k2,k3,k4⟩,k5⟩:=hk
   obtain ⟨c1,c2⟩:=hu.cells
   obtain ⟨w',r1,r2,r3⟩:=hW.store (P:=P) hio ho (vs:=av.cells) (us:=u.cells.toList) k1 (by omega) (by simpa using c1) k4 (fun i hi=>by simpa using c2 i hi);refine ⟨w', ?_,g,nv,_,.refl g,k5,.tup [] #[] rfl (fun i hi=>by simp at hi),r2,r3⟩
   have hs : ¬ (u.cells.size≠i.size):=by omega
   simp only [Instr.storeAt,Instr.sureAddr,storeVar,Sem.run_bind,Sem.run_pure,Result.andThen_ok,sizeOf,typeInfo,run_program,hi,hs,if_false,r1]
theorem newObj_sound (hW : WRel g B H w) (c : Array Value) (el : TypeId) (sz cap n : Nat) (cs : List AV) (hm : cs.length≤maxL) (hc : c.size=cap*sz) (hl : cs.length≤c.size)
  (hv : ∀ k,k<cs.length→VRel g (cs.getD k nv) (c.getD k undef)) {K : Kont} (hk : newBuf n sz cs K H) :
  FinV g B w K (.slice (some ⟨w.heap.size,0,none⟩) n cap) (w.alloc (.cells c el)):=by
 obtain ⟨i,h1,h2⟩:=hW.fresh
 obtain ⟨k1,k2⟩:=hW.alloc_ob i h1 c el sz cap cs hm hc hl hv;exact ⟨_,_,_,k1,hk i h2,.buf i n _ cap (Gh.io_addO _ _ _),k2,(Below.refl B w).alloc hW.base _⟩
theorem newRef_sound (hW : WRel g B H w) (c : Array Value) (el : TypeId) (sz : Nat) (cs : List AV) (hm : cs.length≤maxL) (hc : c.size=sz) (hl : cs.length=sz)
  (hv : ∀ k,k<cs.length→VRel g (cs.getD k nv) (c.getD k undef)) {K : Kont} (hk : newRef sz cs K H) :
  FinV g B w K (.pointer (some ⟨w.heap.size,0,none⟩)) (w.alloc (.cells c el)):=by
 obtain ⟨i,h1,h2⟩:=hW.fresh
 obtain ⟨k1,k2⟩:=hW.alloc_ob i h1 c el sz 1 cs hm (by omega) (by omega) hv;exact ⟨_,_,_,k1,hk i h2,.ref i 0 _ 1 (Gh.io_addO _ _ _),k2,(Below.refl B w).alloc hW.base _⟩
theorem litW_sound {σ : Env} {a : Act} (hW : WRel g B H w) (hE : ERel g σ a.tmps) {t : TypeId} {x : TypeId × TypeInfo} (he : elemOf' P t=some x) {z : List AV} (hz : zerosOf P x.1=some z)
  {n : Nat} {parts : Array (Nat × Operand)} {xs : List X} (hx : inOrder 0 parts.toList=some xs) (hn : xs.length=n) (hmax : n*x.2.size≤16777216) {K : Kont}
  (hk : litWW x.2.size (vals σ xs) K H) :
  ∃ v w',(Instr.buildSlice t n (parts.map fun x=>(x.1,a.eval x.2))).run P w=.ok v w'∧FinV g B w K v w':=by
 cases hv : vals σ xs with
 | none=>simp [hv,litWW] at hk
 | some as =>
  simp only [hv,litWW] at hk
  obtain ⟨⟨hok,hm⟩,hk⟩:=hk
  obtain ⟨out,h1,h2,h3,h4⟩:=lit_run (P:=P) (w:=w) hE he hz hx hn hmax hv hok
  have hfl:=flat_length hok;subst h3;exact ⟨_,_,h1,newObj_sound hW out x.1 x.2.size as.length as.length (flat as) (by simp only [maxL]; omega) h2 (by omega) h4 hk⟩
theorem boxW_sound (hW : WRel g B H w) {t : TypeId} {n : Nat} {oav : Option AV} {av : AV} {v : Value} (hoav : oav=some av) (hv : VRel g av v) {K : Kont} (hk : boxWW n oav K H) :
  ∃ u w',(Instr.box t v).run P w=.ok u w'∧FinV g B w K u w':=by
 subst hoav
 obtain ⟨⟨h1,h2⟩,hk⟩:=hk
 obtain ⟨c1,c2⟩:=hv.cells;exact ⟨_,_,by simp [Instr.box,newVar,newRow],newRef_sound hW v.cells t n av.cells (by omega) (by omega) h1 c2 hk⟩
theorem alloc_sound (hW : WRel g B H w) {t : TypeId} {z : List AV} (hz : zerosOf P t=some z) (hm : z.length≤maxL) {K : Kont} (hk : newRef z.length z K H) :
  ∃ u w',(Instr.alloc t true (.tuple #[])).run P w=.ok u w'∧FinV g B w K u w':=by
 obtain ⟨i,zv,h1,h2,h3,h4,h5⟩:=consts_of_zero hz;exact ⟨_,_,by simp [Instr.alloc,zeroValue,typeInfo,h1,h2,newVar,newRow],newRef_sound hW zv.cells t z.length z hm (by omega) rfl (h5 g) hk⟩
theorem rep_length (z : List AV) : ∀ n,(rep n z).length=n*z.length
 | 0=>by simp [rep]
 | n+1=>by simp [rep,rep_length z n,Nat.add_mul,Nat.add_comm]
theorem rep_getD (z : List AV) : ∀ n k,k<n*z.length→(rep n z).getD k nv=z.getD (k % z.length) nv
 | 0,k,h=>by simp at h
 | n+1,k,h=>by
  have hz : 0<z.length:=by
   rcases Nat.eq_zero_or_pos z.length with e | e
   ·simp [e] at h
   ·exact e
  simp only [rep];rw [list_getD_append]
  by_cases hk : k<z.length
  ·rw [if_pos hk,Nat.mod_eq_of_lt hk]
  ·rw [if_neg hk,rep_getD z n (k - z.length) (by rw [Nat.add_mul] at h; omega)];rw [← Nat.mod_eq_sub_mod (by omega)]
theorem mks_sound (hW : WRel g B H w) {t : TypeId} {x : TypeId × TypeInfo} (he : elemOf' P t=some x) {z : List AV} (hz : zerosOf P x.1=some z) (hb : x.2.bytes≤256)
  {ol oc : Option AV} {lv cv : AV} {l c : Value} (hol : ol=some lv) (hoc : oc=some cv) (hl : VRel g lv l) (hc : VRel g cv c) {K : Kont} (hk : mksW x.2.size z ol oc K H) :
  ∃ u w',(Instr.makeSlice t l c).run P w=.ok u w'∧FinV g B w K u w':=by
 subst hol hoc
 cases hl <;> try (simp [mksW] at hk; done)
 cases hc <;> try (simp [mksW] at hk; done)
 rename_i k1 l k2 c
 simp only [mksW] at hk
 obtain ⟨⟨p1,p2,p3,p4⟩,hk⟩:=hk
 obtain ⟨h1,h2,h3⟩:=elemOf_some he
 obtain ⟨i,zv,q1,q2,q3,q4,q5⟩:=consts_of_zero hz;rw [h2] at q1; cases q1;simp only [maxL] at p3
 have hbc : (x.2.bytes : Int)*c≤281474976710656:=by
  have hc' : c≤1099511627776:=by omega
  have : (x.2.bytes : Int)*c≤256*1099511627776:=Int.mul_le_mul (by omega) hc' (by omega) (by omega);omega
 have hr:=run_make (P:=P) w t x.1 x.2 zv h1 h2 q2 k1 k2 l c p1 p2 hbc (by omega)
 have hlc : l.toNat*x.2.size≤c.toNat*x.2.size:=Nat.mul_le_mul_right _ (by omega);refine ⟨_,_,hr,newObj_sound hW _ x.1 x.2.size c.toNat l.toNat (rep l.toNat z) ?_ ?_ ?_ ?_ hk⟩
 ·rw [rep_length,q3]; exact p4
 ·rw [size_madeCells]
 ·rw [rep_length,size_madeCells,q3]; exact hlc
 ·intro k hk';rw [rep_length] at hk';rw [rep_getD _ _ _ hk']
  have hk2 : k<c.toNat*x.2.size:=by rw [q3] at hk'; omega
  have hzl : 0<z.length:=by omega
  have hm : k % z.length<z.length:=Nat.mod_lt _ hzl
  have e1 : (madeCells zv.cells (c.toNat*x.2.size)).getD k undef=zv.cells.getD (k % z.length) undef:=by
   simp only [madeCells,Array.getD_eq_getD_getElem?];rw [Array.getElem?_map,Array.getElem?_range];rw [if_pos hk2];simp only [Option.map_some,Option.getD_some];rw [q4,← q3]
   simp [getElem!_def,show k % z.length<zv.cells.size by omega]
  rw [e1];exact q5 g _ hm
theorem clr_sound (hW : WRel g B H w) {t ty : TypeId} {x : TypeId × TypeInfo} (he : elemOf' P t=some x) {z : List AV} (hz : zerosOf P x.1=some z) {v : AV} {u : Value} (hv : VRel g v u) {K : Kont} (hk : clrW z (some v) K H) :
  ∃ w',(Builtin.clear_ #[t] ty #[u]).run P w=.ok (.tuple #[]) w'∧FinV g B w K (.tuple #[]) w':=by
 cases hv <;> try (simp [clrW] at hk; done)
 rename_i id off n b cap c hio
 simp only [clrW] at hk
 obtain ⟨hn,hk⟩:=hk
 obtain ⟨h1,h2,h3⟩:=elemOf_some he
 obtain ⟨i,zv,q1,q2,q3,q4,q5⟩:=consts_of_zero hz;rw [h2] at q1; cases q1
 cases ho : H.get id with
 | none=>simp [ho,st1] at hk
 | some o =>
  cases o with
  | map ks vs=>simp [ho,st1] at hk
  | cells sz cs f =>
   simp only [ho,st1] at hk
   obtain ⟨⟨k1,k2,k3,k4⟩,k5⟩:=hk
   have hzc : (Builtin.zeroCells zv.cells n).toList.length=(rep n z).length:=by simp [Builtin.zeroCells,rep_length,q3,q4]
   obtain ⟨w',r1,r2,r3⟩:=hW.store (P:=P) hio ho (vs:=rep n z) (us:=(Builtin.zeroCells zv.cells n).toList) k1 (by rw [rep_length]; exact k2) hzc k4 (fun i hi=>by
    rw [rep_length] at hi;rw [rep_getD _ _ _ hi]
    have hzl : 0<z.length:=by omega
    have hm : i % z.length<z.length:=Nat.mod_lt _ hzl
    have hi2 : i<n*zv.cells.size:=by rw [q4,← q3]; exact hi
    have e1 : (Builtin.zeroCells zv.cells n).toList.getD i undef=zv.cells.getD (i % z.length) undef:=by
     simp only [Builtin.zeroCells,Array.toList_map,Array.toList_range,List.getD_eq_getElem?_getD,List.getElem?_map,Array.getD_eq_getD_getElem?];rw [List.getElem?_range hi2];simp only [Option.map_some,Option.getD_some];rw [q4,← q3]
     simp [getElem!_def,show i % z.length<zv.cells.size by omega]
    rw [e1];exact q5 g _ hm)
   refine ⟨w', ?_,g,nv,_,.refl g,k5,.tup [] #[] rfl (fun i hi=>by simp at hi),r2,r3⟩
   obtain ⟨m,rfl⟩ : ∃ m,n=m+1:=⟨n - 1,by omega⟩
   simp [Builtin.clear_,run_underlying h1,zeroValue,typeInfo,h2,q2,r1]
end
end Go.AW
namespace Go.AW
open Go.RowKit
section
variable {P : Program} {g : Gh} {B : Nat} {H : Heap} {w : World}
theorem src_sound (hW : WRel g B H w) {sz : Nat} {av : AV} {v : Value} (hv : VRel g av v) {p : Prop} {m : Nat} {new : List AV} (hs : srcOf sz (some av) H=some (p,m,new)) (hp : p) :
  ∃ (ax : Option Addr) (cap : Nat) (news : List Value),v=.slice ax m cap∧news.length=m*sz∧new.length=m*sz∧(∀ i,i<new.length→VRel g (new.getD i nv) (news.getD i undef)) ∧
   (∀ u∈news,u.oneCell'=true)∧(∀ c∈new,c.one=true) ∧
   ∀ w',w'.heap=w.heap→(Builtin.firstCells sz m v).run P w'=.ok news.toArray w':=by
 have hcl : ∀ {w' : World},w'.heap=w.heap→∀ a,w'.cell? a=w.cell? a:=fun {w'} e a=>by simp only [World.cell?,e]
 cases hv <;> simp only [srcOf,Option.some.injEq,Prod.mk.injEq,reduceCtorEq] at hs
 case nilsl =>
  obtain ⟨rfl,rfl,rfl⟩:=hs;exact ⟨none,0,[],rfl,by simp,by simp,by simp,by simp,by simp,fun w' _=>by simp [Builtin.firstCells]⟩
 case slnil a cap =>
  obtain ⟨rfl,rfl,rfl⟩:=hs;refine ⟨a,cap,[],rfl,by simp,by simp [flat],by simp [flat],by simp,by simp [flat],fun w' _=>?_⟩
  cases a <;> simp [Builtin.firstCells,loadCells,loadCellsFrom]
 case sl es b o sz' cap vs hm _ hsz hf hv =>
  obtain ⟨rfl,rfl,rfl⟩:=hs
  have hszz : es.length=0∨sz'=sz:=by
   rcases Nat.eq_zero_or_pos es.length with h | h
   ·exact .inl h
   ·right
    have h1:=hsz 0 h
    have h2:=(hp (es.getD 0 nv) (by simp [List.getD_eq_getElem?_getD,h])).1;omega
  have hfl:=flat_length hp
  have hrel : ∀ i,i<es.length*sz→g.fz b (o+i)=some (vs i)∧VRel g ((flat es).getD i nv) (vs i):=by
   intro i hi
   have hz : 0<sz:=by
    rcases Nat.eq_zero_or_pos sz with h | h
    ·simp [h] at hi
    ·exact h
   have hd : i / sz<es.length:=by rw [Nat.div_lt_iff_lt_mul hz]; exact hi
   have hr : i % sz<sz:=Nat.mod_lt _ hz
   have he : i / sz*sz+i % sz=i:=by rw [Nat.mul_comm]; exact Nat.div_add_mod i sz
   have hz' : sz'=sz:=by
    rcases hszz with h | h
    ·exact absurd hd (by rw [h]; exact Nat.not_lt_zero _)
    ·exact h
   subst hz'
   have h1:=hf (i / sz') (i % sz') hd hr
   have h2:=hv (i / sz') (i % sz') hd hr;rw [he] at h1 h2;refine ⟨h1, ?_⟩
   have h3:=flat_getD hp (i / sz') (i % sz') hd hr;rw [he] at h3;rw [h3]; exact h2
  refine ⟨some ⟨b,o,none⟩,cap,(List.range (es.length*sz)).map vs,rfl,by simp,hfl, ?_, ?_,flat_one hp, ?_⟩
  ·intro i hi;rw [hfl] at hi
   have : ((List.range (es.length*sz)).map vs).getD i undef=vs i:=by simp [List.getD_eq_getElem?_getD,hi]
   rw [this]; exact (hrel i hi).2
  ·intro u hu;simp only [List.mem_map,List.mem_range] at hu
   obtain ⟨i,hi,rfl⟩:=hu;refine (hrel i hi).2.one (flat_one hp _ ?_)
   simp [List.getD_eq_getElem?_getD,show i<(flat es).length by omega]
  ·intro w' hw';simp only [Builtin.firstCells];exact run_loadCells w' ⟨b,o,none⟩ _ vs fun j hj=>by rw [Addr.add_lit,hcl hw']; exact hW.fz _ _ _ (hrel j hj).1
 case bufnil id hio =>
  cases ho : H.get id with
  | none=>simp [ho,srcB] at hs
  | some o =>
   cases o with
   | map ks vs=>simp [ho,srcB] at hs
   | cells sz' cs f =>
    simp only [ho,srcB,Option.some.injEq,Prod.mk.injEq] at hs
    obtain ⟨rfl,rfl,rfl⟩:=hs;exact absurd hp.1.2.2 (by simp)
 case buf id n b cap hio =>
  cases ho : H.get id with
  | none=>simp [ho,srcB] at hs
  | some o =>
   cases o with
   | map ks vs=>simp [ho,srcB] at hs
   | cells sz' cs f =>
    simp only [ho,srcB,Option.some.injEq,Prod.mk.injEq] at hs
    obtain ⟨rfl,rfl,rfl⟩:=hs
    obtain ⟨⟨rfl,hl,h0⟩,hone⟩:=hp
    obtain ⟨c,el,h5,_,_,_,h6,h7,h8⟩:=hW.obj hio ho
    have hg : ∀ i,i<n*sz'→((List.range (n*sz')).map fun j=>c.getD j undef).getD i undef=c.getD i undef:=fun i hi=>by simp [List.getD_eq_getElem?_getD,hi]
    refine ⟨some ⟨b,0,none⟩,cap,(List.range (n*sz')).map fun j=>c.getD j undef,rfl,by simp,hl, ?_, ?_,hone, ?_⟩
    ·intro i hi;rw [hg i (by omega)]; exact h8 i hi
    ·intro u hu;simp only [List.mem_map,List.mem_range] at hu
     obtain ⟨i,hi,rfl⟩:=hu;refine (h8 i (by omega)).one (hone _ ?_)
     simp [List.getD_eq_getElem?_getD,show i<cs.length by omega]
    ·intro w' hw';simp only [Builtin.firstCells]
     exact run_loadCells w' ⟨b,0,none⟩ _ _ fun j hj=>by
      rw [Addr.add_lit,Nat.zero_add,hcl hw',cell_of_row w b j c el _ h5]; exact getD_some (by omega)
theorem cells_oneL {c : AV} (h : c.one=true) : c.cells=[c]:=by cases c <;> first | rfl | simp [AV.one] at h
theorem flat_oneL : ∀ {es : List AV},(∀ c,c∈es→c.one=true)→flat es=es
 | [],_=>rfl
 | e::r,h=>by rw [flat,cells_oneL (h e (by simp)),flat_oneL fun c hc=>h c (by simp [hc])]; rfl
theorem cpy_sound (hW : WRel g B H w) {t t' ty : TypeId} {x : TypeId × TypeInfo} (he : elemOf' P t=some x) (hz : x.2.size=1) {a b : AV} {u v : Value} (ha : VRel g a u) (hb : VRel g b v) {K : Kont} (hk : cpyW (some a) (some b) K H) :
  ∃ r w',(Builtin.copy_ #[t,t'] ty #[u,v]).run P w=.ok r w'∧FinV g B w K r w':=by
 obtain ⟨h1,h2,h3⟩:=elemOf_some he
 cases a <;> try (simp [cpyW] at hk; done)
 rename_i id n
 cases b <;> try (simp [cpyW] at hk; done)
 rename_i es
 simp only [cpyW] at hk
 obtain ⟨⟨hn,hl⟩,hk⟩:=hk
 cases ho : H.get id with
 | none=>simp [ho,st1] at hk
 | some o =>
  cases o with
  | map ks vs=>simp [ho,st1] at hk
  | cells sz cs f =>
   simp only [ho,st1] at hk
   obtain ⟨⟨k1,k2,k3,k4⟩,k5⟩:=hk
   obtain ⟨ax,c,news,rfl,l1,l2,hr,ho1,-,hfc⟩:=src_sound (P:=P) hW hb (sz:=1) (p:=okEls 1 es) (m:=es.length) (new:=flat es) rfl fun e he=>⟨by rw [cells_oneL (k4 e he)]; rfl,fun c hc=>by rw [cells_oneL (k4 e he),List.mem_singleton] at hc; rw [hc]; exact k4 e he⟩;rw [flat_oneL k4] at hr
   cases ha with
   | bufnil _ _=>omega
   | buf _ _ b cap hio =>
    obtain ⟨w',r1,r2,r3⟩:=hW.store (P:=P) hio ho (vs:=es) (us:=news) k1 (by omega) (by omega) k4 hr;refine ⟨goInt n,w', ?_,g,.int .i64 n,_,.refl g,k5,.int _ _,r2,r3⟩
    have hfc':=hfc w rfl;rw [hl] at hfc'
    simp [Builtin.copy_,run_underlying h1,sizeOf,typeInfo,h2,hz,Builtin.lenOf,hl,hfc',r1]
theorem app_room {w : World} (t ty e : TypeId) (i : TypeInfo) (ht : P.underlying t=some (.slice e)) (hi : P.info? e=some i)
  (b n cap : Nat) (cur : Array Value) (el : TypeId) (hg : w.heap[b]? = some (.cells cur el (0,0))) (ax : Option Addr) (m c : Nat) (news : List Value)
  (hf : (Builtin.firstCells i.size m (.slice ax m c)).run P w=.ok news.toArray w) (hl : news.length=m*i.size) (h1 : ∀ u∈news,u.oneCell'=true)
  (hroom : n+m≤cap) (hfit : n*i.size+news.length≤cur.size) :
  (Builtin.append_ #[t,t] ty #[.slice (some ⟨b,0,none⟩) n cap,.slice ax m c]).run P w =
   .ok (.slice (some ⟨b,0,none⟩) (n+m) cap) (w.setRow b (cur.toList.take (n*i.size)++news++cur.toList.drop (n*i.size+news.length)).toArray):=by
 have hst:=run_storeCells_at P b (n*i.size) el news 0 cur w hg (by simpa using hfit) h1;simp only [Nat.add_zero] at hst
 simp [Builtin.append_,run_underlying ht,sizeOf,typeInfo,hi,Builtin.lenOf,hroom,hf,Addr.add_lit,hst]
theorem app_grow {w : World} (t ty e : TypeId) (i : TypeInfo) (z : Value) (ht : P.underlying t=some (.slice e)) (hi : P.info? e=some i) (hz : i.zero=some z)
  (s : Option Addr) (n cap : Nat) (olds : List Value) (ax : Option Addr) (m c : Nat) (news : List Value)
  (ho : (Builtin.firstCells i.size n (.slice s n cap)).run P w.drew=.ok olds.toArray w.drew)
  (hf : (Builtin.firstCells i.size m (.slice ax m c)).run P w.drew=.ok news.toArray w.drew)
  (hg : cap<n+m) (h63 : n+m≤maxL) (hs : (n+m)*i.size≤maxL) (hb : i.bytes≤128*i.size) :
  (Builtin.append_ #[t,t] ty #[.slice s n cap,.slice ax m c]).run P w =
   .ok (.slice (some ⟨w.heap.size,0,none⟩) (n+m) (grownCap w (n+m) cap e))
    (w.drew.alloc (.cells (olds.toArray++news.toArray++Builtin.zeroCells z.cells (grownCap w (n+m) cap e - (n+m))) e)):=by
 have hn : ¬ (n+m≤cap):=by omega
 have h63' : ¬ (9223372036854775807<((n : Int)+(m : Int))):=by simp only [maxL] at h63; omega
 have hb' : (n+m)*i.bytes≤140737488355328:=by
  have h1 : (n+m)*i.bytes≤(n+m)*(128*i.size):=Nat.mul_le_mul_left _ hb
  have h2 : (n+m)*(128*i.size)=128*((n+m)*i.size):=by rw [Nat.mul_left_comm]
  simp only [maxL] at hs;omega
 have h48' : ¬ (281474976710656<Builtin.nextslicecap (n+m) cap*i.bytes):=by have:=growslice_fits hg hb'; omega
 simp [Builtin.append_,run_underlying ht,sizeOf,typeInfo,zeroValue,hi,hz,Builtin.lenOf,hn,h63',h48',Question.forced,ho,hf,newRow,grownCap]
 congr 2
 apply Array.ext'
 simp
theorem grow_fin (hW : WRel g B H w) {H' : Heap} (hsub : H'.sub H) (cap0 : Nat) (e : TypeId) (sz n m f : Nat) (cs new : List AV) (olds news : List Value) (z : Array Value)
  (h1 : olds.length=n*sz) (h2 : news.length=m*sz) (h3 : cs.length=n*sz) (h4 : new.length=m*sz) (hz : z.size=sz) (hm : (n+m)*sz≤maxL)
  (ho : ∀ i,i<cs.length→VRel g (cs.getD i nv) (olds.getD i undef)) (hn : ∀ i,i<new.length→VRel g (new.getD i nv) (news.getD i undef)) (hf : f≤cs.length) {K : Kont}
  (hk : ∀ id',H.get id'=none→K (.buf id' (n+m)) (H'.set id' (.cells sz (cs++new) f))) :
  FinV g B w K (.slice (some ⟨w.heap.size,0,none⟩) (n+m) (grownCap w (n+m) cap0 e))
   (w.drew.alloc (.cells (olds.toArray++news.toArray++Builtin.zeroCells z (grownCap w (n+m) cap0 e - (n+m))) e)):=by
 have hge:=grownCap_ge w (n+m) cap0 e
 obtain ⟨i,q1,q2⟩:=hW.fresh
 have hlen : (cs++new).length=(n+m)*sz:=by rw [List.length_append,h3,h4,Nat.add_mul]
 have hsz : (olds.toArray++news.toArray++Builtin.zeroCells z (grownCap w (n+m) cap0 e - (n+m))).size=grownCap w (n+m) cap0 e*sz:=by
  simp only [Array.size_append,List.size_toArray,size_zeroCells,hz,h1,h2,← Nat.add_mul]
  congr 1
  omega
 have hcap : (n+m)*sz≤grownCap w (n+m) cap0 e*sz:=Nat.mul_le_mul_right _ hge
 have hv : ∀ k,k<(cs++new).length→VRel g ((cs++new).getD k nv) ((olds.toArray++news.toArray++Builtin.zeroCells z (grownCap w (n+m) cap0 e - (n+m))).getD k undef):=by
  intro k hk';rw [list_getD_append]
  have e1 : (olds.toArray++news.toArray++Builtin.zeroCells z (grownCap w (n+m) cap0 e - (n+m))).getD k undef=(olds++news).getD k undef:=by
   simp only [Array.getD_eq_getD_getElem?,List.getD_eq_getElem?_getD];rw [Array.getElem?_append_left (by simp [h1,h2]; rw [hlen,Nat.add_mul] at hk'; omega)]
   simp
  rw [e1,list_getD_append]
  by_cases hk2 : k<cs.length
  ·rw [if_pos hk2,if_pos (by omega)]; exact ho k hk2
  ·rw [if_neg hk2,if_neg (by omega),h3,h1];simp only [List.length_append] at hk'
   have:=hn (k - cs.length) (by omega);rw [h3] at this;exact this
 obtain ⟨k1,k2⟩:=(hW.drew.sub hsub).alloc_ob i q1 (olds.toArray++news.toArray++Builtin.zeroCells z (grownCap w (n+m) cap0 e - (n+m))) e sz (grownCap w (n+m) cap0 e) (cs++new)
  (by rw [hlen]; exact hm) hsz (by rw [hlen,hsz]; exact hcap) hv
 have hK:=hk i q2;refine ⟨_,_,_,k1,hK,.buf i (n+m) _ _ (Gh.io_addO _ _ _), ?_,((Below.refl B w).drew).alloc hW.base _⟩
 obtain ⟨hfz,hfm,hob,hinj,hinjm,hbase,hfin⟩:=k2;refine ⟨hfz,hfm,fun j o ej=>?_, ?_, ?_,hbase,hfin⟩
 ·by_cases hj : j=i
  ·subst hj
   simp at ej; subst ej
   obtain ⟨p,hp,hr⟩:=hob j (.cells sz (cs++new) 0) (by simp);refine ⟨p,hp, ?_⟩;rw [Gh.io_addO] at hp; cases hp;simp only [ObjRel] at hr ⊢
   obtain ⟨a1,a2,a3,a4,a5⟩:=hr;exact ⟨a1,by rw [List.length_append]; omega,a3,fun o ho'=>a4 o (Nat.zero_le _),a5⟩
  ·exact hob j o (by rw [Heap.get_set_ne _ _ hj] at ej ⊢; exact ej)
 ·intro a b' c c1 c2 hne e1 e2
  have fix : ∀ x,((H'.set i (.cells sz (cs++new) f)).get x).isSome→((H'.set i (.cells sz (cs++new) 0)).get x).isSome:=by
   intro x hx
   by_cases hxi : x=i
   ·subst hxi; simp
   ·rw [Heap.get_set_ne _ _ hxi] at hx ⊢; exact hx
  exact hinj a b' c c1 c2 hne (fix _ e1) (fix _ e2)
 ·intro a b' c hne e1 e2
  have fix : ∀ x,((H'.set i (.cells sz (cs++new) f)).get x).isSome→((H'.set i (.cells sz (cs++new) 0)).get x).isSome:=by
   intro x hx
   by_cases hxi : x=i
   ·subst hxi; simp
   ·rw [Heap.get_set_ne _ _ hxi] at hx ⊢; exact hx
  exact hinjm a b' c hne (fix _ e1) (fix _ e2)
theorem nil_fin (hW : WRel g B H w) {H' : Heap} (hsub : H'.sub H) (sz : Nat) {K : Kont} (hk : ∀ id',H.get id'=none→K (.buf id' 0) (H'.set id' (.cells sz [] 0))) :
  FinV g B w K (.slice none 0 0) w:=by
 obtain ⟨i,q1,q2⟩:=hW.fresh
 obtain ⟨k1,k2⟩:=(hW.sub hsub).addO i q1 .nil (.cells sz [] 0) (fun b hb=>by cases hb) (by simp [ObjRel]);exact ⟨_,_,_,k1,hk i q2,.bufnil i (Gh.io_addO _ _ _),k2,.refl B w⟩
theorem append_sound (hW : WRel g B H w) {t ty : TypeId} {x : TypeId × TypeInfo} (he : elemOf' P t=some x) {z : List AV} (hz : zerosOf P x.1=some z) (hb : x.2.bytes≤128*x.2.size)
  {os ox : Option AV} {sv xv : AV} {s u : Value} (hos : os=some sv) (hox : ox=some xv) (hs : VRel g sv s) (hx : VRel g xv u) {K : Kont} (hk : appW x.2.size os ox K H) :
  ∃ v w',(Builtin.append_ #[t,t] ty #[s,u]).run P w=.ok v w'∧FinV g B w K v w':=by
 subst hos hox
 obtain ⟨h1,h2,h3⟩:=elemOf_some he
 obtain ⟨i,zv,q1,q2,q3,q4,q5⟩:=consts_of_zero hz;rw [h2] at q1; cases q1
 cases hs <;> try (simp [appW] at hk; done)
 case nilsl =>
  simp only [appW] at hk
  cases hsrc : srcOf x.2.size (some xv) H with
  | none=>simp [hsrc,app1] at hk
  | some q =>
   obtain ⟨p,m,new⟩:=q;simp only [hsrc,app1] at hk
   obtain ⟨⟨m1,m2,hp⟩,hk⟩:=hk
   obtain ⟨ax,c,news,rfl,l1,l2,hr,ho1,-,hfc⟩:=src_sound (P:=P) hW hx hsrc hp
   rcases Nat.eq_zero_or_pos m with hm0 | hm0
   ·subst hm0
    have hn0 : new=[]:=List.eq_nil_of_length_eq_zero (by simpa using l2)
    have hn1 : news=[]:=List.eq_nil_of_length_eq_zero (by simpa using l1);subst hn0 hn1
    have hfc':=hfc w rfl;refine ⟨.slice none 0 0,w, ?_,nil_fin hW (.refl H) x.2.size hk⟩
    simp [Builtin.append_,run_underlying h1,sizeOf,typeInfo,h2,Builtin.lenOf,hfc']
   ·have ho : (Builtin.firstCells x.2.size 0 (.slice none 0 0)).run P w.drew=.ok ([] : List Value).toArray w.drew:=by simp [Builtin.firstCells]
    have hr':=app_grow (P:=P) (w:=w) t ty x.1 x.2 zv h1 h2 q2 none 0 0 [] ax m c news ho (hfc w.drew rfl) (by omega) (by simpa using m1) (by simpa using m2) hb;refine ⟨_,_,hr', ?_⟩;refine grow_fin hW (.refl H) 0 x.1 x.2.size 0 m 0 [] new [] news zv.cells (by simp) l1 (by simp) l2 q4 (by simpa using m2) (by simp) hr (by simp) ?_
    intro id' hid
    simpa using hk id' hid
 case emsl a0 =>
  simp only [appW] at hk
  cases hsrc : srcOf x.2.size (some xv) H with
  | none=>simp [hsrc,app0] at hk
  | some q =>
   obtain ⟨p,m,new⟩:=q;simp only [hsrc,app0] at hk
   obtain ⟨⟨hm0,m1,m2,hp⟩,hk⟩:=hk
   obtain ⟨ax,c,news,rfl,l1,l2,hr,ho1,-,hfc⟩:=src_sound (P:=P) hW hx hsrc hp
   have ho : (Builtin.firstCells x.2.size 0 (.slice a0 0 0)).run P w.drew=.ok ([] : List Value).toArray w.drew:=by cases a0 <;> simp [Builtin.firstCells,loadCells,loadCellsFrom]
   have hr':=app_grow (P:=P) (w:=w) t ty x.1 x.2 zv h1 h2 q2 a0 0 0 [] ax m c news ho (hfc w.drew rfl) (by omega) (by simpa using m1) (by simpa using m2) hb;refine ⟨_,_,hr', ?_⟩;refine grow_fin hW (.refl H) 0 x.1 x.2.size 0 m 0 [] new [] news zv.cells (by simp) l1 (by simp) l2 q4 (by simpa using m2) (by simp) hr (by simp) ?_
   intro id' hid
   simpa using hk id' hid
 case bufnil id hio =>
  simp only [appW] at hk
  cases hg : H.get id with
  | none=>simp [hg,app2] at hk
  | some o =>
   cases o with
   | map ks vs=>simp [hg,app2] at hk
   | cells sz' cs f =>
    cases hsrc : srcOf x.2.size (some xv) H with
    | none=>simp [hsrc,hg,app2] at hk
    | some q =>
     obtain ⟨p,m,new⟩:=q;simp only [hsrc,hg,app2] at hk
     obtain ⟨⟨rfl,n1,n2,n3,hp⟩,hk⟩:=hk
     have hcs : cs=[]:=List.eq_nil_of_length_eq_zero (by simpa using n1);subst hcs
     obtain ⟨p0,hp0,hr0⟩:=hW.ob id _ hg;rw [hio] at hp0; cases hp0;simp only [ObjRel] at hr0
     obtain ⟨-,rfl⟩:=hr0
     have hsub : (H.del id).sub H:=fun k x e=>by
      by_cases hk : k=id
      ·subst hk; rw [Heap.get_del_same] at e; cases e
      ·rwa [Heap.get_del_ne _ hk] at e
     obtain ⟨ax,c,news,rfl,l1,l2,hr,ho1,-,hfc⟩:=src_sound (P:=P) hW hx hsrc hp
     rcases Nat.eq_zero_or_pos m with hm0 | hm0
     ·subst hm0
      have hn0 : new=[]:=List.eq_nil_of_length_eq_zero (by simpa using l2)
      have hn1 : news=[]:=List.eq_nil_of_length_eq_zero (by simpa using l1);subst hn0 hn1
      have hfc':=hfc w rfl;refine ⟨.slice none 0 0,w, ?_,nil_fin hW hsub x.2.size (fun id' hid=>by simpa using hk id' hid)⟩
      simp [Builtin.append_,run_underlying h1,sizeOf,typeInfo,h2,Builtin.lenOf,hfc']
     ·have ho : (Builtin.firstCells x.2.size 0 (.slice none 0 0)).run P w.drew=.ok ([] : List Value).toArray w.drew:=by simp [Builtin.firstCells]
      have hr':=app_grow (P:=P) (w:=w) t ty x.1 x.2 zv h1 h2 q2 none 0 0 [] ax m c news ho (hfc w.drew rfl) (by omega) (by simpa using n2) (by simpa using n3) hb;refine ⟨_,_,hr', ?_⟩;refine grow_fin hW hsub 0 x.1 x.2.size 0 m 0 [] new [] news zv.cells (by simp) l1 (by simp) l2 q4 (by simpa using n3) (by simp) hr (by simp) ?_
      intro id' hid
      simpa using hk id' hid
 case buf id n b cap hio =>
  simp only [appW] at hk
  cases hg : H.get id with
  | none=>simp [hg,app2] at hk
  | some o =>
   cases o with
   | map ks vs=>simp [hg,app2] at hk
   | cells sz' cs f =>
    cases hsrc : srcOf x.2.size (some xv) H with
    | none=>simp [hsrc,hg,app2] at hk
    | some q =>
     obtain ⟨p,m,new⟩:=q;simp only [hsrc,hg,app2] at hk
     obtain ⟨⟨rfl,n1,n2,n3,hp⟩,hk⟩:=hk
     obtain ⟨ax,c,news,rfl,l1,l2,hr,ho1,hnone,hfc⟩:=src_sound (P:=P) hW hx hsrc hp
     obtain ⟨cur,el,k5,hB,kf,km,k6,k7,k8⟩:=hW.obj hio hg
     have hlen : (cs++new).length=(n+m)*x.2.size:=by rw [List.length_append,n1,l2,Nat.add_mul]
     by_cases hroom : n+m≤cap
     ·have hmul : (n+m)*x.2.size≤cap*x.2.size:=Nat.mul_le_mul_right _ hroom
      have hfit : n*x.2.size+news.length≤cur.size:=by rw [l1,k6,← Nat.add_mul]; exact hmul
      have hr':=app_room (P:=P) (w:=w) t ty x.1 x.2 h1 h2 b n cap cur el k5 ax m c news (hfc w rfl) l1 ho1 hroom hfit;refine ⟨_,_,hr', ?_⟩
      have hW1 : WRel g B (H.set id (.cells x.2.size (cs++new) f)) (w.setRow b (cur.toList.take (n*x.2.size)++news++cur.toList.drop (n*x.2.size+news.length)).toArray):=by
       refine hW.write id b cap x.2.size cs _ f cur _ el hg hio k5 (setRow_heap w b cur _ el _ k5) (by simp [World.setRow]) (fun k hk=>setRow_other w b k _ hk) ?_ ?_ ?_ ?_ ?_ ?_
       ·simp; omega
       ·intro k hk'
        have : k<n*x.2.size:=by omega
        simp [List.getElem?_append,show k<min (n*x.2.size) cur.size by omega,this]
       ·simp; omega
       ·rw [hlen]; exact n3
       ·rw [hlen]; simp; omega
       ·intro k hk';rw [list_getD_append]
        have e1 : ((cur.toList.take (n*x.2.size)++news++cur.toList.drop (n*x.2.size+news.length)).toArray).getD k undef =
          if k<n*x.2.size then cur.getD k undef else news.getD (k - n*x.2.size) undef:=by
         rw [hlen,Nat.add_mul] at hk';simp only [Array.getD_eq_getD_getElem?,List.getElem?_toArray,List.getD_eq_getElem?_getD]
         by_cases a1 : k<n*x.2.size
         ·rw [if_pos a1,List.append_assoc,List.getElem?_append_left (by simp; omega)]
          simp [a1]
         ·rw [if_neg a1,List.append_assoc,List.getElem?_append_right (by simp; omega),List.getElem?_append_left (by simp; omega)]
          simp [show min (n*x.2.size) cur.size=n*x.2.size by omega]
        rw [e1,n1]
        by_cases a1 : k<n*x.2.size
        ·rw [if_pos a1,if_pos a1]; exact k8 k (by omega)
        ·rw [if_neg a1,if_neg a1]; exact hr _ (by rw [hlen,Nat.add_mul] at hk'; omega)
      obtain ⟨i',e1,e2⟩:=hW.fresh
      obtain ⟨r1,r2⟩:=hW1.rename id i' (.cells x.2.size (cs++new) f) (.blk b cap) (by simp) hio e1;refine ⟨_,_,_,r1,hk i' e2,.buf i' (n+m) b cap (Gh.io_addO _ _ _),r2.sub ?_,⟨rfl,rfl,rfl,by simp [World.setRow],fun k hk'=>setRow_other w b k _ (by omega),Nat.le_refl _⟩⟩
      intro k o e
      by_cases hki : k=i'
      ·subst hki; simpa using e
      ·rw [Heap.get_set_ne _ _ hki] at e ⊢
       by_cases hkid : k=id
       ·subst hkid; rw [Heap.get_del_same] at e; cases e
       ·rw [Heap.get_del_ne _ hkid] at e ⊢;rw [Heap.get_set_ne _ _ hkid]; exact e
     ·have hsub : (H.del id).sub H:=fun k x e=>by
       by_cases hk : k=id
       ·subst hk; rw [Heap.get_del_same] at e; cases e
       ·rwa [Heap.get_del_ne _ hk] at e
      have ho : (Builtin.firstCells x.2.size n (.slice (some ⟨b,0,none⟩) n cap)).run P w.drew=.ok ((List.range (n*x.2.size)).map fun j=>cur.getD j undef).toArray w.drew:=by
       simp only [Builtin.firstCells];refine run_loadCells w.drew ⟨b,0,none⟩ _ _ fun j hj=>?_;rw [Addr.add_lit,Nat.zero_add]
       have : w.cell? ⟨b,j,none⟩=some (cur.getD j undef):=by rw [cell_of_row w b j cur el _ k5]; exact getD_some (by omega)
       simpa using this
      have hr':=app_grow (P:=P) (w:=w) t ty x.1 x.2 zv h1 h2 q2 (some ⟨b,0,none⟩) n cap _ ax m c news ho (hfc w.drew rfl) (by omega) n2 n3 hb;refine ⟨_,_,hr', ?_⟩;refine grow_fin hW hsub cap x.1 x.2.size n m f cs new _ news zv.cells (by simp) l1 n1 l2 q4 n3 ?_ hr kf hk
      intro j hj
      have : ((List.range (n*x.2.size)).map fun j=>cur.getD j undef).getD j undef=cur.getD j undef:=by simp [List.getD_eq_getElem?_getD,show j<n*x.2.size by omega]
      rw [this]; exact k8 j hj
 case tbuf id n b cap hio =>
  simp only [appW] at hk
  cases hg : H.get id with
  | none=>simp [hg,app3] at hk
  | some o =>
   cases o with
   | map ks vs=>simp [hg,app3] at hk
   | cells sz' cs f =>
    cases hsrc : srcOf x.2.size (some xv) H with
    | none=>simp [hsrc,hg,app3] at hk
    | some q =>
     obtain ⟨p,m,new⟩:=q;simp only [hsrc,hg,app3] at hk
     obtain ⟨⟨rfl,n1,n0,n2,n3,hp⟩,hk⟩:=hk
     obtain ⟨ax,c,news,rfl,l1,l2,hr,ho1,hnone,hfc⟩:=src_sound (P:=P) hW hx hsrc hp
     obtain ⟨cur,el,k5,hB,kf,km,k6,k7,k8⟩:=hW.obj hio hg
     have ho : (Builtin.firstCells x.2.size n (.slice (some ⟨b,0,none⟩) n n)).run P w.drew=.ok ((List.range (n*x.2.size)).map fun j=>cur.getD j undef).toArray w.drew:=by
      simp only [Builtin.firstCells];refine run_loadCells w.drew ⟨b,0,none⟩ _ _ fun j hj=>?_;rw [Addr.add_lit,Nat.zero_add]
      have : w.cell? ⟨b,j,none⟩=some (cur.getD j undef):=by rw [cell_of_row w b j cur el _ k5]; exact getD_some (by omega)
      simpa using this
     have hr':=app_grow (P:=P) (w:=w) t ty x.1 x.2 zv h1 h2 q2 (some ⟨b,0,none⟩) n n _ ax m c news ho (hfc w.drew rfl) (by omega) n2 n3 hb;refine ⟨_,_,hr', ?_⟩;refine grow_fin hW (.refl H) n x.1 x.2.size n m 0 cs new _ news zv.cells (by simp) l1 n1 l2 q4 n3 ?_ hr (Nat.zero_le _) hk
     intro j hj
     have : ((List.range (n*x.2.size)).map fun j=>cur.getD j undef).getD j undef=cur.getD j undef:=by simp [List.getD_eq_getElem?_getD,show j<n*x.2.size by omega]
     rw [this]; exact k8 j hj
end
end Go.AW
namespace Go.AW
open Go.RowKit
section
variable {P : Program} {g : Gh} {B : Nat} {H : Heap} {w : World}
theorem run_getObj_map' {b : Nat} {es : Array MapEntry} {clk : Nat} (h : w.heap[b]? = some (.map es clk)) : (getObj b).run P w=.ok (.map es clk) w:=by
 simp [getObj,Sem.run,h]
theorem run_setObj_map' {b : Nat} {es : Array MapEntry} {clk : Nat} (o : Obj) (h : w.heap[b]? = some (.map es clk)) :
  (setObj b o).run P w=.ok () { w with heap:=w.heap.setIfInBounds b o }:=by
 simp [setObj,Sem.run,h]
theorem byteArr_beq (l l' : List UInt8) : ((⟨l.toArray⟩ : ByteArray) == ⟨l'.toArray⟩)=decide (l=l'):=by
 have h : ((⟨l.toArray⟩ : ByteArray) == ⟨l'.toArray⟩)=(l.toArray == l'.toArray):=rfl;rw [h,Bool.eq_iff_iff]
 simp
def keyDesc (s : Nat) : TypeDesc→Bool
 | .int _=>s == 0
 | .string=>s == 1
 | _=>false
def keyOk (P : Program) (s : Nat) (kt : TypeId) : Prop:=∃ d,P.underlying kt=some d∧(keyDesc s d=true∨s=2∧∃ fs,d=.struct fs∧pairT P kt fs=true)
theorem sameNow_sound {s : Nat} {d : TypeDesc} (hd : keyDesc s d=true) {k a : AV} {kv av : Value} (hk : VRel g k kv) (ha : VRel g a av) (hl : k.keyLike s a=true) :
  Instr.sameNow d kv av=some (k.keq a):=by
 cases hk <;> try (simp [AV.keyLike] at hl; done)
 ·cases ha <;> try (simp [AV.keyLike] at hl; done)
  simp [AV.keyLike] at hl
  obtain ⟨rfl,rfl⟩:=hl
  cases d <;> simp [keyDesc] at hd
  simp [Instr.sameNow,AV.keq];rw [Bool.eq_iff_iff]; simp
 ·cases ha <;> try (simp [AV.keyLike] at hl; done)
  simp [AV.keyLike] at hl;subst hl
  cases d <;> simp [keyDesc] at hd
  rename_i l l'
  simp only [Instr.sameNow,AV.keq,Option.some.injEq];exact byteArr_beq l l'
 ·exfalso
  have hs : s=2:=by
   unfold AV.keyLike at hl
   split at hl
   ·cases ‹AV.agg _=AV.int _ _›
   ·cases ‹AV.agg _=AV.str _›
   ·simp only [Bool.and_eq_true,beq_iff_eq] at hl; exact hl.1
   ·cases hl
  subst hs
  cases d <;> simp [keyDesc] at hd
def mfind (k : AV) : List AV→Nat→Option Nat
 | [],_=>none
 | a::ks,i=>if k.keq a then some i else mfind k ks (i+1)
theorem findNow_sound {s : Nat} {d : TypeDesc} (hd : keyDesc s d=true) {k : AV} {kv : Value} (hk : VRel g k kv) :
  ∀ (ks : List AV) (es : List MapEntry) (i : Nat),es.length=ks.length→(∀ j,j<ks.length→VRel g (ks.getD j nv) (es.getD j default).key)→(∀ a,a∈ks→k.keyLike s a=true) →
   Instr.findNow d kv es i=some ((mfind k ks i).map fun j=>(j,(es.getD (j - i) default).val))
 | [],[],i,_,_,_=>by simp [Instr.findNow,mfind]
 | [],_::_,_,h,_,_=>by simp at h
 | _::_,[],_,h,_,_=>by simp at h
 | a::ks,e::es,i,h,hr,hl=>by
  have h0:=hr 0 (by simp);simp only [List.getD_cons_zero] at h0
  have hs:=sameNow_sound hd hk h0 (hl a (by simp));simp only [Instr.findNow,hs,mfind]
  cases hq : k.keq a with
  | true=>simp
  | false =>
   simp only [Bool.false_eq_true,if_false];rw [findNow_sound hd hk ks es (i+1) (by simpa using h) (fun j hj=>by simpa using hr (j+1) (by simpa using hj)) (fun x hx=>hl x (by simp [hx]))]
   cases hm : mfind k ks (i+1) with
   | none=>simp
   | some j =>
    have : ∀ (l : List AV) (n j : Nat),mfind k l n=some j→n≤j:=by
     intro l
     induction l with
     | nil=>intro n j h; simp [mfind] at h
     | cons b l ih =>
      intro n j h;simp only [mfind] at h
      split at h
      ·cases h; omega
      ·have:=ih _ _ h; omega
    have hj:=this _ _ _ hm
    have e1 : j - i=(j - (i+1))+1:=by omega
    simp [e1]
theorem mget_find (k : AV) : ∀ (ks vs : List AV) (n : Nat),vs.length=ks.length→mget k ks vs=(mfind k ks n).map fun j=>vs.getD (j - n) nv
 | [],vs,n,_=>by simp [mget,mfind]
 | a::ks,[],n,h=>by simp at h
 | a::ks,v::vs,n,h=>by
  simp only [mget,mfind]
  split
  ·simp
  ·rw [mget_find k ks vs (n+1) (by simpa using h)]
   cases hm : mfind k ks (n+1) with
   | none=>simp
   | some j =>
    have : ∀ (l : List AV) (n j : Nat),mfind k l n=some j→n≤j:=by
     intro l
     induction l with
     | nil=>intro n j h; simp [mfind] at h
     | cons b l ih =>
      intro n j h;simp only [mfind] at h
      split at h
      ·cases h; omega
      ·have:=ih _ _ h; omega
    have hj:=this _ _ _ hm
    have e1 : j - n=(j - (n+1))+1:=by omega
    simp [e1]
theorem mfind_lt (k : AV) : ∀ (ks : List AV) (n j : Nat),mfind k ks n=some j→n≤j∧j<n+ks.length∧k.keq (ks.getD (j - n) nv)=true
 | [],n,j,h=>by simp [mfind] at h
 | a::ks,n,j,h=>by
  simp only [mfind] at h
  split at h
  ·rename_i hq; cases h; simp [hq]
  ·obtain ⟨h1,h2,h3⟩:=mfind_lt k ks (n+1) j h
   have e1 : j - n=(j - (n+1))+1:=by omega
   refine ⟨by omega,by simp; omega,by rw [e1]; simpa using h3⟩
theorem mput_find (k x : AV) : ∀ (ks vs : List AV) (n : Nat),vs.length=ks.length →
  mput k x ks vs=match mfind k ks n with
   | some j=>(ks.set (j - n) k,vs.set (j - n) x)
   | none=>(ks++[k],vs++[x])
 | [],[],n,_=>by simp [mput,mfind]
 | [],_::_,n,h=>by simp at h
 | a::ks,[],n,h=>by simp at h
 | a::ks,v::vs,n,h=>by
  simp only [mput,mfind]
  split
  ·simp
  ·rw [mput_find k x ks vs (n+1) (by simpa using h)]
   cases hm : mfind k ks (n+1) with
   | none=>simp
   | some j =>
    obtain ⟨h1,_⟩:=mfind_lt k ks (n+1) j hm
    have e1 : j - n=(j - (n+1))+1:=by omega
    simp [e1]
theorem checkKey_plain {d : TypeDesc} {s : Nat} (hd : keyDesc s d=true) {t : TypeId} (ht : P.underlying t=some d) (em : Bool) (n : Nat) (v : Value) : (Instr.checkKey em (n+1) t v).run P w=.ok () w:=by
 unfold Instr.checkKey;simp only [Sem.run_bind,run_underlying ht,Result.andThen_ok]
 cases d <;> simp [keyDesc] at hd <;> rfl
theorem checkKey_pair {kt : TypeId} {fs : Array Field} (ht : P.underlying kt=some (.struct fs)) (hp : pairT P kt fs=true) (em : Bool) (n : Nat) (k1 k2 : IntKind) (a b : Int) :
  (Instr.checkKey em (n+2) kt (.agg #[.int k1 a,.int k2 b])).run P w=.ok () w:=by
 simp only [pairT,Bool.and_eq_true,beq_iff_eq] at hp
 obtain ⟨⟨hi,hs⟩,h2⟩:=hp
 obtain ⟨l⟩:=fs
 match l,h2 with
 | [f0,f1],_ =>
  simp only [allInts,Bool.and_eq_true,beq_iff_eq,bne_iff_ne,ne_eq] at hi
  obtain ⟨⟨⟨⟨ho0,hu0⟩,hz0⟩,hn0⟩,⟨⟨⟨ho1,hu1⟩,hz1⟩,hn1⟩,-⟩:=hi
  have e0 : ∃ k,P.underlying f0.type=some (.int k):=by split at hu0 <;> simp_all
  have e1 : ∃ k,P.underlying f1.type=some (.int k):=by split at hu1 <;> simp_all
  obtain ⟨q0,e0⟩:=e0
  obtain ⟨q1,e1⟩:=e1
  have c0 : ∀ v,(Instr.checkKey em (n+1) f0.type v).run P w=.ok () w:=fun v=>checkKey_plain (s:=0) (d:=.int q0) rfl e0 em n v
  have c1 : ∀ v,(Instr.checkKey em (n+1) f1.type v).run P w=.ok () w:=fun v=>checkKey_plain (s:=0) (d:=.int q1) rfl e1 em n v;unfold Instr.checkKey;simp only [Sem.run_bind,run_underlying ht,Result.andThen_ok]
  simp [hn0,hn1,ho0,ho1,part,isAgg,run_underlying e0,run_underlying e1,c0,c1]
theorem pair_shape {k a : AV} {kv av : Value} (hk : VRel g k kv) (ha : VRel g a av) (hl : k.keyLike 2 a=true) :
  ∃ k1 k2 x1 x2 y1 y2,k=.agg [.int k1 x1,.int k2 x2]∧a=.agg [.int k1 y1,.int k2 y2]∧kv=.agg #[.int k1 x1,.int k2 x2]∧av=.agg #[.int k1 y1,.int k2 y2]:=by
 unfold AV.keyLike at hl
 split at hl
 ·simp at hl
 ·simp at hl
 ·rename_i k1 x1 k2 x2 l1 y1 l2 y2
  simp only [Bool.and_eq_true,beq_iff_eq,decide_eq_true_eq,true_and] at hl
  obtain ⟨rfl,rfl⟩:=hl;refine ⟨k1,k2,x1,x2,y1,y2,rfl,rfl, ?_, ?_⟩
  ·cases hk
   rename_i vs hs hvs
   have q0:=hvs 0 (by simp)
   have q1:=hvs 1 (by simp)
   obtain ⟨l⟩:=vs
   match l,hs with
   | [z0,z1],_=>simp at q0 q1; cases q0; cases q1; rfl
  ·cases ha
   rename_i vs hs hvs
   have q0:=hvs 0 (by simp)
   have q1:=hvs 1 (by simp)
   obtain ⟨l⟩:=vs
   match l,hs with
   | [z0,z1],_=>simp at q0 q1; cases q0; cases q1; rfl
 ·cases hl
theorem checkKey_run {s : Nat} {kt : TypeId} (hd : keyOk P s kt) {k : AV} {kv : Value} (hk : VRel g k kv) (hl : k.keyLike s k=true) (em : Bool) : (Instr.checkKey em 10000 kt kv).run P w=.ok () w:=by
 obtain ⟨d,hu,hd | ⟨rfl,fs,rfl,hp⟩⟩:=hd
 ·exact checkKey_plain hd hu em 9999 kv
 ·obtain ⟨k1,k2,x1,x2,y1,y2,rfl,-,rfl,-⟩:=pair_shape hk hk hl;exact checkKey_pair hu hp em 9998 k1 k2 x1 x2
theorem findAsking_run {kt : TypeId} {fs : Array Field} (ht : P.underlying kt=some (.struct fs)) (hp : pairT P kt fs=true) {k : AV} {kv : Value} (hk : VRel g k kv) :
  ∀ (ks : List AV) (es : List MapEntry) (i : Nat),es.length=ks.length→(∀ j,j<ks.length→VRel g (ks.getD j nv) (es.getD j default).key)→(∀ a,a∈ks→k.keyLike 2 a=true) →
   (Instr.findAsking kt kv es i).run P w=.ok ((mfind k ks i).map fun j=>(j,(es.getD (j - i) default).val)) w
 | [],[],i,_,_,_=>by simp [Instr.findAsking,mfind]
 | [],_::_,_,h,_,_=>by simp at h
 | _::_,[],_,h,_,_=>by simp at h
 | a::ks,e::es,i,h,hr,hl=>by
  have h0:=hr 0 (by simp);simp only [List.getD_cons_zero] at h0
  have hp':=hp;simp only [pairT,Bool.and_eq_true,beq_iff_eq,Bool.not_eq_true'] at hp'
  obtain ⟨⟨hi,hs⟩,h2⟩:=hp'
  obtain ⟨k1,k2,x1,x2,y1,y2,e1,e2,e3,e4⟩:=pair_shape hk h0 (hl a (by simp))
  have heq : (Op.equal kt kv e.key).run P w=.ok (k.keq a) w:=by
   rw [e1,e2,e3,e4];exact eql2_run ht hi hs h2 k1 k2 x1 x2 y1 y2
  simp only [Instr.findAsking,Sem.run_bind,heq,Result.andThen_ok,mfind]
  cases hq : k.keq a with
  | true=>simp
  | false =>
   simp only [Bool.false_eq_true,if_false];rw [findAsking_run ht hp hk ks es (i+1) (by simpa using h) (fun j hj=>by simpa using hr (j+1) (by simpa using hj)) (fun x hx=>hl x (by simp [hx]))]
   cases hm : mfind k ks (i+1) with
   | none=>simp
   | some j =>
    have hj:=(mfind_lt k ks (i+1) j hm).1
    have e1 : j - i=(j - (i+1))+1:=by omega
    simp [e1]
theorem find_run {s : Nat} {kt : TypeId} (hd : keyOk P s kt) {k : AV} {kv : Value} (hk : VRel g k kv) (ks : List AV) (es : List MapEntry) (hl : es.length=ks.length)
  (hr : ∀ j,j<ks.length→VRel g (ks.getD j nv) (es.getD j default).key) (hlike : ∀ a,a∈ks→k.keyLike s a=true) :
  (Instr.findKey kt kv es).run P w=.ok ((mfind k ks 0).map fun j=>(j,(es.getD j default).val)) w:=by
 obtain ⟨d,hu,hd | ⟨rfl,fs,rfl,hp⟩⟩:=hd
 ·have hfn:=findNow_sound (g:=g) hd hk ks es 0 hl hr hlike;simp only [Nat.sub_zero] at hfn;simp only [Instr.findKey,Sem.run_bind,run_underlying hu,Result.andThen_ok,hfn,Sem.run_pure]
 ·have hfa:=findAsking_run (w:=w) hu hp hk ks es 0 hl hr hlike;simp only [Nat.sub_zero] at hfa
  match ks,es,hl with
  | [],[],_=>simp [Instr.findKey,run_underlying hu,Instr.findNow,mfind]
  | a::ks,e::es,_ =>
   have h0:=hr 0 (by simp);simp only [List.getD_cons_zero] at h0
   obtain ⟨k1,k2,x1,x2,y1,y2,e1,e2,e3,e4⟩:=pair_shape hk h0 (hlike a (by simp))
   have hn : Instr.findNow (.struct fs) kv (e::es) 0=none:=by rw [e3]; simp [Instr.findNow,Instr.sameNow]
   simp only [Instr.findKey,Sem.run_bind,run_underlying hu,Result.andThen_ok,hn,hfa]
theorem lookup_run {t kt et : TypeId} (ht : P.underlying t=some (.map kt et)) {s : Nat} (hd : keyOk P s kt) {zi : TypeInfo} {zv : Value}
  (hi : P.info? et=some zi) (hz : zi.zero=some zv) {k : AV} {kv : Value} (hk : VRel g k kv) (ks vs : List AV) (es : Array MapEntry) (hl : es.size=ks.length)
  (hr : ∀ j,j<ks.length→VRel g (ks.getD j nv) (es.getD j default).key) (hself : k.keyLike s k=true) (hlike : ∀ a,a∈ks→k.keyLike s a=true) (m : Option Nat) (ok : Bool)
  (hm : (match m with | none=>es=#[] | some b=>∃ clk,w.heap[b]? = some (.map es clk))) :
  (Instr.lookup t (.map m) kv ok).run P w=.ok (if ok then .tuple #[((mfind k ks 0).map fun j=>(es.getD j default).val).getD zv,.bool (mfind k ks 0).isSome]
   else ((mfind k ks 0).map fun j=>(es.getD j default).val).getD zv) w:=by
 have hfn:=find_run (w:=w) hd hk ks es.toList (by simpa using hl) (fun j hj=>by simpa using hr j hj) hlike
 have hck : ∀ em,(Instr.checkKey em 10000 kt kv).run P w=.ok () w:=fun em=>checkKey_run hd hk hself em;unfold Instr.lookup;simp only [Sem.run_bind,run_underlying ht,Result.andThen_ok]
 cases m with
 | none =>
  simp only at hm;subst hm
  have hks : ks=[]:=List.eq_nil_of_length_eq_zero (by simpa using hl.symm);subst hks;simp only [Sem.run_pure,Result.andThen_ok,hck,Sem.run_bind,hfn]
  simp [mfind,zeroValue,typeInfo,hi,hz]
 | some b =>
  obtain ⟨clk,hb⟩:=hm;simp only [Sem.run_bind,run_getObj_map' hb,Sem.run_pure,Result.andThen_ok,hck,hfn]
  cases hq : mfind k ks 0 with
  | none=>simp [zeroValue,typeInfo,hi,hz]
  | some j=>simp
theorem lkR_rel {ok : Bool} {zero : AV} {zv : Value} (hz : VRel g zero zv) {k : AV} {ks vs : List AV} {es : Array MapEntry} (h2 : vs.length=ks.length)
  (hv : ∀ i,i<ks.length→VRel g (vs.getD i nv) (es.getD i default).val) :
  VRel g (lkR ok zero (mget k ks vs)) (if ok then .tuple #[((mfind k ks 0).map fun j=>(es.getD j default).val).getD zv,.bool (mfind k ks 0).isSome]
   else ((mfind k ks 0).map fun j=>(es.getD j default).val).getD zv):=by
 rw [mget_find k ks vs 0 h2]
 have hmain : VRel g (((mfind k ks 0).map fun j=>vs.getD (j - 0) nv).getD zero) (((mfind k ks 0).map fun j=>(es.getD j default).val).getD zv):=by
  cases hq : mfind k ks 0 with
  | none=>simpa using hz
  | some j =>
   obtain ⟨_,h1,_⟩:=mfind_lt k ks 0 j hq
   simpa using hv j (by omega)
 cases ok with
 | false=>simpa [lkR] using hmain
 | true =>
  simp only [lkR,if_true];refine .tup _ _ rfl fun i hi=>?_
  match i,hi with
  | 0,_=>exact hmain
  | 1,_=>simp only [List.getD_cons_succ,List.getD_cons_zero,Option.isSome_map]; exact .bool _
theorem lookup_sound (hW : WRel g B H w) {t kt et : TypeId} (ht : P.underlying t=some (.map kt et)) {s : Nat} (hd : keyOk P s kt) {z : AV}
  (hz : zeroOf P et=some z) {om ok' : Option AV} {mv kv : AV} {m k : Value} (hom : om=some mv) (hok' : ok'=some kv) (hm : VRel g mv m) (hkv : VRel g kv k) (ok : Bool) {K : Kont}
  (hk : lkW s ok z om ok' K H) : ∃ u,(Instr.lookup t m k ok).run P w=.ok u w∧FinV g B w K u w:=by
 subst hom hok'
 obtain ⟨zi,zv,q1,q2,q3⟩ : ∃ zi zv,P.info? et=some zi∧zi.zero=some zv∧const0 zv=some z:=by
  unfold zeroOf at hz
  split at hz
  ·rename_i zi hi
   split at hz
   ·rename_i zv hzv
    exact ⟨zi,zv,hi,hzv,hz⟩
   ·cases hz
  ·cases hz
 have hzr : VRel g z zv:=const0_rel q3
 cases hm <;> try (simp [lkW] at hk; done)
 case imapnil =>
  simp only [lkW] at hk
  obtain ⟨⟨k1,k2⟩,hk⟩:=hk;exact ⟨_,lookup_run (P:=P) ht hd q1 q2 hkv [] [] #[] rfl (by simp) k1 (by simp) none ok rfl,.same hW (lkR_rel hzr rfl (by simp)) hk⟩
 case imap ks vs b es h h1 h2 hkk hvv =>
  simp only [lkW] at hk
  obtain ⟨⟨k1,k2⟩,hk⟩:=hk;exact ⟨_,lookup_run (P:=P) ht hd q1 q2 hkv ks vs es h1 hkk k1 k2 (some b) ok ((hW.fm b es h).imp fun _ q=>q.1),.same hW (lkR_rel hzr h2 hvv) hk⟩
 case mref id b hio =>
  simp only [lkW] at hk
  cases hg : H.get id with
  | none=>simp [hg,lk1] at hk
  | some o =>
   cases o with
   | cells _ _ _=>simp [hg,lk1] at hk
   | map ks vs =>
    simp only [hg,lk1] at hk
    obtain ⟨⟨k1,k2⟩,hk⟩:=hk
    obtain ⟨p,hp,hr⟩:=hW.ob id _ hg;rw [hio] at hp; cases hp;simp only [ObjRel] at hr
    obtain ⟨_,_,es,clk,h5,h6,h7,h8,h9⟩:=hr;exact ⟨_,lookup_run (P:=P) ht hd q1 q2 hkv ks vs es h6.1 h8 k1 k2 (some b) ok ⟨clk,h5⟩,.same hW (lkR_rel hzr h7 h9) hk⟩
end
end Go.AW
namespace Go.AW
open Go.RowKit
section
variable {P : Program} {g : Gh} {B : Nat} {H : Heap} {w : World}
theorem BirthOk.push {es : Array MapEntry} {clk : Nat} {k x : Value} (h : BirthOk es clk) : BirthOk (es.push { key:=k,val:=x,born:=clk }) (clk+1):=by
 refine ⟨fun y hy=>?_, ?_⟩
 ·rw [Array.toList_push,List.mem_append] at hy
  rcases hy with hy | hy
  ·have:=h.1 y hy; omega
  ·obtain rfl:=List.mem_singleton.mp hy
   show clk<clk+1; omega
 ·rw [Array.toList_push,List.map_append,List.nodup_append];refine ⟨h.2,by simp,fun a ha b hb e=>?_⟩
  obtain ⟨y,hy,rfl⟩:=List.mem_map.mp ha
  have hb : b=clk:=by simpa using hb
  have:=h.1 y hy;omega
theorem BirthOk.of_borns {es es' : Array MapEntry} {clk : Nat} (h : BirthOk es clk) (e : es'.toList.map (·.born)=es.toList.map (·.born)) : BirthOk es' clk:=by
 refine ⟨fun y hy=>?_,by rw [e]; exact h.2⟩
 have : y.born∈es.toList.map (·.born):=by rw [← e]; exact List.mem_map_of_mem hy
 obtain ⟨z,hz,ez⟩:=List.mem_map.mp this;rw [← ez];exact h.1 z hz
theorem BirthOk.modify {es : Array MapEntry} {clk i : Nat} {k x : Value} (h : BirthOk es clk) : BirthOk (es.modify i fun e=>{ e with key:=k,val:=x }) clk:=by
 refine h.of_borns (List.ext_getElem (by simp) fun j h1 h2=>?_)
 have hj : j<es.size:=by simpa using h2
 simp only [List.getElem_map,Array.getElem_toList,Array.getElem_modify]
 split <;> rfl
theorem WRel.writeMap (h : WRel g B H w) (i b : Nat) (ks vs ks' vs' : List AV) (es es' : Array MapEntry) (clk clk' : Nat)
  (hi : H.get i=some (.map ks vs)) (hp : g.io i=some (.mp b)) (hb : w.heap[b]? = some (.map es clk))
  (hs : SzB es' clk' ks'.length) (hl : vs'.length=ks'.length) (hk : ∀ j,j<ks'.length→VRel g (ks'.getD j nv) (es'.getD j default).key)
  (hv : ∀ j,j<ks'.length→VRel g (vs'.getD j nv) (es'.getD j default).val) :
  WRel g B (H.set i (.map ks' vs')) { w with heap:=w.heap.setIfInBounds b (.map es' clk') }∧Below B w { w with heap:=w.heap.setIfInBounds b (.map es' clk') }:=by
 obtain ⟨p,hp',hr⟩:=h.ob i _ hi;rw [hp] at hp'; cases hp';simp only [ObjRel] at hr
 obtain ⟨h1,h2,es0,clk0,h5,h6,h7,h8,h9⟩:=hr
 have hblt : b<w.heap.size:=(Array.getElem?_eq_some_iff.1 hb).1
 have ho : ∀ k,k≠b→(w.heap.setIfInBounds b (.map es' clk'))[k]? = w.heap[k]? := fun k hk=>by rw [Array.getElem?_setIfInBounds_ne (by omega)]
 have hbb : (w.heap.setIfInBounds b (.map es' clk'))[b]? = some (.map es' clk'):=by simp [hblt]
 have hget : ∀ j,((H.set i (.map ks' vs')).get j).isSome→(H.get j).isSome:=by
  intro j hj
  by_cases e : j=i
  ·subst e; simp [hi]
  ·rwa [Heap.get_set_ne _ _ e] at hj
 refine ⟨?_,⟨rfl,rfl,rfl,by simp,fun k hk=>ho k (by omega),Nat.le_refl _⟩⟩
 constructor
 ·intro b' o v e
  have hc:=h.fz _ _ _ e
  have : b'≠b:=by
   rintro rfl
   simp [World.cell?,hb] at hc
  rw [World.cell?_of_block (w:=w) (a:=⟨b',o,none⟩) (ho b' this)]; exact hc
 ·intro b' es'' e
  obtain ⟨clk'',hc,hbo⟩:=h.fm b' es'' e
  have : b'≠b:=by rintro rfl; simp [h2] at e
  exact ⟨clk'',by rw [← hc]; exact ho b' this,hbo⟩
 ·intro j o e
  by_cases hj : j=i
  ·subst hj
   simp at e; subst e;refine ⟨.mp b,hp, ?_⟩;simp only [ObjRel];exact ⟨h1,h2,es',clk',hbb,hs,hl,hk,hv⟩
  ·rw [Heap.get_set_ne _ _ hj] at e
   obtain ⟨q,hq,hqr⟩:=h.ob j o e;refine ⟨q,hq,hqr.keep (Gh.le.refl g) (fun b'' hb''=>ho b'' ?_) (fun _ _ _ h=>h) (fun _ _ h=>h)⟩
   rintro rfl
   cases q with
   | nil=>cases hb''
   | mp b2=>cases hb''; exact h.injm j i _ hj (by simp [e]) (by simp [hi]) hq hp
   | blk b2 c2 =>
    cases hb''
    cases o with
    | map _ _=>simp [ObjRel] at hqr
    | cells _ _ _ =>
     simp only [ObjRel] at hqr
     obtain ⟨_,_,_,_,c,el,h5',_⟩:=hqr;rw [hb] at h5'; cases h5'
 ·intro j k b2 c2 c3 hne e1 e2;exact h.inj j k b2 c2 c3 hne (hget j e1) (hget k e2)
 ·intro j k b2 hne e1 e2;exact h.injm j k b2 hne (hget j e1) (hget k e2)
 ·simpa using h.base
 ·exact h.fin
theorem keq_same {s : Nat} {k a : AV} {kv av : Value} (hk : VRel g k kv) (ha : VRel g a av) (hl : k.keyLike s a=true) (he : k.keq a=true) : kv=av∧Instr.sameBits 10000 av kv=true:=by
 cases hk <;> try (simp [AV.keyLike] at hl; done)
 ·cases ha <;> try (simp [AV.keyLike] at hl; done)
  simp [AV.keyLike] at hl
  simp [AV.keq] at he
  obtain ⟨rfl,rfl⟩:=hl;subst he;exact ⟨rfl,by simp [Instr.sameBits]⟩
 ·cases ha <;> try (simp [AV.keyLike] at hl; done)
  simp [AV.keq] at he;subst he;exact ⟨rfl,by simp [Instr.sameBits,byteArr_beq]⟩
 ·have hs : s=2:=by
   unfold AV.keyLike at hl
   split at hl
   ·cases ‹AV.agg _=AV.int _ _›
   ·cases ‹AV.agg _=AV.str _›
   ·simp only [Bool.and_eq_true,beq_iff_eq] at hl; exact hl.1
   ·cases hl
  subst hs
  rename_i cs vs hs1 hv1
  obtain ⟨k1,k2,x1,x2,y1,y2,e1,e2,e3,e4⟩:=pair_shape (.agg cs vs hs1 hv1) ha hl;rw [e1,e2] at he;simp only [AV.keq,Bool.and_eq_true,decide_eq_true_eq] at he
  obtain ⟨rfl,rfl⟩:=he;rw [e3,e4];exact ⟨rfl,by simp [Instr.sameBits]⟩
theorem update_sound (hW : WRel g B H w) {t kt et : TypeId} (ht : P.underlying t=some (.map kt et)) {s : Nat} (hd : keyOk P s kt)
  {om ok' ox : Option AV} {mv kv xv : AV} {m k x : Value} (hom : om=some mv) (hok' : ok'=some kv) (hox : ox=some xv) (hm : VRel g mv m) (hkv : VRel g kv k) (hxv : VRel g xv x) {K : Kont}
  (hk : upW s om ok' ox K H) : ∃ w',(Instr.mapUpdate t m k x).run P w=.ok () w'∧FinV g B w K undef w':=by
 subst hom hok' hox
 cases hm <;> try (simp [upW] at hk; done)
 rename_i id b hio
 simp only [upW] at hk
 cases hg : H.get id with
 | none=>simp [hg,up1] at hk
 | some o =>
  cases o with
  | cells _ _ _=>simp [hg,up1] at hk
  | map ks vs =>
   simp only [hg,up1] at hk
   obtain ⟨⟨k1,k2⟩,hk⟩:=hk
   obtain ⟨p,hp,hr⟩:=hW.ob id _ hg;rw [hio] at hp; cases hp;simp only [ObjRel] at hr
   obtain ⟨_,_,es,clk,h5,⟨h6,hbo⟩,h7,h8,h9⟩:=hr
   have hfn:=find_run (P:=P) (w:=w) (g:=g) hd hkv ks es.toList (by simpa using h6) (fun j hj=>by simpa using h8 j hj) k2
   have hck:=checkKey_run (P:=P) (w:=w) (g:=g) hd hkv k1 false
   have hput:=mput_find kv xv ks vs 0 h7
   cases hq : mfind kv ks 0 with
   | none =>
    simp only [hq,Option.map_none] at hput hfn;refine ⟨_,by simp [Instr.mapUpdate,run_underlying ht,run_getObj_map' h5,hck,hfn,run_setObj_map' _ h5]; rfl, ?_⟩
    obtain ⟨r1,r2⟩:=hW.writeMap id b ks vs (ks++[kv]) (vs++[xv]) es (es.push { key:=k,val:=x,born:=clk }) clk (clk+1) hg hio h5 ⟨by simp [h6],hbo.push⟩ (by simp [h7])
     (fun j hj=>by
      rw [list_getD_append]
      by_cases hjk : j<ks.length
      ·rw [if_pos hjk]
       have : (es.push { key:=k,val:=x,born:=clk }).getD j default=es.getD j default:=by
        simp only [Array.getD_eq_getD_getElem?]; rw [Array.getElem?_push_lt (by omega)]; simp [show j<es.size by omega]
       rw [this]; exact h8 j hjk
      ·have hje : j=ks.length:=by simp at hj; omega
       subst hje;rw [if_neg hjk]
       have : (es.push { key:=k,val:=x,born:=clk }).getD ks.length default={ key:=k,val:=x,born:=clk }:=by
        simp [Array.getD_eq_getD_getElem?,← h6]
       rw [this]; simpa using hkv)
     (fun j hj=>by
      rw [list_getD_append,h7]
      by_cases hjk : j<ks.length
      ·rw [if_pos hjk]
       have : (es.push { key:=k,val:=x,born:=clk }).getD j default=es.getD j default:=by
        simp only [Array.getD_eq_getD_getElem?]; rw [Array.getElem?_push_lt (by omega)]; simp [show j<es.size by omega]
       rw [this]; exact h9 j hjk
      ·have hje : j=ks.length:=by simp at hj; omega
       subst hje;rw [if_neg hjk]
       have : (es.push { key:=k,val:=x,born:=clk }).getD ks.length default={ key:=k,val:=x,born:=clk }:=by
        simp [Array.getD_eq_getD_getElem?,← h6]
       rw [this]; simpa using hxv)
    rw [hput] at hk;exact ⟨g,nv,_,.refl g,hk,.tup [] #[] rfl (fun i hi=>by simp at hi),r1,r2⟩
   | some i =>
    obtain ⟨-,q2,q3⟩:=mfind_lt kv ks 0 i hq;simp only [Nat.zero_add,Nat.sub_zero] at q2 q3;simp only [hq,Nat.sub_zero,Option.map_some] at hput hfn
    have hlike : kv.keyLike s (ks.getD i nv)=true:=k2 _ (by simp [List.getD_eq_getElem?_getD,q2])
    obtain ⟨e1,e2⟩:=keq_same hkv (h8 i q2) hlike q3
    obtain ⟨ent,hes,hent⟩ : ∃ ent,es[i]? = some ent∧es.getD i default=ent:=⟨es.getD i default,by simp [Array.getD,show i<es.size by omega],rfl⟩;rw [hent] at e1 e2
    have hkey : (Instr.keyThatStays ent.key k).run P w=.ok k w:=by
     unfold Instr.keyThatStays;rw [if_pos e2]; rfl
    refine ⟨_,by simp [Instr.mapUpdate,run_underlying ht,run_getObj_map' h5,hck,hfn,hes,hkey,run_setObj_map' _ h5]; rfl, ?_⟩
    obtain ⟨r1,r2⟩:=hW.writeMap id b ks vs (ks.set i kv) (vs.set i xv) es (es.modify i fun e=>{ e with key:=k,val:=x }) clk clk hg hio h5 ⟨by simp [h6],hbo.modify⟩ (by simp [h7])
     (fun j hj=>by
      simp only [List.length_set] at hj
      by_cases hji : j=i
      ·subst hji
       have : (es.modify j fun e=>{ e with key:=k,val:=x }).getD j default={ (es.getD j default) with key:=k,val:=x }:=by
        rw [hent,Array.getD_eq_getD_getElem?,Array.getElem?_modify,if_pos rfl,hes]; rfl
       rw [this]; simp [List.getD_eq_getElem?_getD,hj]; exact hkv
      ·have : (es.modify i fun e=>{ e with key:=k,val:=x }).getD j default=es.getD j default:=by
        simp [Array.getD_eq_getD_getElem?,Array.getElem?_modify,Ne.symm hji]
       rw [this]
       have : (ks.set i kv).getD j nv=ks.getD j nv:=by simp only [List.getD_eq_getElem?_getD]; rw [List.getElem?_set_ne (by omega)]
       rw [this]; exact h8 j hj)
     (fun j hj=>by
      simp only [List.length_set] at hj
      by_cases hji : j=i
      ·subst hji
       have : (es.modify j fun e=>{ e with key:=k,val:=x }).getD j default={ (es.getD j default) with key:=k,val:=x }:=by
        rw [hent,Array.getD_eq_getD_getElem?,Array.getElem?_modify,if_pos rfl,hes]; rfl
       rw [this]; simp [List.getD_eq_getElem?_getD,hj,h7]; exact hxv
      ·have : (es.modify i fun e=>{ e with key:=k,val:=x }).getD j default=es.getD j default:=by
        simp [Array.getD_eq_getD_getElem?,Array.getElem?_modify,Ne.symm hji]
       rw [this]
       have : (vs.set i xv).getD j nv=vs.getD j nv:=by simp only [List.getD_eq_getElem?_getD]; rw [List.getElem?_set_ne (by omega)]
       rw [this]; exact h9 j hj)
    rw [hput] at hk;exact ⟨g,nv,_,.refl g,hk,.tup [] #[] rfl (fun i hi=>by simp at hi),r1,r2⟩
end
end Go.AW
