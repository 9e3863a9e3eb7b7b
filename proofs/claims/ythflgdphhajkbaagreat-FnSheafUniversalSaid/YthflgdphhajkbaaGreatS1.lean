/- Abstract values and an abstract heap, their relation to the worlds of the model, operations on them. -/
import Derived.Below
import Derived.KernelRfl
import Derived.Laws.Cells
import Derived.Laws.Build
import Derived.Laws.World
import Derived.Laws.Slices
import Derived.Laws.AppendOwn
import Derived.Laws.MakeOwn
import Derived.Calls
import Derived.WalkKit
import Derived.Laws.IdiomRangeMap
set_option linter.unusedVariables false
set_option linter.unusedSimpArgs false
set_option linter.unusedSectionVars false
namespace Go.AW
theorem gE {α : Type _} {l : List α} {i : Nat} {a : α} : l.getD i a=(l[i]?).getD a:=List.getD_eq_getElem?_getD
open Go.RowKit
structure Below (B : Nat) (w w' : World) : Prop where
 os : w'.os=w.os
 tape : w'.tape=w.tape
 output : w'.output=w.output
 size : w.heap.size≤w'.heap.size
 block : ∀ k,k<B→w'.heap[k]? = w.heap[k]?
 drawn : w.drawn≤w'.drawn
theorem Below.refl (B : Nat) (w : World) : Below B w w:=⟨rfl,rfl,rfl,Nat.le_refl _,fun _ _=>rfl,Nat.le_refl _⟩
theorem Below.trans {B : Nat} {a b c : World} (h : Below B a b) (k : Below B b c) : Below B a c :=
 ⟨k.os.trans h.os,k.tape.trans h.tape,k.output.trans h.output,Nat.le_trans h.size k.size,fun i hi=>(k.block i hi).trans (h.block i hi),Nat.le_trans h.drawn k.drawn⟩
theorem Below.drew {B : Nat} {a w : World} (h : Below B a w) : Below B a w.drew:=⟨h.os,h.tape,h.output,h.size,h.block,Nat.le_trans h.drawn (Nat.le_succ _)⟩
theorem Below.heap_alloc (w : World) (o : Obj) (k : Nat) (h : k<w.heap.size) : (w.alloc o).heap[k]? = w.heap[k]? := by
 exact Go.RowKit.Below.heap_alloc w o k h
theorem Below.alloc {B : Nat} {a w : World} (h : Below B a w) (hB : B≤w.heap.size) (o : Obj) : Below B a (w.alloc o) :=
 ⟨h.os,h.tape,h.output,((Go.RowKit.Below.refl B w).alloc hB o).size |> Nat.le_trans h.size,fun k hk=>(Below.heap_alloc w o k (by omega)).trans (h.block k hk),h.drawn⟩
inductive AV where
 | bool (b : Bool)
 | int (k : IntKind) (n : Int)
 | str (l : List UInt8)
 | G1
 | ptr (cs : List AV)
 | ref (id off : Nat)
 | Gd (cs : List AV) (id : Nat)
 | A1
 | FG
 | sl (es : List AV)
 | buf (id n : Nat)
 | sub (id off n : Nat)
 | VU (n : Nat)
 | IU (ks vs : List AV)
 | Gg (id : Nat)
 | fn (f : Fn) (ca : List AV)
 | NY
 | Rk (t : TypeId) (v : AV)
 | T7
 | agg (cs : List AV)
 | CG (vs : List AV)
 deriving Inhabited
def AV.cells : AV→List AV
 | .agg cs=>cs
 | v=>[v]
abbrev nv : AV:=.CG []
def AL : Nat:=1099511627776
inductive Place where
 | nil
 | HC (b cap : Nat)
 | mp (b : Nat)
structure Gh where
 fz : Nat→Nat→Option Value
 fm : Nat→Option (Array MapEntry)
 io : Nat→Option Place
structure Gh.le (g g' : Gh) : Prop where
 fz : ∀ b o v,g.fz b o=some v→g'.fz b o=some v
 fm : ∀ b v,g.fm b=some v→g'.fm b=some v
 io : ∀ i p,g.io i=some p→g'.io i=some p
theorem Gh.le.refl (g : Gh) : g.le g:=⟨fun _ _ _ h=>h,fun _ _ h=>h,fun _ _ h=>h⟩
theorem Gh.le.trans {a b c : Gh} (h : a.le b) (k : b.le c) : a.le c :=
 ⟨fun x y z e=>k.fz x y z (h.fz x y z e),fun x y e=>k.fm x y (h.fm x y e),fun x y e=>k.io x y (h.io x y e)⟩
inductive Ab (g : Gh) : AV→Value→Prop
 | bool (b : Bool) : Ab g (.bool b) (.bool b)
 | int (k : IntKind) (n : Int) : Ab g (.int k n) (.int k n)
 | str (l : List UInt8) : Ab g (.str l) (.string ⟨l.toArray⟩)
 | G1 : Ab g .G1 (.pointer none)
 | ptr (cs : List AV) (b o : Nat) (vs : Nat→Value)
   (hf : ∀ i,i<cs.length→g.fz b (o+i)=some (vs i))
   (hv : ∀ i,i<cs.length→Ab g (cs.getD i nv) (vs i)) : Ab g (.ptr cs) (.pointer (some ⟨b,o,none⟩))
 | ref (id off b cap : Nat) (h : g.io id=some (.HC b cap)) : Ab g (.ref id off) (.pointer (some ⟨b,off,none⟩))
 | Gd (cs : List AV) (id b cap : Nat) (vs : Nat→Value) (h : g.io id=some (.HC b cap))
   (hf : ∀ i,i<cs.length→g.fz b i=some (vs i))
   (hv : ∀ i,i<cs.length→Ab g (cs.getD i nv) (vs i)) : Ab g (.Gd cs id) (.pointer (some ⟨b,0,none⟩))
 | A1 : Ab g .A1 (.slice none 0 0)
 | FG (a : Option Addr) : Ab g .FG (.slice a 0 0)
 | slnil (a : Option Addr) (cap : Nat) : Ab g (.sl []) (.slice a 0 cap)
 | sl (es : List AV) (b o sz cap : Nat) (vs : Nat→Value) (hm : es.length≤AL) (Qh : es.length≤cap)
   (CU : ∀ i,i<es.length→(es.getD i nv).cells.length=sz)
   (hf : ∀ i j,i<es.length→j<sz→g.fz b (o+(i*sz+j))=some (vs (i*sz+j)))
   (hv : ∀ i j,i<es.length→j<sz→Ab g ((es.getD i nv).cells.getD j nv) (vs (i*sz+j))) :
   Ab g (.sl es) (.slice (some ⟨b,o,none⟩) es.length cap)
 | DX (id : Nat) (h : g.io id=some .nil) : Ab g (.buf id 0) (.slice none 0 0)
 | buf (id n b cap : Nat) (h : g.io id=some (.HC b cap)) : Ab g (.buf id n) (.slice (some ⟨b,0,none⟩) n cap)
 | sub (id off n b cap c : Nat) (h : g.io id=some (.HC b cap)) : Ab g (.sub id off n) (.slice (some ⟨b,off,none⟩) n c)
 | VU (a : Option Addr) (n cap : Nat) (h : n≤140737488355328) : Ab g (.VU n) (.slice a n cap)
 | Lo : Ab g (.IU [] []) (.map none)
 | IU (ks vs : List AV) (b : Nat) (es : Array MapEntry) (h : g.fm b=some es) (h1 : es.size=ks.length) (h2 : vs.length=ks.length)
   (hk : ∀ i,i<ks.length→Ab g (ks.getD i nv) (es.getD i default).key)
   (hv : ∀ i,i<ks.length→Ab g (vs.getD i nv) (es.getD i default).val) : Ab g (.IU ks vs) (.map (some b))
 | Gg (id b : Nat) (h : g.io id=some (.mp b)) : Ab g (.Gg id) (.map (some b))
 | fn (f : Fn) (ca : List AV) (vs : Array Value) (hs : vs.size=ca.length)
   (hv : ∀ i,i<ca.length→Ab g (ca.getD i nv) (vs.getD i undef)) : Ab g (.fn f ca) (.func f #[] vs)
 | NY : Ab g .NY .nilFunc
 | Rk (t : TypeId) (v : AV) (w : Value) (h : Ab g v w) : Ab g (.Rk t v) (.iface t w)
 | T7 : Ab g .T7 .nilIface
 | agg (cs : List AV) (vs : Array Value) (hs : vs.size=cs.length)
   (hv : ∀ i,i<cs.length→Ab g (cs.getD i nv) (vs.getD i undef)) : Ab g (.agg cs) (.agg vs)
 | CG (cs : List AV) (vs : Array Value) (hs : vs.size=cs.length)
   (hv : ∀ i,i<cs.length→Ab g (cs.getD i nv) (vs.getD i undef)) : Ab g (.CG cs) (.tuple vs)
theorem Ab.mono {g g' : Gh} (hg : g.le g') {a : AV} {v : Value} (h : Ab g a v) : Ab g' a v:=by
 induction h with
 | bool b=>exact .bool b
 | int k n=>exact .int k n
 | str l=>exact .str l
 | G1=>exact .G1
 | ptr cs b o vs hf _ ih=>exact .ptr cs b o vs (fun i hi=>hg.fz _ _ _ (hf i hi)) ih
 | ref id off b cap h=>exact .ref id off b cap (hg.io _ _ h)
 | Gd cs id b cap vs h hf _ ih=>exact .Gd cs id b cap vs (hg.io _ _ h) (fun i hi=>hg.fz _ _ _ (hf i hi)) ih
 | A1=>exact .A1
 | FG a=>exact .FG a
 | slnil a cap=>exact .slnil a cap
 | sl es b o sz cap vs hm Qh CU hf _ ih=>exact .sl es b o sz cap vs hm Qh CU (fun i j hi hj=>hg.fz _ _ _ (hf i j hi hj)) ih
 | DX id h=>exact .DX id (hg.io _ _ h)
 | buf id n b cap h=>exact .buf id n b cap (hg.io _ _ h)
 | sub id off n b cap c h=>exact .sub id off n b cap c (hg.io _ _ h)
 | VU a n cap h=>exact .VU a n cap h
 | Lo=>exact .Lo
 | IU ks vs b es h h1 h2 _ _ ihk ihv=>exact .IU ks vs b es (hg.fm _ _ h) h1 h2 ihk ihv
 | Gg id b h=>exact .Gg id b (hg.io _ _ h)
 | fn f ca vs hs _ ih=>exact .fn f ca vs hs ih
 | NY=>exact .NY
 | Rk t v w _ ih=>exact .Rk t v w ih
 | T7=>exact .T7
 | agg cs vs hs _ ih=>exact .agg cs vs hs ih
 | CG cs vs hs _ ih=>exact .CG cs vs hs ih
def Fi (g : Gh) (as : List AV) (vs : Array Value) : Prop :=
 vs.size=as.length∧∀ i,i<as.length→Ab g (as.getD i nv) (vs.getD i undef)
inductive AF where
 | cells (sz : Nat) (cs : List AV) (f : Nat)
 | map (ks vs : List AV)
abbrev AB:=List (Nat × AF)
def AB.get (H : AB) (i : Nat) : Option AF:=H.lookup i
def AB.set (H : AB) (i : Nat) (o : AF) : AB:=(i,o)::H
def AB.del (H : AB) (i : Nat) : AB:=H.filter fun x=>x.1 != i
@[simp] theorem AB.Ek (H : AB) (i : Nat) (o : AF) : (H.set i o).get i=some o:=by simp [AB.get,AB.set]
theorem AB.B1 (H : AB) {i j : Nat} (o : AF) (h : j≠i) : (H.set i o).get j=H.get j:=by
 simp only [AB.get,AB.set,List.lookup]
 have : (j == i)=false:=by simpa using h
 simp [this]
theorem AB.Cf (H : AB) (i : Nat) : (H.del i).get i=none:=by
 induction H with
 | nil=>rfl
 | cons x r ih =>
  simp only [AB.del,AB.get,List.filter_cons] at *
  by_cases h : x.1=i
  ·simp [h,ih]
  ·have h' : (i == x.1)=false:=by simpa using fun e=>h e.symm
   simp [h,List.lookup,h',ih]
theorem AB.C3 (H : AB) {i j : Nat} (hj : j≠i) : (H.del i).get j=H.get j:=by
 induction H with
 | nil=>rfl
 | cons x r ih =>
  obtain ⟨k,o⟩:=x;simp only [AB.del,AB.get,List.filter_cons] at *
  by_cases h : k=i
  ·have h' : (j == k)=false:=by simpa [h] using hj
   simp [h,List.lookup,ih];subst h; simp [h']
  ·by_cases hk : j=k
   ·subst hk; simp [h,List.lookup]
   ·have h' : (j == k)=false:=by simpa using hk
    simp [h,List.lookup,h',ih]
def AB.sub (H H' : AB) : Prop:=∀ i o,H.get i=some o→H'.get i=some o
theorem AB.sub.refl (H : AB) : H.sub H:=fun _ _ h=>h
theorem AB.sub.trans {a b c : AB} (h : a.sub b) (k : b.sub c) : a.sub c:=fun i o e=>k i o (h i o e)
theorem AB.C7 {H H' : AB} {i : Nat} (o : AF) (hi : H.get i=none) (h : H.sub H') : H.sub (H'.set i o):=fun j x e=>by
 have : j≠i:=by rintro rfl; simp [hi] at e
 rw [AB.B1 _ _ this]; exact h j x e
def Aj (g : Gh) (B : Nat) (w : World) : Place→AF→Prop
 | .nil,.cells _ cs f=>cs=[]∧f=0
 | .HC b cap,.cells sz cs f=>B≤b∧f≤cs.length∧cs.length≤AL∧(∀ o,f≤o→g.fz b o=none) ∧
   ∃ c el,w.heap[b]? = some (.cells c el (0,0))∧c.size=cap*sz∧cs.length≤c.size ∧
    ∀ i,i<cs.length→Ab g (cs.getD i nv) (c.getD i undef)
 | .mp b,.map ks vs=>B≤b∧g.fm b=none∧∃ es clk,w.heap[b]? = some (.map es clk)∧es.size=ks.length∧vs.length=ks.length ∧
   (∀ i,i<ks.length→Ab g (ks.getD i nv) (es.getD i default).key)∧∀ i,i<ks.length→Ab g (vs.getD i nv) (es.getD i default).val
 | _,_=>False
structure Ao (g : Gh) (B : Nat) (H : AB) (w : World) : Prop where
 fz : ∀ b o v,g.fz b o=some v→w.cell? ⟨b,o,none⟩=some v
 fm : ∀ b es,g.fm b=some es→∃ clk,w.heap[b]? = some (.map es clk)
 ob : ∀ i o,H.get i=some o→∃ p,g.io i=some p∧Aj g B w p o
 inj : ∀ i j b c c',i≠j→(H.get i).isSome→(H.get j).isSome→g.io i=some (.HC b c)→g.io j=some (.HC b c')→False
 HK : ∀ i j b,i≠j→(H.get i).isSome→(H.get j).isSome→g.io i=some (.mp b)→g.io j=some (.mp b)→False
 base : B≤w.heap.size
 fin : ∃ N,∀ i,N≤i→g.io i=none
theorem Ao.sub {g : Gh} {B : Nat} {H H' : AB} {w : World} (h : Ao g B H w) (s : H'.sub H) : Ao g B H' w where
 fz:=h.fz
 fm:=h.fm
 ob i o e:=h.ob i o (s i o e)
 inj i j b c c' n e1 e2:=by
  obtain ⟨o1,e1⟩:=Option.isSome_iff_exists.1 e1
  obtain ⟨o2,e2⟩:=Option.isSome_iff_exists.1 e2;exact h.inj i j b c c' n (by simp [s _ _ e1]) (by simp [s _ _ e2])
 HK i j b n e1 e2:=by
  obtain ⟨o1,e1⟩:=Option.isSome_iff_exists.1 e1
  obtain ⟨o2,e2⟩:=Option.isSome_iff_exists.1 e2;exact h.HK i j b n (by simp [s _ _ e1]) (by simp [s _ _ e2])
 base:=h.base
 fin:=h.fin
abbrev Env:=List (Nat × Option AV)
def Env.get : Env→Nat→Option AV
 | [],_=>none
 | (s,v)::r,t=>if t=s then v else Env.get r t
def Env.put (σ : Env) (d : Nat) (v : AV) : Env:=(d,some v)::σ
def Env.forget (σ : Env) (d : Nat) : Env:=(d,none)::σ
def Env.B6 : List Nat→Env→Env
 | [],_=>[]
 | t::r,σ=>(t,σ.get t)::Env.B6 r σ
theorem Env.He (s : Nat) (v : Option AV) (r : Env) (t : Nat) : Env.get ((s,v)::r) t=if t=s then v else Env.get r t:=rfl
theorem Env.Uz (l : List Nat) (σ : Env) (t : Nat) (v : AV) (h : (Env.B6 l σ).get t=some v) : σ.get t=some v:=by
 induction l with
 | nil=>simp [Env.B6,Env.get] at h
 | cons x r ih =>
  simp only [Env.B6,Env.get] at h
  split at h
  ·rename_i e; rw [e]; exact h
  ·exact ih h
def Cc (g : Gh) (σ : Env) (tm : Array Value) : Prop:=∀ t v,σ.get t=some v→t<tm.size∧Ab g v (tm.getD t undef)
theorem Cc.mono {g g' : Gh} (hg : g.le g') {σ : Env} {tm : Array Value} (h : Cc g σ tm) : Cc g' σ tm :=
 fun t v e=>⟨(h t v e).1,(h t v e).2.mono hg⟩
theorem Cc.B6 {g : Gh} {σ : Env} {tm : Array Value} (l : List Nat) (h : Cc g σ tm) : Cc g (σ.B6 l) tm :=
 fun t v e=>h t v (Env.Uz l σ t v e)
theorem Cc.put {g : Gh} {σ : Env} {tm : Array Value} (h : Cc g σ tm) {d : Nat} (hd : d<tm.size) {a : AV} {v : Value} (hv : Ab g a v) :
  Cc g (σ.put d a) (tm.setIfInBounds d v):=by
 intro t x e;simp only [Env.put,Env.get] at e
 split at e
 ·rename_i ht
  cases e;subst ht
  simp [hd,Array.getD,hv]
 ·rename_i ht
  obtain ⟨h1,h2⟩:=h t x e;refine ⟨by simpa using h1, ?_⟩
  have : (tm.setIfInBounds d v).getD t undef=tm.getD t undef:=by
   simp only [Array.getD_eq_getD_getElem?];rw [Array.getElem?_setIfInBounds_ne (by omega)]
  rw [this]; exact h2
end Go.AW
namespace Go.AW
open Go.RowKit
def Gh.Hu (g : Gh) (b n : Nat) (c : Array Value) : Gh :=
 { g with fz:=fun b' o=>if b'=b∧o<n then c[o]? else g.fz b' o }
def Gh.UH (g : Gh) (b : Nat) (es : Array MapEntry) : Gh:={ g with fm:=fun b'=>if b'=b then some es else g.fm b' }
def Gh.HD (g : Gh) (i : Nat) (p : Place) : Gh:={ g with io:=fun j=>if j=i then some p else g.io j }
theorem Gh.S9 (g : Gh) (i : Nat) (p : Place) (h : g.io i=none) : g.le (g.HD i p) :=
 ⟨fun _ _ _ h=>h,fun _ _ h=>h,fun j q hj=>by
  have : j≠i:=by rintro rfl; simp [h] at hj
  simpa [Gh.HD,this] using hj⟩
theorem Gh.EE (g : Gh) (i : Nat) (p : Place) : (g.HD i p).io i=some p:=by simp [Gh.HD]
theorem Gh.D6 (g : Gh) {i j : Nat} (p : Place) (h : j≠i) : (g.HD i p).io j=g.io j:=by simp [Gh.HD,h]
theorem Gh.dU {g : Gh} (i : Nat) (p : Place) (h : ∃ N,∀ i,N≤i→g.io i=none) : ∃ N,∀ j,N≤j→(g.HD i p).io j=none:=by
 obtain ⟨N,hN⟩:=h;exact ⟨max N (i+1),fun j hj=>by rw [Gh.D6 _ _ (by omega)]; exact hN j (by omega)⟩
def Place.block : Place→Option Nat
 | .nil=>none
 | .HC b _=>some b
 | .mp b=>some b
theorem Aj.B6 {g g' : Gh} {B : Nat} {w w' : World} {p : Place} {o : AF} (h : Aj g B w p o) (hg : g.le g')
  (hb : ∀ b,p.block=some b→w'.heap[b]? = w.heap[b]?)
  (hf : ∀ b x,p.block=some b→g.fz b x=none→g'.fz b x=none)
  (hm : ∀ b,p.block=some b→g.fm b=none→g'.fm b=none) : Aj g' B w' p o:=by
 cases p with
 | nil=>cases o <;> simp only [Aj] at h ⊢; exact h
 | HC b cap =>
  cases o with
  | cells sz cs f =>
   simp only [Aj] at h ⊢
   obtain ⟨h1,h2,h3,h4,c,el,h5,h6,h7,h8⟩:=h;exact ⟨h1,h2,h3,fun x hx=>hf b x rfl (h4 x hx),c,el,by rw [hb b rfl]; exact h5,h6,h7,fun i hi=>(h8 i hi).mono hg⟩
  | map ks vs=>simp [Aj] at h
 | mp b =>
  cases o with
  | cells sz cs f=>simp [Aj] at h
  | map ks vs =>
   simp only [Aj] at h ⊢
   obtain ⟨h1,h2,es,clk,h5,h6,h7,h8,h9⟩:=h;exact ⟨h1,hm b rfl h2,es,clk,by rw [hb b rfl]; exact h5,h6,h7,fun i hi=>(h8 i hi).mono hg,fun i hi=>(h9 i hi).mono hg⟩
theorem Aj.lt {g : Gh} {B : Nat} {w : World} {p : Place} {o : AF} (h : Aj g B w p o) {b : Nat} (hp : p.block=some b) : B≤b∧b<w.heap.size:=by
 cases p with
 | nil=>cases hp
 | HC b' cap =>
  cases o with
  | cells sz cs f =>
   simp only [Aj] at h
   cases hp
   obtain ⟨h1,h2,h3,h4,c,el,h5,_⟩:=h;exact ⟨h1,(Array.getElem?_eq_some_iff.1 h5).1⟩
  | map ks vs=>simp [Aj] at h
 | mp b' =>
  cases o with
  | cells sz cs f=>simp [Aj] at h
  | map ks vs =>
   simp only [Aj] at h
   cases hp
   obtain ⟨h1,h2,es,clk,h5,_⟩:=h;exact ⟨h1,(Array.getElem?_eq_some_iff.1 h5).1⟩
theorem Ao.YG {g : Gh} {B : Nat} {H : AB} {w : World} (h : Ao g B H w) {b o : Nat} {v : Value} (e : g.fz b o=some v) : b<w.heap.size :=
 World.block_lt_of_cell? w ⟨b,o,none⟩ (h.fz b o v e)
theorem Ao.oO {g : Gh} {B : Nat} {H : AB} {w : World} (h : Ao g B H w) (b o : Nat) (hb : w.heap.size≤b) : g.fz b o=none:=by
 cases e : g.fz b o with
 | none=>rfl
 | some v=>have:=h.YG e; omega
theorem Ao.cP {g : Gh} {B : Nat} {H : AB} {w : World} (h : Ao g B H w) {b : Nat} {es} (e : g.fm b=some es) : b<w.heap.size:=by
 obtain ⟨clk,hc⟩:=h.fm b es e;exact (Array.getElem?_eq_some_iff.1 hc).1
theorem Ao.rH {g : Gh} {B : Nat} {H : AB} {w : World} (h : Ao g B H w) (b : Nat) (hb : w.heap.size≤b) : g.fm b=none:=by
 cases e : g.fm b with
 | none=>rfl
 | some v=>have:=h.cP e; omega
theorem Ao.drew {g : Gh} {B : Nat} {H : AB} {w : World} (h : Ao g B H w) : Ao g B H w.drew where
 fz b o v e:=h.fz b o v e
 fm b es e:=h.fm b es e
 ob i o e:=by
  obtain ⟨p,hp,hr⟩:=h.ob i o e;exact ⟨p,hp,hr.B6 (Gh.le.refl g) (fun _ _=>rfl) (fun _ _ _ h=>h) (fun _ _ h=>h)⟩
 inj:=h.inj
 HK:=h.HK
 base:=h.base
 fin:=h.fin
theorem Ao.grow {g : Gh} {B : Nat} {H : AB} {w w' : World} (h : Ao g B H w) (hs : w.heap.size≤w'.heap.size)
  (hb : ∀ b,b<w.heap.size→w'.heap[b]? = w.heap[b]?) : Ao g B H w' where
 fz b o v e:=by
  have hl:=h.YG e
  have:=h.fz b o v e;rw [World.cell?_of_block (w:=w) (hb b hl)]; exact this
 fm b es e:=by
  obtain ⟨clk,hc⟩:=h.fm b es e;exact ⟨clk,by rw [hb b (h.cP e)]; exact hc⟩
 ob i o e:=by
  obtain ⟨p,hp,hr⟩:=h.ob i o e;exact ⟨p,hp,hr.B6 (Gh.le.refl g) (fun b Nb=>hb b (hr.lt Nb).2) (fun _ _ _ h=>h) (fun _ _ h=>h)⟩
 inj:=h.inj
 HK:=h.HK
 base:=by have:=h.base; omega
 fin:=h.fin
theorem Ao.alloc {g : Gh} {B : Nat} {H : AB} {w : World} (h : Ao g B H w) (x : Obj) : Ao g B H (w.alloc x) :=
 h.grow (by simp) (fun b hb=>Below.heap_alloc w x b hb)
theorem Ao.Hu {g : Gh} {B : Nat} {H : AB} {w : World} (h : Ao g B H w) (b n : Nat) (c : Array Value) (el : TypeId) (fr : Nat × Nat)
  (hb : w.heap[b]? = some (.cells c el fr))
  (ho : ∀ i p o,H.get i=some o→g.io i=some p→p.block=some b→∃ sz cs f,o=.cells sz cs f∧n≤f) :
  g.le (g.Hu b n c)∧Ao (g.Hu b n c) B H w:=by
 have hle : g.le (g.Hu b n c):=by
  refine ⟨fun b' o v e=>?_,fun _ _ h=>h,fun _ _ h=>h⟩;simp only [Gh.Hu]
  split
  ·rename_i hx
   obtain ⟨rfl,hx⟩:=hx
   have:=h.fz _ _ _ e
   rwa [cell_of_row w b' o c el fr hb] at this
  ·exact e
 refine ⟨hle, ?_⟩
 constructor
 ·intro b' o v e;simp only [Gh.Hu] at e
  split at e
  ·rename_i hx
   obtain ⟨rfl,hx⟩:=hx;rw [cell_of_row w b' o c el fr hb]; exact e
  ·exact h.fz _ _ _ e
 ·exact h.fm
 ·intro i o e
  obtain ⟨p,hp,hr⟩:=h.ob i o e;refine ⟨p,hp, ?_⟩
  by_cases VS : p.block=some b
  ·obtain ⟨sz,cs,f,rfl,hn⟩:=ho i p o e hp VS
   cases p with
   | nil=>cases VS
   | mp b'=>simp [Aj] at hr
   | HC b' cap =>
    cases VS;simp only [Aj] at hr ⊢
    obtain ⟨h1,h2,h3,h4,c',el',h5,h6,h7,h8⟩:=hr;refine ⟨h1,h2,h3,fun x hx=>?_,c',el',h5,h6,h7,fun i hi=>(h8 i hi).mono hle⟩;simp only [Gh.Hu];rw [if_neg (by omega)];exact h4 x hx
  ·refine hr.B6 hle (fun _ _=>rfl) (fun b' x Nb hx=>?_) (fun _ _ h=>h);simp only [Gh.Hu];rw [if_neg]
   ·exact hx
   ·rintro ⟨rfl,_⟩; exact VS Nb
 ·exact h.inj
 ·exact h.HK
 ·exact h.base
 ·exact h.fin
theorem Ao.Ld {g : Gh} {B : Nat} {H : AB} {w : World} (h : Ao g B H w) (c : Array Value) (el : TypeId) :
  g.le (g.Hu w.heap.size c.size c)∧Ao (g.Hu w.heap.size c.size c) B H (w.alloc (.cells c el)) :=
 (h.alloc _).Hu w.heap.size c.size c el (0,0) (World.alloc_heap_new' w c el)
  (fun i p o e hp VS=>by
   obtain ⟨p',NZ,hr⟩:=h.ob i o e;rw [hp] at NZ; cases NZ
   have:=(hr.lt VS).2; omega)
where
 World.alloc_heap_new' (w : World) (c : Array Value) (el : TypeId) : (w.alloc (.cells c el)).heap[w.heap.size]? = some (.cells c el (0,0)):=by
  show (w.heap.push _)[w.heap.size]? = _
  simp
theorem Ao.HD {g : Gh} {B : Nat} {H : AB} {w : World} (h : Ao g B H w) (i : Nat) (hi : g.io i=none) (p : Place) (o : AF)
  (hp : ∀ b,p.block=some b→∀ j q o',H.get j=some o'→g.io j=some q→q.block≠some b)
  (hr : Aj (g.HD i p) B w p o) : g.le (g.HD i p)∧Ao (g.HD i p) B (H.set i o) w:=by
 have hle:=Gh.S9 g i p hi;refine ⟨hle, ?_⟩
 have jr : ∀ j o',H.get j=some o'→j≠i:=by
  rintro j o' e rfl
  obtain ⟨q,hq,_⟩:=h.ob _ o' e
  simp [hi] at hq
 have Cj : ∀ j,((H.set i o).get j).isSome→j≠i→(H.get j).isSome:=by
  intro j hj Bp
  rwa [AB.B1 _ _ Bp] at hj
 constructor
 ·exact h.fz
 ·exact h.fm
 ·intro j o' e
  by_cases hj : j=i
  ·subst hj
   simp at e;subst e;exact ⟨p,Gh.EE _ _ _,hr⟩
  ·rw [AB.B1 _ _ hj] at e
   obtain ⟨q,hq,Mh⟩:=h.ob j o' e;exact ⟨q,by rw [Gh.D6 _ _ hj]; exact hq,Mh.B6 hle (fun _ _=>rfl) (fun _ _ _ h=>h) (fun _ _ h=>h)⟩
 ·intro j k b c c' Bp e1 e2 p1 p2
  by_cases hj : j=i
  ·subst hj
   have hk : k≠j:=fun e=>Bp e.symm;rw [Gh.EE] at p1;rw [Gh.D6 _ _ hk] at p2
   cases p1
   obtain ⟨o',e2⟩:=Option.isSome_iff_exists.1 (Cj k e2 hk);exact hp b rfl k _ o' e2 p2 rfl
  ·by_cases hk : k=i
   ·subst hk;rw [Gh.D6 _ _ hj] at p1;rw [Gh.EE] at p2
    cases p2
    obtain ⟨o',e1⟩:=Option.isSome_iff_exists.1 (Cj j e1 hj);exact hp b rfl j _ o' e1 p1 rfl
   ·rw [Gh.D6 _ _ hj] at p1;rw [Gh.D6 _ _ hk] at p2;exact h.inj j k b c c' Bp (Cj j e1 hj) (Cj k e2 hk) p1 p2
 ·intro j k b Bp e1 e2 p1 p2
  by_cases hj : j=i
  ·subst hj
   have hk : k≠j:=fun e=>Bp e.symm;rw [Gh.EE] at p1;rw [Gh.D6 _ _ hk] at p2
   cases p1
   obtain ⟨o',e2⟩:=Option.isSome_iff_exists.1 (Cj k e2 hk);exact hp b rfl k _ o' e2 p2 rfl
  ·by_cases hk : k=i
   ·subst hk;rw [Gh.D6 _ _ hj] at p1;rw [Gh.EE] at p2
    cases p2
    obtain ⟨o',e1⟩:=Option.isSome_iff_exists.1 (Cj j e1 hj);exact hp b rfl j _ o' e1 p1 rfl
   ·rw [Gh.D6 _ _ hj] at p1;rw [Gh.D6 _ _ hk] at p2;exact h.HK j k b Bp (Cj j e1 hj) (Cj k e2 hk) p1 p2
 ·exact h.base
 ·exact Gh.dU i p h.fin
theorem Ao.fresh {g : Gh} {B : Nat} {H : AB} {w : World} (h : Ao g B H w) : ∃ i,g.io i=none∧H.get i=none:=by
 obtain ⟨N,hN⟩:=h.fin;refine ⟨N,hN N (Nat.le_refl _), ?_⟩
 cases e : H.get N with
 | none=>rfl
 | some o=>obtain ⟨p,hp,_⟩:=h.ob N o e; simp [hN N (Nat.le_refl _)] at hp
theorem Ao.Pr {g : Gh} {B : Nat} {H : AB} {w : World} (h : Ao g B H w) (i : Nat) (hi : g.io i=none) (c : Array Value) (el : TypeId)
  (sz cap : Nat) (cs : List AV) (hm : cs.length≤AL) (hc : c.size=cap*sz) (hl : cs.length≤c.size) (hv : ∀ k,k<cs.length→Ab g (cs.getD k nv) (c.getD k undef)) :
  g.le (g.HD i (.HC w.heap.size cap))∧Ao (g.HD i (.HC w.heap.size cap)) B (H.set i (.cells sz cs 0)) (w.alloc (.cells c el)):=by
 refine (h.alloc _).HD i hi (.HC w.heap.size cap) (.cells sz cs 0) ?_ ?_
 ·intro b hb j q o' e hq YZ
  cases hb
  obtain ⟨q',NX,hr⟩:=h.ob j o' e;rw [hq] at NX; cases NX
  have:=(hr.lt YZ).2; omega
 ·simp only [Aj];refine ⟨h.base,Nat.zero_le _,hm,fun o _=>h.oO _ o (Nat.le_refl _),c,el,Ao.Ld.World.alloc_heap_new' w c el,hc,hl,fun k hk=>(hv k hk).mono (Gh.S9 g i _ hi)⟩
theorem Ao.Z3 {g : Gh} {B : Nat} {H : AB} {w : World} (h : Ao g B H w) (i : Nat) (hi : g.io i=none) (clk : Nat) :
  g.le (g.HD i (.mp w.heap.size))∧Ao (g.HD i (.mp w.heap.size)) B (H.set i (.map [] [])) (w.alloc (.map #[] clk)):=by
 refine (h.alloc _).HD i hi (.mp w.heap.size) (.map [] []) ?_ ?_
 ·intro b hb j q o' e hq YZ
  cases hb
  obtain ⟨q',NX,hr⟩:=h.ob j o' e;rw [hq] at NX; cases NX
  have:=(hr.lt YZ).2; omega
 ·simp only [Aj];refine ⟨h.base,h.rH _ (Nat.le_refl _),#[],clk, ?_,by simp,by simp,fun i hi=>by simp at hi,fun i hi=>by simp at hi⟩
  show (w.heap.push _)[w.heap.size]? = _
  simp
theorem Ao.write {g : Gh} {B : Nat} {H : AB} {w w' : World} (h : Ao g B H w) (i b cap sz : Nat) (cs cs' : List AV) (f : Nat) (c c' : Array Value) (el : TypeId)
  (hi : H.get i=some (.cells sz cs f)) (hp : g.io i=some (.HC b cap)) (hb : w.heap[b]? = some (.cells c el (0,0)))
  (Nb : w'.heap[b]? = some (.cells c' el (0,0))) (hs : w'.heap.size=w.heap.size) (ho : ∀ k,k≠b→w'.heap[k]? = w.heap[k]?)
  (K6 : c'.size=c.size) (HI : ∀ k,k<f→c'[k]? = c[k]?) (tz : f≤cs'.length) (hm : cs'.length≤AL) (oH : cs'.length≤c'.size)
  (hv : ∀ k,k<cs'.length→Ab g (cs'.getD k nv) (c'.getD k undef)) : Ao g B (H.set i (.cells sz cs' f)) w':=by
 obtain ⟨p,NZ,hr⟩:=h.ob i _ hi;rw [hp] at NZ; cases NZ;simp only [Aj] at hr
 obtain ⟨h1,h2,h3,h4,c0,el0,h5,h6,h7,h8⟩:=hr;rw [hb] at h5; cases h5
 have Cj : ∀ j,((H.set i (.cells sz cs' f)).get j).isSome→(H.get j).isSome:=by
  intro j hj
  by_cases e : j=i
  ·subst e; simp [hi]
  ·rwa [AB.B1 _ _ e] at hj
 constructor
 ·intro b' o v e
  have hl:=h.YG e
  by_cases bC : b'=b
  ·subst bC
   have Jt : o<f:=by
    rcases Nat.lt_or_ge o f with x | x
    ·exact x
    ·simp [h4 o x] at e
   have:=h.fz _ _ _ e;rw [cell_of_row w b' o c el (0,0) hb] at this;rw [cell_of_row w' b' o c' el (0,0) Nb,HI o Jt]; exact this
  ·rw [World.cell?_of_block (w:=w) (a:=⟨b',o,none⟩) (ho b' bC)]; exact h.fz _ _ _ e
 ·intro b' es e
  obtain ⟨clk,hc⟩:=h.fm b' es e
  have : b'≠b:=by rintro rfl; rw [hb] at hc; cases hc
  exact ⟨clk,by rw [ho b' this]; exact hc⟩
 ·intro j o e
  by_cases hj : j=i
  ·subst hj
   simp at e; subst e;refine ⟨.HC b cap,hp, ?_⟩;simp only [Aj];exact ⟨h1,tz,hm,h4,c',el,Nb,by rw [K6]; exact h6,oH,hv⟩
  ·rw [AB.B1 _ _ hj] at e
   obtain ⟨q,hq,Mh⟩:=h.ob j o e;refine ⟨q,hq,Mh.B6 (Gh.le.refl g) (fun b'' hb''=>ho b'' ?_) (fun _ _ _ h=>h) (fun _ _ h=>h)⟩
   rintro rfl
   cases q with
   | nil=>cases hb''
   | HC b2 c2 =>
    cases hb'';exact h.inj j i _ c2 cap hj (by simp [e]) (by simp [hi]) hq hp
   | mp b2 =>
    cases hb''
    cases o with
    | cells _ _ _=>simp [Aj] at Mh
    | map ks vs =>
     simp only [Aj] at Mh
     obtain ⟨_,_,es,clk,Yf,_⟩:=Mh;rw [hb] at Yf; cases Yf
 ·intro j k b2 c2 c3 Bp e1 e2;exact h.inj j k b2 c2 c3 Bp (Cj j e1) (Cj k e2)
 ·intro j k b2 Bp e1 e2;exact h.HK j k b2 Bp (Cj j e1) (Cj k e2)
 ·rw [hs]; exact h.base
 ·exact h.fin
theorem Ao.rename {g : Gh} {B : Nat} {H : AB} {w : World} (h : Ao g B H w) (i j : Nat) (o : AF) (p : Place)
  (hi : H.get i=some o) (hp : g.io i=some p) (hj : g.io j=none) :
  g.le (g.HD j p)∧Ao (g.HD j p) B ((H.del i).set j o) w:=by
 have Cs : (H.del i).sub H:=fun k x e=>by
  by_cases hk : k=i
  ·subst hk; rw [AB.Cf] at e; cases e
  ·rwa [AB.C3 _ hk] at e
 obtain ⟨q,hq,hr⟩:=h.ob i o hi;rw [hp] at hq; cases hq;refine (h.sub Cs).HD j hj p o ?_ ?_
 ·intro b hb k q o' e hq YZ
  have tI : k≠i:=by rintro rfl; rw [AB.Cf] at e; cases e
  have e' : H.get k=some o':=Cs k o' e
  obtain ⟨q',NX,Mh⟩:=h.ob k o' e';rw [hq] at NX; cases NX
  cases p with
  | nil=>cases hb
  | HC b1 c1 =>
   cases hb
   cases q with
   | nil=>cases YZ
   | HC b2 c2=>cases YZ; exact h.inj k i _ _ _ tI (by simp [e']) (by simp [hi]) hq hp
   | mp b2 =>
    cases YZ
    cases o' with
    | cells _ _ _=>simp [Aj] at Mh
    | map ks vs =>
     cases o with
     | map _ _=>simp [Aj] at hr
     | cells _ _ _ =>
      simp only [Aj] at Mh hr
      obtain ⟨_,_,es,clk,Yf,_⟩:=Mh
      obtain ⟨_,_,_,_,c,el,h5,_⟩:=hr;rw [h5] at Yf; cases Yf
  | mp b1 =>
   cases hb
   cases q with
   | nil=>cases YZ
   | mp b2=>cases YZ; exact h.HK k i _ tI (by simp [e']) (by simp [hi]) hq hp
   | HC b2 c2 =>
    cases YZ
    cases o with
    | cells _ _ _=>simp [Aj] at hr
    | map ks vs =>
     cases o' with
     | map _ _=>simp [Aj] at Mh
     | cells _ _ _ =>
      simp only [Aj] at Mh hr
      obtain ⟨_,_,es,clk,Yf,_⟩:=hr
      obtain ⟨_,_,_,_,c,el,h5,_⟩:=Mh;rw [h5] at Yf; cases Yf
 ·exact hr.B6 (Gh.S9 g j p hj) (fun _ _=>rfl) (fun _ _ _ h=>h) (fun _ _ h=>h)
theorem Ao.Zb {g : Gh} {B : Nat} {H : AB} {w : World} (h : Ao g B H w) (i b cap sz : Nat) (cs : List AV) (f : Nat)
  (hi : H.get i=some (.cells sz cs f)) (hp : g.io i=some (.HC b cap)) :
  ∃ (c : Array Value) (g' : Gh),g.le g'∧Ao g' B (H.set i (.cells sz cs cs.length)) w∧c.size=cap*sz∧cs.length≤c.size ∧
   (∀ k,k<cs.length→g'.fz b k=some (c.getD k undef))∧∀ k,k<cs.length→Ab g' (cs.getD k nv) (c.getD k undef):=by
 obtain ⟨p,NZ,hr⟩:=h.ob i _ hi;rw [hp] at NZ; cases NZ;simp only [Aj] at hr
 obtain ⟨h1,h2,h3,h4,c,el,h5,h6,h7,h8⟩:=hr
 have Cj : ∀ j,((H.set i (.cells sz cs cs.length)).get j).isSome→(H.get j).isSome:=by
  intro j hj
  by_cases e : j=i
  ·subst e; simp [hi]
  ·rwa [AB.B1 _ _ e] at hj
 have h' : Ao g B (H.set i (.cells sz cs cs.length)) w:=by
  constructor
  ·exact h.fz
  ·exact h.fm
  ·intro j o e
   by_cases hj : j=i
   ·subst hj
    simp at e; subst e;refine ⟨.HC b cap,hp, ?_⟩;simp only [Aj];exact ⟨h1,Nat.le_refl _,h3,fun o ho=>h4 o (by omega),c,el,h5,h6,h7,h8⟩
   ·rw [AB.B1 _ _ hj] at e;exact h.ob j o e
  ·intro j k b2 c2 c3 Bp e1 e2;exact h.inj j k b2 c2 c3 Bp (Cj j e1) (Cj k e2)
  ·intro j k b2 Bp e1 e2;exact h.HK j k b2 Bp (Cj j e1) (Cj k e2)
  ·exact h.base
  ·exact h.fin
 have:=h'.Hu b cs.length c el (0,0) h5 (fun j q o e hq YZ=>by
  by_cases hj : j=i
  ·subst hj; simp at e; subst e; exact ⟨_,_,_,rfl,Nat.le_refl _⟩
  ·exfalso
   rw [AB.B1 _ _ hj] at e
   cases q with
   | nil=>cases YZ
   | HC b2 c2=>cases YZ; exact h.inj j i _ _ _ hj (by simp [e]) (by simp [hi]) hq hp
   | mp b2 =>
    cases YZ
    obtain ⟨q',NX,Mh⟩:=h.ob j o e;rw [hq] at NX; cases NX
    cases o with
    | cells _ _ _=>simp [Aj] at Mh
    | map ks vs =>
     simp only [Aj] at Mh
     obtain ⟨_,_,es,clk,Yf,_⟩:=Mh;rw [h5] at Yf; cases Yf)
 refine ⟨c,_,this.1,this.2,h6,h7,fun k hk=>?_,fun k hk=>(h8 k hk).mono this.1⟩;simp only [Gh.Hu]
 simp [hk,Array.getD,show k<c.size by omega]
end Go.AW
namespace Go.AW
open Go.RowKit
inductive X where
 | t (n : Nat)
 | c (v : AV)
 deriving Inhabited
inductive Ins where
 | mv (x : X)
 | pick (c a b : X)
 | ar (op : BinOp) (k : IntKind) (x y : X)
 | aq (neg : Bool) (n : Nat) (x y : X)
 | nt (x : X)
 | conv (k : IntKind) (x : X)
 | len (x : X)
 | idx (sz : Nat) (x i : X)
 | oL (off n : Nat) (x : X)
 | v8 (n : Option Nat) (x : X)
 | n0 (x : X)
 | rU (zero : List AV) (parts : List (Nat × Nat × X))
 | prt (off : Nat) (n : Option Nat) (x : X)
 | ext (x : X) (i : Nat)
 | n5 (sz : Nat) (x : X) (lo hi : Option X)
 | tM (f : Fn) (ca : List X)
 | oA (t : TypeId) (x : X)
 | aS (sz : Nat) (xs : List X)
 | emp
 | aM (n : Nat) (x : X)
 | N8 (f : X) (xs : List X)
 | mx (VU : Bool) (x y : X)
 | wR (x : X)
 | ld (n : Option Nat) (x : X)
 | jD (z : Nat) (n : Option Nat) (x : X)
 | st (n : Nat) (p v : X)
 | TD (sz : Nat) (xs : List X)
 | TI (n : Nat) (x : X)
 | lV (zero : List AV)
 | app (sz bytes : Nat) (s x : X)
 | l8 (sz : Nat) (zero : List AV) (l c : X)
 | nR
 | bE (s : Nat) (ok : Bool) (zero : AV) (m k : X)
 | gH (s : Nat) (m k v : X)
 | call (f : X) (xs : List X)
 | Lr (f : X) (xs : List X)
 | Ll (z : Nat) (f : X) (xs : List X)
 | inv (x : X) (name : String) (xs : List X)
 | iV (neg : Bool) (x : X)
 | oE (t : TypeId) (x : X)
 deriving Inhabited
structure Cu where
 d : Option Nat
 g : Option (Nat × Bool)
 i : Ins
 deriving Inhabited
def val (σ : Env) : X→Option AV
 | .t n=>σ.get n
 | .c v=>some v
def Mp : Option AV→Option (List AV)→Option (List AV)
 | some a,some r=>some (a::r)
 | _,_=>none
def D9 (σ : Env) : List X→Option (List AV)
 | []=>some []
 | x::r=>Mp (val σ x) (D9 σ r)
def AV.one : AV→Bool
 | .agg _ | .CG _=>false
 | _=>true
def flat : List AV→List AV
 | []=>[]
 | e::r=>e.cells++flat r
def DK (sz : Nat) (es : List AV) : Prop:=∀ e,e∈es→e.cells.length=sz∧∀ c,c∈e.cells→c.one=true
def chunk (sz : Nat) : Nat→List AV→List AV
 | 0,_=>[]
 | n+1,cs=>(if sz=1 then cs.headD nv else .agg (cs.take sz))::chunk sz n (cs.drop sz)
def wr (cs : List AV) : Nat→List AV→List AV
 | _,[]=>cs
 | o,v::r=>wr (cs.set o v) (o+1) r
def rep : Nat→List AV→List AV
 | 0,_=>[]
 | n+1,z=>z++rep n z
abbrev PV:=Option (Prop × AV)
def W0 : Option AV→PV
 | some v=>some (True,v)
 | none=>none
def Mt : Option AV→Option AV→Option AV→PV
 | some (.bool true),a,_=>W0 a
 | some (.bool false),_,b=>W0 b
 | _,_,_=>none
def Uc : BinOp→IntKind→Int→Int→PV
 | .add,k,a,b=>some (True,.int k (k.wrap (a+b)))
 | .sub,k,a,b=>some (True,.int k (k.wrap (a - b)))
 | .mul,k,a,b=>some (True,.int k (k.wrap (a*b)))
 | .quo,k,a,b=>some (b≠0,.int k (k.wrap (a.tdiv b)))
 | .rem,k,a,b=>some (b≠0,.int k (a.tmod b))
 | .eql,_,a,b=>some (True,.bool (decide (a=b)))
 | .neq,_,a,b=>some (True,.bool (!decide (a=b)))
 | .lss,_,a,b=>some (True,.bool (decide (a<b)))
 | .leq,_,a,b=>some (True,.bool (decide (a≤b)))
 | .gtr,_,a,b=>some (True,.bool (decide (b<a)))
 | .geq,_,a,b=>some (True,.bool (decide (b≤a)))
 | .and,k,a,b=>some (True,.int k (k.wrap (BitVec.ofInt k.bits a &&& BitVec.ofInt k.bits b).toNat))
 | .shr,k,a,b=>some (0≤b,.int k (a.fdiv (2 ^ min b.toNat k.bits)))
 | _,_,_,_=>none
def eH : BinOp→Bool
 | .shr=>true
 | _=>false
def gk : BinOp→List UInt8→List UInt8→PV
 | .add,a,b=>some (a.length+b.length≤AL,.str (a++b))
 | .eql,a,b=>some (True,.bool (decide (a=b)))
 | .neq,a,b=>some (True,.bool (!decide (a=b)))
 | _,_,_=>none
def Hz (op : BinOp) (k : IntKind) : Option AV→Option AV→PV
 | some (.int k1 a),some (.int k2 b)=>if k1=k∧(k2=k∨eH op=true) then Uc op k a b else none
 | some (.str a),some (.str b)=>gk op a b
 | _,_=>none
def uW : Option AV→PV
 | some (.bool a)=>some (True,.bool (!a))
 | _=>none
def Qo (k : IntKind) : Option AV→PV
 | some (.int _ a)=>some (True,.int k (k.wrap a))
 | _=>none
def Ee : Option AV→PV
 | some (.sl es)=>some (True,.int .i64 es.length)
 | some (.buf _ n)=>some (True,.int .i64 n)
 | some (.sub _ _ n)=>some (True,.int .i64 n)
 | some (.VU n)=>some (True,.int .i64 n)
 | some .A1=>some (True,.int .i64 0)
 | some .FG=>some (True,.int .i64 0)
 | _=>none
def Hy (sz : Nat) : Option AV→Option AV→PV
 | some (.sl es),some (.int _ n)=>some (0≤n∧n.toNat<es.length∧(es.getD n.toNat nv).cells.length=sz,.ptr (es.getD n.toNat nv).cells)
 | some (.buf id m),some (.int _ n)=>some (0≤n∧n.toNat<m,.ref id (n.toNat*sz))
 | some (.sub id o m),some (.int _ n)=>some (0≤n∧n.toNat<m,.ref id (o+n.toNat*sz))
 | _,_=>none
def TW (off n : Nat) : Option AV→PV
 | some (.ptr cs)=>some (off+n≤cs.length,.ptr ((cs.drop off).take n))
 | some (.ref id o)=>some (True,.ref id (o+off))
 | some (.Gd cs id)=>some (True,if off+n≤cs.length then .ptr ((cs.drop off).take n) else .ref id off)
 | _=>none
def aB : Option Nat→Option AV→PV
 | none,some (.ptr (c::_))=>some (True,c)
 | some n,some (.ptr cs)=>some (cs.length=n,.agg cs)
 | _,_=>none
def Wc : Option AV→PV
 | some (.ptr cs)=>some (True,.ptr cs)
 | some (.ref id o)=>some (True,.ref id o)
 | some (.Gd cs id)=>some (True,.Gd cs id)
 | _=>none
def bK (p : Prop) : Option (Prop × List AV)→Option (Prop × List AV)
 | some (q,r)=>some (p∧q,r)
 | none=>none
def dN (n off : Nat) : Option AV→List AV→(List AV→Option (Prop × List AV))→Option (Prop × List AV)
 | some a,cs,F=>bK (a.cells.length=n∧off+n≤cs.length) (F (wr cs off a.cells))
 | none,_,_=>none
def J6 (σ : Env) : List (Nat × Nat × X)→List AV→Option (Prop × List AV)
 | [],cs=>some (True,cs)
 | (off,n,x)::r,cs=>dN n off (val σ x) cs (J6 σ r)
def ZL : Option (Prop × List AV)→PV
 | some (p,cs)=>some (p,.agg cs)
 | none=>none
def Tc (off : Nat) : Option Nat→Option AV→PV
 | none,some (.agg cs)=>some (off<cs.length,cs.getD off nv)
 | some n,some (.agg cs)=>some (off+n≤cs.length,.agg ((cs.drop off).take n))
 | _,_=>none
def Zv (i : Nat) : Option AV→PV
 | some (.CG vs)=>some (i<vs.length,vs.getD i nv)
 | _=>none
def S8 (sz : Nat) (es : List AV) (a b : Int) : PV:=some ((0≤a∧a≤b∧b≤es.length)∧DK sz es,.sl ((es.take b.toNat).drop a.toNat))
def Nv (sz : Nat) (es : List AV) (a : Int) : Option (Option AV)→PV
 | none=>S8 sz es a es.length
 | some (some (.int _ b))=>S8 sz es a b
 | _=>none
def NO (sz : Nat) : Option AV→Option (Option AV)→Option (Option AV)→PV
 | some (.sl es),none,hi=>Nv sz es 0 hi
 | some (.sl es),some (some (.int _ a)),hi=>Nv sz es a hi
 | _,_,_=>none
def fB : Option AV→Option (Option AV)→Option (Option AV)→PV
 | some (.str l),some (some (.int _ a)),none=>some (0≤a∧a≤l.length,.str (l.drop a.toNat))
 | _,_,_=>none
def KE (sz : Nat) (x : Option AV) (lo hi : Option (Option AV)) : PV:=if sz=0 then fB x lo hi else NO sz x lo hi
def dF (f : Fn) : Option (List AV)→PV
 | some ca=>some (True,.fn f ca)
 | none=>none
def eY (t : TypeId) : Option AV→PV
 | some v=>some (True,.Rk t v)
 | none=>none
def bO (sz : Nat) : Option (List AV)→PV
 | some as=>some (DK sz as∧as.length≤AL,.sl as)
 | none=>none
def dE (n : Nat) : Option AV→PV
 | some a=>some (a.cells.length=n∧∀ c,c∈a.cells→c.one=true,.ptr a.cells)
 | none=>none
def kX (VU : Bool) : Option AV→Option AV→PV
 | some (.int k1 a),some (.int k2 b)=>some (k1=k2,.int k1 (if VU then (if b > a then b else a) else (if b<a then b else a)))
 | _,_=>none
def AV.byte : AV→UInt8
 | .int _ n=>UInt8.ofNat n.toNat
 | _=>0
def AV.isByte : AV→Bool
 | .int .u8 _=>true
 | _=>false
def Ss : Option AV→PV
 | some (.sl es)=>some (∀ e,e∈es→e.isByte=true,.str (es.map AV.byte))
 | some .A1=>some (True,.str [])
 | _=>none
def dv : List AV→List AV→Bool
 | .int _ a::r,.int _ b::s=>decide (a=b) && dv r s
 | _,_=>true
def iS (neg : Bool) (n : Nat) : Option AV→Option AV→PV
 | some (.agg as),some (.agg bs)=>some (∃ k1 k2 a1 a2 b1 b2,as=[.int k1 a1,.int k2 a2]∧bs=[.int k1 b1,.int k2 b2],.bool (neg ^^ dv as bs))
 | _,_=>none
def KI (σ : Env) : Ins→PV
 | .mv x=>W0 (val σ x)
 | .pick c a b=>Mt (val σ c) (val σ a) (val σ b)
 | .ar op k x y=>Hz op k (val σ x) (val σ y)
 | .nt x=>uW (val σ x)
 | .conv k x=>Qo k (val σ x)
 | .len x=>Ee (val σ x)
 | .idx sz x i=>Hy sz (val σ x) (val σ i)
 | .oL off n x=>TW off n (val σ x)
 | .v8 n x=>aB n (val σ x)
 | .n0 x=>Wc (val σ x)
 | .rU zero parts=>ZL (J6 σ parts zero)
 | .prt off n x=>Tc off n (val σ x)
 | .ext x i=>Zv i (val σ x)
 | .n5 sz x lo hi=>KE sz (val σ x) (lo.map (val σ)) (hi.map (val σ))
 | .tM f ca=>dF f (D9 σ ca)
 | .oA t x=>eY t (val σ x)
 | .aS sz xs=>bO sz (D9 σ xs)
 | .emp=>some (True,.FG)
 | .aM n x=>dE n (val σ x)
 | .mx VU x y=>kX VU (val σ x) (val σ y)
 | .wR x=>Ss (val σ x)
 | .aq neg n x y=>iS neg n (val σ x) (val σ y)
 | _=>none
abbrev Am:=AV→AB→Prop
def pW : PV→Am→AB→Prop
 | some (p,r),K,H=>p∧K r H
 | none,_,_=>False
def M3 : Option AF→Option Nat→Nat→Am→AB→Prop
 | some (.cells _ cs _),none,off,K,H=>off<cs.length∧K (cs.getD off nv) H
 | some (.cells _ cs _),some n,off,K,H=>off+n≤cs.length∧K (.agg ((cs.drop off).take n)) H
 | _,_,_,_,_=>False
def WU : Option Nat→Option AV→Am→AB→Prop
 | n,some (.ref id off),K,H=>M3 (H.get id) n off K H
 | n,x,K,H=>pW (aB n x) K H
def Zj (z : Nat) (n : Option Nat) : Option AV→Am→AB→Prop
 | some (.ref id off),K,H=>(∃ cs f,H.get id=some (.cells z cs f))∧M3 (H.get id) n off K H
 | _,_,_=>False
def AB.Qf (z : Nat) (H H' : AB) : Prop:=∀ i cs f,H.get i=some (.cells z cs f)→H'.get i=some (.cells z cs f)
def OZ : Option AF→Nat→Nat→Nat→List AV→Am→AB→Prop
 | some (.cells sz cs f),id,off,n,vs,K,H =>
  (f≤off∧off+n≤cs.length∧vs.length=n∧∀ c,c∈vs→c.one=true)∧K nv (H.set id (.cells sz (wr cs off vs) f))
 | _,_,_,_,_,_,_=>False
def oQ (n : Nat) : Option AV→Option AV→Am→AB→Prop
 | some (.ref id off),some v,K,H=>OZ (H.get id) id off n v.cells K H
 | _,_,_,_=>False
def Ef (n sz : Nat) (cs : List AV) (K : Am) (H : AB) : Prop:=∀ id,H.get id=none→K (.buf id n) (H.set id (.cells sz cs 0))
def HF (sz : Nat) (cs : List AV) (K : Am) (H : AB) : Prop:=∀ id,H.get id=none→K (.ref id 0) (H.set id (.cells sz cs 0))
def Vx (K : Am) (H : AB) : Prop:=∀ id,H.get id=none→K (.Gg id) (H.set id (.map [] []))
def RH (sz : Nat) : Option (List AV)→Am→AB→Prop
 | some as,K,H=>(DK sz as∧as.length≤AL)∧Ef as.length sz (flat as) K H
 | none,_,_=>False
def Ud (n : Nat) : Option AV→Am→AB→Prop
 | some a,K,H=>(a.cells.length=n∧n≤AL)∧HF n a.cells K H
 | none,_,_=>False
def Ct (sz : Nat) : Option AV→AB→Option (Prop × Nat × List AV)
 | some (.sl es),_=>some (DK sz es,es.length,flat es)
 | some .A1,_=>some (True,0,[])
 | _,_=>none
def Gc (sz : Nat) : Option AF→Nat→Nat→Option (Prop × Nat × List AV)→Am→AB→Prop
 | some (.cells sz' cs f),id,n,some (p,m,new),K,H=>(sz'=sz∧cs.length=n*sz∧n+m≤AL∧(n+m)*sz≤AL∧p) ∧
   ∀ CT,H.get CT=none→K (.buf CT (n+m)) ((H.del id).set CT (.cells sz (cs++new) f))
 | _,_,_,_,_,_=>False
def Sd (sz : Nat) : Option (Prop × Nat × List AV)→Am→AB→Prop
 | some (p,m,new),K,H=>(m≤AL∧m*sz≤AL∧p)∧Ef m sz new K H
 | none,_,_=>False
def fR (sz : Nat) : Option (Prop × Nat × List AV)→Am→AB→Prop
 | some (p,m,new),K,H=>(0<m∧m≤AL∧m*sz≤AL∧p)∧Ef m sz new K H
 | none,_,_=>False
def DW (sz : Nat) : Option AV→Option AV→Am→AB→Prop
 | some (.buf id n),x,K,H=>Gc sz (H.get id) id n (Ct sz x H) K H
 | some .A1,x,K,H=>Sd sz (Ct sz x H) K H
 | some .FG,x,K,H=>fR sz (Ct sz x H) K H
 | _,_,_,_=>False
def Rr (sz : Nat) (zero : List AV) : Option AV→Option AV→Am→AB→Prop
 | some (.int _ l),some (.int _ c),K,H=>(0≤l∧l≤c∧c.toNat≤AL∧l.toNat*sz≤AL)∧Ef l.toNat sz (rep l.toNat zero) K H
 | _,_,_,_=>False
def AV.T5 : AV→AV→Bool
 | .int _ a,.int _ b=>decide (a=b)
 | .str a,.str b=>decide (a=b)
 | .agg [.int _ a,.int _ b],.agg [.int _ c,.int _ d]=>decide (a=c) && decide (b=d)
 | _,_=>false
def AV.Bx (s : Nat) : AV→AV→Bool
 | .int k _,.int k' _=>s == 0 && decide (k=k')
 | .str _,.str _=>s == 1
 | .agg [.int k _,.int l _],.agg [.int k' _,.int l' _]=>s == 2 && (decide (k=k') && decide (l=l'))
 | _,_=>false
def Li (s : Nat) (k : AV) (ks : List AV) : Prop:=k.Bx s k=true∧∀ a,a∈ks→k.Bx s a=true
def JG (k : AV) : List AV→List AV→Option AV
 | a::ks,v::vs=>if k.T5 a then some v else JG k ks vs
 | _,_=>none
def Il (k x : AV) : List AV→List AV→List AV × List AV
 | a::ks,v::vs=>if k.T5 a then (k::ks,x::vs) else ((a::(Il k x ks vs).1),(v::(Il k x ks vs).2))
 | _,_=>([k],[x])
def mX (ok : Bool) (zero : AV) (r : Option AV) : AV :=
 if ok then .CG [r.getD zero,.bool r.isSome] else r.getD zero
def vB (s : Nat) (ok : Bool) (zero : AV) : Option AF→AV→Am→AB→Prop
 | some (.map ks vs),k,K,H=>Li s k ks∧K (mX ok zero (JG k ks vs)) H
 | _,_,_,_=>False
def Zk (s : Nat) (ok : Bool) (zero : AV) : Option AV→Option AV→Am→AB→Prop
 | some (.IU ks vs),some k,K,H=>Li s k ks∧K (mX ok zero (JG k ks vs)) H
 | some (.Gg id),some k,K,H=>vB s ok zero (H.get id) k K H
 | _,_,_,_=>False
def tW (s : Nat) : Option AF→Nat→AV→AV→Am→AB→Prop
 | some (.map ks vs),id,k,x,K,H=>Li s k ks∧K nv (H.set id (.map (Il k x ks vs).1 (Il k x ks vs).2))
 | _,_,_,_,_,_=>False
def lD (s : Nat) : Option AV→Option AV→Option AV→Am→AB→Prop
 | some (.Gg id),some k,some x,K,H=>tW s (H.get id) id k x K H
 | _,_,_,_,_=>False
def lm1 : Option AF→Am→AB→Prop
 | some (.map ks _),K,H=>K (.int .i64 ks.length) H
 | _,_,_=>False
def Js (sz id n : Nat) : Option (Option AV)→Option (Option AV)→PV
 | some (some (.int _ a)),none=>some (0≤a∧a.toNat<n,.sub id (a.toNat*sz) (n - a.toNat))
 | none,some (some (.int _ b))=>some (0≤b∧b.toNat≤n∧0<n,.buf id b.toNat)
 | _,_=>none
def aw (sz n : Nat) (r : PV) : Option AF→Am→AB→Prop
 | some (.cells sz' cs _),K,H=>(sz'=sz∧cs.length=n*sz)∧pW r K H
 | _,_,_=>False
def Dk (g : Gh) (B : Nat) (w : World) (K : Am) (v : Value) (w' : World) : Prop :=
 ∃ g' r H',g.le g'∧K r H'∧Ab g' r v∧Ao g' B H' w'∧Below B w w'
def Enters (P : Program) (f : FuncId) : Prop := ∃ fn, P.funcs[f]? = some fn ∧ fn.body.isNone = false ∧ (fn.name == "runtime.NumGoroutine") = false
def B7 (P : Program) (B : Nat) (f : FuncId) (args : List AV) (H : AB) (K : Am) : Prop :=
 Enters P f∧∀ g w vs,Ao g B H w→Fi g args vs→Calls P f vs w fun e w'=>∃ v,e=.returned v∧Dk g B w K v w'
def Iz (P : Program) (B : Nat) (f : FuncId) (args : List AV) (r : AV) : Prop :=
 ∀ H,B7 P B f args H fun r' H'=>r'=r∧H'=H
theorem Dk.mono {g : Gh} {B : Nat} {w : World} {K K' : Am} {v : Value} {w' : World} (h : Dk g B w K v w') (hk : ∀ r H,K r H→K' r H) : Dk g B w K' v w':=by
 obtain ⟨g',r,H',a,b,c⟩:=h;exact ⟨g',r,H',a,hk _ _ b,c⟩
theorem B7.mono {P : Program} {B : Nat} {f : FuncId} {args : List AV} {H : AB} {K K' : Am} (h : B7 P B f args H K) (hk : ∀ r H,K r H→K' r H) : B7 P B f args H K' :=
 ⟨h.1,fun g w vs hw hv=>(h.2 g w vs hw hv).mono fun _ _ ⟨v,e,hf⟩=>⟨v,e,hf.mono hk⟩⟩
theorem Iz.use {P : Program} {B : Nat} {f : FuncId} {args : List AV} {r : AV} {H : AB} {K : Am} (h : Iz P B f args r) (hk : K r H) : B7 P B f args H K :=
 (h H).mono fun _ _ ⟨a,b⟩=>by subst a; subst b; exact hk
def LP (P : Program) (B : Nat) : Option AV→Option (List AV)→Am→AB→Prop
 | some (.fn (.func f) ca),some as,K,H=>B7 P B f (as++ca) H K
 | _,_,_,_=>False
def Sw (P : Program) (B : Nat) : Option AV→Option (List AV)→AV→Prop
 | some (.fn (.func f) ca),some as,r=>Iz P B f (as++ca) r
 | _,_,_=>False
def qF (P : Program) (t : TypeId) (name : String) (f : FuncId) : Prop :=
 ∀ v w,(method (P.types.size+Made.depth) t v name).run P w=.ok (f,v) w
def j3 (P : Program) (B : Nat) (name : String) : Option AV→Option (List AV)→Am→AB→Prop
 | some (.Rk t v),some as,K,H=>∃ f,qF P t name f∧B7 P B f (v::as) H K
 | _,_,_,_=>False
def WA (neg : Bool) : Option AV→Am→AB→Prop
 | some .A1,K,H=>K (.bool (!neg)) H
 | some (.sl es),K,H=>(es=[]→∀ b,K (.bool b) H)∧(es≠[]→K (.bool neg) H)
 | _,_,_=>False
def oW (P : Program) (t asserted : TypeId) : Prop :=
 ∀ (v : Value) (xT : TypeId) (w : World),(Instr.typeAssert (.iface t v) xT asserted true).run P w=.ok (.tuple #[.iface t v,.bool true]) w
def Z0 (P : Program) (asserted : TypeId) : Option AV→Am→AB→Prop
 | some (.Rk t v),K,H=>oW P t asserted∧K (.CG [.Rk t v,.bool true]) H
 | _,_,_=>False
def Dx (P : Program) (B : Nat) (K : Am) (σ : Env) (H : AB) : Ins→Prop
 | .ld n x=>WU n (val σ x) K H
 | .jD z n x=>Zj z n (val σ x) K H
 | .st n p v=>oQ n (val σ p) (val σ v) K H
 | .TD sz xs=>RH sz (D9 σ xs) K H
 | .TI n x=>Ud n (val σ x) K H
 | .lV zero=>zero.length≤AL∧HF zero.length zero K H
 | .app sz _ s x=>DW sz (val σ s) (val σ x) K H
 | .l8 sz zero l c=>Rr sz zero (val σ l) (val σ c) K H
 | .nR=>Vx K H
 | .bE s ok zero m k=>Zk s ok zero (val σ m) (val σ k) K H
 | .gH s m k v=>lD s (val σ m) (val σ k) (val σ v) K H
 | .call f xs=>LP P B (val σ f) (D9 σ xs) K H
 | .Lr f xs=>LP P B (val σ f) (D9 σ xs) (fun r H'=>H.sub H'∧K r H') H
 | .Ll y f xs=>LP P B (val σ f) (D9 σ xs) (fun r H'=>(∀ z,z≠y→H.Qf z H')∧K r H') H
 | .N8 f xs=>∃ r,Sw P B (val σ f) (D9 σ xs) r∧K r H
 | .inv x name xs=>j3 P B name (val σ x) (D9 σ xs) K H
 | .iV neg x=>WA neg (val σ x) K H
 | .oE t x=>Z0 P t (val σ x) K H
 | i=>pW (KI σ i) K H
def DN (d : Option Nat) (F : Env→AB→Prop) (σ : Env) : Am:=fun v H =>
 match d with
 | some d=>F (σ.put d v) H
 | none=>F σ H
def At (F : Env→AB→Prop) (σ : Env) (H : AB) : Prop:=F σ H
theorem At.mk {F : Env→AB→Prop} {σ : Env} {H : AB} (h : F σ H) : At F σ H:=h
def Fb (P : Program) (B : Nat) (d : Option Nat) (i : Ins) (F : Env→AB→Prop) (σ : Env) (H : AB) : Prop:=Dx P B (DN d F σ) σ H i
def iQ (o : Option AV) (b : Bool) (A C : Env→AB→Prop) (σ : Env) (H : AB) : Prop :=
 match o with
 | some (.bool c)=>(c=b→At A σ H)∧(c=(!b)→At C σ H)
 | some (.CG _)=>At C σ H
 | _=>False
def Vq (b : Bool) (q : AV) : Prop:=q=.bool (!b)∨∃ cs,q=.CG cs
def IL : Option Nat→Env→Env
 | some d,σ=>σ.put d nv
 | none,σ=>σ
def fg (d : Option Nat) (F : Env→AB→Prop) (σ : Env) (H : AB) : Prop:=F (IL d σ) H
def C9 (P : Program) (B : Nat) : List Cu→(Env→AB→Prop)→Env→AB→Prop
 | [],K,σ,H=>K σ H
 | ⟨d,none,i⟩::r,K,σ,H=>Fb P B d i (C9 P B r K) σ H
 | ⟨d,some (t,b),i⟩::r,K,σ,H=>iQ (σ.get t) b (Fb P B d i (C9 P B r K)) (fg d (C9 P B r K)) σ H
end Go.AW
namespace Go.AW
open Go.RowKit
def M9 : Value→Option AV
 | .bool b=>some (.bool b)
 | .int k n=>some (.int k n)
 | .string s=>some (.str s.data.toList)
 | .pointer none=>some .G1
 | .slice none 0 0=>some .A1
 | .map none=>some (.IU [] [])
 | .nilFunc=>some .NY
 | .nilIface=>some .T7
 | _=>none
def consts : List Value→Option (List AV)
 | []=>some []
 | v::r=>Mp (M9 v) (consts r)
def XD : Value→Option AV
 | .agg cs=>(consts cs.toList).map AV.agg
 | v=>M9 v
def cx : Operand→Option X
 | .tmp t=>some (.t t)
 | .const v=>(XD v).map X.c
 | .func f=>some (.c (.fn (.func f) []))
 | .global _=>none
def Xx : Option X→Option (List X)→Option (List X)
 | some a,some r=>some (a::r)
 | _,_=>none
def c9 : List Operand→Option (List X)
 | []=>some []
 | x::r=>Xx (cx x) (c9 r)
def pO : Option Operand→Option (Option X)
 | none=>some none
 | some x=>(cx x).map some
def HB (P : Program) (t : TypeId) : Option (Option Nat) :=
 match P.underlying t,P.info? t with
 | some (.struct _),some i=>some (some i.size)
 | some (.array _ _),some i=>some (some i.size)
 | some _,some i=>if i.size=1 then some none else none
 | _,_=>none
def fieldsOf (P : Program) (t : TypeId) : Option (Array Field) :=
 match P.underlying t with
 | some (.struct fs)=>some fs
 | _=>none
def Fy (P : Program) (t : TypeId) (i : Nat) : Option (Nat × Nat × Option Nat) :=
 match fieldsOf P t with
 | some fs=>match fs[i]? with
  | some f=>match P.info? f.type,HB P f.type with
   | some j,some a=>if j.size=0 then none else some (f.offset,j.size,a)
   | _,_=>none
  | none=>none
 | none=>none
def Bv (P : Program) (t : TypeId) : Option (TypeId × TypeInfo) :=
 match P.underlying t with
 | some (.slice e)=>match P.info? e with
  | some i=>if i.size=0 then none else some (e,i)
  | none=>none
 | _=>none
def cW (P : Program) (t : TypeId) : Option IntKind :=
 match P.underlying t with
 | some (.int k)=>some k
 | _=>none
def C6 (P : Program) (t : TypeId) : Option (List AV) :=
 match P.info? t with
 | some i=>match i.zero with
  | some z=>match consts z.cells.toList with
   | some zs=>if zs.length=i.size then some zs else none
   | none=>none
  | none=>none
 | none=>none
def zeroOf (P : Program) (t : TypeId) : Option AV :=
 match P.info? t with
 | some i=>match i.zero with
  | some z=>M9 z
  | none=>none
 | none=>none
def partsOf (P : Program) (t : TypeId) : List (Nat × Operand)→Option (List (Nat × Nat × X))
 | []=>some []
 | (i,x)::r=>match Fy P t i,cx x,partsOf P t r with
  | some (off,n,_),some x,some r=>some ((off,n,x)::r)
  | _,_,_=>none
def Fq : Nat→List (Nat × Operand)→Option (List X)
 | _,[]=>some []
 | k,(i,x)::r=>if i=k then Xx (cx x) (Fq (k+1) r) else none
def PZ : Operand→Bool
 | .const (.slice none 0 0)=>true
 | _=>false
def PN : Operand→Bool
 | .const (.pointer none)=>true
 | _=>false
def FH (P : Program) : Nat→List Field→Bool
 | _,[]=>true
 | o, f :: r => f.offset == o && (match P.underlying f.type with | some (.int _) => true | _ => false) && ((P.info? f.type).map (·.size) == some 1) && f.name != "_" && FH P (o + 1) r
def Nw (P : Program) (t : TypeId) (fs : Array Field) : Bool:=FH P 0 fs.toList && !P.stoodInHeld t && fs.size == 2
def pI : BinOp→Bool
 | .add | .sub | .mul | .quo | .rem | .eql | .neq | .lss | .leq | .gtr | .geq | .and | .shr=>true
 | _=>false
def Dz (P : Program) (h : Nat) : Op→Option Ins
 | .move x | .assign x=>(cx x).map .mv
 | .pick c a b=>match cx c,cx a,cx b with
  | some c,some a,some b=>some (.pick c a b)
  | _,_,_=>none
 | .alloc t=>(C6 P t).map .lV
 | .box t x=>match HB P t,P.info? t,cx x with
  | some _,some i,some x=>if h=1 then some (.TI i.size x) else some (.aM i.size x)
  | _,_,_=>none
 | .build t parts=>match C6 P t,fieldsOf P t,partsOf P t parts.toList with
  | some z,some fs,some ps=>if fs.all (fun f=>(P.info? f.type).isSome) then some (.rU z ps) else none
  | _,_,_=>none
 | .buildSlice t n parts=>match Bv P t,Fq 0 parts.toList,C6 P ((P.underlying t).elim 0 fun | .slice e=>e | _=>0) with
  | some (_,i),some xs,some _=>if xs.length=n∧n*i.size≤16777216 then (if h=2∧n=0 then some .emp else if h=1 then some (.aS i.size xs) else some (.TD i.size xs)) else none
  | _,_,_=>none
 | .load t x=>match HB P t,cx x with
  | some n,some x=>if h=1 then some (.v8 n x) else if 10≤h then some (.jD (h - 10) n x) else some (.ld n x)
  | _,_=>none
 | .store t p v=>match P.info? t,cx p,cx v with
  | some i,some p,some v=>some (.st i.size p v)
  | _,_,_=>none
 | .nilCheck x=>(cx x).map .n0
 | .binOp op t x y _=>match P.underlying t with
  | some (.int k)=>match cx x,cx y with
   | some x,some y=>if pI op then some (.ar op k x y) else none
   | _,_=>none
  | some (.slice _)=>match op,cx x,PZ y with
   | .eql,some x,true=>some (.iV false x)
   | .neq,some x,true=>some (.iV true x)
   | _,_,_=>none
  | some (.struct fs)=>match op,cx x,cx y with
   | .eql,some x,some y=>if FH P 0 fs.toList && !P.stoodInHeld t && !P.eqGuardType P.depth t && fs.size == 2 then some (.aq false fs.size x y) else none
   | .neq,some x,some y=>if FH P 0 fs.toList && !P.stoodInHeld t && !P.eqGuardType P.depth t && fs.size == 2 then some (.aq true fs.size x y) else none
   | _,_,_=>none
  | _=>none
 | .unOp .not _ x=>(cx x).map .nt
 | .convert s d x=>match P.underlying s,P.underlying d with
  | some (.int _),some (.int k)=>(cx x).map (.conv k)
  | some (.slice e),some .string=>if cW P e=some .u8 then (cx x).map .wR else none
  | _,_=>none
 | .makeInterface t x=>match P.underlying t with
  | some (.interface _)=>none
  | some _=>(cx x).map (.oA t)
  | none=>none
 | .typeAssert x _ asserted true=>(cx x).map (.oE asserted)
 | .makeFunc f first ca=>if first.size=0 then (c9 ca.toList).map (.tM f) else none
 | .makeMap t r=>match P.underlying t,r with
  | some (.map _ _),none=>some .nR
  | _,_=>none
 | .makeSlice t l c=>match Bv P t,cx l,cx c,C6 P ((P.underlying t).elim 0 fun | .slice e=>e | _=>0) with
  | some (_,i),some l,some c,some z=>if i.bytes≤256 then some (.l8 i.size z l c) else none
  | _,_,_,_=>none
 | .fieldAddr t x f=>match Fy P t f,cx x with
  | some (off,n,_),some x=>some (.oL off n x)
  | _,_=>none
 | .field t x f=>match Fy P t f,cx x with
  | some (off,_,a),some x=>some (.prt off a x)
  | _,_=>none
 | .indexAddr t x i=>match Bv P t,cx x,cx i with
  | some (_,j),some x,some i=>some (.idx j.size x i)
  | _,_,_=>none
 | .lookup t m k ok=>match P.underlying t,cx m,cx k with
  | some (.map kt et),some m,some k=>match P.underlying kt,zeroOf P et with
   | some (.int _),some z=>some (.bE 0 ok z m k)
   | some .string,some z=>some (.bE 1 ok z m k)
   | some (.struct fs),some z=>if Nw P kt fs then some (.bE 2 ok z m k) else none
   | _,_=>none
  | _,_,_=>none
 | .mapUpdate t m k v=>match P.underlying t,cx m,cx k,cx v with
  | some (.map kt _),some m,some k,some v=>match P.underlying kt with
   | some (.int _)=>some (.gH 0 m k v)
   | some .string=>some (.gH 1 m k v)
   | some (.struct fs)=>if Nw P kt fs then some (.gH 2 m k v) else none
   | _=>none
  | _,_,_,_=>none
 | .extract x i=>(cx x).map (.ext · i)
 | .slice t x lo hi none=>match Bv P t,cx x,pO lo,pO hi with
  | some (_,ti),some x,some lo,some hi=>some (.n5 ti.size x lo hi)
  | _,_,_,_=>none
 | .call c=>match c.callee with
  | .builtin .len=>match c.args.toList,c.argTypes.toList with
   | [x],[t]=>match P.underlying t with
    | some (.slice _)=>(cx x).map .len
    | _=>none
   | _,_=>none
  | .builtin .append=>match c.args.toList,c.argTypes.toList with
   | [s,x],[t,t']=>match Bv P t,cx s,cx x,C6 P ((P.underlying t).elim 0 fun | .slice e=>e | _=>0) with
    | some (_,i),some s,some x,some _=>if t=t'∧i.bytes≤128 then some (.app i.size i.bytes s x) else none
    | _,_,_,_=>none
   | _,_=>none
  | .builtin .max=>match c.args.toList with
   | [x,y]=>match cx x,cx y with
    | some x,some y=>some (.mx true x y)
    | _,_=>none
   | _=>none
  | .builtin .min=>match c.args.toList with
   | [x,y]=>match cx x,cx y with
    | some x,some y=>some (.mx false x y)
    | _,_=>none
   | _=>none
  | .value f=>match cx f,c9 c.args.toList with
   | some f,some xs=>if h=1 then some (.N8 f xs) else if h=2 then some (.Lr f xs) else if 10≤h then some (.Ll (h - 10) f xs) else some (.call f xs)
   | _,_=>none
  | .invoke x name=>match cx x,c9 c.args.toList with
   | some x,some xs=>some (.inv x name xs)
   | _,_=>none
  | _=>none
 | _=>none
def El (ops : Array Oper) : Option (Nat × Bool)→Option (Option (Nat × Bool))
 | none=>some none
 | some (j,b)=>match (ops[j]?).bind (·.dst) with
  | some t=>some (some (t,b))
  | none=>none
def isUnit : Ins→Bool
 | .st .. | .gH ..=>true
 | _=>false
def PW (N : Nat) (i : Ins) : Option Nat→Bool
 | some d=>decide (d<N) && !isUnit i
 | none=>true
def E8 (P : Program) (N : Nat) (ops : Array Oper) (h : Nat) (o : Oper) : Option Cu :=
 match Dz P h o.op,El ops o.guard with
 | some i,some g=>if PW N i o.dst then some ⟨o.dst,g,i⟩ else none
 | _,_=>none
end Go.AW
namespace Go.AW
open Go.RowKit
theorem Bf {α} (a b : List α) (i : Nat) (d : α) : (a++b).getD i d=if i<a.length then a.getD i d else b.getD (i - a.length) d:=by
 simp only [gE,List.getElem?_append]
 split <;> rfl
theorem Kj {g : Gh} {v : Value} {a : AV} (h : M9 v=some a) : Ab g a v:=by
 unfold M9 at h
 split at h <;> first | (cases h; done) | skip
 all_goals (cases h)
 ·exact .bool _
 ·exact .int _ _
 ·rename_i s
  obtain ⟨⟨l⟩⟩:=s;exact .str l
 ·exact .G1
 ·exact .A1
 ·exact .Lo
 ·exact .NY
 ·exact .T7
theorem GA {a : Option AV} {r : Option (List AV)} {l : List AV} (h : Mp a r=some l) : ∃ x s,a=some x∧r=some s∧l=x::s:=by
 cases a <;> cases r <;> simp [Mp] at h
 exact ⟨_,_,rfl,rfl,h.symm⟩
theorem Pk {a : Option X} {r : Option (List X)} {l : List X} (h : Xx a r=some l) : ∃ x s,a=some x∧r=some s∧l=x::s:=by
 cases a <;> cases r <;> simp [Xx] at h
 exact ⟨_,_,rfl,rfl,h.symm⟩
theorem ID {g : Gh} : ∀ {vs : List Value} {as : List AV},consts vs=some as→as.length=vs.length∧∀ i,i<as.length→Ab g (as.getD i nv) (vs.getD i undef)
 | [],as,h=>by cases h; simp
 | v::r,as,h=>by
  obtain ⟨x,s,h1,h2,rfl⟩:=GA h
  obtain ⟨hl,hr⟩:=ID (g:=g) h2;refine ⟨by simp [hl],fun i hi=>?_⟩
  cases i with
  | zero=>exact Kj h1
  | succ i=>simpa using hr i (by simpa using hi)
theorem W1 {g : Gh} {v : Value} {a : AV} (h : XD v=some a) : Ab g a v:=by
 unfold XD at h
 split at h
 ·rename_i cs
  cases e : consts cs.toList with
  | none=>simp [e] at h
  | some as =>
   simp [e] at h; subst h
   obtain ⟨hl,hr⟩:=ID (g:=g) e;exact .agg as cs (by simpa using hl.symm) (fun i hi=>by simpa using hr i hi)
 ·exact Kj h
section
variable {g : Gh} {σ : Env} {a : Act}
theorem Ar {x : Operand} {x' : X} {v : AV} (hE : Cc g σ a.tmps) (hx : cx x=some x') (hv : val σ x'=some v) : Ab g v (a.eval x):=by
 cases x with
 | tmp t=>simp [cx] at hx; subst hx; exact (hE t v hv).2
 | const c =>
  simp [cx] at hx
  obtain ⟨av,h1,rfl⟩:=hx
  simp [val] at hv; subst hv;exact W1 h1
 | func f=>simp [cx] at hx; subst hx; simp [val] at hv; subst hv; exact .fn _ [] #[] rfl (fun i hi=>by simp at hi)
 | global _=>simp [cx] at hx
theorem VA (hE : Cc g σ a.tmps) : ∀ {xs : List Operand} {xs' : List X} {vs : List AV},c9 xs=some xs'→D9 σ xs'=some vs →
  vs.length=xs.length∧∀ i,i<vs.length→Ab g (vs.getD i nv) ((xs.map a.eval).getD i undef)
 | [],xs',vs,h,hv=>by cases h; cases hv; simp
 | x::r,xs',vs,h,hv=>by
  obtain ⟨x',s,h1,h2,rfl⟩:=Pk h
  obtain ⟨v,vs',h3,h4,rfl⟩:=GA hv
  obtain ⟨hl,hr⟩:=VA hE h2 h4;refine ⟨by simp [hl],fun i hi=>?_⟩
  cases i with
  | zero=>exact Ar hE h1 h3
  | succ i=>simpa using hr i (by simpa using hi)
theorem Jk (hE : Cc g σ a.tmps) {xs : List Operand} {xs' : List X} {vs : List AV} (h : c9 xs=some xs') (hv : D9 σ xs'=some vs) :
  Fi g vs (xs.map a.eval).toArray:=by
 obtain ⟨h1,h2⟩:=VA hE h hv;exact ⟨by simp [h1],fun i hi=>by simpa using h2 i hi⟩
end
section
variable {P : Program} {g : Gh} {B : Nat} {H : AB} {w : World}
theorem DV {e : PV} {K : Am} {H : AB} (h : pW e K H) : ∃ p r,e=some (p,r)∧p∧K r H:=by
 cases e with
 | none=>exact h.elim
 | some x=>exact ⟨x.1,x.2,rfl,h.1,h.2⟩
theorem Ab.one {a : AV} {v : Value} (h : Ab g a v) (ho : a.one=true) : v.oneCell'=true:=by
 cases h <;> first | rfl | (simp [AV.one] at ho)
theorem Ab.cells {a : AV} {v : Value} (h : Ab g a v) : v.cells.size=a.cells.length∧∀ i,i<a.cells.length→Ab g (a.cells.getD i nv) (v.cells.getD i undef):=by
 cases h with
 | agg cs vs hs hv=>exact ⟨hs,hv⟩
 | _=>refine ⟨rfl,fun i hi=>?_⟩ <;> (have h0 : i=0:=by simp [AV.cells] at hi; omega) <;> subst h0 <;> first
   | exact .bool _ | exact .int _ _ | exact .str _ | exact .G1 | exact .A1 | exact .FG _ | exact .Lo | exact .NY | exact .T7
   | (rename_i cs b o vs hf hv; exact .ptr cs b o vs hf hv) | (rename_i id off b cap h; exact .ref id off b cap h) | (rename_i cs id b cap vs h hf hv; exact .Gd cs id b cap vs h hf hv)
   | (rename_i a cap; exact .slnil a cap) | (rename_i es b o sz cap vs hm Qh CU hf hv; exact .sl es b o sz cap vs hm Qh CU hf hv)
   | (rename_i id h; exact .DX id h) | (rename_i id n b cap h; exact .buf id n b cap h) | (rename_i id off n b cap c h; exact .sub id off n b cap c h) | (rename_i a n cap h; exact .VU a n cap h)
   | (rename_i ks vs b es h h1 h2 hk hv; exact .IU ks vs b es h h1 h2 hk hv) | (rename_i id b h; exact .Gg id b h)
   | (rename_i f ca vs hs hv; exact .fn f ca vs hs hv) | (rename_i t v w h; exact .Rk t v w h) | (rename_i cs vs hs hv; exact .CG cs vs hs hv)
theorem ZG {op : BinOp} {k : IntKind} {x y : Int} {p : Prop} {r : AV} (t : TypeId) (h : Uc op k x y=some (p,r)) (hp : p) :
  ∃ u,(binOp op t (.int k x) (.int k y)).run P w=.ok u w∧Ab g r u:=by
 cases op <;> simp only [Uc,Option.some.injEq,Prod.mk.injEq,reduceCtorEq] at h
 all_goals (obtain ⟨rfl,rfl⟩:=h)
 case quo=>exact ⟨_,by simp [binOp,Op.intDiv,hp],.int _ _⟩
 case rem=>exact ⟨_,by simp [binOp,Op.intDiv,hp],.int _ _⟩
 case add=>exact ⟨_,by simp [binOp,Op.intArith],.int _ _⟩
 case sub=>exact ⟨_,by simp [binOp,Op.intArith],.int _ _⟩
 case mul=>exact ⟨_,by simp [binOp,Op.intArith],.int _ _⟩
 case eql=>exact ⟨.bool (x == y),by simp [binOp,Op.intCmp],by rw [show decide (x=y)=(x == y) by rw [Bool.eq_iff_iff]; simp]; exact .bool _⟩
 case neq=>exact ⟨.bool (x != y),by simp [binOp,Op.intCmp],by rw [show (!decide (x=y))=(x != y) by rw [Bool.eq_iff_iff]; simp]; exact .bool _⟩
 case lss=>exact ⟨_,by simp [binOp,Op.intCmp],.bool _⟩
 case leq=>exact ⟨_,by simp [binOp,Op.intCmp],.bool _⟩
 case gtr=>exact ⟨_,by simp [binOp,Op.intCmp],.bool _⟩
 case geq=>exact ⟨_,by simp [binOp,Op.intCmp],.bool _⟩
 case and=>exact ⟨_,by simp [binOp,Op.intBits],.int _ _⟩
 case shr=>exact ⟨_,by
  have : ¬ y<0:=by omega
  simp [binOp,Op.shift,this],.int _ _⟩
theorem lL {k k' : IntKind} {x y : Int} (t : TypeId) (hp : 0≤y) :
  (binOp .shr t (.int k x) (.int k' y)).run P w=.ok (.int k (x.fdiv (2 ^ min y.toNat k.bits))) w:=by
 have : ¬ y<0:=by omega
 simp [binOp,Op.shift,this]
theorem Jw {t : TypeId} {fs} (h : fieldsOf P t=some fs) : P.underlying t=some (.struct fs):=by
 unfold fieldsOf at h
 split at h <;> simp_all
theorem IP {t : TypeId} {i off n : Nat} {a : Option Nat} (h : Fy P t i=some (off,n,a)) :
  ∃ fs f j,P.underlying t=some (.struct fs)∧fs[i]? = some f∧P.info? f.type=some j∧j.size=n∧n≠0∧f.offset=off∧HB P f.type=some a:=by
 unfold Fy at h
 cases h1 : fieldsOf P t with
 | none=>simp [h1] at h
 | some fs =>
  cases h2 : fs[i]? with
  | none=>simp [h1,h2] at h
  | some f =>
   simp only [h1,h2] at h
   cases h3 : P.info? f.type with
   | none=>simp [h3] at h
   | some j =>
    cases h4 : HB P f.type with
    | none=>simp [h3,h4] at h
    | some a' =>
     simp only [h3,h4] at h
     split at h
     ·cases h
     ·simp at h
      obtain ⟨h5,h6,h7⟩:=h;exact ⟨fs,f,j,Jw h1,h2,h3,h6,by omega,h5,by rw [h4,h7]⟩
theorem Ck {t : TypeId} {x : TypeId × TypeInfo} (h : Bv P t=some x) : P.underlying t=some (.slice x.1)∧P.info? x.1=some x.2∧x.2.size≠0:=by
 unfold Bv at h
 split at h
 ·rename_i e he
  split at h
  ·rename_i i hi
   split at h
   ·cases h
   ·cases h; exact ⟨he,hi,by assumption⟩
  ·cases h
 ·cases h
theorem Fv {t : TypeId} (h : HB P t=some none) : (isAgg t).run P w=.ok false w:=by
 unfold HB at h
 split at h
 ·cases h
 ·cases h
 ·rename_i d i h1 h2 h3 h4
  unfold isAgg;simp only [Sem.run_bind,run_underlying h3,Result.andThen_ok]
  rfl
 ·cases h
theorem JX {t : TypeId} {n : Nat} (h : HB P t=some (some n)) : (isAgg t).run P w=.ok true w∧∃ i,P.info? t=some i∧i.size=n:=by
 unfold HB at h
 split at h
 ·rename_i fs i h1 h2
  simp at h;exact ⟨by simp [isAgg,run_underlying h1],i,h2,h⟩
 ·rename_i fs i h1 h2
  simp at h;exact ⟨by simp [isAgg,run_underlying h1],i,by assumption,h⟩
 ·split at h <;> cases h
 ·cases h
theorem Qe {t : TypeId} {i off n : Nat} {a : Option Nat} (h : Fy P t i=some (off,n,a)) {av : AV} {v : Value} (hv : Ab g av v) {p : Prop} {r : AV}
  (he : TW off n (some av)=some (p,r)) (hp : p) : ∃ u,(Instr.fieldAt t v i).run P w=.ok u w∧Ab g r u:=by
 obtain ⟨fs,f,j,h1,h2,h3,h4,h5,h6,-⟩:=IP h
 cases hv <;> simp only [TW,Option.some.injEq,Prod.mk.injEq,reduceCtorEq] at he
 case ptr cs b o vs hf hv =>
  obtain ⟨rfl,rfl⟩:=he;refine ⟨.pointer (some ⟨b,o+off,none⟩), ?_, ?_⟩
  ·simp [Instr.fieldAt,run_underlying h1,h2,Instr.sureAddr,fieldPlace,sizeOf,typeInfo,h3,h4,h5,h6,Addr.add_lit]
  ·refine .ptr _ b (o+off) (fun k=>vs (off+k)) (fun k hk=>?_) (fun k hk=>?_)
   ·rw [Nat.add_assoc]; exact hf _ (by simp at hk; omega)
   ·have Lu : k<n:=by simp at hk; omega
    have : ((cs.drop off).take n).getD k nv=cs.getD (off+k) nv:=by simp [gE,Lu]
    rw [this]; exact hv _ (by simp at hk; omega)
 case ref id o b cap D3 =>
  obtain ⟨rfl,rfl⟩:=he;exact ⟨.pointer (some ⟨b,o+off,none⟩),by simp [Instr.fieldAt,run_underlying h1,h2,Instr.sureAddr,fieldPlace,sizeOf,typeInfo,h3,h4,h5,h6,Addr.add_lit],.ref id _ b cap D3⟩
 case Gd cs id b cap vs D3 hf hv =>
  obtain ⟨rfl,rfl⟩:=he;refine ⟨.pointer (some ⟨b,0+off,none⟩),by simp [Instr.fieldAt,run_underlying h1,h2,Instr.sureAddr,fieldPlace,sizeOf,typeInfo,h3,h4,h5,h6,Addr.add_lit], ?_⟩;rw [Nat.zero_add]
  split
  ·refine .ptr _ b off (fun k=>vs (off+k)) (fun k hk=>hf _ (by simp at hk; omega)) (fun k hk=>?_)
   have Lu : k<n:=by simp at hk; omega
   have : ((cs.drop off).take n).getD k nv=cs.getD (off+k) nv:=by simp [gE,Lu]
   rw [this]; exact hv _ (by simp at hk; omega)
  ·exact .ref id off b cap D3
theorem QP {t : TypeId} {x : TypeId × TypeInfo} (h : Bv P t=some x) {av iv : AV} {v u : Value} (hv : Ab g av v) (hi : Ab g iv u) {p : Prop} {r : AV}
  (he : Hy x.2.size (some av) (some iv)=some (p,r)) (hp : p) : ∃ z,(Instr.indexAt t v u).run P w=.ok z w∧Ab g r z:=by
 obtain ⟨h1,h2,h3⟩:=Ck h
 cases hi <;> try (cases hv <;> simp [Hy] at he; done)
 rename_i k n
 cases hv <;> simp only [Hy,Option.some.injEq,Prod.mk.injEq,reduceCtorEq] at he
 case slnil a cap=>obtain ⟨rfl,rfl⟩:=he; simp at hp
 case DX id D3=>obtain ⟨rfl,rfl⟩:=he; simp at hp
 case sl es b o sz cap vs hm _ CU hf hv =>
  obtain ⟨rfl,rfl⟩:=he
  obtain ⟨p1,p2,p3⟩:=hp
  have hz : sz=x.2.size:=by rw [← p3]; exact (CU _ p2).symm
  subst hz
  have hn : n<(es.length : Int):=by omega
  refine ⟨.pointer (some ⟨b,o+n.toNat*x.2.size,none⟩), ?_, ?_⟩
  ·simp [Instr.indexAt,asIntOf,run_underlying h1,p1,hn,sizeOf,typeInfo,h2,Addr.add_lit]
  ·refine .ptr _ b _ (fun j=>vs (n.toNat*x.2.size+j)) (fun j hj=>?_) (fun j hj=>?_)
   ·rw [Nat.add_assoc]; exact hf _ _ p2 (by rw [p3] at hj; exact hj)
   ·exact hv _ _ p2 (by rw [p3] at hj; exact hj)
 case sub id o m b cap c D3 =>
  obtain ⟨rfl,rfl⟩:=he
  obtain ⟨p1,p2⟩:=hp
  have hn : n<(m : Int):=by omega
  refine ⟨.pointer (some ⟨b,o+n.toNat*x.2.size,none⟩), ?_, ?_⟩
  ·simp [Instr.indexAt,asIntOf,run_underlying h1,p1,hn,sizeOf,typeInfo,h2,Addr.add_lit]
  ·exact .ref id _ b cap D3
 case buf id m b cap D3 =>
  obtain ⟨rfl,rfl⟩:=he
  obtain ⟨p1,p2⟩:=hp
  have hn : n<(m : Int):=by omega
  refine ⟨.pointer (some ⟨b,0+n.toNat*x.2.size,none⟩), ?_, ?_⟩
  ·simp [Instr.indexAt,asIntOf,run_underlying h1,p1,hn,sizeOf,typeInfo,h2,Addr.add_lit]
  ·rw [Nat.zero_add]; exact .ref id _ b cap D3
theorem NC (hW : Ao g B H w) (b o n : Nat) (vs : Nat→Value) (hf : ∀ i,i<n→g.fz b (o+i)=some (vs i)) :
  (loadCells ⟨b,o,none⟩ n).run P w=.ok ((List.range n).map vs).toArray w :=
 run_loadCells w ⟨b,o,none⟩ n vs fun j hj=>by rw [Addr.add_lit]; exact hW.fz _ _ _ (hf j hj)
theorem KU (hW : Ao g B H w) {t : TypeId} {n : Option Nat} (h : HB P t=some n) {av : AV} {v : Value} (hv : Ab g av v) {p : Prop} {r : AV}
  (he : aB n (some av)=some (p,r)) (hp : p) : ∃ u,(Instr.loadAt t v).run P w=.ok u w∧Ab g r u:=by
 cases n with
 | none =>
  cases hv <;> simp only [aB,reduceCtorEq] at he
  rename_i cs b o vs hf hv
  cases cs with
  | nil=>simp at he
  | cons c cs =>
   simp at he
   obtain ⟨-,rfl⟩:=he
   have h0:=hf 0 (by simp)
   have hc:=hW.fz _ _ _ h0;refine ⟨vs 0, ?_,by simpa using hv 0 (by simp)⟩;simp only [Instr.loadAt,Instr.sureAddr,loadVar,Sem.run_bind,Sem.run_pure,Result.andThen_ok,Fv h];simp only [Bool.false_eq_true,if_false,run_load]
   simp at hc
   simp [hc]
 | some n =>
  obtain ⟨h1,i,h2,h3⟩:=JX (w:=w) h
  cases hv <;> simp only [aB,Option.some.injEq,Prod.mk.injEq,reduceCtorEq] at he
  rename_i cs b o vs hf hv
  obtain ⟨rfl,rfl⟩:=he;refine ⟨.agg ((List.range n).map vs).toArray, ?_, ?_⟩
  ·simp only [Instr.loadAt,Instr.sureAddr,loadVar,Sem.run_bind,Sem.run_pure,Result.andThen_ok,h1,if_true,sizeOf,typeInfo,run_program,h2,h3];simp only [NC (P:=P) hW b o n vs (fun i hi=>hf i (by omega)),Result.andThen_ok,Sem.run_pure']
  ·refine .agg cs _ (by simp [hp]) (fun i hi=>?_)
   have : (((List.range n).map vs).toArray.getD i undef)=vs i:=by simp [Array.getD,show i<n by omega]
   rw [this]; exact hv i hi
end
end Go.AW
namespace Go.AW
open Go.RowKit
section
variable {P : Program} {g : Gh} {B : Nat} {H : AB} {w : World}
theorem Dk.same {K : Am} {r : AV} {v : Value} (hW : Ao g B H w) (hv : Ab g r v) (hk : K r H) : Dk g B w K v w :=
 ⟨g,r,H,.refl g,hk,hv,hW,.refl B w⟩
theorem FD : ∀ (vs : List AV) (cs : List AV) (o : Nat),(wr cs o vs).length=cs.length
 | [],_,_=>rfl
 | v::r,cs,o=>by simp [wr,FD r]
theorem S2 : ∀ (vs : List AV) (cs : List AV) (o i : Nat),o+vs.length≤cs.length →
  (wr cs o vs).getD i nv=if o≤i∧i<o+vs.length then vs.getD (i - o) nv else cs.getD i nv
 | [],cs,o,i,_=>by simp only [wr,List.length_nil,Nat.add_zero]; rw [if_neg (by omega)]
 | v::r,cs,o,i,h=>by
  have h' : o+(r.length+1)≤cs.length:=by simpa using h
  rw [wr,S2 r _ _ _ (by simp; omega)]
  by_cases hi : i=o
  ·subst hi;rw [if_neg (by omega),if_pos (by simp)]
   simp [gE,show i<cs.length by omega]
  ·by_cases h2 : o+1≤i∧i<o+1+r.length
   ·rw [if_pos h2,if_pos (by simp; omega)]
    have : i - o=(i - (o+1))+1:=by omega
    rw [this]; simp
   ·rw [if_neg h2,if_neg (by simp; omega)];simp only [gE];rw [List.getElem?_set_ne (by omega)]
theorem Ma (off : Nat) : ∀ (l : List Value) (k : Nat) (cs : Array Value),off+k+l.length≤cs.size →
  ((l.zipIdx k).foldl (fun (cs : Array Value) (x : Value × Nat)=>cs.setIfInBounds (off+x.2) x.1) cs).size=cs.size ∧
  ∀ i,((l.zipIdx k).foldl (fun (cs : Array Value) (x : Value × Nat)=>cs.setIfInBounds (off+x.2) x.1) cs).getD i undef =
   if off+k≤i∧i<off+k+l.length then l.getD (i - (off+k)) undef else cs.getD i undef
 | [],k,cs,_=>by simp; intro i h1 h2; omega
 | v::r,k,cs,h=>by
  have h' : off+k+(r.length+1)≤cs.size:=by simpa using h
  simp only [List.zipIdx_cons,List.foldl_cons]
  obtain ⟨h1,h2⟩:=Ma off r (k+1) (cs.setIfInBounds (off+k) v) (by simp; omega);refine ⟨by rw [h1]; simp,fun i=>?_⟩;rw [h2 i]
  by_cases hi : i=off+k
  ·subst hi;rw [if_neg (by omega),if_pos (by simp)]
   simp [Array.getD_eq_getD_getElem?,show off+k<cs.size by omega]
  ·by_cases h3 : off+(k+1)≤i∧i<off+(k+1)+r.length
   ·rw [if_pos h3,if_pos (by simp; omega)]
    have : i - (off+k)=(i - (off+(k+1)))+1:=by omega
    rw [this]; simp
   ·rw [if_neg h3,if_neg (by simp; omega)];simp only [Array.getD_eq_getD_getElem?];rw [Array.getElem?_setIfInBounds_ne (by omega)]
theorem DI {t : TypeId} {z : List AV} (h : C6 P t=some z) : ∃ i zv,P.info? t=some i∧i.zero=some zv∧z.length=i.size∧zv.cells.size=i.size ∧
  ∀ (g : Gh) k,k<z.length→Ab g (z.getD k nv) (zv.cells.getD k undef):=by
 unfold C6 at h
 split at h
 ·rename_i i hi
  split at h
  ·rename_i zv hz
   split at h
   ·rename_i zs hc
    split at h
    ·rename_i hl
     cases h
     obtain ⟨h1,h2⟩:=ID (g:=⟨fun _ _=>none,fun _=>none,fun _=>none⟩) hc;refine ⟨i,zv,hi,hz,hl,by rw [← hl,h1]; simp,fun g k hk=>?_⟩
     have:=(ID (g:=g) hc).2 k hk
     simpa using this
    ·cases h
   ·cases h
  ·cases h
 ·cases h
theorem Ox {σ : Env} {a : Act} (hE : Cc g σ a.tmps) {t : TypeId} {fs : Array Field} (HH : P.underlying t=some (.struct fs)) (pl : Array (Nat × Nat))
  (Kn : ∀ i off n ao,Fy P t i=some (off,n,ao)→pl[i]? = some (off,n)) :
  ∀ (parts : List (Nat × Operand)) (ps : List (Nat × Nat × X)) (cs : List AV) (vs : Array Value) (p : Prop) (r : List AV),partsOf P t parts=some ps →
   J6 σ ps cs=some (p,r)→p→vs.size=cs.length→(∀ i,i<cs.length→Ab g (cs.getD i nv) (vs.getD i undef)) →
   ∃ out,Instr.fill (pl[·]?) vs (parts.map fun x=>(x.1,a.eval x.2))=some out∧out.size=r.length∧∀ i,i<r.length→Ab g (r.getD i nv) (out.getD i undef)
 | [],ps,cs,vs,p,r,hp,hb,_,hs,hv=>by
  cases hp
  simp [J6] at hb
  obtain ⟨-,rfl⟩:=hb;exact ⟨vs,rfl,hs,hv⟩
 | (i,x)::parts,ps,cs,vs,p,r,hp,hb,Vc,hs,hv=>by
  unfold partsOf at hp
  split at hp
  ·rename_i off n ao x' ps' h1 h2 h3
   cases hp;simp only [J6] at hb
   cases hx : val σ x' with
   | none=>simp [hx,dN] at hb
   | some av =>
    simp only [hx,dN] at hb
    cases NA : J6 σ ps' (wr cs off av.cells) with
    | none=>simp [NA,bK] at hb
    | some q =>
     obtain ⟨q,r'⟩:=q;simp only [NA,bK,Option.some.injEq,Prod.mk.injEq] at hb
     obtain ⟨rfl,rfl⟩:=hb
     obtain ⟨⟨h4,h5⟩,h6⟩:=Vc
     have N7:=Ar hE h2 hx
     obtain ⟨c1,c2⟩:=N7.cells
     have sD:=Kn i off n ao h1
     obtain ⟨f1,f2⟩:=Ma off (a.eval x).cells.toList 0 vs (by simp; omega);simp only [List.map_cons,Instr.fill,sD]
     have gO : ¬ ((a.eval x).cells.size≠n∨off+(a.eval x).cells.size > vs.size):=by omega
     rw [if_neg (by simpa using gO)]
     have Rj : ((a.eval x).cells.zipIdx.foldl (fun (cs : Array Value) (x : Value × Nat)=>cs.setIfInBounds (off+x.2) x.1) vs) =
       (((a.eval x).cells.toList.zipIdx 0).foldl (fun (cs : Array Value) (x : Value × Nat)=>cs.setIfInBounds (off+x.2) x.1) vs):=by
      rw [← Array.foldl_toList]; simp
     refine Ox hE HH pl Kn parts ps' (wr cs off av.cells) _ q _ h3 NA h6 ?_ ?_
     ·rw [FD]; rw [Rj,f1]; exact hs
     ·intro k hk;rw [FD] at hk;rw [Rj,f2 k,S2 _ _ _ _ (by omega)];simp only [Array.length_toList,Nat.add_zero];rw [c1]
      split
      ·have:=c2 (k - off) (by omega)
       simpa using this
      ·exact hv k hk
  ·cases hp
theorem UX {σ : Env} {a : Act} (hE : Cc g σ a.tmps) {t : TypeId} {z : List AV} {fs : Array Field} {ps} {parts : Array (Nat × Operand)} (hz : C6 P t=some z)
  (hf : fieldsOf P t=some fs) (hps : partsOf P t parts.toList=some ps) (Ak : ∀ f,f∈fs→(P.info? f.type).isSome) {p : Prop} {r : AV} (he : ZL (J6 σ ps z)=some (p,r)) (hp : p) :
  ∃ u,(Instr.build t (parts.map fun x=>(x.1,a.eval x.2))).run P w=.ok u w∧Ab g r u:=by
 obtain ⟨i,zv,h1,h2,h3,h4,h5⟩:=DI hz
 have HH:=Jw hf
 cases hb : J6 σ ps z with
 | none=>simp [hb,ZL] at he
 | some q =>
  obtain ⟨q,cs⟩:=q;simp only [hb,ZL,Option.some.injEq,Prod.mk.injEq] at he
  obtain ⟨rfl,rfl⟩:=he
  let pl : Array (Nat × Nat):=fs.map fun f=>(f.offset,((P.info? f.type).map (·.size)).getD 0)
  have VH : (fs.mapM fun f=>do pure (f.offset,← sizeOf f.type) : Sem (Array (Nat × Nat))).run P w=.ok pl w:=by
   have key : ∀ (l : List Field),(∀ f,f∈l→(P.info? f.type).isSome)→(l.mapM fun f=>do pure (f.offset,← sizeOf f.type) : Sem (List (Nat × Nat))).run P w =
     .ok (l.map fun f=>(f.offset,((P.info? f.type).map (·.size)).getD 0)) w:=by
    intro l
    induction l with
    | nil=>intro _; simp
    | cons f r ih =>
     intro hh
     obtain ⟨j,hj⟩:=Option.isSome_iff_exists.1 (hh f (by simp))
     have:=ih fun f' tz=>hh f' (by simp [tz]);simp only [List.mapM_cons,Sem.run_bind,sizeOf,typeInfo,run_program,Result.andThen_ok,hj,Sem.run_pure,List.map_cons,Option.map_some,Option.getD_some] at this ⊢;rw [this]
     simp
   have:=key fs.toList (fun f hf=>Ak f (by simpa using hf));rw [Array.mapM_eq_mapM_toList,Sem.run_map,this];simp only [Result.andThen_ok]
   congr 1
   apply Array.ext'
   simp [pl]
  obtain ⟨out,o1,o2,o3⟩:=Ox (P:=P) hE HH pl (fun i off n ao h=>by
   obtain ⟨fs',f,j,k1,k2,k3,k4,k5,k6,-⟩:=IP h;rw [HH] at k1; cases k1
   simp [pl,k2,k3,k4,k6]) parts.toList ps z zv.cells _ cs hps hb hp (by omega) (fun k hk=>h5 g k hk)
  refine ⟨.agg out, ?_,.agg cs out o2 o3⟩;simp only [Instr.build,zeroValue,typeInfo,Sem.run_bind,run_program,Result.andThen_ok,h1,Sem.run_pure,h2,run_underlying HH,VH];simp only [Array.toList_map,o1,Sem.run_pure]
end
end Go.AW
namespace Go.AW
open Go.RowKit
section
variable {P : Program} {g : Gh} {B : Nat} {H : AB} {w : World}
theorem Gz {sz : Nat} : ∀ {es : List AV},DK sz es→(flat es).length=es.length*sz
 | [],_=>by simp [flat]
 | e::r,h=>by
  have h1:=(h e (by simp)).1
  have h2:=Gz (sz:=sz) (es:=r) fun x hx=>h x (by simp [hx])
  simp [flat,h1,h2,Nat.add_mul,Nat.add_comm]
theorem MB {sz : Nat} : ∀ {es : List AV},DK sz es→∀ i j,i<es.length→j<sz→(flat es).getD (i*sz+j) nv=(es.getD i nv).cells.getD j nv
 | [],_,i,j,hi,_=>by simp at hi
 | e::r,h,i,j,hi,hj=>by
  have h1:=(h e (by simp)).1;simp only [flat];rw [Bf,h1]
  cases i with
  | zero=>simp [hj]
  | succ i =>
   rw [if_neg (by rw [Nat.add_mul]; omega)]
   have:=MB (sz:=sz) (es:=r) (fun x hx=>h x (by simp [hx])) i j (by simpa using hi) hj;rw [show (i+1)*sz+j - sz=i*sz+j by rw [Nat.add_mul]; omega,this]
   simp
theorem Ul {sz : Nat} {es : List AV} (h : DK sz es) : ∀ c,c∈flat es→c.one=true:=by
 induction es with
 | nil=>intro c hc; simp [flat] at hc
 | cons e r ih =>
  intro c hc;simp only [flat,List.mem_append] at hc
  rcases hc with hc | hc
  ·exact (h e (by simp)).2 c hc
  ·exact ih (fun x hx=>h x (by simp [hx])) c hc
theorem VC {σ : Env} {a : Act} (hE : Cc g σ a.tmps) (sz : Nat) : ∀ (parts : List (Nat × Operand)) (k : Nat) (xs : List X) (as pre : List AV) (vs : Array Value),
  Fq k parts=some xs→D9 σ xs=some as→DK sz as→pre.length=k*sz→vs.size=k*sz+as.length*sz →
  (∀ i,i<pre.length→Ab g (pre.getD i nv) (vs.getD i undef)) →
  ∃ out,Instr.fill (fun i=>some (i*sz,sz)) vs (parts.map fun x=>(x.1,a.eval x.2))=some out∧out.size=vs.size ∧
   ∀ i,i<(pre++flat as).length→Ab g ((pre++flat as).getD i nv) (out.getD i undef)
 | [],k,xs,as,pre,vs,hx,hv,Eb,hp,hs,HI=>by
  cases hx; cases hv;exact ⟨vs,rfl,rfl,by simpa [flat] using HI⟩
 | (i,x)::parts,k,xs,as,pre,vs,hx,hv,Eb,hp,hs,HI=>by
  unfold Fq at hx
  split at hx
  ·rename_i um
   subst um
   obtain ⟨x',xs',h1,h2,rfl⟩:=Pk hx
   obtain ⟨av,as',h3,h4,rfl⟩:=GA hv
   have N7:=Ar hE h1 h3
   obtain ⟨c1,c2⟩:=N7.cells
   have CU:=(Eb av (by simp)).1
   have hmul : (as'.length+1)*sz=as'.length*sz+sz:=by rw [Nat.add_mul]; omega
   have Hl : vs.size=i*sz+(as'.length*sz+sz):=by rw [hs]; simp only [List.length_cons,hmul]
   obtain ⟨f1,f2⟩:=Ma (i*sz) (a.eval x).cells.toList 0 vs (by simp; omega);simp only [List.map_cons,Instr.fill]
   have gO : ¬ ((a.eval x).cells.size≠sz∨i*sz+(a.eval x).cells.size > vs.size):=by omega
   rw [if_neg (by simpa using gO)]
   have Rj : ((a.eval x).cells.zipIdx.foldl (fun (cs : Array Value) (x : Value × Nat)=>cs.setIfInBounds (i*sz+x.2) x.1) vs) =
     (((a.eval x).cells.toList.zipIdx 0).foldl (fun (cs : Array Value) (x : Value × Nat)=>cs.setIfInBounds (i*sz+x.2) x.1) vs):=by
    rw [← Array.foldl_toList]; simp
   obtain ⟨out,o1,o2,o3⟩:=VC hE sz parts (i+1) xs' as' (pre++av.cells) (vs:=((a.eval x).cells.zipIdx.foldl (fun (cs : Array Value) (x : Value × Nat)=>cs.setIfInBounds (i*sz+x.2) x.1) vs)) h2 h4 (fun e he=>Eb e (by simp [he])) (by simp [hp,CU,Nat.add_mul])
    (by rw [Rj,f1,Hl,Nat.add_mul]; omega) (by
     intro k hk;rw [Rj,f2 k,Bf];simp only [Array.length_toList,Nat.add_zero,List.length_append] at hk ⊢
     by_cases Xf : k<pre.length
     ·rw [if_pos Xf,if_neg (by omega)]; exact HI k Xf
     ·rw [if_neg Xf,if_pos (by omega)]
      have:=c2 (k - pre.length) (by omega);rw [hp] at this ⊢
      simpa using this)
   refine ⟨out,o1,by rw [o2,Rj,f1], ?_⟩
   simpa [flat,List.append_assoc] using o3
  ·cases hx
theorem N3 {σ : Env} : ∀ {xs : List X} {as : List AV},D9 σ xs=some as→as.length=xs.length
 | [],as,h=>by cases h; rfl
 | x::xs,as,h=>by
  obtain ⟨a,s,h1,h2,rfl⟩:=GA h
  simp [N3 h2]
theorem Sx {σ : Env} {a : Act} (hE : Cc g σ a.tmps) {t : TypeId} {x : TypeId × TypeInfo} (he : Bv P t=some x) {z : List AV} (hz : C6 P x.1=some z)
  {n : Nat} {parts : Array (Nat × Operand)} {xs : List X} (hx : Fq 0 parts.toList=some xs) (hn : xs.length=n) (Xc : n*x.2.size≤16777216) {as : List AV}
  (hv : D9 σ xs=some as) (Eb : DK x.2.size as) :
  ∃ out : Array Value,(Instr.buildSlice t n (parts.map fun x=>(x.1,a.eval x.2))).run P w=.ok (.slice (some ⟨w.heap.size,0,none⟩) n n) (w.alloc (.cells out x.1)) ∧
   out.size=n*x.2.size∧as.length=n∧∀ i,i<(flat as).length→Ab g ((flat as).getD i nv) (out.getD i undef):=by
 obtain ⟨h1,h2,h3⟩:=Ck he
 obtain ⟨i,zv,k1,k2,k3,k4,k5⟩:=DI hz;rw [h2] at k1; cases k1
 have has : as.length=n:=by rw [N3 hv,hn]
 let z0 : Array Value:=if n*x.2.size=0 then #[] else zv.cells
 obtain ⟨out,o1,o2,o3⟩:=VC hE x.2.size parts.toList 0 xs as [] ((Array.range (n*x.2.size)).map (z0[· % z0.size]!)) hx hv Eb (by simp) (by simp [has]) (by simp);refine ⟨out, ?_,by rw [o2]; simp,has,by simpa using o3⟩
 have hgt : ¬ (n*x.2.size > 2 ^ 24):=by omega
 by_cases h0 : n*x.2.size=0
 ·have Ps : z0=#[]:=by simp [z0,h0]
  rw [Ps] at o1
  simp only [Instr.buildSlice,Sem.run_bind,run_underlying h1,Result.andThen_ok,sizeOf,typeInfo,run_program,h2,Sem.run_pure,h0,if_true,Array.toList_map,
   show ¬ (0 > 2 ^ 24) by decide,if_false]
  rw [h0] at o1;rw [o1]
  simp [newRow]
 ·have Ps : z0=zv.cells:=by simp [z0,h0]
  rw [Ps] at o1;simp only [Instr.buildSlice,Sem.run_bind,run_underlying h1,Result.andThen_ok,sizeOf,typeInfo,run_program,h2,Sem.run_pure,hgt,if_false,h0,Array.toList_map,zeroValue,k2,o1]
  simp [newRow]
theorem WJ {σ : Env} {a : Act} (hW : Ao g B H w) (hE : Cc g σ a.tmps) {t : TypeId} {x : TypeId × TypeInfo} (he : Bv P t=some x) {z : List AV} (hz : C6 P x.1=some z)
  {n : Nat} {parts : Array (Nat × Operand)} {xs : List X} (hx : Fq 0 parts.toList=some xs) (hn : xs.length=n) (Xc : n*x.2.size≤16777216) {as : List AV}
  (hv : D9 σ xs=some as) (Eb : DK x.2.size as) (hm : as.length≤AL) :
  ∃ v w',(Instr.buildSlice t n (parts.map fun x=>(x.1,a.eval x.2))).run P w=.ok v w'∧Dk g B w (fun r' H'=>r'=.sl as∧H'=H) v w':=by
 obtain ⟨out,h1,h2,h3,h4⟩:=Sx (P:=P) (w:=w) hE he hz hx hn Xc hv Eb
 obtain ⟨k1,k2⟩:=hW.Ld out x.1;refine ⟨_,_,h1,_,_,_,k1,⟨rfl,rfl⟩, ?_,k2,(Below.refl B w).alloc hW.base _⟩;subst h3;refine .sl as w.heap.size 0 x.2.size _ (fun i=>out.getD i undef) hm (by first | exact Nat.le_refl _ | omega) (fun i hi=>?_) (fun i j hi hj=>?_) (fun i j hi hj=>?_)
 ·have : as.getD i nv∈as:=by simp [gE,hi]
  exact (Eb _ this).1
 ·have D1 : i*x.2.size+j<out.size:=by
   rw [h2]
   have : (i+1)*x.2.size≤as.length*x.2.size:=Nat.mul_le_mul_right _ hi;rw [Nat.add_mul] at this; omega
  simp only [Gh.Hu,Nat.zero_add]
  simp [D1,Array.getD]
 ·have D1 : i*x.2.size+j<(flat as).length:=by
   rw [Gz Eb]
   have : (i+1)*x.2.size≤as.length*x.2.size:=Nat.mul_le_mul_right _ hi;rw [Nat.add_mul] at this; omega
  have:=(h4 _ D1).mono k1
  rwa [MB Eb i j hi hj] at this
theorem Zt {σ : Env} {a : Act} (hW : Ao g B H w) (hE : Cc g σ a.tmps) {t : TypeId} {x : TypeId × TypeInfo} (he : Bv P t=some x) {z : List AV} (hz : C6 P x.1=some z)
  {parts : Array (Nat × Operand)} {xs : List X} (hx : Fq 0 parts.toList=some xs) (hn : xs.length=0) :
  ∃ v w',(Instr.buildSlice t 0 (parts.map fun x=>(x.1,a.eval x.2))).run P w=.ok v w'∧Dk g B w (fun r' H'=>r'=.FG∧H'=H) v w':=by
 have hxs : xs=[]:=List.eq_nil_of_length_eq_zero hn;subst hxs
 obtain ⟨out,h1,h2,h3,h4⟩:=Sx (P:=P) (w:=w) (n:=0) hE he hz hx hn (by omega) (as:=[]) rfl (by intro e he; simp at he)
 obtain ⟨k1,k2⟩:=hW.Ld out x.1;exact ⟨_,_,h1,_,_,_,k1,⟨rfl,rfl⟩,.FG _,k2,(Below.refl B w).alloc hW.base _⟩
theorem Wi (hW : Ao g B H w) {t : TypeId} {av : AV} {v : Value} (hv : Ab g av v) :
  ∃ u w',(Instr.box t v).run P w=.ok u w'∧Dk g B w (fun r' H'=>r'=.ptr av.cells∧H'=H) u w':=by
 obtain ⟨c1,c2⟩:=hv.cells
 obtain ⟨k1,k2⟩:=hW.Ld v.cells t;refine ⟨.pointer (some ⟨w.heap.size,0,none⟩),w.alloc (.cells v.cells t),by simp [Instr.box,newVar,newRow],_,_,_,k1,⟨rfl,rfl⟩, ?_,k2,(Below.refl B w).alloc hW.base _⟩;refine .ptr _ _ 0 (fun i=>v.cells.getD i undef) (fun i hi=>?_) (fun i hi=>(c2 i hi).mono k1)
 simp [Gh.Hu,c1,hi,Array.getD]
theorem Uv : ∀ (es : List AV) (vs : List Value) (acc : ByteArray),(∀ e,e∈es→e.isByte=true)→es.length=vs.length→(∀ i,i<es.length→Ab g (es.getD i nv) (vs.getD i undef)) →
  (forIn (m:=Sem) vs acc fun c r =>
   match c with
   | .int .u8 n=>pure (ForInStep.yield (r.push (UInt8.ofNat n.toNat)))
   | _=>do
    stuck "bytesToString: byte expected"
    pure (ForInStep.yield r)).run P w=.ok ⟨(acc.data.toList++es.map AV.byte).toArray⟩ w
 | [],[],acc,_,_,_=>by simp
 | [],_::_,_,_,hl,_=>by simp at hl
 | _::_,[],_,_,hl,_=>by simp at hl
 | e::es,v::vs,acc,hb,hl,hr=>by
  have h0:=hr 0 (by simp);simp only [List.getD_cons_zero] at h0
  have hbe:=hb e (by simp)
  cases h0 <;> try (simp [AV.isByte] at hbe; done)
  rename_i k n
  cases k <;> try (simp [AV.isByte] at hbe; done)
  have ih:=Uv es vs (acc.push (UInt8.ofNat n.toNat)) (fun x hx=>hb x (by simp [hx])) (by simpa using hl) (fun i hi=>by simpa using hr (i+1) (by simpa using hi));simp only [List.forIn_cons,Sem.run_bind,Sem.run_pure,Result.andThen_ok];rw [ih]
  simp [AV.byte,ByteArray.push]
end
end Go.AW
namespace Go.AW
open Go.RowKit
section
variable {P : Program} {g : Gh} {B : Nat} {H : AB} {w : World}
theorem TT (hW : Ao g B H w) {av : AV} {v : Value} (hv : Ab g av v) {p : Prop} {r : AV} (he : Ss (some av)=some (p,r)) (hp : p) :
  ∃ u,(Conv.bytesToString v).run P w=.ok u w∧Ab g r u:=by
 cases hv <;> simp only [Ss,Option.some.injEq,Prod.mk.injEq,reduceCtorEq] at he
 case A1 =>
  obtain ⟨-,rfl⟩:=he;exact ⟨.string ⟨#[]⟩,by simp [Conv.bytesToString]; rfl,.str []⟩
 case slnil a cap =>
  obtain ⟨-,rfl⟩:=he;refine ⟨.string ⟨#[]⟩, ?_,.str []⟩
  cases a with
  | none=>simp [Conv.bytesToString]; rfl
  | some a=>simp [Conv.bytesToString,loadCells,loadCellsFrom]; rfl
 case sl es b o sz cap vs hm _ CU hf hv =>
  obtain ⟨rfl,rfl⟩:=he
  have Iq : ∀ i,i<es.length→sz=1:=fun i hi=>by
   have h1:=CU i hi
   have h2:=hp (es.getD i nv) (by simp [gE,hi])
   generalize es.getD i nv=e at h1 h2
   cases e <;> simp [AV.isByte] at h2
   simpa [AV.cells] using h1.symm
  have hl : (loadCells ⟨b,o,none⟩ es.length).run P w=.ok ((List.range es.length).map vs).toArray w :=
   run_loadCells w ⟨b,o,none⟩ es.length vs fun j hj=>by
    have h1:=Iq j hj;subst h1
    have:=hf j 0 hj (by omega);rw [Addr.add_lit];exact hW.fz _ _ _ (by simpa using this)
  have hr : ∀ i,i<es.length→Ab g (es.getD i nv) (((List.range es.length).map vs).getD i undef):=fun i hi=>by
   have h1:=Iq i hi;subst h1
   have h3:=hv i 0 hi (by omega)
   have h2:=hp (es.getD i nv) (by simp [gE,hi])
   have : ((List.range es.length).map vs).getD i undef=vs i:=by simp [gE,hi]
   rw [this]
   generalize es.getD i nv=e at h3 h2 ⊢
   cases e <;> simp [AV.isByte] at h2
   simpa [AV.cells] using h3
  have:=Uv (P:=P) (w:=w) es ((List.range es.length).map vs) ByteArray.empty hp (by simp) hr;refine ⟨.string ⟨(es.map AV.byte).toArray⟩, ?_,.str _⟩;simp only [Conv.bytesToString,Sem.run_bind,hl,Result.andThen_ok];rw [← Array.forIn_toList];exact Eq.trans (congrArg (fun r=>Result.andThen r _) this) rfl
theorem PS {t : TypeId} {q : IntKind} (ht : P.underlying t=some (.int q)) (d : Nat) (k : IntKind) (a b : Int) :
  (Op.equalIn (d+1) t (.int k a) (.int k b)).run P w=.ok (a == b) w:=by
 simp [Op.equalIn,run_underlying ht]
theorem kA {t : TypeId} {fs : Array Field} (ht : P.underlying t=some (.struct fs)) (hi : FH P 0 fs.toList=true) (hs : P.stoodInHeld t=false)
  (h2 : fs.size=2) (k1 k2 : IntKind) (a b c d : Int) (dp : Nat) :
  (Op.equalIn (dp+2) t (.agg #[.int k1 a,.int k2 b]) (.agg #[.int k1 c,.int k2 d])).run P w=.ok (decide (a=c) && decide (b=d)) w:=by
 obtain ⟨l⟩:=fs
 match l,h2 with
 | [f0,f1],_ =>
  simp only [FH,Bool.and_eq_true,beq_iff_eq,bne_iff_ne,ne_eq] at hi
  obtain ⟨⟨⟨⟨ho0,hu0⟩,Ps⟩,Ye⟩,⟨⟨⟨VO,wO⟩,hz1⟩,l7⟩,-⟩:=hi
  have e0 : ∃ k,P.underlying f0.type=some (.int k):=by split at hu0 <;> simp_all
  have e1 : ∃ k,P.underlying f1.type=some (.int k):=by split at wO <;> simp_all
  obtain ⟨q0,e0⟩:=e0
  obtain ⟨q1,e1⟩:=e1;unfold Op.equalIn;simp only [Sem.run_bind,run_underlying ht,Result.andThen_ok,run_program,hs,Bool.false_eq_true,if_false]
  simp [Ye,l7,ho0,VO,part,isAgg,run_underlying e0,run_underlying e1,PS e0,PS e1]
  by_cases Px : a=c
  ·subst Px; by_cases T9 : b=d
   ·subst T9; simp
   ·simp [T9]
  ·simp [Px]
theorem VE {t : TypeId} {fs : Array Field} (ht : P.underlying t=some (.struct fs)) (hi : FH P 0 fs.toList=true) (hs : P.stoodInHeld t=false)
  (h2 : fs.size=2) (k1 k2 : IntKind) (a b c d : Int) :
  (Op.equal t (.agg #[.int k1 a,.int k2 b]) (.agg #[.int k1 c,.int k2 d])).run P w=.ok (decide (a=c) && decide (b=d)) w :=
 kA ht hi hs h2 k1 k2 a b c d 9998
end
end Go.AW
namespace Go.AW
open Go.RowKit
section
variable {P : Program} {g : Gh} {B : Nat} {H : AB} {w : World}
theorem Ao.obj (hW : Ao g B H w) {id b cap sz f : Nat} {cs : List AV} (D3 : g.io id=some (.HC b cap)) (ho : H.get id=some (.cells sz cs f)) :
  ∃ c el,w.heap[b]? = some (.cells c el (0,0))∧B≤b∧f≤cs.length∧cs.length≤AL∧c.size=cap*sz∧cs.length≤c.size∧∀ i,i<cs.length→Ab g (cs.getD i nv) (c.getD i undef):=by
 obtain ⟨p,hp,hr⟩:=hW.ob id _ ho;rw [D3] at hp; cases hp;simp only [Aj] at hr
 obtain ⟨h1,h2,h3,h4,c,el,h5,h6,h7,h8⟩:=hr;exact ⟨c,el,h5,h1,h2,h3,h6,h7,h8⟩
theorem getD_some {c : Array Value} {i : Nat} (h : i<c.size) : c[i]? = some (c.getD i undef):=by simp [Array.getD,h]
theorem OS (hW : Ao g B H w) {t : TypeId} {n : Option Nat} (h : HB P t=some n) {id off : Nat} {v : Value} (hv : Ab g (.ref id off) v) {K : Am}
  (hk : M3 (H.get id) n off K H) : ∃ u,(Instr.loadAt t v).run P w=.ok u w∧Dk g B w K u w:=by
 cases hv
 rename_i b cap D3
 cases ho : H.get id with
 | none=>simp [ho,M3] at hk
 | some o =>
  cases o with
  | map ks vs=>cases n <;> simp [ho,M3] at hk
  | cells sz cs f =>
   obtain ⟨c,el,h5,_,_,_,h6,h7,h8⟩:=hW.obj D3 ho
   cases n with
   | none =>
    simp only [ho,M3] at hk
    obtain ⟨k1,k2⟩:=hk
    have hc : w.cell? ⟨b,off,none⟩=some (c.getD off undef):=by rw [cell_of_row w b off c el _ h5]; exact getD_some (by omega)
    refine ⟨c.getD off undef, ?_,.same hW (h8 off k1) k2⟩;simp only [Instr.loadAt,Instr.sureAddr,loadVar,Sem.run_bind,Sem.run_pure,Result.andThen_ok,Fv h];simp only [Bool.false_eq_true,if_false,run_load,hc]
   | some n =>
    simp only [ho,M3] at hk
    obtain ⟨k1,k2⟩:=hk
    obtain ⟨h1,i,h2,h3⟩:=JX (w:=w) h
    have hl:=run_loadCells (P:=P) w ⟨b,off,none⟩ n (fun j=>c.getD (off+j) undef) (fun j hj=>by
     rw [Addr.add_lit,cell_of_row w b (off+j) c el _ h5]; exact getD_some (by omega))
    refine ⟨.agg ((List.range n).map fun j=>c.getD (off+j) undef).toArray, ?_,.same hW (.agg _ _ ?_ ?_) k2⟩
    ·simp only [Instr.loadAt,Instr.sureAddr,loadVar,Sem.run_bind,Sem.run_pure,Result.andThen_ok,h1,if_true,sizeOf,typeInfo,run_program,h2,h3];simp only [hl,Result.andThen_ok,Sem.run_pure']
    ·simp; omega
    ·intro j hj
     have VM : j<n:=by simp at hj; omega
     have e1 : ((cs.drop off).take n).getD j nv=cs.getD (off+j) nv:=by simp [gE,VM]
     have e2 : (((List.range n).map fun j=>c.getD (off+j) undef).toArray).getD j undef=c.getD (off+j) undef:=by simp [Array.getD,VM]
     rw [e1,e2];exact h8 _ (by omega)
theorem Ao.store (hW : Ao g B H w) {id b cap sz f off : Nat} {cs : List AV} (D3 : g.io id=some (.HC b cap)) (ho : H.get id=some (.cells sz cs f))
  {vs : List AV} {us : List Value} (h1 : f≤off) (h2 : off+vs.length≤cs.length) (hl : us.length=vs.length) (h3 : ∀ c,c∈vs→c.one=true)
  (hv : ∀ i,i<vs.length→Ab g (vs.getD i nv) (us.getD i undef)) :
  ∃ w',(storeCells ⟨b,off,none⟩ us).run P w=.ok () w'∧Ao g B (H.set id (.cells sz (wr cs off vs) f)) w'∧Below B w w':=by
 obtain ⟨c,el,h5,hb,hf,hm,h6,h7,h8⟩:=hW.obj D3 ho
 have Iq : ∀ u∈us,u.oneCell'=true:=by
  intro u hu
  obtain ⟨i,hi,rfl⟩:=List.getElem_of_mem hu
  have:=hv i (by omega)
  have e1 : us.getD i undef=us[i]:=by simp [gE,hi]
  rw [e1] at this;refine this.one (h3 _ ?_)
  have : vs.getD i nv=vs[i]'(by omega):=by simp [gE,show i<vs.length by omega]
  rw [this]; simp
 have hr:=run_storeCells_at P b off el us 0 c w h5 (by omega) Iq;simp only [Nat.add_zero] at hr;refine ⟨_,hr, ?_, ?_⟩
 ·refine hW.write id b cap sz cs _ f c _ el ho D3 h5 (setRow_heap w b c _ el _ h5) (by simp [World.setRow]) (fun k hk=>setRow_other w b k _ hk) ?_ ?_ ?_ ?_ ?_ ?_
  ·simp; omega
  ·intro k hk
   have : k<off:=by omega
   simp [List.getElem?_append,show k<min off c.size by omega,this]
  ·rw [FD]; exact hf
  ·rw [FD]; exact hm
  ·rw [FD]; simp; omega
  ·intro k hk;rw [FD] at hk;rw [S2 _ _ _ _ h2]
   have key : ((c.toList.take off++us++c.toList.drop (off+us.length)).toArray).getD k undef=if off≤k∧k<off+vs.length then us.getD (k - off) undef else c.getD k undef:=by
    simp only [Array.getD_eq_getD_getElem?,List.getElem?_toArray,gE]
    by_cases a1 : k<off
    ·rw [if_neg (by omega),List.append_assoc,List.getElem?_append_left (by simp; omega)]
     simp [a1]
    ·by_cases a2 : k<off+us.length
     ·rw [if_pos (by omega),List.append_assoc,List.getElem?_append_right (by simp; omega),List.getElem?_append_left (by simp; omega)]
      simp [show min off c.size=off by omega]
     ·rw [if_neg (by omega),List.getElem?_append_right (by simp; omega)];simp only [List.length_append,List.length_take,Array.length_toList,List.getElem?_drop];rw [show off+us.length+(k - (min off c.size+us.length))=k by omega]
      simp
   rw [key]
   split
   ·exact hv _ (by omega)
   ·exact h8 k hk
 ·exact ⟨rfl,rfl,rfl,by simp [World.setRow],fun k hk=>setRow_other w b k _ (by omega),Nat.le_refl _⟩
theorem Yv (hW : Ao g B H w) {t : TypeId} {i : TypeInfo} (hi : P.info? t=some i) {id off : Nat} {p u : Value} {av : AV} (hp : Ab g (.ref id off) p) (hu : Ab g av u) {K : Am}
  (hk : OZ (H.get id) id off i.size av.cells K H) : ∃ w',(Instr.storeAt t p u).run P w=.ok () w'∧Dk g B w K undef w':=by
 cases hp
 rename_i b cap D3
 cases ho : H.get id with
 | none=>simp [ho,OZ] at hk
 | some o =>
  cases o with
  | map ks vs=>simp [ho,OZ] at hk
  | cells sz cs f =>
   simp only [ho,OZ] at hk
   obtain ⟨⟨k1,k2,k3,k4⟩,k5⟩:=hk
   obtain ⟨c1,c2⟩:=hu.cells
   obtain ⟨w',r1,r2,r3⟩:=hW.store (P:=P) D3 ho (vs:=av.cells) (us:=u.cells.toList) k1 (by omega) (by simpa using c1) k4 (fun i hi=>by simpa using c2 i hi);refine ⟨w', ?_,g,nv,_,.refl g,k5,.CG [] #[] rfl (fun i hi=>by simp at hi),r2,r3⟩
   have hs : ¬ (u.cells.size≠i.size):=by omega
   simp only [Instr.storeAt,Instr.sureAddr,storeVar,Sem.run_bind,Sem.run_pure,Result.andThen_ok,sizeOf,typeInfo,run_program,hi,hs,if_false,r1]
theorem L3 (hW : Ao g B H w) (c : Array Value) (el : TypeId) (sz cap n : Nat) (cs : List AV) (hm : cs.length≤AL) (hc : c.size=cap*sz) (hl : cs.length≤c.size)
  (hv : ∀ k,k<cs.length→Ab g (cs.getD k nv) (c.getD k undef)) {K : Am} (hk : Ef n sz cs K H) :
  Dk g B w K (.slice (some ⟨w.heap.size,0,none⟩) n cap) (w.alloc (.cells c el)):=by
 obtain ⟨i,h1,h2⟩:=hW.fresh
 obtain ⟨k1,k2⟩:=hW.Pr i h1 c el sz cap cs hm hc hl hv;exact ⟨_,_,_,k1,hk i h2,.buf i n _ cap (Gh.EE _ _ _),k2,(Below.refl B w).alloc hW.base _⟩
theorem Lj (hW : Ao g B H w) (c : Array Value) (el : TypeId) (sz : Nat) (cs : List AV) (hm : cs.length≤AL) (hc : c.size=sz) (hl : cs.length=sz)
  (hv : ∀ k,k<cs.length→Ab g (cs.getD k nv) (c.getD k undef)) {K : Am} (hk : HF sz cs K H) :
  Dk g B w K (.pointer (some ⟨w.heap.size,0,none⟩)) (w.alloc (.cells c el)):=by
 obtain ⟨i,h1,h2⟩:=hW.fresh
 obtain ⟨k1,k2⟩:=hW.Pr i h1 c el sz 1 cs hm (by omega) (by omega) hv;exact ⟨_,_,_,k1,hk i h2,.ref i 0 _ 1 (Gh.EE _ _ _),k2,(Below.refl B w).alloc hW.base _⟩
theorem Wq {σ : Env} {a : Act} (hW : Ao g B H w) (hE : Cc g σ a.tmps) {t : TypeId} {x : TypeId × TypeInfo} (he : Bv P t=some x) {z : List AV} (hz : C6 P x.1=some z)
  {n : Nat} {parts : Array (Nat × Operand)} {xs : List X} (hx : Fq 0 parts.toList=some xs) (hn : xs.length=n) (Xc : n*x.2.size≤16777216) {K : Am}
  (hk : RH x.2.size (D9 σ xs) K H) :
  ∃ v w',(Instr.buildSlice t n (parts.map fun x=>(x.1,a.eval x.2))).run P w=.ok v w'∧Dk g B w K v w':=by
 cases hv : D9 σ xs with
 | none=>simp [hv,RH] at hk
 | some as =>
  simp only [hv,RH] at hk
  obtain ⟨⟨Eb,hm⟩,hk⟩:=hk
  obtain ⟨out,h1,h2,h3,h4⟩:=Sx (P:=P) (w:=w) hE he hz hx hn Xc hv Eb
  have Fc:=Gz Eb;subst h3;exact ⟨_,_,h1,L3 hW out x.1 x.2.size as.length as.length (flat as) (by simp only [AL]; omega) h2 (by omega) h4 hk⟩
theorem WS (hW : Ao g B H w) {t : TypeId} {n : Nat} {oav : Option AV} {av : AV} {v : Value} (hoav : oav=some av) (hv : Ab g av v) {K : Am} (hk : Ud n oav K H) :
  ∃ u w',(Instr.box t v).run P w=.ok u w'∧Dk g B w K u w':=by
 subst hoav
 obtain ⟨⟨h1,h2⟩,hk⟩:=hk
 obtain ⟨c1,c2⟩:=hv.cells;exact ⟨_,_,by simp [Instr.box,newVar,newRow],Lj hW v.cells t n av.cells (by omega) (by omega) h1 c2 hk⟩
theorem Tf (hW : Ao g B H w) {t : TypeId} {z : List AV} (hz : C6 P t=some z) (hm : z.length≤AL) {K : Am} (hk : HF z.length z K H) :
  ∃ u w',(Instr.alloc t true (.tuple #[])).run P w=.ok u w'∧Dk g B w K u w':=by
 obtain ⟨i,zv,h1,h2,h3,h4,h5⟩:=DI hz;exact ⟨_,_,by simp [Instr.alloc,zeroValue,typeInfo,h1,h2,newVar,newRow],Lj hW zv.cells t z.length z hm (by omega) rfl (h5 g) hk⟩
theorem EO (z : List AV) : ∀ n,(rep n z).length=n*z.length
 | 0=>by simp [rep]
 | n+1=>by simp [rep,EO z n,Nat.add_mul,Nat.add_comm]
theorem Ol (z : List AV) : ∀ n k,k<n*z.length→(rep n z).getD k nv=z.getD (k % z.length) nv
 | 0,k,h=>by simp at h
 | n+1,k,h=>by
  have hz : 0<z.length:=by
   rcases Nat.eq_zero_or_pos z.length with e | e
   ·simp [e] at h
   ·exact e
  simp only [rep];rw [Bf]
  by_cases hk : k<z.length
  ·rw [if_pos hk,Nat.mod_eq_of_lt hk]
  ·rw [if_neg hk,Ol z n (k - z.length) (by rw [Nat.add_mul] at h; omega)];rw [← Nat.mod_eq_sub_mod (by omega)]
theorem Zl (hW : Ao g B H w) {t : TypeId} {x : TypeId × TypeInfo} (he : Bv P t=some x) {z : List AV} (hz : C6 P x.1=some z) (hb : x.2.bytes≤256)
  {ol oc : Option AV} {lv cv : AV} {l c : Value} (TM : ol=some lv) (hoc : oc=some cv) (hl : Ab g lv l) (hc : Ab g cv c) {K : Am} (hk : Rr x.2.size z ol oc K H) :
  ∃ u w',(Instr.makeSlice t l c).run P w=.ok u w'∧Dk g B w K u w':=by
 subst TM hoc
 cases hl <;> try (simp [Rr] at hk; done)
 cases hc <;> try (simp [Rr] at hk; done)
 rename_i k1 l k2 c
 simp only [Rr] at hk
 obtain ⟨⟨p1,p2,p3,p4⟩,hk⟩:=hk
 obtain ⟨h1,h2,h3⟩:=Ck he
 obtain ⟨i,zv,q1,q2,q3,q4,q5⟩:=DI hz;rw [h2] at q1; cases q1;simp only [AL] at p3
 have hbc : (x.2.bytes : Int)*c≤281474976710656:=by
  have jI : c≤1099511627776:=by omega
  have : (x.2.bytes : Int)*c≤256*1099511627776:=Int.mul_le_mul (by omega) jI (by omega) (by omega);omega
 have hr:=run_make (P:=P) w t x.1 x.2 zv h1 h2 q2 k1 k2 l c p1 p2 hbc (by omega)
 have hlc : l.toNat*x.2.size≤c.toNat*x.2.size:=Nat.mul_le_mul_right _ (by omega);refine ⟨_,_,hr,L3 hW _ x.1 x.2.size c.toNat l.toNat (rep l.toNat z) ?_ ?_ ?_ ?_ hk⟩
 ·rw [EO,q3]; exact p4
 ·rw [size_madeCells]
 ·rw [EO,size_madeCells,q3]; exact hlc
 ·intro k Lu;rw [EO] at Lu;rw [Ol _ _ _ Lu]
  have Hm : k<c.toNat*x.2.size:=by rw [q3] at Lu; omega
  have hzl : 0<z.length:=by omega
  have hm : k % z.length<z.length:=Nat.mod_lt _ hzl
  have e1 : (madeCells zv.cells (c.toNat*x.2.size)).getD k undef=zv.cells.getD (k % z.length) undef:=by
   simp only [madeCells,Array.getD_eq_getD_getElem?];rw [Array.getElem?_map,Array.getElem?_range];rw [if_pos Hm];simp only [Option.map_some,Option.getD_some];rw [q4,← q3]
   simp [getElem!_def,show k % z.length<zv.cells.size by omega]
  rw [e1];exact q5 g _ hm
end
end Go.AW
namespace Go.AW
open Go.RowKit
section
variable {P : Program} {g : Gh} {B : Nat} {H : AB} {w : World}
theorem JW (hW : Ao g B H w) {sz : Nat} {av : AV} {v : Value} (hv : Ab g av v) {p : Prop} {m : Nat} {new : List AV} (hs : Ct sz (some av) H=some (p,m,new)) (hp : p) :
  ∃ (ax : Option Addr) (cap : Nat) (news : List Value),v=.slice ax m cap∧news.length=m*sz∧new.length=m*sz∧(∀ i,i<new.length→Ab g (new.getD i nv) (news.getD i undef)) ∧
   (∀ u∈news,u.oneCell'=true)∧(∀ c∈new,c.one=true) ∧
   ∀ w',(∀ b o u,g.fz b o=some u→w'.cell? ⟨b,o,none⟩=some u)→(Builtin.firstCells sz m v).run P w'=.ok news.toArray w':=by
 cases hv <;> simp only [Ct,Option.some.injEq,Prod.mk.injEq,reduceCtorEq] at hs
 case A1 =>
  obtain ⟨rfl,rfl,rfl⟩:=hs;exact ⟨none,0,[],rfl,by simp,by simp,by simp,by simp,by simp,fun w' _=>by simp [Builtin.firstCells]⟩
 case slnil a cap =>
  obtain ⟨rfl,rfl,rfl⟩:=hs;refine ⟨a,cap,[],rfl,by simp,by simp [flat],by simp [flat],by simp,by simp [flat],fun w' _=>?_⟩
  cases a <;> simp [Builtin.firstCells,loadCells,loadCellsFrom]
 case sl es b o sz' cap vs hm _ CU hf hv =>
  obtain ⟨rfl,rfl,rfl⟩:=hs
  have hszz : es.length=0∨sz'=sz:=by
   rcases Nat.eq_zero_or_pos es.length with h | h
   ·exact .inl h
   ·right
    have h1:=CU 0 h
    have h2:=(hp (es.getD 0 nv) (by simp [gE,h])).1;omega
  have Fc:=Gz hp
  have Mg : ∀ i,i<es.length*sz→g.fz b (o+i)=some (vs i)∧Ab g ((flat es).getD i nv) (vs i):=by
   intro i hi
   have hz : 0<sz:=by
    rcases Nat.eq_zero_or_pos sz with h | h
    ·simp [h] at hi
    ·exact h
   have hd : i / sz<es.length:=by rw [Nat.div_lt_iff_lt_mul hz]; exact hi
   have hr : i % sz<sz:=Nat.mod_lt _ hz
   have he : i / sz*sz+i % sz=i:=by rw [Nat.mul_comm]; exact Nat.div_add_mod i sz
   have hz' : sz'=sz:=by
    rcases hszz with h | h
    ·exact absurd hd (by rw [h]; exact Nat.not_lt_zero _)
    ·exact h
   subst hz'
   have h1:=hf (i / sz') (i % sz') hd hr
   have h2:=hv (i / sz') (i % sz') hd hr;rw [he] at h1 h2;refine ⟨h1, ?_⟩
   have h3:=MB hp (i / sz') (i % sz') hd hr;rw [he] at h3;rw [h3]; exact h2
  refine ⟨some ⟨b,o,none⟩,cap,(List.range (es.length*sz)).map vs,rfl,by simp,Fc, ?_, ?_,Ul hp, ?_⟩
  ·intro i hi;rw [Fc] at hi
   have : ((List.range (es.length*sz)).map vs).getD i undef=vs i:=by simp [gE,hi]
   rw [this]; exact (Mg i hi).2
  ·intro u hu;simp only [List.mem_map,List.mem_range] at hu
   obtain ⟨i,hi,rfl⟩:=hu;refine (Mg i hi).2.one (Ul hp _ ?_)
   simp [gE,show i<(flat es).length by omega]
  ·intro w' hw';simp only [Builtin.firstCells];exact run_loadCells w' ⟨b,o,none⟩ _ vs fun j hj=>by rw [Addr.add_lit]; exact hw' _ _ _ (Mg j hj).1
theorem fC {w : World} (t ty e : TypeId) (i : TypeInfo) (ht : P.underlying t=some (.slice e)) (hi : P.info? e=some i)
  (b n cap : Nat) (cur : Array Value) (el : TypeId) (hg : w.heap[b]? = some (.cells cur el (0,0))) (ax : Option Addr) (m c : Nat) (news : List Value)
  (hf : (Builtin.firstCells i.size m (.slice ax m c)).run P w=.ok news.toArray w) (hl : news.length=m*i.size) (h1 : ∀ u∈news,u.oneCell'=true)
  (Yj : n+m≤cap) (tD : n*i.size+news.length≤cur.size) :
  (Builtin.append_ #[t,t] ty #[.slice (some ⟨b,0,none⟩) n cap,.slice ax m c]).run P w =
   .ok (.slice (some ⟨b,0,none⟩) (n+m) cap) (w.setRow b (cur.toList.take (n*i.size)++news++cur.toList.drop (n*i.size+news.length)).toArray):=by
 have HM:=run_storeCells_at P b (n*i.size) el news 0 cur w hg (by simpa using tD) h1;simp only [Nat.add_zero] at HM
 simp [Builtin.append_,run_underlying ht,sizeOf,typeInfo,hi,Builtin.lenOf,Yj,hf,Addr.add_lit,HM]
theorem LV {w : World} (t ty e : TypeId) (i : TypeInfo) (z : Value) (ht : P.underlying t=some (.slice e)) (hi : P.info? e=some i) (hz : i.zero=some z)
  (s : Option Addr) (n cap : Nat) (olds : List Value) (ax : Option Addr) (m c : Nat) (news : List Value)
  (ho : (Builtin.firstCells i.size n (.slice s n cap)).run P w.drew=.ok olds.toArray w.drew)
  (hf : (Builtin.firstCells i.size m (.slice ax m c)).run P w.drew=.ok news.toArray w.drew)
  (hg : cap<n+m) (h63 : n+m≤AL) (hb : i.bytes≤128) :
  (Builtin.append_ #[t,t] ty #[.slice s n cap,.slice ax m c]).run P w =
   .ok (.slice (some ⟨w.heap.size,0,none⟩) (n+m) (grownCap w (n+m) cap e))
    (w.drew.alloc (.cells (olds.toArray++news.toArray++Builtin.zeroCells z.cells (grownCap w (n+m) cap e - (n+m))) e)):=by
 have hn : ¬ (n+m≤cap):=by omega
 have h63' : ¬ (9223372036854775807<((n : Int)+(m : Int))):=by simp only [AL] at h63; omega
 have Nb : (n+m)*i.bytes≤140737488355328:=by
  have : (n+m)*i.bytes≤1099511627776*128:=Nat.mul_le_mul h63 hb;omega
 have h48' : ¬ (281474976710656<Builtin.nextslicecap (n+m) cap*i.bytes):=by have:=growslice_fits hg Nb; omega
 simp [Builtin.append_,run_underlying ht,sizeOf,typeInfo,zeroValue,hi,hz,Builtin.lenOf,hn,h63',h48',Question.forced,ho,hf,newRow,grownCap]
 congr 2
 apply Array.ext'
 simp
theorem Lc (hW : Ao g B H w) {H' : AB} (Cs : H'.sub H) (cap0 : Nat) (e : TypeId) (sz n m f : Nat) (cs new : List AV) (olds news : List Value) (z : Array Value)
  (h1 : olds.length=n*sz) (h2 : news.length=m*sz) (h3 : cs.length=n*sz) (h4 : new.length=m*sz) (hz : z.size=sz) (hm : (n+m)*sz≤AL)
  (ho : ∀ i,i<cs.length→Ab g (cs.getD i nv) (olds.getD i undef)) (hn : ∀ i,i<new.length→Ab g (new.getD i nv) (news.getD i undef)) (hf : f≤cs.length) {K : Am}
  (hk : ∀ CT,H.get CT=none→K (.buf CT (n+m)) (H'.set CT (.cells sz (cs++new) f))) :
  Dk g B w K (.slice (some ⟨w.heap.size,0,none⟩) (n+m) (grownCap w (n+m) cap0 e))
   (w.drew.alloc (.cells (olds.toArray++news.toArray++Builtin.zeroCells z (grownCap w (n+m) cap0 e - (n+m))) e)):=by
 have XU:=grownCap_ge w (n+m) cap0 e
 obtain ⟨i,q1,q2⟩:=hW.fresh
 have hlen : (cs++new).length=(n+m)*sz:=by rw [List.length_append,h3,h4,Nat.add_mul]
 have CU : (olds.toArray++news.toArray++Builtin.zeroCells z (grownCap w (n+m) cap0 e - (n+m))).size=grownCap w (n+m) cap0 e*sz:=by
  simp only [Array.size_append,List.size_toArray,size_zeroCells,hz,h1,h2,← Nat.add_mul]
  congr 1
  omega
 have Qh : (n+m)*sz≤grownCap w (n+m) cap0 e*sz:=Nat.mul_le_mul_right _ XU
 have hv : ∀ k,k<(cs++new).length→Ab g ((cs++new).getD k nv) ((olds.toArray++news.toArray++Builtin.zeroCells z (grownCap w (n+m) cap0 e - (n+m))).getD k undef):=by
  intro k Lu;rw [Bf]
  have e1 : (olds.toArray++news.toArray++Builtin.zeroCells z (grownCap w (n+m) cap0 e - (n+m))).getD k undef=(olds++news).getD k undef:=by
   simp only [Array.getD_eq_getD_getElem?,gE];rw [Array.getElem?_append_left (by simp [h1,h2]; rw [hlen,Nat.add_mul] at Lu; omega)]
   simp
  rw [e1,Bf]
  by_cases Hm : k<cs.length
  ·rw [if_pos Hm,if_pos (by omega)]; exact ho k Hm
  ·rw [if_neg Hm,if_neg (by omega),h3,h1];simp only [List.length_append] at Lu
   have:=hn (k - cs.length) (by omega);rw [h3] at this;exact this
 obtain ⟨k1,k2⟩:=(hW.drew.sub Cs).Pr i q1 (olds.toArray++news.toArray++Builtin.zeroCells z (grownCap w (n+m) cap0 e - (n+m))) e sz (grownCap w (n+m) cap0 e) (cs++new)
  (by rw [hlen]; exact hm) CU (by rw [hlen,CU]; exact Qh) hv
 have hK:=hk i q2;refine ⟨_,_,_,k1,hK,.buf i (n+m) _ _ (Gh.EE _ _ _), ?_,((Below.refl B w).drew).alloc hW.base _⟩
 obtain ⟨wL,Q0,F3,hinj,ja,mm,TF⟩:=k2;refine ⟨wL,Q0,fun j o ej=>?_, ?_, ?_,mm,TF⟩
 ·by_cases hj : j=i
  ·subst hj
   simp at ej; subst ej
   obtain ⟨p,hp,hr⟩:=F3 j (.cells sz (cs++new) 0) (by simp);refine ⟨p,hp, ?_⟩;rw [Gh.EE] at hp; cases hp;simp only [Aj] at hr ⊢
   obtain ⟨a1,a2,a3,a4,a5⟩:=hr;exact ⟨a1,by rw [List.length_append]; omega,a3,fun o ho'=>a4 o (Nat.zero_le _),a5⟩
  ·exact F3 j o (by rw [AB.B1 _ _ hj] at ej ⊢; exact ej)
 ·intro a b' c c1 c2 Bp e1 e2
  have fix : ∀ x,((H'.set i (.cells sz (cs++new) f)).get x).isSome→((H'.set i (.cells sz (cs++new) 0)).get x).isSome:=by
   intro x hx
   by_cases gN : x=i
   ·subst gN; simp
   ·rw [AB.B1 _ _ gN] at hx ⊢; exact hx
  exact hinj a b' c c1 c2 Bp (fix _ e1) (fix _ e2)
 ·intro a b' c Bp e1 e2
  have fix : ∀ x,((H'.set i (.cells sz (cs++new) f)).get x).isSome→((H'.set i (.cells sz (cs++new) 0)).get x).isSome:=by
   intro x hx
   by_cases gN : x=i
   ·subst gN; simp
   ·rw [AB.B1 _ _ gN] at hx ⊢; exact hx
  exact ja a b' c Bp (fix _ e1) (fix _ e2)
theorem Xl (hW : Ao g B H w) {H' : AB} (Cs : H'.sub H) (sz : Nat) {K : Am} (hk : ∀ CT,H.get CT=none→K (.buf CT 0) (H'.set CT (.cells sz [] 0))) :
  Dk g B w K (.slice none 0 0) w:=by
 obtain ⟨i,q1,q2⟩:=hW.fresh
 obtain ⟨k1,k2⟩:=(hW.sub Cs).HD i q1 .nil (.cells sz [] 0) (fun b hb=>by cases hb) (by simp [Aj]);exact ⟨_,_,_,k1,hk i q2,.DX i (Gh.EE _ _ _),k2,.refl B w⟩
theorem Sc (hW : Ao g B H w) {t ty : TypeId} {x : TypeId × TypeInfo} (he : Bv P t=some x) {z : List AV} (hz : C6 P x.1=some z) (hb : x.2.bytes≤128)
  {os ox : Option AV} {sv xv : AV} {s u : Value} (rS : os=some sv) (hox : ox=some xv) (hs : Ab g sv s) (hx : Ab g xv u) {K : Am} (hk : DW x.2.size os ox K H) :
  ∃ v w',(Builtin.append_ #[t,t] ty #[s,u]).run P w=.ok v w'∧Dk g B w K v w':=by
 subst rS hox
 obtain ⟨h1,h2,h3⟩:=Ck he
 obtain ⟨i,zv,q1,q2,q3,q4,q5⟩:=DI hz;rw [h2] at q1; cases q1
 cases hs <;> try (simp [DW] at hk; done)
 case A1 =>
  simp only [DW] at hk
  cases Ew : Ct x.2.size (some xv) H with
  | none=>simp [Ew,Sd] at hk
  | some q =>
   obtain ⟨p,m,new⟩:=q;simp only [Ew,Sd] at hk
   obtain ⟨⟨m1,m2,hp⟩,hk⟩:=hk
   obtain ⟨ax,c,news,rfl,l1,l2,hr,VO,-,Ly⟩:=JW (P:=P) hW hx Ew hp
   rcases Nat.eq_zero_or_pos m with Vd | Vd
   ·subst Vd
    have Ye : new=[]:=List.eq_nil_of_length_eq_zero (by simpa using l2)
    have l7 : news=[]:=List.eq_nil_of_length_eq_zero (by simpa using l1);subst Ye l7
    have rK:=Ly w hW.fz;refine ⟨.slice none 0 0,w, ?_,Xl hW (.refl H) x.2.size hk⟩
    simp [Builtin.append_,run_underlying h1,sizeOf,typeInfo,h2,Builtin.lenOf,rK]
   ·have ho : (Builtin.firstCells x.2.size 0 (.slice none 0 0)).run P w.drew=.ok ([] : List Value).toArray w.drew:=by simp [Builtin.firstCells]
    have XV:=LV (P:=P) (w:=w) t ty x.1 x.2 zv h1 h2 q2 none 0 0 [] ax m c news ho (Ly w.drew hW.fz) (by omega) (by simpa using m1) hb;refine ⟨_,_,XV, ?_⟩;refine Lc hW (.refl H) 0 x.1 x.2.size 0 m 0 [] new [] news zv.cells (by simp) l1 (by simp) l2 q4 (by simpa using m2) (by simp) hr (by simp) ?_
    intro CT K9
    simpa using hk CT K9
 case FG a0 =>
  simp only [DW] at hk
  cases Ew : Ct x.2.size (some xv) H with
  | none=>simp [Ew,fR] at hk
  | some q =>
   obtain ⟨p,m,new⟩:=q;simp only [Ew,fR] at hk
   obtain ⟨⟨Vd,m1,m2,hp⟩,hk⟩:=hk
   obtain ⟨ax,c,news,rfl,l1,l2,hr,VO,-,Ly⟩:=JW (P:=P) hW hx Ew hp
   have ho : (Builtin.firstCells x.2.size 0 (.slice a0 0 0)).run P w.drew=.ok ([] : List Value).toArray w.drew:=by cases a0 <;> simp [Builtin.firstCells,loadCells,loadCellsFrom]
   have XV:=LV (P:=P) (w:=w) t ty x.1 x.2 zv h1 h2 q2 a0 0 0 [] ax m c news ho (Ly w.drew hW.fz) (by omega) (by simpa using m1) hb;refine ⟨_,_,XV, ?_⟩;refine Lc hW (.refl H) 0 x.1 x.2.size 0 m 0 [] new [] news zv.cells (by simp) l1 (by simp) l2 q4 (by simpa using m2) (by simp) hr (by simp) ?_
   intro CT K9
   simpa using hk CT K9
 case DX id D3 =>
  simp only [DW] at hk
  cases hg : H.get id with
  | none=>simp [hg,Gc] at hk
  | some o =>
   cases o with
   | map ks vs=>simp [hg,Gc] at hk
   | cells sz' cs f =>
    cases Ew : Ct x.2.size (some xv) H with
    | none=>simp [Ew,hg,Gc] at hk
    | some q =>
     obtain ⟨p,m,new⟩:=q;simp only [Ew,hg,Gc] at hk
     obtain ⟨⟨rfl,n1,n2,n3,hp⟩,hk⟩:=hk
     have K6 : cs=[]:=List.eq_nil_of_length_eq_zero (by simpa using n1);subst K6
     obtain ⟨p0,gA,XZ⟩:=hW.ob id _ hg;rw [D3] at gA; cases gA;simp only [Aj] at XZ
     obtain ⟨-,rfl⟩:=XZ
     have Cs : (H.del id).sub H:=fun k x e=>by
      by_cases hk : k=id
      ·subst hk; rw [AB.Cf] at e; cases e
      ·rwa [AB.C3 _ hk] at e
     obtain ⟨ax,c,news,rfl,l1,l2,hr,VO,-,Ly⟩:=JW (P:=P) hW hx Ew hp
     rcases Nat.eq_zero_or_pos m with Vd | Vd
     ·subst Vd
      have Ye : new=[]:=List.eq_nil_of_length_eq_zero (by simpa using l2)
      have l7 : news=[]:=List.eq_nil_of_length_eq_zero (by simpa using l1);subst Ye l7
      have rK:=Ly w hW.fz;refine ⟨.slice none 0 0,w, ?_,Xl hW Cs x.2.size (fun CT K9=>by simpa using hk CT K9)⟩
      simp [Builtin.append_,run_underlying h1,sizeOf,typeInfo,h2,Builtin.lenOf,rK]
     ·have ho : (Builtin.firstCells x.2.size 0 (.slice none 0 0)).run P w.drew=.ok ([] : List Value).toArray w.drew:=by simp [Builtin.firstCells]
      have XV:=LV (P:=P) (w:=w) t ty x.1 x.2 zv h1 h2 q2 none 0 0 [] ax m c news ho (Ly w.drew hW.fz) (by omega) (by simpa using n2) hb;refine ⟨_,_,XV, ?_⟩;refine Lc hW Cs 0 x.1 x.2.size 0 m 0 [] new [] news zv.cells (by simp) l1 (by simp) l2 q4 (by simpa using n3) (by simp) hr (by simp) ?_
      intro CT K9
      simpa using hk CT K9
 case buf id n b cap D3 =>
  simp only [DW] at hk
  cases hg : H.get id with
  | none=>simp [hg,Gc] at hk
  | some o =>
   cases o with
   | map ks vs=>simp [hg,Gc] at hk
   | cells sz' cs f =>
    cases Ew : Ct x.2.size (some xv) H with
    | none=>simp [Ew,hg,Gc] at hk
    | some q =>
     obtain ⟨p,m,new⟩:=q;simp only [Ew,hg,Gc] at hk
     obtain ⟨⟨rfl,n1,n2,n3,hp⟩,hk⟩:=hk
     obtain ⟨ax,c,news,rfl,l1,l2,hr,VO,gI,Ly⟩:=JW (P:=P) hW hx Ew hp
     obtain ⟨cur,el,k5,hB,kf,km,k6,k7,k8⟩:=hW.obj D3 hg
     have hlen : (cs++new).length=(n+m)*x.2.size:=by rw [List.length_append,n1,l2,Nat.add_mul]
     by_cases Yj : n+m≤cap
     ·have hmul : (n+m)*x.2.size≤cap*x.2.size:=Nat.mul_le_mul_right _ Yj
      have tD : n*x.2.size+news.length≤cur.size:=by rw [l1,k6,← Nat.add_mul]; exact hmul
      have XV:=fC (P:=P) (w:=w) t ty x.1 x.2 h1 h2 b n cap cur el k5 ax m c news (Ly w hW.fz) l1 VO Yj tD;refine ⟨_,_,XV, ?_⟩
      have mG : Ao g B (H.set id (.cells x.2.size (cs++new) f)) (w.setRow b (cur.toList.take (n*x.2.size)++news++cur.toList.drop (n*x.2.size+news.length)).toArray):=by
       refine hW.write id b cap x.2.size cs _ f cur _ el hg D3 k5 (setRow_heap w b cur _ el _ k5) (by simp [World.setRow]) (fun k hk=>setRow_other w b k _ hk) ?_ ?_ ?_ ?_ ?_ ?_
       ·simp; omega
       ·intro k Lu
        have : k<n*x.2.size:=by omega
        simp [List.getElem?_append,show k<min (n*x.2.size) cur.size by omega,this]
       ·simp; omega
       ·rw [hlen]; exact n3
       ·rw [hlen]; simp; omega
       ·intro k Lu;rw [Bf]
        have e1 : ((cur.toList.take (n*x.2.size)++news++cur.toList.drop (n*x.2.size+news.length)).toArray).getD k undef =
          if k<n*x.2.size then cur.getD k undef else news.getD (k - n*x.2.size) undef:=by
         rw [hlen,Nat.add_mul] at Lu;simp only [Array.getD_eq_getD_getElem?,List.getElem?_toArray,gE]
         by_cases a1 : k<n*x.2.size
         ·rw [if_pos a1,List.append_assoc,List.getElem?_append_left (by simp; omega)]
          simp [a1]
         ·rw [if_neg a1,List.append_assoc,List.getElem?_append_right (by simp; omega),List.getElem?_append_left (by simp; omega)]
          simp [show min (n*x.2.size) cur.size=n*x.2.size by omega]
        rw [e1,n1]
        by_cases a1 : k<n*x.2.size
        ·rw [if_pos a1,if_pos a1]; exact k8 k (by omega)
        ·rw [if_neg a1,if_neg a1]; exact hr _ (by rw [hlen,Nat.add_mul] at Lu; omega)
      obtain ⟨i',e1,e2⟩:=hW.fresh
      obtain ⟨r1,r2⟩:=mG.rename id i' (.cells x.2.size (cs++new) f) (.HC b cap) (by simp) D3 e1;refine ⟨_,_,_,r1,hk i' e2,.buf i' (n+m) b cap (Gh.EE _ _ _),r2.sub ?_,⟨rfl,rfl,rfl,by simp [World.setRow],fun k Lu=>setRow_other w b k _ (by omega),Nat.le_refl _⟩⟩
      intro k o e
      by_cases tI : k=i'
      ·subst tI; simpa using e
      ·rw [AB.B1 _ _ tI] at e ⊢
       by_cases sV : k=id
       ·subst sV; rw [AB.Cf] at e; cases e
       ·rw [AB.C3 _ sV] at e ⊢;rw [AB.B1 _ _ sV]; exact e
     ·have Cs : (H.del id).sub H:=fun k x e=>by
       by_cases hk : k=id
       ·subst hk; rw [AB.Cf] at e; cases e
       ·rwa [AB.C3 _ hk] at e
      have ho : (Builtin.firstCells x.2.size n (.slice (some ⟨b,0,none⟩) n cap)).run P w.drew=.ok ((List.range (n*x.2.size)).map fun j=>cur.getD j undef).toArray w.drew:=by
       simp only [Builtin.firstCells];refine run_loadCells w.drew ⟨b,0,none⟩ _ _ fun j hj=>?_;rw [Addr.add_lit,Nat.zero_add]
       have : w.cell? ⟨b,j,none⟩=some (cur.getD j undef):=by rw [cell_of_row w b j cur el _ k5]; exact getD_some (by omega)
       simpa using this
      have XV:=LV (P:=P) (w:=w) t ty x.1 x.2 zv h1 h2 q2 (some ⟨b,0,none⟩) n cap _ ax m c news ho (Ly w.drew hW.fz) (by omega) n2 hb;refine ⟨_,_,XV, ?_⟩;refine Lc hW Cs cap x.1 x.2.size n m f cs new _ news zv.cells (by simp) l1 n1 l2 q4 n3 ?_ hr kf hk
      intro j hj
      have : ((List.range (n*x.2.size)).map fun j=>cur.getD j undef).getD j undef=cur.getD j undef:=by simp [gE,show j<n*x.2.size by omega]
      rw [this]; exact k8 j hj
end
end Go.AW
namespace Go.AW
open Go.RowKit
section
variable {P : Program} {g : Gh} {B : Nat} {H : AB} {w : World}
theorem EF {b : Nat} {es : Array MapEntry} {clk : Nat} (h : w.heap[b]? = some (.map es clk)) : (getObj b).run P w=.ok (.map es clk) w:=by
 simp [getObj,Sem.run,h]
theorem IZ {b : Nat} {es : Array MapEntry} {clk : Nat} (o : Obj) (h : w.heap[b]? = some (.map es clk)) :
  (setObj b o).run P w=.ok () { w with heap:=w.heap.setIfInBounds b o }:=by
 simp [setObj,Sem.run,h]
theorem N1 (l l' : List UInt8) : ((⟨l.toArray⟩ : ByteArray) == ⟨l'.toArray⟩)=decide (l=l'):=by
 have h : ((⟨l.toArray⟩ : ByteArray) == ⟨l'.toArray⟩)=(l.toArray == l'.toArray):=rfl;rw [h,Bool.eq_iff_iff]
 simp
def Gu (s : Nat) : TypeDesc→Bool
 | .int _=>s == 0
 | .string=>s == 1
 | _=>false
def PM (P : Program) (s : Nat) (kt : TypeId) : Prop:=∃ d,P.underlying kt=some d∧(Gu s d=true∨s=2∧∃ fs,d=.struct fs∧Nw P kt fs=true)
theorem QI {s : Nat} {d : TypeDesc} (hd : Gu s d=true) {k a : AV} {kv av : Value} (hk : Ab g k kv) (ha : Ab g a av) (hl : k.Bx s a=true) :
  Instr.sameNow d kv av=some (k.T5 a):=by
 cases hk <;> try (simp [AV.Bx] at hl; done)
 ·cases ha <;> try (simp [AV.Bx] at hl; done)
  simp [AV.Bx] at hl
  obtain ⟨rfl,rfl⟩:=hl
  cases d <;> simp [Gu] at hd
  simp [Instr.sameNow,AV.T5];rw [Bool.eq_iff_iff]; simp
 ·cases ha <;> try (simp [AV.Bx] at hl; done)
  simp [AV.Bx] at hl;subst hl
  cases d <;> simp [Gu] at hd
  rename_i l l'
  simp only [Instr.sameNow,AV.T5,Option.some.injEq];exact N1 l l'
 ·exfalso
  have hs : s=2:=by
   unfold AV.Bx at hl
   split at hl
   ·cases ‹AV.agg _=AV.int _ _›
   ·cases ‹AV.agg _=AV.str _›
   ·simp only [Bool.and_eq_true,beq_iff_eq] at hl; exact hl.1
   ·cases hl
  subst hs
  cases d <;> simp [Gu] at hd
def C1 (k : AV) : List AV→Nat→Option Nat
 | [],_=>none
 | a::ks,i=>if k.T5 a then some i else C1 k ks (i+1)
theorem K5 {s : Nat} {d : TypeDesc} (hd : Gu s d=true) {k : AV} {kv : Value} (hk : Ab g k kv) :
  ∀ (ks : List AV) (es : List MapEntry) (i : Nat),es.length=ks.length→(∀ j,j<ks.length→Ab g (ks.getD j nv) (es.getD j default).key)→(∀ a,a∈ks→k.Bx s a=true) →
   Instr.findNow d kv es i=some ((C1 k ks i).map fun j=>(j,(es.getD (j - i) default).val))
 | [],[],i,_,_,_=>by simp [Instr.findNow,C1]
 | [],_::_,_,h,_,_=>by simp at h
 | _::_,[],_,h,_,_=>by simp at h
 | a::ks,e::es,i,h,hr,hl=>by
  have h0:=hr 0 (by simp);simp only [List.getD_cons_zero] at h0
  have hs:=QI hd hk h0 (hl a (by simp));simp only [Instr.findNow,hs,C1]
  cases hq : k.T5 a with
  | true=>simp
  | false =>
   simp only [Bool.false_eq_true,if_false];rw [K5 hd hk ks es (i+1) (by simpa using h) (fun j hj=>by simpa using hr (j+1) (by simpa using hj)) (fun x hx=>hl x (by simp [hx]))]
   cases hm : C1 k ks (i+1) with
   | none=>simp
   | some j =>
    have : ∀ (l : List AV) (n j : Nat),C1 k l n=some j→n≤j:=by
     intro l
     induction l with
     | nil=>intro n j h; simp [C1] at h
     | cons b l ih =>
      intro n j h;simp only [C1] at h
      split at h
      ·cases h; omega
      ·have:=ih _ _ h; omega
    have hj:=this _ _ _ hm
    have e1 : j - i=(j - (i+1))+1:=by omega
    simp [e1]
theorem RL (k : AV) : ∀ (ks vs : List AV) (n : Nat),vs.length=ks.length→JG k ks vs=(C1 k ks n).map fun j=>vs.getD (j - n) nv
 | [],vs,n,_=>by simp [JG,C1]
 | a::ks,[],n,h=>by simp at h
 | a::ks,v::vs,n,h=>by
  simp only [JG,C1]
  split
  ·simp
  ·rw [RL k ks vs (n+1) (by simpa using h)]
   cases hm : C1 k ks (n+1) with
   | none=>simp
   | some j =>
    have : ∀ (l : List AV) (n j : Nat),C1 k l n=some j→n≤j:=by
     intro l
     induction l with
     | nil=>intro n j h; simp [C1] at h
     | cons b l ih =>
      intro n j h;simp only [C1] at h
      split at h
      ·cases h; omega
      ·have:=ih _ _ h; omega
    have hj:=this _ _ _ hm
    have e1 : j - n=(j - (n+1))+1:=by omega
    simp [e1]
theorem JH (k : AV) : ∀ (ks : List AV) (n j : Nat),C1 k ks n=some j→n≤j∧j<n+ks.length∧k.T5 (ks.getD (j - n) nv)=true
 | [],n,j,h=>by simp [C1] at h
 | a::ks,n,j,h=>by
  simp only [C1] at h
  split at h
  ·rename_i hq; cases h; simp [hq]
  ·obtain ⟨h1,h2,h3⟩:=JH k ks (n+1) j h
   have e1 : j - n=(j - (n+1))+1:=by omega
   refine ⟨by omega,by simp; omega,by rw [e1]; simpa using h3⟩
theorem R5 (k x : AV) : ∀ (ks vs : List AV) (n : Nat),vs.length=ks.length →
  Il k x ks vs=match C1 k ks n with
   | some j=>(ks.set (j - n) k,vs.set (j - n) x)
   | none=>(ks++[k],vs++[x])
 | [],[],n,_=>by simp [Il,C1]
 | [],_::_,n,h=>by simp at h
 | a::ks,[],n,h=>by simp at h
 | a::ks,v::vs,n,h=>by
  simp only [Il,C1]
  split
  ·simp
  ·rw [R5 k x ks vs (n+1) (by simpa using h)]
   cases hm : C1 k ks (n+1) with
   | none=>simp
   | some j =>
    obtain ⟨h1,_⟩:=JH k ks (n+1) j hm
    have e1 : j - n=(j - (n+1))+1:=by omega
    simp [e1]
theorem GQ {d : TypeDesc} {s : Nat} (hd : Gu s d=true) {t : TypeId} (ht : P.underlying t=some d) (em : Bool) (n : Nat) (v : Value) : (Instr.checkKey em (n+1) t v).run P w=.ok () w:=by
 unfold Instr.checkKey;simp only [Sem.run_bind,run_underlying ht,Result.andThen_ok]
 cases d <;> simp [Gu] at hd <;> rfl
theorem QQ {kt : TypeId} {fs : Array Field} (ht : P.underlying kt=some (.struct fs)) (hp : Nw P kt fs=true) (em : Bool) (n : Nat) (k1 k2 : IntKind) (a b : Int) :
  (Instr.checkKey em (n+2) kt (.agg #[.int k1 a,.int k2 b])).run P w=.ok () w:=by
 simp only [Nw,Bool.and_eq_true,beq_iff_eq] at hp
 obtain ⟨⟨hi,hs⟩,h2⟩:=hp
 obtain ⟨l⟩:=fs
 match l,h2 with
 | [f0,f1],_ =>
  simp only [FH,Bool.and_eq_true,beq_iff_eq,bne_iff_ne,ne_eq] at hi
  obtain ⟨⟨⟨⟨ho0,hu0⟩,Ps⟩,Ye⟩,⟨⟨⟨VO,wO⟩,hz1⟩,l7⟩,-⟩:=hi
  have e0 : ∃ k,P.underlying f0.type=some (.int k):=by split at hu0 <;> simp_all
  have e1 : ∃ k,P.underlying f1.type=some (.int k):=by split at wO <;> simp_all
  obtain ⟨q0,e0⟩:=e0
  obtain ⟨q1,e1⟩:=e1
  have c0 : ∀ v,(Instr.checkKey em (n+1) f0.type v).run P w=.ok () w:=fun v=>GQ (s:=0) (d:=.int q0) rfl e0 em n v
  have c1 : ∀ v,(Instr.checkKey em (n+1) f1.type v).run P w=.ok () w:=fun v=>GQ (s:=0) (d:=.int q1) rfl e1 em n v;unfold Instr.checkKey;simp only [Sem.run_bind,run_underlying ht,Result.andThen_ok]
  simp [Ye,l7,ho0,VO,part,isAgg,run_underlying e0,run_underlying e1,c0,c1]
theorem I8 {k a : AV} {kv av : Value} (hk : Ab g k kv) (ha : Ab g a av) (hl : k.Bx 2 a=true) :
  ∃ k1 k2 x1 x2 y1 y2,k=.agg [.int k1 x1,.int k2 x2]∧a=.agg [.int k1 y1,.int k2 y2]∧kv=.agg #[.int k1 x1,.int k2 x2]∧av=.agg #[.int k1 y1,.int k2 y2]:=by
 unfold AV.Bx at hl
 split at hl
 ·simp at hl
 ·simp at hl
 ·rename_i k1 x1 k2 x2 l1 y1 l2 y2
  simp only [Bool.and_eq_true,beq_iff_eq,decide_eq_true_eq,true_and] at hl
  obtain ⟨rfl,rfl⟩:=hl;refine ⟨k1,k2,x1,x2,y1,y2,rfl,rfl, ?_, ?_⟩
  ·cases hk
   rename_i vs hs N5
   have q0:=N5 0 (by simp)
   have q1:=N5 1 (by simp)
   obtain ⟨l⟩:=vs
   match l,hs with
   | [z0,z1],_=>simp at q0 q1; cases q0; cases q1; rfl
  ·cases ha
   rename_i vs hs N5
   have q0:=N5 0 (by simp)
   have q1:=N5 1 (by simp)
   obtain ⟨l⟩:=vs
   match l,hs with
   | [z0,z1],_=>simp at q0 q1; cases q0; cases q1; rfl
 ·cases hl
theorem Ku {s : Nat} {kt : TypeId} (hd : PM P s kt) {k : AV} {kv : Value} (hk : Ab g k kv) (hl : k.Bx s k=true) (em : Bool) : (Instr.checkKey em 10000 kt kv).run P w=.ok () w:=by
 obtain ⟨d,hu,hd | ⟨rfl,fs,rfl,hp⟩⟩:=hd
 ·exact GQ hd hu em 9999 kv
 ·obtain ⟨k1,k2,x1,x2,y1,y2,rfl,-,rfl,-⟩:=I8 hk hk hl;exact QQ hu hp em 9998 k1 k2 x1 x2
theorem J7 {kt : TypeId} {fs : Array Field} (ht : P.underlying kt=some (.struct fs)) (hp : Nw P kt fs=true) {k : AV} {kv : Value} (hk : Ab g k kv) :
  ∀ (ks : List AV) (es : List MapEntry) (i : Nat),es.length=ks.length→(∀ j,j<ks.length→Ab g (ks.getD j nv) (es.getD j default).key)→(∀ a,a∈ks→k.Bx 2 a=true) →
   (Instr.findAsking kt kv es i).run P w=.ok ((C1 k ks i).map fun j=>(j,(es.getD (j - i) default).val)) w
 | [],[],i,_,_,_=>by simp [Instr.findAsking,C1]
 | [],_::_,_,h,_,_=>by simp at h
 | _::_,[],_,h,_,_=>by simp at h
 | a::ks,e::es,i,h,hr,hl=>by
  have h0:=hr 0 (by simp);simp only [List.getD_cons_zero] at h0
  have NZ:=hp;simp only [Nw,Bool.and_eq_true,beq_iff_eq,Bool.not_eq_true'] at NZ
  obtain ⟨⟨hi,hs⟩,h2⟩:=NZ
  obtain ⟨k1,k2,x1,x2,y1,y2,e1,e2,e3,e4⟩:=I8 hk h0 (hl a (by simp))
  have heq : (Op.equal kt kv e.key).run P w=.ok (k.T5 a) w:=by
   rw [e1,e2,e3,e4];exact VE ht hi hs h2 k1 k2 x1 x2 y1 y2
  simp only [Instr.findAsking,Sem.run_bind,heq,Result.andThen_ok,C1]
  cases hq : k.T5 a with
  | true=>simp
  | false =>
   simp only [Bool.false_eq_true,if_false];rw [J7 ht hp hk ks es (i+1) (by simpa using h) (fun j hj=>by simpa using hr (j+1) (by simpa using hj)) (fun x hx=>hl x (by simp [hx]))]
   cases hm : C1 k ks (i+1) with
   | none=>simp
   | some j =>
    have hj:=(JH k ks (i+1) j hm).1
    have e1 : j - i=(j - (i+1))+1:=by omega
    simp [e1]
theorem UD {s : Nat} {kt : TypeId} (hd : PM P s kt) {k : AV} {kv : Value} (hk : Ab g k kv) (ks : List AV) (es : List MapEntry) (hl : es.length=ks.length)
  (hr : ∀ j,j<ks.length→Ab g (ks.getD j nv) (es.getD j default).key) (Pw : ∀ a,a∈ks→k.Bx s a=true) :
  (Instr.findKey kt kv es).run P w=.ok ((C1 k ks 0).map fun j=>(j,(es.getD j default).val)) w:=by
 obtain ⟨d,hu,hd | ⟨rfl,fs,rfl,hp⟩⟩:=hd
 ·have VK:=K5 (g:=g) hd hk ks es 0 hl hr Pw;simp only [Nat.sub_zero] at VK;simp only [Instr.findKey,Sem.run_bind,run_underlying hu,Result.andThen_ok,VK,Sem.run_pure]
 ·have Q5:=J7 (w:=w) hu hp hk ks es 0 hl hr Pw;simp only [Nat.sub_zero] at Q5
  match ks,es,hl with
  | [],[],_=>simp [Instr.findKey,run_underlying hu,Instr.findNow,C1]
  | a::ks,e::es,_ =>
   have h0:=hr 0 (by simp);simp only [List.getD_cons_zero] at h0
   obtain ⟨k1,k2,x1,x2,y1,y2,e1,e2,e3,e4⟩:=I8 hk h0 (Pw a (by simp))
   have hn : Instr.findNow (.struct fs) kv (e::es) 0=none:=by rw [e3]; simp [Instr.findNow,Instr.sameNow]
   simp only [Instr.findKey,Sem.run_bind,run_underlying hu,Result.andThen_ok,hn,Q5]
theorem KG {t kt et : TypeId} (ht : P.underlying t=some (.map kt et)) {s : Nat} (hd : PM P s kt) {zi : TypeInfo} {zv : Value}
  (hi : P.info? et=some zi) (hz : zi.zero=some zv) {k : AV} {kv : Value} (hk : Ab g k kv) (ks vs : List AV) (es : Array MapEntry) (hl : es.size=ks.length)
  (hr : ∀ j,j<ks.length→Ab g (ks.getD j nv) (es.getD j default).key) (gS : k.Bx s k=true) (Pw : ∀ a,a∈ks→k.Bx s a=true) (m : Option Nat) (ok : Bool)
  (hm : (match m with | none=>es=#[] | some b=>∃ clk,w.heap[b]? = some (.map es clk))) :
  (Instr.lookup t (.map m) kv ok).run P w=.ok (if ok then .tuple #[((C1 k ks 0).map fun j=>(es.getD j default).val).getD zv,.bool (C1 k ks 0).isSome]
   else ((C1 k ks 0).map fun j=>(es.getD j default).val).getD zv) w:=by
 have VK:=UD (w:=w) hd hk ks es.toList (by simpa using hl) (fun j hj=>by simpa using hr j hj) Pw
 have fY : ∀ em,(Instr.checkKey em 10000 kt kv).run P w=.ok () w:=fun em=>Ku hd hk gS em;unfold Instr.lookup;simp only [Sem.run_bind,run_underlying ht,Result.andThen_ok]
 cases m with
 | none =>
  simp only at hm;subst hm
  have hks : ks=[]:=List.eq_nil_of_length_eq_zero (by simpa using hl.symm);subst hks;simp only [Sem.run_pure,Result.andThen_ok,fY,Sem.run_bind,VK]
  simp [C1,zeroValue,typeInfo,hi,hz]
 | some b =>
  obtain ⟨clk,hb⟩:=hm;simp only [Sem.run_bind,EF hb,Sem.run_pure,Result.andThen_ok,fY,VK]
  cases hq : C1 k ks 0 with
  | none=>simp [zeroValue,typeInfo,hi,hz]
  | some j=>simp
theorem SQ {ok : Bool} {zero : AV} {zv : Value} (hz : Ab g zero zv) {k : AV} {ks vs : List AV} {es : Array MapEntry} (h2 : vs.length=ks.length)
  (hv : ∀ i,i<ks.length→Ab g (vs.getD i nv) (es.getD i default).val) :
  Ab g (mX ok zero (JG k ks vs)) (if ok then .tuple #[((C1 k ks 0).map fun j=>(es.getD j default).val).getD zv,.bool (C1 k ks 0).isSome]
   else ((C1 k ks 0).map fun j=>(es.getD j default).val).getD zv):=by
 rw [RL k ks vs 0 h2]
 have nV : Ab g (((C1 k ks 0).map fun j=>vs.getD (j - 0) nv).getD zero) (((C1 k ks 0).map fun j=>(es.getD j default).val).getD zv):=by
  cases hq : C1 k ks 0 with
  | none=>simpa using hz
  | some j =>
   obtain ⟨_,h1,_⟩:=JH k ks 0 j hq
   simpa using hv j (by omega)
 cases ok with
 | false=>simpa [mX] using nV
 | true =>
  simp only [mX,if_true];refine .CG _ _ rfl fun i hi=>?_
  match i,hi with
  | 0,_=>exact nV
  | 1,_=>simp only [List.getD_cons_succ,List.getD_cons_zero,Option.isSome_map]; exact .bool _
theorem Ry (hW : Ao g B H w) {t kt et : TypeId} (ht : P.underlying t=some (.map kt et)) {s : Nat} (hd : PM P s kt) {z : AV}
  (hz : zeroOf P et=some z) {om ok' : Option AV} {mv kv : AV} {m k : Value} (hom : om=some mv) (tO : ok'=some kv) (hm : Ab g mv m) (iG : Ab g kv k) (ok : Bool) {K : Am}
  (hk : Zk s ok z om ok' K H) : ∃ u,(Instr.lookup t m k ok).run P w=.ok u w∧Dk g B w K u w:=by
 subst hom tO
 obtain ⟨zi,zv,q1,q2,q3⟩ : ∃ zi zv,P.info? et=some zi∧zi.zero=some zv∧M9 zv=some z:=by
  unfold zeroOf at hz
  split at hz
  ·rename_i zi hi
   split at hz
   ·rename_i zv hzv
    exact ⟨zi,zv,hi,hzv,hz⟩
   ·cases hz
  ·cases hz
 have hzr : Ab g z zv:=Kj q3
 cases hm <;> try (simp [Zk] at hk; done)
 case Lo =>
  simp only [Zk] at hk
  obtain ⟨⟨k1,k2⟩,hk⟩:=hk;exact ⟨_,KG (P:=P) ht hd q1 q2 iG [] [] #[] rfl (by simp) k1 (by simp) none ok rfl,.same hW (SQ hzr rfl (by simp)) hk⟩
 case IU ks vs b es h h1 h2 Nl vd =>
  simp only [Zk] at hk
  obtain ⟨⟨k1,k2⟩,hk⟩:=hk;exact ⟨_,KG (P:=P) ht hd q1 q2 iG ks vs es h1 Nl k1 k2 (some b) ok (hW.fm b es h),.same hW (SQ hzr h2 vd) hk⟩
 case Gg id b D3 =>
  simp only [Zk] at hk
  cases hg : H.get id with
  | none=>simp [hg,vB] at hk
  | some o =>
   cases o with
   | cells _ _ _=>simp [hg,vB] at hk
   | map ks vs =>
    simp only [hg,vB] at hk
    obtain ⟨⟨k1,k2⟩,hk⟩:=hk
    obtain ⟨p,hp,hr⟩:=hW.ob id _ hg;rw [D3] at hp; cases hp;simp only [Aj] at hr
    obtain ⟨_,_,es,clk,h5,h6,h7,h8,h9⟩:=hr;exact ⟨_,KG (P:=P) ht hd q1 q2 iG ks vs es h6 h8 k1 k2 (some b) ok ⟨clk,h5⟩,.same hW (SQ hzr h7 h9) hk⟩
end
end Go.AW
namespace Go.AW
open Go.RowKit
section
variable {P : Program} {g : Gh} {B : Nat} {H : AB} {w : World}
theorem Ao.UI (h : Ao g B H w) (i b : Nat) (ks vs ks' vs' : List AV) (es es' : Array MapEntry) (clk clk' : Nat)
  (hi : H.get i=some (.map ks vs)) (hp : g.io i=some (.mp b)) (hb : w.heap[b]? = some (.map es clk))
  (hs : es'.size=ks'.length) (hl : vs'.length=ks'.length) (hk : ∀ j,j<ks'.length→Ab g (ks'.getD j nv) (es'.getD j default).key)
  (hv : ∀ j,j<ks'.length→Ab g (vs'.getD j nv) (es'.getD j default).val) :
  Ao g B (H.set i (.map ks' vs')) { w with heap:=w.heap.setIfInBounds b (.map es' clk') }∧Below B w { w with heap:=w.heap.setIfInBounds b (.map es' clk') }:=by
 obtain ⟨p,NZ,hr⟩:=h.ob i _ hi;rw [hp] at NZ; cases NZ;simp only [Aj] at hr
 obtain ⟨h1,h2,es0,clk0,h5,h6,h7,h8,h9⟩:=hr
 have hblt : b<w.heap.size:=(Array.getElem?_eq_some_iff.1 hb).1
 have ho : ∀ k,k≠b→(w.heap.setIfInBounds b (.map es' clk'))[k]? = w.heap[k]? := fun k hk=>by rw [Array.getElem?_setIfInBounds_ne (by omega)]
 have bC : (w.heap.setIfInBounds b (.map es' clk'))[b]? = some (.map es' clk'):=by simp [hblt]
 have Cj : ∀ j,((H.set i (.map ks' vs')).get j).isSome→(H.get j).isSome:=by
  intro j hj
  by_cases e : j=i
  ·subst e; simp [hi]
  ·rwa [AB.B1 _ _ e] at hj
 refine ⟨?_,⟨rfl,rfl,rfl,by simp,fun k hk=>ho k (by omega),Nat.le_refl _⟩⟩
 constructor
 ·intro b' o v e
  have hc:=h.fz _ _ _ e
  have : b'≠b:=by
   rintro rfl
   simp [World.cell?,hb] at hc
  rw [World.cell?_of_block (w:=w) (a:=⟨b',o,none⟩) (ho b' this)]; exact hc
 ·intro b' es'' e
  obtain ⟨clk'',hc⟩:=h.fm b' es'' e
  have : b'≠b:=by rintro rfl; simp [h2] at e
  exact ⟨clk'',by rw [← hc]; exact ho b' this⟩
 ·intro j o e
  by_cases hj : j=i
  ·subst hj
   simp at e; subst e;refine ⟨.mp b,hp, ?_⟩;simp only [Aj];exact ⟨h1,h2,es',clk',bC,hs,hl,hk,hv⟩
  ·rw [AB.B1 _ _ hj] at e
   obtain ⟨q,hq,Mh⟩:=h.ob j o e;refine ⟨q,hq,Mh.B6 (Gh.le.refl g) (fun b'' hb''=>ho b'' ?_) (fun _ _ _ h=>h) (fun _ _ h=>h)⟩
   rintro rfl
   cases q with
   | nil=>cases hb''
   | mp b2=>cases hb''; exact h.HK j i _ hj (by simp [e]) (by simp [hi]) hq hp
   | HC b2 c2 =>
    cases hb''
    cases o with
    | map _ _=>simp [Aj] at Mh
    | cells _ _ _ =>
     simp only [Aj] at Mh
     obtain ⟨_,_,_,_,c,el,Yf,_⟩:=Mh;rw [hb] at Yf; cases Yf
 ·intro j k b2 c2 c3 Bp e1 e2;exact h.inj j k b2 c2 c3 Bp (Cj j e1) (Cj k e2)
 ·intro j k b2 Bp e1 e2;exact h.HK j k b2 Bp (Cj j e1) (Cj k e2)
 ·simpa using h.base
 ·exact h.fin
theorem dH {s : Nat} {k a : AV} {kv av : Value} (hk : Ab g k kv) (ha : Ab g a av) (hl : k.Bx s a=true) (he : k.T5 a=true) : kv=av∧Instr.sameBits 10000 av kv=true:=by
 cases hk <;> try (simp [AV.Bx] at hl; done)
 ·cases ha <;> try (simp [AV.Bx] at hl; done)
  simp [AV.Bx] at hl
  simp [AV.T5] at he
  obtain ⟨rfl,rfl⟩:=hl;subst he;exact ⟨rfl,by simp [Instr.sameBits]⟩
 ·cases ha <;> try (simp [AV.Bx] at hl; done)
  simp [AV.T5] at he;subst he;exact ⟨rfl,by simp [Instr.sameBits,N1]⟩
 ·have hs : s=2:=by
   unfold AV.Bx at hl
   split at hl
   ·cases ‹AV.agg _=AV.int _ _›
   ·cases ‹AV.agg _=AV.str _›
   ·simp only [Bool.and_eq_true,beq_iff_eq] at hl; exact hl.1
   ·cases hl
  subst hs
  rename_i cs vs Rh CF
  obtain ⟨k1,k2,x1,x2,y1,y2,e1,e2,e3,e4⟩:=I8 (.agg cs vs Rh CF) ha hl;rw [e1,e2] at he;simp only [AV.T5,Bool.and_eq_true,decide_eq_true_eq] at he
  obtain ⟨rfl,rfl⟩:=he;rw [e3,e4];exact ⟨rfl,by simp [Instr.sameBits]⟩
theorem Ro (hW : Ao g B H w) {t kt et : TypeId} (ht : P.underlying t=some (.map kt et)) {s : Nat} (hd : PM P s kt)
  {om ok' ox : Option AV} {mv kv xv : AV} {m k x : Value} (hom : om=some mv) (tO : ok'=some kv) (hox : ox=some xv) (hm : Ab g mv m) (iG : Ab g kv k) (hxv : Ab g xv x) {K : Am}
  (hk : lD s om ok' ox K H) : ∃ w',(Instr.mapUpdate t m k x).run P w=.ok () w'∧Dk g B w K undef w':=by
 subst hom tO hox
 cases hm <;> try (simp [lD] at hk; done)
 rename_i id b D3
 simp only [lD] at hk
 cases hg : H.get id with
 | none=>simp [hg,tW] at hk
 | some o =>
  cases o with
  | cells _ _ _=>simp [hg,tW] at hk
  | map ks vs =>
   simp only [hg,tW] at hk
   obtain ⟨⟨k1,k2⟩,hk⟩:=hk
   obtain ⟨p,hp,hr⟩:=hW.ob id _ hg;rw [D3] at hp; cases hp;simp only [Aj] at hr
   obtain ⟨_,_,es,clk,h5,h6,h7,h8,h9⟩:=hr
   have VK:=UD (P:=P) (w:=w) (g:=g) hd iG ks es.toList (by simpa using h6) (fun j hj=>by simpa using h8 j hj) k2
   have fY:=Ku (P:=P) (w:=w) (g:=g) hd iG k1 false
   have Ql:=R5 kv xv ks vs 0 h7
   cases hq : C1 kv ks 0 with
   | none =>
    simp only [hq,Option.map_none] at Ql VK;refine ⟨_,by simp [Instr.mapUpdate,run_underlying ht,EF h5,fY,VK,IZ _ h5]; rfl, ?_⟩
    obtain ⟨r1,r2⟩:=hW.UI id b ks vs (ks++[kv]) (vs++[xv]) es (es.push { key:=k,val:=x,born:=clk }) clk (clk+1) hg D3 h5 (by simp [h6]) (by simp [h7])
     (fun j hj=>by
      rw [Bf]
      by_cases jK : j<ks.length
      ·rw [if_pos jK]
       have : (es.push { key:=k,val:=x,born:=clk }).getD j default=es.getD j default:=by
        simp only [Array.getD_eq_getD_getElem?]; rw [Array.getElem?_push_lt (by omega)]; simp [show j<es.size by omega]
       rw [this]; exact h8 j jK
      ·have jm : j=ks.length:=by simp at hj; omega
       subst jm;rw [if_neg jK]
       have : (es.push { key:=k,val:=x,born:=clk }).getD ks.length default={ key:=k,val:=x,born:=clk }:=by
        simp [Array.getD_eq_getD_getElem?,← h6]
       rw [this]; simpa using iG)
     (fun j hj=>by
      rw [Bf,h7]
      by_cases jK : j<ks.length
      ·rw [if_pos jK]
       have : (es.push { key:=k,val:=x,born:=clk }).getD j default=es.getD j default:=by
        simp only [Array.getD_eq_getD_getElem?]; rw [Array.getElem?_push_lt (by omega)]; simp [show j<es.size by omega]
       rw [this]; exact h9 j jK
      ·have jm : j=ks.length:=by simp at hj; omega
       subst jm;rw [if_neg jK]
       have : (es.push { key:=k,val:=x,born:=clk }).getD ks.length default={ key:=k,val:=x,born:=clk }:=by
        simp [Array.getD_eq_getD_getElem?,← h6]
       rw [this]; simpa using hxv)
    rw [Ql] at hk;exact ⟨g,nv,_,.refl g,hk,.CG [] #[] rfl (fun i hi=>by simp at hi),r1,r2⟩
   | some i =>
    obtain ⟨-,q2,q3⟩:=JH kv ks 0 i hq;simp only [Nat.zero_add,Nat.sub_zero] at q2 q3;simp only [hq,Nat.sub_zero,Option.map_some] at Ql VK
    have Pw : kv.Bx s (ks.getD i nv)=true:=k2 _ (by simp [gE,q2])
    obtain ⟨e1,e2⟩:=dH iG (h8 i q2) Pw q3
    obtain ⟨ent,hes,TE⟩ : ∃ ent,es[i]? = some ent∧es.getD i default=ent:=⟨es.getD i default,by simp [Array.getD,show i<es.size by omega],rfl⟩;rw [TE] at e1 e2
    have hkey : (Instr.keyThatStays ent.key k).run P w=.ok k w:=by
     unfold Instr.keyThatStays;rw [if_pos e2]; rfl
    refine ⟨_,by simp [Instr.mapUpdate,run_underlying ht,EF h5,fY,VK,hes,hkey,IZ _ h5]; rfl, ?_⟩
    obtain ⟨r1,r2⟩:=hW.UI id b ks vs (ks.set i kv) (vs.set i xv) es (es.modify i fun e=>{ e with key:=k,val:=x }) clk clk hg D3 h5 (by simp [h6]) (by simp [h7])
     (fun j hj=>by
      simp only [List.length_set] at hj
      by_cases mf : j=i
      ·subst mf
       have : (es.modify j fun e=>{ e with key:=k,val:=x }).getD j default={ (es.getD j default) with key:=k,val:=x }:=by
        rw [TE,Array.getD_eq_getD_getElem?,Array.getElem?_modify,if_pos rfl,hes]; rfl
       rw [this]; simp [gE,hj]; exact iG
      ·have : (es.modify i fun e=>{ e with key:=k,val:=x }).getD j default=es.getD j default:=by
        simp [Array.getD_eq_getD_getElem?,Array.getElem?_modify,Ne.symm mf]
       rw [this]
       have : (ks.set i kv).getD j nv=ks.getD j nv:=by simp only [gE]; rw [List.getElem?_set_ne (by omega)]
       rw [this]; exact h8 j hj)
     (fun j hj=>by
      simp only [List.length_set] at hj
      by_cases mf : j=i
      ·subst mf
       have : (es.modify j fun e=>{ e with key:=k,val:=x }).getD j default={ (es.getD j default) with key:=k,val:=x }:=by
        rw [TE,Array.getD_eq_getD_getElem?,Array.getElem?_modify,if_pos rfl,hes]; rfl
       rw [this]; simp [gE,hj,h7]; exact hxv
      ·have : (es.modify i fun e=>{ e with key:=k,val:=x }).getD j default=es.getD j default:=by
        simp [Array.getD_eq_getD_getElem?,Array.getElem?_modify,Ne.symm mf]
       rw [this]
       have : (vs.set i xv).getD j nv=vs.getD j nv:=by simp only [gE]; rw [List.getElem?_set_ne (by omega)]
       rw [this]; exact h9 j hj)
    rw [Ql] at hk;exact ⟨g,nv,_,.refl g,hk,.CG [] #[] rfl (fun i hi=>by simp at hi),r1,r2⟩
end
end Go.AW
