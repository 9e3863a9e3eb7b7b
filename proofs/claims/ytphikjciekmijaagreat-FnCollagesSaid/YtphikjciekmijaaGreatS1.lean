/- Abstract values and an abstract heap, their relation to the worlds of the model, operations on them. -/
import Derived.Below
import Derived.KernelRfl
import Derived.Laws.Cells
import Derived.Laws.Build
import Derived.Laws.World
import Derived.Laws.Slices
import Derived.Laws.AppendOwn
import Derived.Laws.MakeOwn
import Derived.Calls
import Derived.WalkKit
import Derived.Laws.IdiomRangeMap
set_option linter.unusedVariables false
set_option linter.unusedSimpArgs false
set_option linter.unusedSectionVars false
namespace Go.AW
theorem gE {α : Type _} {l : List α} {i : Nat} {a : α} : l.getD i a=(l[i]?).getD a:=List.getD_eq_getElem?_getD
open Go.RowKit
structure Below (B : Nat) (w w' : World) : Prop where
 os : w'.os=w.os
 tape : w'.tape=w.tape
 output : w'.output=w.output
 size : w.heap.size≤w'.heap.size
 block : ∀ k,k<B→w'.heap[k]? = w.heap[k]?
 drawn : w.drawn≤w'.drawn
theorem Below.refl (B : Nat) (w : World) : Below B w w:=⟨rfl,rfl,rfl,Nat.le_refl _,fun _ _=>rfl,Nat.le_refl _⟩
theorem Below.trans {B : Nat} {a b c : World} (h : Below B a b) (k : Below B b c) : Below B a c :=
 ⟨k.os.trans h.os,k.tape.trans h.tape,k.output.trans h.output,Nat.le_trans h.size k.size,fun i hi=>(k.block i hi).trans (h.block i hi),Nat.le_trans h.drawn k.drawn⟩
theorem Below.drew {B : Nat} {a w : World} (h : Below B a w) : Below B a w.drew:=⟨h.os,h.tape,h.output,h.size,h.block,Nat.le_trans h.drawn (Nat.le_succ _)⟩
theorem Below.heap_alloc (w : World) (o : Obj) (k : Nat) (h : k<w.heap.size) : (w.alloc o).heap[k]? = w.heap[k]? := by
 exact Go.RowKit.Below.heap_alloc w o k h
theorem Below.alloc {B : Nat} {a w : World} (h : Below B a w) (hB : B≤w.heap.size) (o : Obj) : Below B a (w.alloc o) :=
 ⟨h.os,h.tape,h.output,((Go.RowKit.Below.refl B w).alloc hB o).size |> Nat.le_trans h.size,fun k hk=>(Below.heap_alloc w o k (by omega)).trans (h.block k hk),h.drawn⟩
inductive AV where
 | bool (b : Bool)
 | int (k : IntKind) (n : Int)
 | str (l : List UInt8)
 | Ix
 | ptr (cs : List AV)
 | ref (id off : Nat)
 | FX (cs : List AV) (id : Nat)
 | A0
 | Dg
 | sl (es : List AV)
 | buf (id n : Nat)
 | sub (id off n : Nat)
 | Nj (id n : Nat)
 | TU (n : Nat)
 | CS (ks vs : List AV)
 | Fa (id : Nat)
 | fn (f : Fn) (ca : List AV)
 | Lz
 | R4 (t : TypeId) (v : AV)
 | Qz
 | agg (cs : List AV)
 | CQ (vs : List AV)
 deriving Inhabited
def AV.cells : AV→List AV
 | .agg cs=>cs
 | v=>[v]
abbrev nv : AV:=.CQ []
def AN : Nat:=1099511627776
inductive Place where
 | nil
 | GA (b cap : Nat)
 | mp (b : Nat)
structure Gh where
 fz : Nat→Nat→Option Value
 fm : Nat→Option (Array MapEntry)
 io : Nat→Option Place
structure Gh.le (g g' : Gh) : Prop where
 fz : ∀ b o v,g.fz b o=some v→g'.fz b o=some v
 fm : ∀ b v,g.fm b=some v→g'.fm b=some v
 io : ∀ i p,g.io i=some p→g'.io i=some p
theorem Gh.le.refl (g : Gh) : g.le g:=⟨fun _ _ _ h=>h,fun _ _ h=>h,fun _ _ h=>h⟩
theorem Gh.le.trans {a b c : Gh} (h : a.le b) (k : b.le c) : a.le c :=
 ⟨fun x y z e=>k.fz x y z (h.fz x y z e),fun x y e=>k.fm x y (h.fm x y e),fun x y e=>k.io x y (h.io x y e)⟩
inductive Aa (g : Gh) : AV→Value→Prop
 | bool (b : Bool) : Aa g (.bool b) (.bool b)
 | int (k : IntKind) (n : Int) : Aa g (.int k n) (.int k n)
 | str (l : List UInt8) : Aa g (.str l) (.string ⟨l.toArray⟩)
 | Ix : Aa g .Ix (.pointer none)
 | ptr (cs : List AV) (b o : Nat) (vs : Nat→Value)
   (hf : ∀ i,i<cs.length→g.fz b (o+i)=some (vs i))
   (hv : ∀ i,i<cs.length→Aa g (cs.getD i nv) (vs i)) : Aa g (.ptr cs) (.pointer (some ⟨b,o,none⟩))
 | ref (id off b cap : Nat) (h : g.io id=some (.GA b cap)) : Aa g (.ref id off) (.pointer (some ⟨b,off,none⟩))
 | FX (cs : List AV) (id b cap : Nat) (vs : Nat→Value) (h : g.io id=some (.GA b cap))
   (hf : ∀ i,i<cs.length→g.fz b i=some (vs i))
   (hv : ∀ i,i<cs.length→Aa g (cs.getD i nv) (vs i)) : Aa g (.FX cs id) (.pointer (some ⟨b,0,none⟩))
 | A0 : Aa g .A0 (.slice none 0 0)
 | Dg (a : Option Addr) : Aa g .Dg (.slice a 0 0)
 | slnil (a : Option Addr) (cap : Nat) : Aa g (.sl []) (.slice a 0 cap)
 | sl (es : List AV) (b o sz cap : Nat) (vs : Nat→Value) (hm : es.length≤AN) (OK : es.length≤cap)
   (CW : ∀ i,i<es.length→(es.getD i nv).cells.length=sz)
   (hf : ∀ i j,i<es.length→j<sz→g.fz b (o+(i*sz+j))=some (vs (i*sz+j)))
   (hv : ∀ i j,i<es.length→j<sz→Aa g ((es.getD i nv).cells.getD j nv) (vs (i*sz+j))) :
   Aa g (.sl es) (.slice (some ⟨b,o,none⟩) es.length cap)
 | CN (id : Nat) (h : g.io id=some .nil) : Aa g (.buf id 0) (.slice none 0 0)
 | buf (id n b cap : Nat) (h : g.io id=some (.GA b cap)) : Aa g (.buf id n) (.slice (some ⟨b,0,none⟩) n cap)
 | sub (id off n b cap c : Nat) (h : g.io id=some (.GA b cap)) : Aa g (.sub id off n) (.slice (some ⟨b,off,none⟩) n c)
 | Nj (id n b cap : Nat) (h : g.io id=some (.GA b cap)) : Aa g (.Nj id n) (.slice (some ⟨b,0,none⟩) n n)
 | TU (a : Option Addr) (n cap : Nat) (h : n≤140737488355328) : Aa g (.TU n) (.slice a n cap)
 | KS : Aa g (.CS [] []) (.map none)
 | CS (ks vs : List AV) (b : Nat) (es : Array MapEntry) (h : g.fm b=some es) (h1 : es.size=ks.length) (h2 : vs.length=ks.length)
   (hk : ∀ i,i<ks.length→Aa g (ks.getD i nv) (es.getD i default).key)
   (hv : ∀ i,i<ks.length→Aa g (vs.getD i nv) (es.getD i default).val) : Aa g (.CS ks vs) (.map (some b))
 | Fa (id b : Nat) (h : g.io id=some (.mp b)) : Aa g (.Fa id) (.map (some b))
 | fn (f : Fn) (ca : List AV) (vs : Array Value) (hs : vs.size=ca.length)
   (hv : ∀ i,i<ca.length→Aa g (ca.getD i nv) (vs.getD i undef)) : Aa g (.fn f ca) (.func f #[] vs)
 | Lz : Aa g .Lz .nilFunc
 | R4 (t : TypeId) (v : AV) (w : Value) (h : Aa g v w) : Aa g (.R4 t v) (.iface t w)
 | Qz : Aa g .Qz .nilIface
 | agg (cs : List AV) (vs : Array Value) (hs : vs.size=cs.length)
   (hv : ∀ i,i<cs.length→Aa g (cs.getD i nv) (vs.getD i undef)) : Aa g (.agg cs) (.agg vs)
 | CQ (cs : List AV) (vs : Array Value) (hs : vs.size=cs.length)
   (hv : ∀ i,i<cs.length→Aa g (cs.getD i nv) (vs.getD i undef)) : Aa g (.CQ cs) (.tuple vs)
theorem Aa.mono {g g' : Gh} (hg : g.le g') {a : AV} {v : Value} (h : Aa g a v) : Aa g' a v:=by
 induction h with
 | bool b=>exact .bool b
 | int k n=>exact .int k n
 | str l=>exact .str l
 | Ix=>exact .Ix
 | ptr cs b o vs hf _ ih=>exact .ptr cs b o vs (fun i hi=>hg.fz _ _ _ (hf i hi)) ih
 | ref id off b cap h=>exact .ref id off b cap (hg.io _ _ h)
 | FX cs id b cap vs h hf _ ih=>exact .FX cs id b cap vs (hg.io _ _ h) (fun i hi=>hg.fz _ _ _ (hf i hi)) ih
 | A0=>exact .A0
 | Dg a=>exact .Dg a
 | slnil a cap=>exact .slnil a cap
 | sl es b o sz cap vs hm OK CW hf _ ih=>exact .sl es b o sz cap vs hm OK CW (fun i j hi hj=>hg.fz _ _ _ (hf i j hi hj)) ih
 | CN id h=>exact .CN id (hg.io _ _ h)
 | buf id n b cap h=>exact .buf id n b cap (hg.io _ _ h)
 | sub id off n b cap c h=>exact .sub id off n b cap c (hg.io _ _ h)
 | Nj id n b cap h=>exact .Nj id n b cap (hg.io _ _ h)
 | TU a n cap h=>exact .TU a n cap h
 | KS=>exact .KS
 | CS ks vs b es h h1 h2 _ _ ihk ihv=>exact .CS ks vs b es (hg.fm _ _ h) h1 h2 ihk ihv
 | Fa id b h=>exact .Fa id b (hg.io _ _ h)
 | fn f ca vs hs _ ih=>exact .fn f ca vs hs ih
 | Lz=>exact .Lz
 | R4 t v w _ ih=>exact .R4 t v w ih
 | Qz=>exact .Qz
 | agg cs vs hs _ ih=>exact .agg cs vs hs ih
 | CQ cs vs hs _ ih=>exact .CQ cs vs hs ih
def HD (g : Gh) (as : List AV) (vs : Array Value) : Prop :=
 vs.size=as.length∧∀ i,i<as.length→Aa g (as.getD i nv) (vs.getD i undef)
inductive AG where
 | cells (sz : Nat) (cs : List AV) (f : Nat)
 | map (ks vs : List AV)
abbrev AA:=List (Nat × AG)
def AA.get (H : AA) (i : Nat) : Option AG:=H.lookup i
def AA.set (H : AA) (i : Nat) (o : AG) : AA:=(i,o)::H
def AA.del (H : AA) (i : Nat) : AA:=H.filter fun x=>x.1 != i
@[simp] theorem AA.Pw (H : AA) (i : Nat) (o : AG) : (H.set i o).get i=some o:=by simp [AA.get,AA.set]
theorem AA.Aw (H : AA) {i j : Nat} (o : AG) (h : j≠i) : (H.set i o).get j=H.get j:=by
 simp only [AA.get,AA.set,List.lookup]
 have : (j == i)=false:=by simpa using h
 simp [this]
theorem AA.C1 (H : AA) (i : Nat) : (H.del i).get i=none:=by
 induction H with
 | nil=>rfl
 | cons x r ih =>
  simp only [AA.del,AA.get,List.filter_cons] at *
  by_cases h : x.1=i
  ·simp [h,ih]
  ·have h' : (i == x.1)=false:=by simpa using fun e=>h e.symm
   simp [h,List.lookup,h',ih]
theorem AA.Bd (H : AA) {i j : Nat} (hj : j≠i) : (H.del i).get j=H.get j:=by
 induction H with
 | nil=>rfl
 | cons x r ih =>
  obtain ⟨k,o⟩:=x;simp only [AA.del,AA.get,List.filter_cons] at *
  by_cases h : k=i
  ·have h' : (j == k)=false:=by simpa [h] using hj
   simp [h,List.lookup,ih];subst h; simp [h']
  ·by_cases hk : j=k
   ·subst hk; simp [h,List.lookup]
   ·have h' : (j == k)=false:=by simpa using hk
    simp [h,List.lookup,h',ih]
def AA.sub (H H' : AA) : Prop:=∀ i o,H.get i=some o→H'.get i=some o
theorem AA.sub.refl (H : AA) : H.sub H:=fun _ _ h=>h
theorem AA.sub.trans {a b c : AA} (h : a.sub b) (k : b.sub c) : a.sub c:=fun i o e=>k i o (h i o e)
theorem AA.CV {H H' : AA} {i : Nat} (o : AG) (hi : H.get i=none) (h : H.sub H') : H.sub (H'.set i o):=fun j x e=>by
 have : j≠i:=by rintro rfl; simp [hi] at e
 rw [AA.Aw _ _ this]; exact h j x e
def Ah (g : Gh) (B : Nat) (w : World) : Place→AG→Prop
 | .nil,.cells _ cs f=>cs=[]∧f=0
 | .GA b cap,.cells sz cs f=>B≤b∧f≤cs.length∧cs.length≤AN∧(∀ o,f≤o→g.fz b o=none) ∧
   ∃ c el,w.heap[b]? = some (.cells c el (0,0))∧c.size=cap*sz∧cs.length≤c.size ∧
    ∀ i,i<cs.length→Aa g (cs.getD i nv) (c.getD i undef)
 | .mp b,.map ks vs=>B≤b∧g.fm b=none∧∃ es clk,w.heap[b]? = some (.map es clk)∧es.size=ks.length∧vs.length=ks.length ∧
   (∀ i,i<ks.length→Aa g (ks.getD i nv) (es.getD i default).key)∧∀ i,i<ks.length→Aa g (vs.getD i nv) (es.getD i default).val
 | _,_=>False
structure Ao (g : Gh) (B : Nat) (H : AA) (w : World) : Prop where
 fz : ∀ b o v,g.fz b o=some v→w.cell? ⟨b,o,none⟩=some v
 fm : ∀ b es,g.fm b=some es→∃ clk,w.heap[b]? = some (.map es clk)
 ob : ∀ i o,H.get i=some o→∃ p,g.io i=some p∧Ah g B w p o
 inj : ∀ i j b c c',i≠j→(H.get i).isSome→(H.get j).isSome→g.io i=some (.GA b c)→g.io j=some (.GA b c')→False
 G9 : ∀ i j b,i≠j→(H.get i).isSome→(H.get j).isSome→g.io i=some (.mp b)→g.io j=some (.mp b)→False
 base : B≤w.heap.size
 fin : ∃ N,∀ i,N≤i→g.io i=none
theorem Ao.sub {g : Gh} {B : Nat} {H H' : AA} {w : World} (h : Ao g B H w) (s : H'.sub H) : Ao g B H' w where
 fz:=h.fz
 fm:=h.fm
 ob i o e:=h.ob i o (s i o e)
 inj i j b c c' n e1 e2:=by
  obtain ⟨o1,e1⟩:=Option.isSome_iff_exists.1 e1
  obtain ⟨o2,e2⟩:=Option.isSome_iff_exists.1 e2;exact h.inj i j b c c' n (by simp [s _ _ e1]) (by simp [s _ _ e2])
 G9 i j b n e1 e2:=by
  obtain ⟨o1,e1⟩:=Option.isSome_iff_exists.1 e1
  obtain ⟨o2,e2⟩:=Option.isSome_iff_exists.1 e2;exact h.G9 i j b n (by simp [s _ _ e1]) (by simp [s _ _ e2])
 base:=h.base
 fin:=h.fin
abbrev Env:=List (Nat × Option AV)
def Env.get : Env→Nat→Option AV
 | [],_=>none
 | (s,v)::r,t=>if t=s then v else Env.get r t
def Env.put (σ : Env) (d : Nat) (v : AV) : Env:=(d,some v)::σ
def Env.forget (σ : Env) (d : Nat) : Env:=(d,none)::σ
def Env.BF : List Nat→Env→Env
 | [],_=>[]
 | t::r,σ=>(t,σ.get t)::Env.BF r σ
theorem Env.Rj (s : Nat) (v : Option AV) (r : Env) (t : Nat) : Env.get ((s,v)::r) t=if t=s then v else Env.get r t:=rfl
theorem Env.S0 (l : List Nat) (σ : Env) (t : Nat) (v : AV) (h : (Env.BF l σ).get t=some v) : σ.get t=some v:=by
 induction l with
 | nil=>simp [Env.BF,Env.get] at h
 | cons x r ih =>
  simp only [Env.BF,Env.get] at h
  split at h
  ·rename_i e; rw [e]; exact h
  ·exact ih h
def Cr (g : Gh) (σ : Env) (tm : Array Value) : Prop:=∀ t v,σ.get t=some v→t<tm.size∧Aa g v (tm.getD t undef)
theorem Cr.mono {g g' : Gh} (hg : g.le g') {σ : Env} {tm : Array Value} (h : Cr g σ tm) : Cr g' σ tm :=
 fun t v e=>⟨(h t v e).1,(h t v e).2.mono hg⟩
theorem Cr.BF {g : Gh} {σ : Env} {tm : Array Value} (l : List Nat) (h : Cr g σ tm) : Cr g (σ.BF l) tm :=
 fun t v e=>h t v (Env.S0 l σ t v e)
theorem Cr.put {g : Gh} {σ : Env} {tm : Array Value} (h : Cr g σ tm) {d : Nat} (hd : d<tm.size) {a : AV} {v : Value} (hv : Aa g a v) :
  Cr g (σ.put d a) (tm.setIfInBounds d v):=by
 intro t x e;simp only [Env.put,Env.get] at e
 split at e
 ·rename_i ht
  cases e;subst ht
  simp [hd,Array.getD,hv]
 ·rename_i ht
  obtain ⟨h1,h2⟩:=h t x e;refine ⟨by simpa using h1, ?_⟩
  have : (tm.setIfInBounds d v).getD t undef=tm.getD t undef:=by
   simp only [Array.getD_eq_getD_getElem?];rw [Array.getElem?_setIfInBounds_ne (by omega)]
  rw [this]; exact h2
end Go.AW
namespace Go.AW
open Go.RowKit
def Gh.Gt (g : Gh) (b n : Nat) (c : Array Value) : Gh :=
 { g with fz:=fun b' o=>if b'=b∧o<n then c[o]? else g.fz b' o }
def Gh.G4 (g : Gh) (i : Nat) (p : Place) : Gh:={ g with io:=fun j=>if j=i then some p else g.io j }
theorem Gh.QD (g : Gh) (i : Nat) (p : Place) (h : g.io i=none) : g.le (g.G4 i p) :=
 ⟨fun _ _ _ h=>h,fun _ _ h=>h,fun j q hj=>by
  have : j≠i:=by rintro rfl; simp [h] at hj
  simpa [Gh.G4,this] using hj⟩
theorem Gh.DV (g : Gh) (i : Nat) (p : Place) : (g.G4 i p).io i=some p:=by simp [Gh.G4]
theorem Gh.CL (g : Gh) {i j : Nat} (p : Place) (h : j≠i) : (g.G4 i p).io j=g.io j:=by simp [Gh.G4,h]
theorem Gh.Z3 {g : Gh} (i : Nat) (p : Place) (h : ∃ N,∀ i,N≤i→g.io i=none) : ∃ N,∀ j,N≤j→(g.G4 i p).io j=none:=by
 obtain ⟨N,hN⟩:=h;exact ⟨max N (i+1),fun j hj=>by rw [Gh.CL _ _ (by omega)]; exact hN j (by omega)⟩
def Place.block : Place→Option Nat
 | .nil=>none
 | .GA b _=>some b
 | .mp b=>some b
theorem Ah.BF {g g' : Gh} {B : Nat} {w w' : World} {p : Place} {o : AG} (h : Ah g B w p o) (hg : g.le g')
  (hb : ∀ b,p.block=some b→w'.heap[b]? = w.heap[b]?)
  (hf : ∀ b x,p.block=some b→g.fz b x=none→g'.fz b x=none)
  (hm : ∀ b,p.block=some b→g.fm b=none→g'.fm b=none) : Ah g' B w' p o:=by
 cases p with
 | nil=>cases o <;> simp only [Ah] at h ⊢; exact h
 | GA b cap =>
  cases o with
  | cells sz cs f =>
   simp only [Ah] at h ⊢
   obtain ⟨h1,h2,h3,h4,c,el,h5,h6,h7,h8⟩:=h;exact ⟨h1,h2,h3,fun x hx=>hf b x rfl (h4 x hx),c,el,by rw [hb b rfl]; exact h5,h6,h7,fun i hi=>(h8 i hi).mono hg⟩
  | map ks vs=>simp [Ah] at h
 | mp b =>
  cases o with
  | cells sz cs f=>simp [Ah] at h
  | map ks vs =>
   simp only [Ah] at h ⊢
   obtain ⟨h1,h2,es,clk,h5,h6,h7,h8,h9⟩:=h;exact ⟨h1,hm b rfl h2,es,clk,by rw [hb b rfl]; exact h5,h6,h7,fun i hi=>(h8 i hi).mono hg,fun i hi=>(h9 i hi).mono hg⟩
theorem Ah.lt {g : Gh} {B : Nat} {w : World} {p : Place} {o : AG} (h : Ah g B w p o) {b : Nat} (hp : p.block=some b) : B≤b∧b<w.heap.size:=by
 cases p with
 | nil=>cases hp
 | GA b' cap =>
  cases o with
  | cells sz cs f =>
   simp only [Ah] at h
   cases hp
   obtain ⟨h1,h2,h3,h4,c,el,h5,_⟩:=h;exact ⟨h1,(Array.getElem?_eq_some_iff.1 h5).1⟩
  | map ks vs=>simp [Ah] at h
 | mp b' =>
  cases o with
  | cells sz cs f=>simp [Ah] at h
  | map ks vs =>
   simp only [Ah] at h
   cases hp
   obtain ⟨h1,h2,es,clk,h5,_⟩:=h;exact ⟨h1,(Array.getElem?_eq_some_iff.1 h5).1⟩
theorem Ao.ZV {g : Gh} {B : Nat} {H : AA} {w : World} (h : Ao g B H w) {b o : Nat} {v : Value} (e : g.fz b o=some v) : b<w.heap.size :=
 World.block_lt_of_cell? w ⟨b,o,none⟩ (h.fz b o v e)
theorem Ao.j6 {g : Gh} {B : Nat} {H : AA} {w : World} (h : Ao g B H w) (b o : Nat) (hb : w.heap.size≤b) : g.fz b o=none:=by
 cases e : g.fz b o with
 | none=>rfl
 | some v=>have:=h.ZV e; omega
theorem Ao.fD {g : Gh} {B : Nat} {H : AA} {w : World} (h : Ao g B H w) {b : Nat} {es} (e : g.fm b=some es) : b<w.heap.size:=by
 obtain ⟨clk,hc⟩:=h.fm b es e;exact (Array.getElem?_eq_some_iff.1 hc).1
theorem Ao.jM {g : Gh} {B : Nat} {H : AA} {w : World} (h : Ao g B H w) (b : Nat) (hb : w.heap.size≤b) : g.fm b=none:=by
 cases e : g.fm b with
 | none=>rfl
 | some v=>have:=h.fD e; omega
theorem Ao.drew {g : Gh} {B : Nat} {H : AA} {w : World} (h : Ao g B H w) : Ao g B H w.drew where
 fz b o v e:=h.fz b o v e
 fm b es e:=h.fm b es e
 ob i o e:=by
  obtain ⟨p,hp,hr⟩:=h.ob i o e;exact ⟨p,hp,hr.BF (Gh.le.refl g) (fun _ _=>rfl) (fun _ _ _ h=>h) (fun _ _ h=>h)⟩
 inj:=h.inj
 G9:=h.G9
 base:=h.base
 fin:=h.fin
theorem Ao.grow {g : Gh} {B : Nat} {H : AA} {w w' : World} (h : Ao g B H w) (hs : w.heap.size≤w'.heap.size)
  (hb : ∀ b,b<w.heap.size→w'.heap[b]? = w.heap[b]?) : Ao g B H w' where
 fz b o v e:=by
  have hl:=h.ZV e
  have:=h.fz b o v e;rw [World.cell?_of_block (w:=w) (hb b hl)]; exact this
 fm b es e:=by
  obtain ⟨clk,hc⟩:=h.fm b es e;exact ⟨clk,by rw [hb b (h.fD e)]; exact hc⟩
 ob i o e:=by
  obtain ⟨p,hp,hr⟩:=h.ob i o e;exact ⟨p,hp,hr.BF (Gh.le.refl g) (fun b LX=>hb b (hr.lt LX).2) (fun _ _ _ h=>h) (fun _ _ h=>h)⟩
 inj:=h.inj
 G9:=h.G9
 base:=by have:=h.base; omega
 fin:=h.fin
theorem Ao.alloc {g : Gh} {B : Nat} {H : AA} {w : World} (h : Ao g B H w) (x : Obj) : Ao g B H (w.alloc x) :=
 h.grow (by simp) (fun b hb=>Below.heap_alloc w x b hb)
theorem Ao.Gt {g : Gh} {B : Nat} {H : AA} {w : World} (h : Ao g B H w) (b n : Nat) (c : Array Value) (el : TypeId) (fr : Nat × Nat)
  (hb : w.heap[b]? = some (.cells c el fr))
  (ho : ∀ i p o,H.get i=some o→g.io i=some p→p.block=some b→∃ sz cs f,o=.cells sz cs f∧n≤f) :
  g.le (g.Gt b n c)∧Ao (g.Gt b n c) B H w:=by
 have hle : g.le (g.Gt b n c):=by
  refine ⟨fun b' o v e=>?_,fun _ _ h=>h,fun _ _ h=>h⟩;simp only [Gh.Gt]
  split
  ·rename_i hx
   obtain ⟨rfl,hx⟩:=hx
   have:=h.fz _ _ _ e
   rwa [cell_of_row w b' o c el fr hb] at this
  ·exact e
 refine ⟨hle, ?_⟩
 constructor
 ·intro b' o v e;simp only [Gh.Gt] at e
  split at e
  ·rename_i hx
   obtain ⟨rfl,hx⟩:=hx;rw [cell_of_row w b' o c el fr hb]; exact e
  ·exact h.fz _ _ _ e
 ·exact h.fm
 ·intro i o e
  obtain ⟨p,hp,hr⟩:=h.ob i o e;refine ⟨p,hp, ?_⟩
  by_cases TK : p.block=some b
  ·obtain ⟨sz,cs,f,rfl,hn⟩:=ho i p o e hp TK
   cases p with
   | nil=>cases TK
   | mp b'=>simp [Ah] at hr
   | GA b' cap =>
    cases TK;simp only [Ah] at hr ⊢
    obtain ⟨h1,h2,h3,h4,c',el',h5,h6,h7,h8⟩:=hr;refine ⟨h1,h2,h3,fun x hx=>?_,c',el',h5,h6,h7,fun i hi=>(h8 i hi).mono hle⟩;simp only [Gh.Gt];rw [if_neg (by omega)];exact h4 x hx
  ·refine hr.BF hle (fun _ _=>rfl) (fun b' x LX hx=>?_) (fun _ _ h=>h);simp only [Gh.Gt];rw [if_neg]
   ·exact hx
   ·rintro ⟨rfl,_⟩; exact TK LX
 ·exact h.inj
 ·exact h.G9
 ·exact h.base
 ·exact h.fin
theorem Ao.KA {g : Gh} {B : Nat} {H : AA} {w : World} (h : Ao g B H w) (c : Array Value) (el : TypeId) :
  g.le (g.Gt w.heap.size c.size c)∧Ao (g.Gt w.heap.size c.size c) B H (w.alloc (.cells c el)) :=
 (h.alloc _).Gt w.heap.size c.size c el (0,0) (World.alloc_heap_new' w c el)
  (fun i p o e hp TK=>by
   obtain ⟨p',Nv,hr⟩:=h.ob i o e;rw [hp] at Nv; cases Nv
   have:=(hr.lt TK).2; omega)
where
 World.alloc_heap_new' (w : World) (c : Array Value) (el : TypeId) : (w.alloc (.cells c el)).heap[w.heap.size]? = some (.cells c el (0,0)):=by
  show (w.heap.push _)[w.heap.size]? = _
  simp
theorem Ao.G4 {g : Gh} {B : Nat} {H : AA} {w : World} (h : Ao g B H w) (i : Nat) (hi : g.io i=none) (p : Place) (o : AG)
  (hp : ∀ b,p.block=some b→∀ j q o',H.get j=some o'→g.io j=some q→q.block≠some b)
  (hr : Ah (g.G4 i p) B w p o) : g.le (g.G4 i p)∧Ao (g.G4 i p) B (H.set i o) w:=by
 have hle:=Gh.QD g i p hi;refine ⟨hle, ?_⟩
 have xU : ∀ j o',H.get j=some o'→j≠i:=by
  rintro j o' e rfl
  obtain ⟨q,hq,_⟩:=h.ob _ o' e
  simp [hi] at hq
 have CU : ∀ j,((H.set i o).get j).isSome→j≠i→(H.get j).isSome:=by
  intro j hj Bg
  rwa [AA.Aw _ _ Bg] at hj
 constructor
 ·exact h.fz
 ·exact h.fm
 ·intro j o' e
  by_cases hj : j=i
  ·subst hj
   simp at e;subst e;exact ⟨p,Gh.DV _ _ _,hr⟩
  ·rw [AA.Aw _ _ hj] at e
   obtain ⟨q,hq,L6⟩:=h.ob j o' e;exact ⟨q,by rw [Gh.CL _ _ hj]; exact hq,L6.BF hle (fun _ _=>rfl) (fun _ _ _ h=>h) (fun _ _ h=>h)⟩
 ·intro j k b c c' Bg e1 e2 p1 p2
  by_cases hj : j=i
  ·subst hj
   have hk : k≠j:=fun e=>Bg e.symm;rw [Gh.DV] at p1;rw [Gh.CL _ _ hk] at p2
   cases p1
   obtain ⟨o',e2⟩:=Option.isSome_iff_exists.1 (CU k e2 hk);exact hp b rfl k _ o' e2 p2 rfl
  ·by_cases hk : k=i
   ·subst hk;rw [Gh.CL _ _ hj] at p1;rw [Gh.DV] at p2
    cases p2
    obtain ⟨o',e1⟩:=Option.isSome_iff_exists.1 (CU j e1 hj);exact hp b rfl j _ o' e1 p1 rfl
   ·rw [Gh.CL _ _ hj] at p1;rw [Gh.CL _ _ hk] at p2;exact h.inj j k b c c' Bg (CU j e1 hj) (CU k e2 hk) p1 p2
 ·intro j k b Bg e1 e2 p1 p2
  by_cases hj : j=i
  ·subst hj
   have hk : k≠j:=fun e=>Bg e.symm;rw [Gh.DV] at p1;rw [Gh.CL _ _ hk] at p2
   cases p1
   obtain ⟨o',e2⟩:=Option.isSome_iff_exists.1 (CU k e2 hk);exact hp b rfl k _ o' e2 p2 rfl
  ·by_cases hk : k=i
   ·subst hk;rw [Gh.CL _ _ hj] at p1;rw [Gh.DV] at p2
    cases p2
    obtain ⟨o',e1⟩:=Option.isSome_iff_exists.1 (CU j e1 hj);exact hp b rfl j _ o' e1 p1 rfl
   ·rw [Gh.CL _ _ hj] at p1;rw [Gh.CL _ _ hk] at p2;exact h.G9 j k b Bg (CU j e1 hj) (CU k e2 hk) p1 p2
 ·exact h.base
 ·exact Gh.Z3 i p h.fin
theorem Ao.fresh {g : Gh} {B : Nat} {H : AA} {w : World} (h : Ao g B H w) : ∃ i,g.io i=none∧H.get i=none:=by
 obtain ⟨N,hN⟩:=h.fin;refine ⟨N,hN N (Nat.le_refl _), ?_⟩
 cases e : H.get N with
 | none=>rfl
 | some o=>obtain ⟨p,hp,_⟩:=h.ob N o e; simp [hN N (Nat.le_refl _)] at hp
theorem Ao.Ms {g : Gh} {B : Nat} {H : AA} {w : World} (h : Ao g B H w) (i : Nat) (hi : g.io i=none) (c : Array Value) (el : TypeId)
  (sz cap : Nat) (cs : List AV) (hm : cs.length≤AN) (hc : c.size=cap*sz) (hl : cs.length≤c.size) (hv : ∀ k,k<cs.length→Aa g (cs.getD k nv) (c.getD k undef)) :
  g.le (g.G4 i (.GA w.heap.size cap))∧Ao (g.G4 i (.GA w.heap.size cap)) B (H.set i (.cells sz cs 0)) (w.alloc (.cells c el)):=by
 refine (h.alloc _).G4 i hi (.GA w.heap.size cap) (.cells sz cs 0) ?_ ?_
 ·intro b hb j q o' e hq W5
  cases hb
  obtain ⟨q',RI,hr⟩:=h.ob j o' e;rw [hq] at RI; cases RI
  have:=(hr.lt W5).2; omega
 ·simp only [Ah];refine ⟨h.base,Nat.zero_le _,hm,fun o _=>h.j6 _ o (Nat.le_refl _),c,el,Ao.KA.World.alloc_heap_new' w c el,hc,hl,fun k hk=>(hv k hk).mono (Gh.QD g i _ hi)⟩
theorem Ao.WM {g : Gh} {B : Nat} {H : AA} {w : World} (h : Ao g B H w) (i : Nat) (hi : g.io i=none) (clk : Nat) :
  g.le (g.G4 i (.mp w.heap.size))∧Ao (g.G4 i (.mp w.heap.size)) B (H.set i (.map [] [])) (w.alloc (.map #[] clk)):=by
 refine (h.alloc _).G4 i hi (.mp w.heap.size) (.map [] []) ?_ ?_
 ·intro b hb j q o' e hq W5
  cases hb
  obtain ⟨q',RI,hr⟩:=h.ob j o' e;rw [hq] at RI; cases RI
  have:=(hr.lt W5).2; omega
 ·simp only [Ah];refine ⟨h.base,h.jM _ (Nat.le_refl _),#[],clk, ?_,by simp,by simp,fun i hi=>by simp at hi,fun i hi=>by simp at hi⟩
  show (w.heap.push _)[w.heap.size]? = _
  simp
theorem Ao.write {g : Gh} {B : Nat} {H : AA} {w w' : World} (h : Ao g B H w) (i b cap sz : Nat) (cs cs' : List AV) (f : Nat) (c c' : Array Value) (el : TypeId)
  (hi : H.get i=some (.cells sz cs f)) (hp : g.io i=some (.GA b cap)) (hb : w.heap[b]? = some (.cells c el (0,0)))
  (LX : w'.heap[b]? = some (.cells c' el (0,0))) (hs : w'.heap.size=w.heap.size) (ho : ∀ k,k≠b→w'.heap[k]? = w.heap[k]?)
  (Pe : c'.size=c.size) (IK : ∀ k,k<f→c'[k]? = c[k]?) (ie : f≤cs'.length) (hm : cs'.length≤AN) (o0 : cs'.length≤c'.size)
  (hv : ∀ k,k<cs'.length→Aa g (cs'.getD k nv) (c'.getD k undef)) : Ao g B (H.set i (.cells sz cs' f)) w':=by
 obtain ⟨p,Nv,hr⟩:=h.ob i _ hi;rw [hp] at Nv; cases Nv;simp only [Ah] at hr
 obtain ⟨h1,h2,h3,h4,c0,el0,h5,h6,h7,h8⟩:=hr;rw [hb] at h5; cases h5
 have CU : ∀ j,((H.set i (.cells sz cs' f)).get j).isSome→(H.get j).isSome:=by
  intro j hj
  by_cases e : j=i
  ·subst e; simp [hi]
  ·rwa [AA.Aw _ _ e] at hj
 constructor
 ·intro b' o v e
  have hl:=h.ZV e
  by_cases dW : b'=b
  ·subst dW
   have Nh : o<f:=by
    rcases Nat.lt_or_ge o f with x | x
    ·exact x
    ·simp [h4 o x] at e
   have:=h.fz _ _ _ e;rw [cell_of_row w b' o c el (0,0) hb] at this;rw [cell_of_row w' b' o c' el (0,0) LX,IK o Nh]; exact this
  ·rw [World.cell?_of_block (w:=w) (a:=⟨b',o,none⟩) (ho b' dW)]; exact h.fz _ _ _ e
 ·intro b' es e
  obtain ⟨clk,hc⟩:=h.fm b' es e
  have : b'≠b:=by rintro rfl; rw [hb] at hc; cases hc
  exact ⟨clk,by rw [ho b' this]; exact hc⟩
 ·intro j o e
  by_cases hj : j=i
  ·subst hj
   simp at e; subst e;refine ⟨.GA b cap,hp, ?_⟩;simp only [Ah];exact ⟨h1,ie,hm,h4,c',el,LX,by rw [Pe]; exact h6,o0,hv⟩
  ·rw [AA.Aw _ _ hj] at e
   obtain ⟨q,hq,L6⟩:=h.ob j o e;refine ⟨q,hq,L6.BF (Gh.le.refl g) (fun b'' hb''=>ho b'' ?_) (fun _ _ _ h=>h) (fun _ _ h=>h)⟩
   rintro rfl
   cases q with
   | nil=>cases hb''
   | GA b2 c2 =>
    cases hb'';exact h.inj j i _ c2 cap hj (by simp [e]) (by simp [hi]) hq hp
   | mp b2 =>
    cases hb''
    cases o with
    | cells _ _ _=>simp [Ah] at L6
    | map ks vs =>
     simp only [Ah] at L6
     obtain ⟨_,_,es,clk,W9,_⟩:=L6;rw [hb] at W9; cases W9
 ·intro j k b2 c2 c3 Bg e1 e2;exact h.inj j k b2 c2 c3 Bg (CU j e1) (CU k e2)
 ·intro j k b2 Bg e1 e2;exact h.G9 j k b2 Bg (CU j e1) (CU k e2)
 ·rw [hs]; exact h.base
 ·exact h.fin
theorem Ao.rename {g : Gh} {B : Nat} {H : AA} {w : World} (h : Ao g B H w) (i j : Nat) (o : AG) (p : Place)
  (hi : H.get i=some o) (hp : g.io i=some p) (hj : g.io j=none) :
  g.le (g.G4 j p)∧Ao (g.G4 j p) B ((H.del i).set j o) w:=by
 have Dw : (H.del i).sub H:=fun k x e=>by
  by_cases hk : k=i
  ·subst hk; rw [AA.C1] at e; cases e
  ·rwa [AA.Bd _ hk] at e
 obtain ⟨q,hq,hr⟩:=h.ob i o hi;rw [hp] at hq; cases hq;refine (h.sub Dw).G4 j hj p o ?_ ?_
 ·intro b hb k q o' e hq W5
  have lI : k≠i:=by rintro rfl; rw [AA.C1] at e; cases e
  have e' : H.get k=some o':=Dw k o' e
  obtain ⟨q',RI,L6⟩:=h.ob k o' e';rw [hq] at RI; cases RI
  cases p with
  | nil=>cases hb
  | GA b1 c1 =>
   cases hb
   cases q with
   | nil=>cases W5
   | GA b2 c2=>cases W5; exact h.inj k i _ _ _ lI (by simp [e']) (by simp [hi]) hq hp
   | mp b2 =>
    cases W5
    cases o' with
    | cells _ _ _=>simp [Ah] at L6
    | map ks vs =>
     cases o with
     | map _ _=>simp [Ah] at hr
     | cells _ _ _ =>
      simp only [Ah] at L6 hr
      obtain ⟨_,_,es,clk,W9,_⟩:=L6
      obtain ⟨_,_,_,_,c,el,h5,_⟩:=hr;rw [h5] at W9; cases W9
  | mp b1 =>
   cases hb
   cases q with
   | nil=>cases W5
   | mp b2=>cases W5; exact h.G9 k i _ lI (by simp [e']) (by simp [hi]) hq hp
   | GA b2 c2 =>
    cases W5
    cases o with
    | cells _ _ _=>simp [Ah] at hr
    | map ks vs =>
     cases o' with
     | map _ _=>simp [Ah] at L6
     | cells _ _ _ =>
      simp only [Ah] at L6 hr
      obtain ⟨_,_,es,clk,W9,_⟩:=hr
      obtain ⟨_,_,_,_,c,el,h5,_⟩:=L6;rw [h5] at W9; cases W9
 ·exact hr.BF (Gh.QD g j p hj) (fun _ _=>rfl) (fun _ _ _ h=>h) (fun _ _ h=>h)
theorem Ao.ZI {g : Gh} {B : Nat} {H : AA} {w : World} (h : Ao g B H w) (i b cap sz : Nat) (cs : List AV) (f : Nat)
  (hi : H.get i=some (.cells sz cs f)) (hp : g.io i=some (.GA b cap)) :
  ∃ (c : Array Value) (g' : Gh),g.le g'∧Ao g' B (H.set i (.cells sz cs cs.length)) w∧c.size=cap*sz∧cs.length≤c.size ∧
   (∀ k,k<cs.length→g'.fz b k=some (c.getD k undef))∧∀ k,k<cs.length→Aa g' (cs.getD k nv) (c.getD k undef):=by
 obtain ⟨p,Nv,hr⟩:=h.ob i _ hi;rw [hp] at Nv; cases Nv;simp only [Ah] at hr
 obtain ⟨h1,h2,h3,h4,c,el,h5,h6,h7,h8⟩:=hr
 have CU : ∀ j,((H.set i (.cells sz cs cs.length)).get j).isSome→(H.get j).isSome:=by
  intro j hj
  by_cases e : j=i
  ·subst e; simp [hi]
  ·rwa [AA.Aw _ _ e] at hj
 have h' : Ao g B (H.set i (.cells sz cs cs.length)) w:=by
  constructor
  ·exact h.fz
  ·exact h.fm
  ·intro j o e
   by_cases hj : j=i
   ·subst hj
    simp at e; subst e;refine ⟨.GA b cap,hp, ?_⟩;simp only [Ah];exact ⟨h1,Nat.le_refl _,h3,fun o ho=>h4 o (by omega),c,el,h5,h6,h7,h8⟩
   ·rw [AA.Aw _ _ hj] at e;exact h.ob j o e
  ·intro j k b2 c2 c3 Bg e1 e2;exact h.inj j k b2 c2 c3 Bg (CU j e1) (CU k e2)
  ·intro j k b2 Bg e1 e2;exact h.G9 j k b2 Bg (CU j e1) (CU k e2)
  ·exact h.base
  ·exact h.fin
 have:=h'.Gt b cs.length c el (0,0) h5 (fun j q o e hq W5=>by
  by_cases hj : j=i
  ·subst hj; simp at e; subst e; exact ⟨_,_,_,rfl,Nat.le_refl _⟩
  ·exfalso
   rw [AA.Aw _ _ hj] at e
   cases q with
   | nil=>cases W5
   | GA b2 c2=>cases W5; exact h.inj j i _ _ _ hj (by simp [e]) (by simp [hi]) hq hp
   | mp b2 =>
    cases W5
    obtain ⟨q',RI,L6⟩:=h.ob j o e;rw [hq] at RI; cases RI
    cases o with
    | cells _ _ _=>simp [Ah] at L6
    | map ks vs =>
     simp only [Ah] at L6
     obtain ⟨_,_,es,clk,W9,_⟩:=L6;rw [h5] at W9; cases W9)
 refine ⟨c,_,this.1,this.2,h6,h7,fun k hk=>?_,fun k hk=>(h8 k hk).mono this.1⟩;simp only [Gh.Gt]
 simp [hk,Array.getD,show k<c.size by omega]
end Go.AW
namespace Go.AW
open Go.RowKit
inductive X where
 | t (n : Nat)
 | c (v : AV)
 deriving Inhabited
inductive Jt where
 | mv (x : X)
 | pick (c a b : X)
 | ar (op : BinOp) (k : IntKind) (x y : X)
 | bq (neg : Bool) (x y : X)
 | nq (neg : Bool) (x : X)
 | aq (neg : Bool) (n : Nat) (x y : X)
 | nt (x : X)
 | conv (k : IntKind) (x : X)
 | len (x : X)
 | XP (x : X)
 | idx (sz : Nat) (x i : X)
 | oN (off n : Nat) (x : X)
 | u6 (n : Option Nat) (x : X)
 | pH (x : X)
 | pJ (zero : List AV) (parts : List (Nat × Nat × X))
 | oW (off : Nat) (n : Option Nat) (x : X)
 | ext (x : X) (i : Nat)
 | p8 (sz : Nat) (x : X) (lo hi : Option X)
 | o7 (f : Fn) (ca : List X)
 | kW (t : TypeId) (x : X)
 | XT (sz : Nat) (xs : List X)
 | emp
 | Xa (n : Nat) (x : X)
 | M7 (f : X) (xs : List X)
 | mx (TU : Bool) (x y : X)
 | pB (x : X)
 | ld (n : Option Nat) (x : X)
 | aR (z : Nat) (n : Option Nat) (x : X)
 | st (n : Nat) (p v : X)
 | QF (sz : Nat) (xs : List X)
 | R3 (n : Nat) (x : X)
 | gG (zero : List AV)
 | app (sz bytes : Nat) (s x : X)
 | dP (sz : Nat) (zero : List AV) (l c : X)
 | pM
 | Xn (s : Nat) (ok : Bool) (zero : AV) (m k : X)
 | aA (s : Nat) (m k v : X)
 | R9 (x : X)
 | dK (sz : Nat) (x : X) (lo hi : Option X)
 | lK (zero : List AV) (x : X)
 | lD (x y : X)
 | oZ (sz : Nat) (x h m : X)
 | call (f : X) (xs : List X)
 | KW (f : X) (xs : List X)
 | KT (z : Nat) (f : X) (xs : List X)
 | inv (x : X) (name : String) (xs : List X)
 | aP (neg : Bool) (x : X)
 | kR (t : TypeId) (x : X)
 deriving Inhabited
structure Cq where
 d : Option Nat
 g : Option (Nat × Bool)
 i : Jt
 deriving Inhabited
def val (σ : Env) : X→Option AV
 | .t n=>σ.get n
 | .c v=>some v
def LK : Option AV→Option (List AV)→Option (List AV)
 | some a,some r=>some (a::r)
 | _,_=>none
def Cj (σ : Env) : List X→Option (List AV)
 | []=>some []
 | x::r=>LK (val σ x) (Cj σ r)
def AV.one : AV→Bool
 | .agg _ | .CQ _=>false
 | _=>true
def flat : List AV→List AV
 | []=>[]
 | e::r=>e.cells++flat r
def Cc (sz : Nat) (es : List AV) : Prop:=∀ e,e∈es→e.cells.length=sz∧∀ c,c∈e.cells→c.one=true
def chunk (sz : Nat) : Nat→List AV→List AV
 | 0,_=>[]
 | n+1,cs=>(if sz=1 then cs.headD nv else .agg (cs.take sz))::chunk sz n (cs.drop sz)
def wr (cs : List AV) : Nat→List AV→List AV
 | _,[]=>cs
 | o,v::r=>wr (cs.set o v) (o+1) r
def rep : Nat→List AV→List AV
 | 0,_=>[]
 | n+1,z=>z++rep n z
abbrev PV:=Option (Prop × AV)
def Tz : Option AV→PV
 | some v=>some (True,v)
 | none=>none
def M3 : Option AV→Option AV→Option AV→PV
 | some (.bool true),a,_=>Tz a
 | some (.bool false),_,b=>Tz b
 | _,_,_=>none
def O6 : BinOp→IntKind→Int→Int→PV
 | .add,k,a,b=>some (True,.int k (k.wrap (a+b)))
 | .sub,k,a,b=>some (True,.int k (k.wrap (a - b)))
 | .mul,k,a,b=>some (True,.int k (k.wrap (a*b)))
 | .quo,k,a,b=>some (b≠0,.int k (k.wrap (a.tdiv b)))
 | .rem,k,a,b=>some (b≠0,.int k (a.tmod b))
 | .eql,_,a,b=>some (True,.bool (decide (a=b)))
 | .neq,_,a,b=>some (True,.bool (!decide (a=b)))
 | .lss,_,a,b=>some (True,.bool (decide (a<b)))
 | .leq,_,a,b=>some (True,.bool (decide (a≤b)))
 | .gtr,_,a,b=>some (True,.bool (decide (b<a)))
 | .geq,_,a,b=>some (True,.bool (decide (b≤a)))
 | .and,k,a,b=>some (True,.int k (k.wrap (BitVec.ofInt k.bits a &&& BitVec.ofInt k.bits b).toNat))
 | .shr,k,a,b=>some (0≤b,.int k (a.fdiv (2 ^ min b.toNat k.bits)))
 | _,_,_,_=>none
def Yl : BinOp→Bool
 | .shr=>true
 | _=>false
def uX : BinOp→List UInt8→List UInt8→PV
 | .add,a,b=>some (a.length+b.length≤AN,.str (a++b))
 | .eql,a,b=>some (True,.bool (decide (a=b)))
 | .neq,a,b=>some (True,.bool (!decide (a=b)))
 | _,_,_=>none
def Gc (op : BinOp) (k : IntKind) : Option AV→Option AV→PV
 | some (.int k1 a),some (.int k2 b)=>if k1=k∧(k2=k∨Yl op=true) then O6 op k a b else none
 | some (.str a),some (.str b)=>uX op a b
 | _,_=>none
def cD (neg : Bool) : Option AV→Option AV→PV
 | some (.bool a),some (.bool b)=>some (True,.bool (neg ^^ (a == b)))
 | _,_=>none
def cC (neg : Bool) : Option AV→PV
 | some .Ix=>some (True,.bool (!neg))
 | some (.ptr _)=>some (True,.bool neg)
 | some (.ref _ _)=>some (True,.bool neg)
 | _=>none
def nZ : Option AV→PV
 | some (.bool a)=>some (True,.bool (!a))
 | _=>none
def PQ (k : IntKind) : Option AV→PV
 | some (.int _ a)=>some (True,.int k (k.wrap a))
 | _=>none
def Ds : Option AV→PV
 | some (.sl es)=>some (True,.int .i64 es.length)
 | some (.buf _ n)=>some (True,.int .i64 n)
 | some (.sub _ _ n)=>some (True,.int .i64 n)
 | some (.Nj _ n)=>some (True,.int .i64 n)
 | some (.TU n)=>some (True,.int .i64 n)
 | some .A0=>some (True,.int .i64 0)
 | some .Dg=>some (True,.int .i64 0)
 | _=>none
def T3 : Option AV→PV
 | some (.str l)=>some (True,.int .i64 l.length)
 | _=>none
def Gn (sz : Nat) : Option AV→Option AV→PV
 | some (.sl es),some (.int _ n)=>some (0≤n∧n.toNat<es.length∧(es.getD n.toNat nv).cells.length=sz,.ptr (es.getD n.toNat nv).cells)
 | some (.buf id m),some (.int _ n)=>some (0≤n∧n.toNat<m,.ref id (n.toNat*sz))
 | some (.sub id o m),some (.int _ n)=>some (0≤n∧n.toNat<m,.ref id (o+n.toNat*sz))
 | _,_=>none
def SJ (off n : Nat) : Option AV→PV
 | some (.ptr cs)=>some (off+n≤cs.length,.ptr ((cs.drop off).take n))
 | some (.ref id o)=>some (True,.ref id (o+off))
 | some (.FX cs id)=>some (True,if off+n≤cs.length then .ptr ((cs.drop off).take n) else .ref id off)
 | _=>none
def Wb : Option Nat→Option AV→PV
 | none,some (.ptr (c::_))=>some (True,c)
 | some n,some (.ptr cs)=>some (cs.length=n,.agg cs)
 | _,_=>none
def U8 : Option AV→PV
 | some (.ptr cs)=>some (True,.ptr cs)
 | some (.ref id o)=>some (True,.ref id o)
 | some (.FX cs id)=>some (True,.FX cs id)
 | _=>none
def Y4 (p : Prop) : Option (Prop × List AV)→Option (Prop × List AV)
 | some (q,r)=>some (p∧q,r)
 | none=>none
def Yd (n off : Nat) : Option AV→List AV→(List AV→Option (Prop × List AV))→Option (Prop × List AV)
 | some a,cs,F=>Y4 (a.cells.length=n∧off+n≤cs.length) (F (wr cs off a.cells))
 | none,_,_=>none
def IH (σ : Env) : List (Nat × Nat × X)→List AV→Option (Prop × List AV)
 | [],cs=>some (True,cs)
 | (off,n,x)::r,cs=>Yd n off (val σ x) cs (IH σ r)
def Wf : Option (Prop × List AV)→PV
 | some (p,cs)=>some (p,.agg cs)
 | none=>none
def RM (off : Nat) : Option Nat→Option AV→PV
 | none,some (.agg cs)=>some (off<cs.length,cs.getD off nv)
 | some n,some (.agg cs)=>some (off+n≤cs.length,.agg ((cs.drop off).take n))
 | _,_=>none
def XM (i : Nat) : Option AV→PV
 | some (.CQ vs)=>some (i<vs.length,vs.getD i nv)
 | _=>none
def Pq (sz : Nat) (es : List AV) (a b : Int) : PV:=some ((0≤a∧a≤b∧b≤es.length)∧Cc sz es,.sl ((es.take b.toNat).drop a.toNat))
def Na (sz : Nat) (es : List AV) (a : Int) : Option (Option AV)→PV
 | none=>Pq sz es a es.length
 | some (some (.int _ b))=>Pq sz es a b
 | _=>none
def Lg (sz : Nat) : Option AV→Option (Option AV)→Option (Option AV)→PV
 | some (.sl es),none,hi=>Na sz es 0 hi
 | some (.sl es),some (some (.int _ a)),hi=>Na sz es a hi
 | _,_,_=>none
def Yt : Option AV→Option (Option AV)→Option (Option AV)→PV
 | some (.str l),some (some (.int _ a)),none=>some (0≤a∧a≤l.length,.str (l.drop a.toNat))
 | _,_,_=>none
def JH (sz : Nat) (x : Option AV) (lo hi : Option (Option AV)) : PV:=if sz=0 then Yt x lo hi else Lg sz x lo hi
def ZC (f : Fn) : Option (List AV)→PV
 | some ca=>some (True,.fn f ca)
 | none=>none
def ZA (t : TypeId) : Option AV→PV
 | some v=>some (True,.R4 t v)
 | none=>none
def Y1 (sz : Nat) : Option (List AV)→PV
 | some as=>some (Cc sz as∧as.length≤AN,.sl as)
 | none=>none
def Zb (n : Nat) : Option AV→PV
 | some a=>some (a.cells.length=n∧∀ c,c∈a.cells→c.one=true,.ptr a.cells)
 | none=>none
def bC (TU : Bool) : Option AV→Option AV→PV
 | some (.int k1 a),some (.int k2 b)=>some (k1=k2,.int k1 (if TU then (if b > a then b else a) else (if b<a then b else a)))
 | _,_=>none
def AV.byte : AV→UInt8
 | .int _ n=>UInt8.ofNat n.toNat
 | _=>0
def AV.isByte : AV→Bool
 | .int .u8 _=>true
 | _=>false
def QB : Option AV→PV
 | some (.sl es)=>some (∀ e,e∈es→e.isByte=true,.str (es.map AV.byte))
 | some .A0=>some (True,.str [])
 | _=>none
def wB : List AV→List AV→Bool
 | .int _ a::r,.int _ b::s=>decide (a=b) && wB r s
 | _,_=>true
def aE (neg : Bool) (n : Nat) : Option AV→Option AV→PV
 | some (.agg as),some (.agg bs)=>some (∃ k1 k2 a1 a2 b1 b2,as=[.int k1 a1,.int k2 a2]∧bs=[.int k1 b1,.int k2 b2],.bool (neg ^^ wB as bs))
 | _,_=>none
def JZ (σ : Env) : Jt→PV
 | .mv x=>Tz (val σ x)
 | .pick c a b=>M3 (val σ c) (val σ a) (val σ b)
 | .ar op k x y=>Gc op k (val σ x) (val σ y)
 | .bq neg x y=>cD neg (val σ x) (val σ y)
 | .nq neg x=>cC neg (val σ x)
 | .nt x=>nZ (val σ x)
 | .conv k x=>PQ k (val σ x)
 | .len x=>Ds (val σ x)
 | .XP x=>T3 (val σ x)
 | .idx sz x i=>Gn sz (val σ x) (val σ i)
 | .oN off n x=>SJ off n (val σ x)
 | .u6 n x=>Wb n (val σ x)
 | .pH x=>U8 (val σ x)
 | .pJ zero parts=>Wf (IH σ parts zero)
 | .oW off n x=>RM off n (val σ x)
 | .ext x i=>XM i (val σ x)
 | .p8 sz x lo hi=>JH sz (val σ x) (lo.map (val σ)) (hi.map (val σ))
 | .o7 f ca=>ZC f (Cj σ ca)
 | .kW t x=>ZA t (val σ x)
 | .XT sz xs=>Y1 sz (Cj σ xs)
 | .emp=>some (True,.Dg)
 | .Xa n x=>Zb n (val σ x)
 | .mx TU x y=>bC TU (val σ x) (val σ y)
 | .pB x=>QB (val σ x)
 | .aq neg n x y=>aE neg n (val σ x) (val σ y)
 | _=>none
abbrev Ak:=AV→AA→Prop
def pW : PV→Ak→AA→Prop
 | some (p,r),K,H=>p∧K r H
 | none,_,_=>False
def Jd : Option AG→Option Nat→Nat→Ak→AA→Prop
 | some (.cells _ cs _),none,off,K,H=>off<cs.length∧K (cs.getD off nv) H
 | some (.cells _ cs _),some n,off,K,H=>off+n≤cs.length∧K (.agg ((cs.drop off).take n)) H
 | _,_,_,_,_=>False
def Tu : Option Nat→Option AV→Ak→AA→Prop
 | n,some (.ref id off),K,H=>Jd (H.get id) n off K H
 | n,x,K,H=>pW (Wb n x) K H
def Wj (z : Nat) (n : Option Nat) : Option AV→Ak→AA→Prop
 | some (.ref id off),K,H=>(∃ cs f,H.get id=some (.cells z cs f))∧Jd (H.get id) n off K H
 | _,_,_=>False
def AA.N9 (z : Nat) (H H' : AA) : Prop:=∀ i cs f,H.get i=some (.cells z cs f)→H'.get i=some (.cells z cs f)
def Ka : Option AG→Nat→Nat→Nat→List AV→Ak→AA→Prop
 | some (.cells sz cs f),id,off,n,vs,K,H =>
  (f≤off∧off+n≤cs.length∧vs.length=n∧∀ c,c∈vs→c.one=true)∧K nv (H.set id (.cells sz (wr cs off vs) f))
 | _,_,_,_,_,_,_=>False
def kL (n : Nat) : Option AV→Option AV→Ak→AA→Prop
 | some (.ref id off),some v,K,H=>Ka (H.get id) id off n v.cells K H
 | _,_,_,_=>False
def DX (n sz : Nat) (cs : List AV) (K : Ak) (H : AA) : Prop:=∀ id,H.get id=none→K (.buf id n) (H.set id (.cells sz cs 0))
def G5 (sz : Nat) (cs : List AV) (K : Ak) (H : AA) : Prop:=∀ id,H.get id=none→K (.ref id 0) (H.set id (.cells sz cs 0))
def Ur (K : Ak) (H : AA) : Prop:=∀ id,H.get id=none→K (.Fa id) (H.set id (.map [] []))
def P3 (sz : Nat) : Option (List AV)→Ak→AA→Prop
 | some as,K,H=>(Cc sz as∧as.length≤AN)∧DX as.length sz (flat as) K H
 | none,_,_=>False
def SN (n : Nat) : Option AV→Ak→AA→Prop
 | some a,K,H=>(a.cells.length=n∧n≤AN)∧G5 n a.cells K H
 | none,_,_=>False
def Tq (sz n : Nat) : Option AG→Option (Prop × Nat × List AV)
 | some (.cells sz' cs _)=>some ((sz'=sz∧cs.length=n*sz∧0<n)∧∀ c,c∈cs→c.one=true,n,cs)
 | _=>none
def C5 (sz : Nat) : Option AV→AA→Option (Prop × Nat × List AV)
 | some (.sl es),_=>some (Cc sz es,es.length,flat es)
 | some .A0,_=>some (True,0,[])
 | some (.buf id n),H=>Tq sz n (H.get id)
 | _,_=>none
def Fh (sz : Nat) : Option AG→Nat→Nat→Option (Prop × Nat × List AV)→Ak→AA→Prop
 | some (.cells sz' cs f),id,n,some (p,m,new),K,H=>(sz'=sz∧cs.length=n*sz∧n+m≤AN∧(n+m)*sz≤AN∧p) ∧
   ∀ Bz,H.get Bz=none→K (.buf Bz (n+m)) ((H.del id).set Bz (.cells sz (cs++new) f))
 | _,_,_,_,_,_=>False
def RN (sz : Nat) : Option (Prop × Nat × List AV)→Ak→AA→Prop
 | some (p,m,new),K,H=>(m≤AN∧m*sz≤AN∧p)∧DX m sz new K H
 | none,_,_=>False
def YU (sz : Nat) : Option (Prop × Nat × List AV)→Ak→AA→Prop
 | some (p,m,new),K,H=>(0<m∧m≤AN∧m*sz≤AN∧p)∧DX m sz new K H
 | none,_,_=>False
def MS (sz : Nat) : Option AG→Nat→Option (Prop × Nat × List AV)→Ak→AA→Prop
 | some (.cells sz' cs _),n,some (p,m,new),K,H=>(sz'=sz∧cs.length=n*sz∧0<m∧n+m≤AN∧(n+m)*sz≤AN∧p) ∧
   ∀ Bz,H.get Bz=none→K (.buf Bz (n+m)) (H.set Bz (.cells sz (cs++new) 0))
 | _,_,_,_,_=>False
def Co (sz : Nat) : Option AV→Option AV→Ak→AA→Prop
 | some (.buf id n),x,K,H=>Fh sz (H.get id) id n (C5 sz x H) K H
 | some .A0,x,K,H=>RN sz (C5 sz x H) K H
 | some .Dg,x,K,H=>YU sz (C5 sz x H) K H
 | some (.Nj id n),x,K,H=>MS sz (H.get id) n (C5 sz x H) K H
 | _,_,_,_=>False
def Q7 (sz : Nat) (zero : List AV) : Option AV→Option AV→Ak→AA→Prop
 | some (.int _ l),some (.int _ c),K,H=>(0≤l∧l≤c∧c.toNat≤AN∧l.toNat*sz≤AN)∧DX l.toNat sz (rep l.toNat zero) K H
 | _,_,_,_=>False
def AV.QH : AV→AV→Bool
 | .int _ a,.int _ b=>decide (a=b)
 | .str a,.str b=>decide (a=b)
 | .agg [.int _ a,.int _ b],.agg [.int _ c,.int _ d]=>decide (a=c) && decide (b=d)
 | _,_=>false
def AV.BU (s : Nat) : AV→AV→Bool
 | .int k _,.int k' _=>s == 0 && decide (k=k')
 | .str _,.str _=>s == 1
 | .agg [.int k _,.int l _],.agg [.int k' _,.int l' _]=>s == 2 && (decide (k=k') && decide (l=l'))
 | _,_=>false
def KH (s : Nat) (k : AV) (ks : List AV) : Prop:=k.BU s k=true∧∀ a,a∈ks→k.BU s a=true
def Hw (k : AV) : List AV→List AV→Option AV
 | a::ks,v::vs=>if k.QH a then some v else Hw k ks vs
 | _,_=>none
def HT (k x : AV) : List AV→List AV→List AV × List AV
 | a::ks,v::vs=>if k.QH a then (k::ks,x::vs) else ((a::(HT k x ks vs).1),(v::(HT k x ks vs).2))
 | _,_=>([k],[x])
def eJ (ok : Bool) (zero : AV) (r : Option AV) : AV :=
 if ok then .CQ [r.getD zero,.bool r.isSome] else r.getD zero
def mJ (s : Nat) (ok : Bool) (zero : AV) : Option AG→AV→Ak→AA→Prop
 | some (.map ks vs),k,K,H=>KH s k ks∧K (eJ ok zero (Hw k ks vs)) H
 | _,_,_,_=>False
def VA (s : Nat) (ok : Bool) (zero : AV) : Option AV→Option AV→Ak→AA→Prop
 | some (.CS ks vs),some k,K,H=>KH s k ks∧K (eJ ok zero (Hw k ks vs)) H
 | some (.Fa id),some k,K,H=>mJ s ok zero (H.get id) k K H
 | _,_,_,_=>False
def nC (s : Nat) : Option AG→Nat→AV→AV→Ak→AA→Prop
 | some (.map ks vs),id,k,x,K,H=>KH s k ks∧K nv (H.set id (.map (HT k x ks vs).1 (HT k x ks vs).2))
 | _,_,_,_,_,_=>False
def bW (s : Nat) : Option AV→Option AV→Option AV→Ak→AA→Prop
 | some (.Fa id),some k,some x,K,H=>nC s (H.get id) id k x K H
 | _,_,_,_,_=>False
def vh : Option AG→Ak→AA→Prop
 | some (.map ks _),K,H=>K (.int .i64 ks.length) H
 | _,_,_=>False
def n8 : Option AV→Ak→AA→Prop
 | some (.Fa id),K,H=>vh (H.get id) K H
 | _,_,_=>False
def Iu (sz id n : Nat) : Option (Option AV)→Option (Option AV)→PV
 | some (some (.int _ a)),none=>some (0≤a∧a.toNat<n,.sub id (a.toNat*sz) (n - a.toNat))
 | none,some (some (.int _ b))=>some (0≤b∧b.toNat≤n∧0<n,.buf id b.toNat)
 | _,_=>none
def cX (sz n : Nat) (r : PV) : Option AG→Ak→AA→Prop
 | some (.cells sz' cs _),K,H=>(sz'=sz∧cs.length=n*sz)∧pW r K H
 | _,_,_=>False
def UW (sz : Nat) : Option AV→Option (Option AV)→Option (Option AV)→Ak→AA→Prop
 | some (.buf id n),lo,hi,K,H=>cX sz n (Iu sz id n lo hi) (H.get id) K H
 | _,_,_,_,_=>False
def jK (id n : Nat) (a b : Int) : PV:=some (a=n∧b=n,if n=0 then .Dg else .Nj id n)
def YF (sz : Nat) : Option AV→Option AV→Option AV→Ak→AA→Prop
 | some (.buf id n),some (.int _ a),some (.int _ b),K,H=>cX sz n (jK id n a b) (H.get id) K H
 | _,_,_,_,_=>False
def Uk : Option AV→Option AV→Ak→AA→Prop
 | some (.buf id n),some (.sl es),K,H=>(0<n∧es.length=n)∧Ka (H.get id) id 0 n es (fun _ H'=>K (.int .i64 n) H') H
 | _,_,_,_=>False
def Wg (zero : List AV) : Option AV→Ak→AA→Prop
 | some (.sub id off n),K,H=>0<n∧Ka (H.get id) id off (n*zero.length) (rep n zero) K H
 | _,_,_=>False
def Cz (g : Gh) (B : Nat) (w : World) (K : Ak) (v : Value) (w' : World) : Prop :=
 ∃ g' r H',g.le g'∧K r H'∧Aa g' r v∧Ao g' B H' w'∧Below B w w'
def Z5 (P : Program) (f : FuncId) : Prop := ∃ fn, P.funcs[f]? = some fn ∧ fn.body.isNone = false ∧ (fn.name == "runtime.NumGoroutine") = false
def B9 (P : Program) (B : Nat) (f : FuncId) (args : List AV) (H : AA) (K : Ak) : Prop :=
 Z5 P f∧∀ g w vs,Ao g B H w→HD g args vs→Calls P f vs w fun e w'=>∃ v,e=.returned v∧Cz g B w K v w'
def HG (P : Program) (B : Nat) (f : FuncId) (args : List AV) (r : AV) : Prop :=
 ∀ H,B9 P B f args H fun r' H'=>r'=r∧H'=H
theorem Cz.mono {g : Gh} {B : Nat} {w : World} {K K' : Ak} {v : Value} {w' : World} (h : Cz g B w K v w') (hk : ∀ r H,K r H→K' r H) : Cz g B w K' v w':=by
 obtain ⟨g',r,H',a,b,c⟩:=h;exact ⟨g',r,H',a,hk _ _ b,c⟩
theorem B9.mono {P : Program} {B : Nat} {f : FuncId} {args : List AV} {H : AA} {K K' : Ak} (h : B9 P B f args H K) (hk : ∀ r H,K r H→K' r H) : B9 P B f args H K' :=
 ⟨h.1,fun g w vs hw hv=>(h.2 g w vs hw hv).mono fun _ _ ⟨v,e,hf⟩=>⟨v,e,hf.mono hk⟩⟩
theorem HG.use {P : Program} {B : Nat} {f : FuncId} {args : List AV} {r : AV} {H : AA} {K : Ak} (h : HG P B f args r) (hk : K r H) : B9 P B f args H K :=
 (h H).mono fun _ _ ⟨a,b⟩=>by subst a; subst b; exact hk
def Jq (P : Program) (B : Nat) : Option AV→Option (List AV)→Ak→AA→Prop
 | some (.fn (.func f) ca),some as,K,H=>B9 P B f (as++ca) H K
 | _,_,_,_=>False
def QK (P : Program) (B : Nat) : Option AV→Option (List AV)→AV→Prop
 | some (.fn (.func f) ca),some as,r=>HG P B f (as++ca) r
 | _,_,_=>False
def wV (P : Program) (t : TypeId) (name : String) (f : FuncId) : Prop :=
 ∀ v w,(method (P.types.size+Made.depth) t v name).run P w=.ok (f,v) w
def jX (P : Program) (B : Nat) (name : String) : Option AV→Option (List AV)→Ak→AA→Prop
 | some (.R4 t v),some as,K,H=>∃ f,wV P t name f∧B9 P B f (v::as) H K
 | _,_,_,_=>False
def ZY (neg : Bool) : Option AV→Ak→AA→Prop
 | some .A0,K,H=>K (.bool (!neg)) H
 | some (.sl es),K,H=>(es=[]→∀ b,K (.bool b) H)∧(es≠[]→K (.bool neg) H)
 | _,_,_=>False
def uU (P : Program) (t asserted : TypeId) : Prop :=
 ∀ (v : Value) (xT : TypeId) (w : World),(Instr.typeAssert (.iface t v) xT asserted true).run P w=.ok (.tuple #[.iface t v,.bool true]) w
def WT (P : Program) (asserted : TypeId) : Option AV→Ak→AA→Prop
 | some (.R4 t v),K,H=>uU P t asserted∧K (.CQ [.R4 t v,.bool true]) H
 | _,_,_=>False
def D6 (P : Program) (B : Nat) (K : Ak) (σ : Env) (H : AA) : Jt→Prop
 | .ld n x=>Tu n (val σ x) K H
 | .aR z n x=>Wj z n (val σ x) K H
 | .st n p v=>kL n (val σ p) (val σ v) K H
 | .QF sz xs=>P3 sz (Cj σ xs) K H
 | .R3 n x=>SN n (val σ x) K H
 | .gG zero=>zero.length≤AN∧G5 zero.length zero K H
 | .app sz _ s x=>Co sz (val σ s) (val σ x) K H
 | .dP sz zero l c=>Q7 sz zero (val σ l) (val σ c) K H
 | .pM=>Ur K H
 | .Xn s ok zero m k=>VA s ok zero (val σ m) (val σ k) K H
 | .aA s m k v=>bW s (val σ m) (val σ k) (val σ v) K H
 | .R9 x=>n8 (val σ x) K H
 | .dK sz x lo hi=>UW sz (val σ x) (lo.map (val σ)) (hi.map (val σ)) K H
 | .lK z x=>Wg z (val σ x) K H
 | .lD x y=>Uk (val σ x) (val σ y) K H
 | .oZ sz x a b=>YF sz (val σ x) (val σ a) (val σ b) K H
 | .call f xs=>Jq P B (val σ f) (Cj σ xs) K H
 | .KW f xs=>Jq P B (val σ f) (Cj σ xs) (fun r H'=>H.sub H'∧K r H') H
 | .KT y f xs=>Jq P B (val σ f) (Cj σ xs) (fun r H'=>(∀ z,z≠y→H.N9 z H')∧K r H') H
 | .M7 f xs=>∃ r,QK P B (val σ f) (Cj σ xs) r∧K r H
 | .inv x name xs=>jX P B name (val σ x) (Cj σ xs) K H
 | .aP neg x=>ZY neg (val σ x) K H
 | .kR t x=>WT P t (val σ x) K H
 | i=>pW (JZ σ i) K H
def CR (d : Option Nat) (F : Env→AA→Prop) (σ : Env) : Ak:=fun v H =>
 match d with
 | some d=>F (σ.put d v) H
 | none=>F σ H
def At (F : Env→AA→Prop) (σ : Env) (H : AA) : Prop:=F σ H
theorem At.mk {F : Env→AA→Prop} {σ : Env} {H : AA} (h : F σ H) : At F σ H:=h
def EB (P : Program) (B : Nat) (d : Option Nat) (i : Jt) (F : Env→AA→Prop) (σ : Env) (H : AA) : Prop:=D6 P B (CR d F σ) σ H i
def aF (o : Option AV) (b : Bool) (A C : Env→AA→Prop) (σ : Env) (H : AA) : Prop :=
 match o with
 | some (.bool c)=>(c=b→At A σ H)∧(c=(!b)→At C σ H)
 | some (.CQ _)=>At C σ H
 | _=>False
def Uq (b : Bool) (q : AV) : Prop:=q=.bool (!b)∨∃ cs,q=.CQ cs
def Ge : Option Nat→Env→Env
 | some d,σ=>σ.put d nv
 | none,σ=>σ
def wG (d : Option Nat) (F : Env→AA→Prop) (σ : Env) (H : AA) : Prop:=F (Ge d σ) H
def Bm (P : Program) (B : Nat) : List Cq→(Env→AA→Prop)→Env→AA→Prop
 | [],K,σ,H=>K σ H
 | ⟨d,none,i⟩::r,K,σ,H=>EB P B d i (Bm P B r K) σ H
 | ⟨d,some (t,b),i⟩::r,K,σ,H=>aF (σ.get t) b (EB P B d i (Bm P B r K)) (wG d (Bm P B r K)) σ H
end Go.AW
namespace Go.AW
open Go.RowKit
def Ks : Value→Option AV
 | .bool b=>some (.bool b)
 | .int k n=>some (.int k n)
 | .string s=>some (.str s.data.toList)
 | .pointer none=>some .Ix
 | .slice none 0 0=>some .A0
 | .map none=>some (.CS [] [])
 | .nilFunc=>some .Lz
 | .nilIface=>some .Qz
 | _=>none
def consts : List Value→Option (List AV)
 | []=>some []
 | v::r=>LK (Ks v) (consts r)
def Tm : Value→Option AV
 | .agg cs=>(consts cs.toList).map AV.agg
 | v=>Ks v
def cx : Operand→Option X
 | .tmp t=>some (.t t)
 | .const v=>(Tm v).map X.c
 | .func f=>some (.c (.fn (.func f) []))
 | .global _=>none
def Vw : Option X→Option (List X)→Option (List X)
 | some a,some r=>some (a::r)
 | _,_=>none
def c9 : List Operand→Option (List X)
 | []=>some []
 | x::r=>Vw (cx x) (c9 r)
def sQ : Option Operand→Option (Option X)
 | none=>some none
 | some x=>(cx x).map some
def Fy (P : Program) (t : TypeId) : Option (Option Nat) :=
 match P.underlying t,P.info? t with
 | some (.struct _),some i=>some (some i.size)
 | some (.array _ _),some i=>some (some i.size)
 | some _,some i=>if i.size=1 then some none else none
 | _,_=>none
def fieldsOf (P : Program) (t : TypeId) : Option (Array Field) :=
 match P.underlying t with
 | some (.struct fs)=>some fs
 | _=>none
def Ei (P : Program) (t : TypeId) (i : Nat) : Option (Nat × Nat × Option Nat) :=
 match fieldsOf P t with
 | some fs=>match fs[i]? with
  | some f=>match P.info? f.type,Fy P f.type with
   | some j,some a=>if j.size=0 then none else some (f.offset,j.size,a)
   | _,_=>none
  | none=>none
 | none=>none
def BI (P : Program) (t : TypeId) : Option (TypeId × TypeInfo) :=
 match P.underlying t with
 | some (.slice e)=>match P.info? e with
  | some i=>if i.size=0 then none else some (e,i)
  | none=>none
 | _=>none
def Yf (P : Program) (t : TypeId) : Option IntKind :=
 match P.underlying t with
 | some (.int k)=>some k
 | _=>none
def Be (P : Program) (t : TypeId) : Option (List AV) :=
 match P.info? t with
 | some i=>match i.zero with
  | some z=>match consts z.cells.toList with
   | some zs=>if zs.length=i.size then some zs else none
   | none=>none
  | none=>none
 | none=>none
def zeroOf (P : Program) (t : TypeId) : Option AV :=
 match P.info? t with
 | some i=>match i.zero with
  | some z=>Ks z
  | none=>none
 | none=>none
def partsOf (P : Program) (t : TypeId) : List (Nat × Operand)→Option (List (Nat × Nat × X))
 | []=>some []
 | (i,x)::r=>match Ei P t i,cx x,partsOf P t r with
  | some (off,n,_),some x,some r=>some ((off,n,x)::r)
  | _,_,_=>none
def Ef : Nat→List (Nat × Operand)→Option (List X)
 | _,[]=>some []
 | k,(i,x)::r=>if i=k then Vw (cx x) (Ef (k+1) r) else none
def N5 : Operand→Bool
 | .const (.slice none 0 0)=>true
 | _=>false
def Mp : Operand→Bool
 | .const (.pointer none)=>true
 | _=>false
def EC (P : Program) : Nat→List Field→Bool
 | _,[]=>true
 | o, f :: r => f.offset == o && (match P.underlying f.type with | some (.int _) => true | _ => false) && ((P.info? f.type).map (·.size) == some 1) && f.name != "_" && EC P (o + 1) r
def NM (P : Program) (t : TypeId) (fs : Array Field) : Bool:=EC P 0 fs.toList && !P.stoodInHeld t && fs.size == 2
def jF : BinOp→Bool
 | .add | .sub | .mul | .quo | .rem | .eql | .neq | .lss | .leq | .gtr | .geq | .and | .shr=>true
 | _=>false
def Ex (P : Program) (h : Nat) : Op→Option Jt
 | .move x | .assign x=>(cx x).map .mv
 | .pick c a b=>match cx c,cx a,cx b with
  | some c,some a,some b=>some (.pick c a b)
  | _,_,_=>none
 | .alloc t=>(Be P t).map .gG
 | .box t x=>match Fy P t,P.info? t,cx x with
  | some _,some i,some x=>if h=1 then some (.R3 i.size x) else some (.Xa i.size x)
  | _,_,_=>none
 | .build t parts=>match Be P t,fieldsOf P t,partsOf P t parts.toList with
  | some z,some fs,some ps=>if fs.all (fun f=>(P.info? f.type).isSome) then some (.pJ z ps) else none
  | _,_,_=>none
 | .buildSlice t n parts=>match BI P t,Ef 0 parts.toList,Be P ((P.underlying t).elim 0 fun | .slice e=>e | _=>0) with
  | some (_,i),some xs,some _=>if xs.length=n∧n*i.size≤16777216 then (if h=2∧n=0 then some .emp else if h=1 then some (.XT i.size xs) else some (.QF i.size xs)) else none
  | _,_,_=>none
 | .load t x=>match Fy P t,cx x with
  | some n,some x=>if h=1 then some (.u6 n x) else if 10≤h then some (.aR (h - 10) n x) else some (.ld n x)
  | _,_=>none
 | .store t p v=>match P.info? t,cx p,cx v with
  | some i,some p,some v=>some (.st i.size p v)
  | _,_,_=>none
 | .nilCheck x=>(cx x).map .pH
 | .binOp op t x y _=>match P.underlying t with
  | some (.int k)=>match cx x,cx y with
   | some x,some y=>if jF op then some (.ar op k x y) else none
   | _,_=>none
  | some .bool=>match op,cx x,cx y with
   | .eql,some x,some y=>some (.bq false x y)
   | .neq,some x,some y=>some (.bq true x y)
   | _,_,_=>none
  | some .string=>match cx x,cx y with
   | some x,some y=>some (.ar op .i64 x y)
   | _,_=>none
  | some (.pointer _)=>match op,cx x,Mp y with
   | .eql,some x,true=>some (.nq false x)
   | .neq,some x,true=>some (.nq true x)
   | _,_,_=>none
  | some (.slice _)=>match op,cx x,N5 y with
   | .eql,some x,true=>some (.aP false x)
   | .neq,some x,true=>some (.aP true x)
   | _,_,_=>none
  | some (.struct fs)=>match op,cx x,cx y with
   | .eql,some x,some y=>if EC P 0 fs.toList && !P.stoodInHeld t && !P.eqGuardType P.depth t && fs.size == 2 then some (.aq false fs.size x y) else none
   | .neq,some x,some y=>if EC P 0 fs.toList && !P.stoodInHeld t && !P.eqGuardType P.depth t && fs.size == 2 then some (.aq true fs.size x y) else none
   | _,_,_=>none
  | _=>none
 | .unOp .not _ x=>(cx x).map .nt
 | .convert s d x=>match P.underlying s,P.underlying d with
  | some (.int _),some (.int k)=>(cx x).map (.conv k)
  | some (.slice e),some .string=>if Yf P e=some .u8 then (cx x).map .pB else none
  | _,_=>none
 | .makeInterface t x=>match P.underlying t with
  | some (.interface _)=>none
  | some _=>(cx x).map (.kW t)
  | none=>none
 | .typeAssert x _ asserted true=>(cx x).map (.kR asserted)
 | .makeFunc f first ca=>if first.size=0 then (c9 ca.toList).map (.o7 f) else none
 | .makeMap t r=>match P.underlying t,r with
  | some (.map _ _),none=>some .pM
  | _,_=>none
 | .makeSlice t l c=>match BI P t,cx l,cx c,Be P ((P.underlying t).elim 0 fun | .slice e=>e | _=>0) with
  | some (_,i),some l,some c,some z=>if i.bytes≤256 then some (.dP i.size z l c) else none
  | _,_,_,_=>none
 | .fieldAddr t x f=>match Ei P t f,cx x with
  | some (off,n,_),some x=>some (.oN off n x)
  | _,_=>none
 | .field t x f=>match Ei P t f,cx x with
  | some (off,_,a),some x=>some (.oW off a x)
  | _,_=>none
 | .indexAddr t x i=>match BI P t,cx x,cx i with
  | some (_,j),some x,some i=>some (.idx j.size x i)
  | _,_,_=>none
 | .lookup t m k ok=>match P.underlying t,cx m,cx k with
  | some (.map kt et),some m,some k=>match P.underlying kt,zeroOf P et with
   | some (.int _),some z=>some (.Xn 0 ok z m k)
   | some .string,some z=>some (.Xn 1 ok z m k)
   | some (.struct fs),some z=>if NM P kt fs then some (.Xn 2 ok z m k) else none
   | _,_=>none
  | _,_,_=>none
 | .mapUpdate t m k v=>match P.underlying t,cx m,cx k,cx v with
  | some (.map kt _),some m,some k,some v=>match P.underlying kt with
   | some (.int _)=>some (.aA 0 m k v)
   | some .string=>some (.aA 1 m k v)
   | some (.struct fs)=>if NM P kt fs then some (.aA 2 m k v) else none
   | _=>none
  | _,_,_,_=>none
 | .extract x i=>(cx x).map (.ext · i)
 | .slice t x lo hi none=>match BI P t,cx x,sQ lo,sQ hi with
  | some (_,ti),some x,some lo,some hi=>if h=1 then some (.dK ti.size x lo hi) else some (.p8 ti.size x lo hi)
  | none,some x,some lo,some hi=>match P.underlying t with
   | some .string=>some (.p8 0 x lo hi)
   | _=>none
  | _,_,_,_=>none
 | .slice t x none (some hi) (some mx)=>match BI P t,cx x,cx hi,cx mx with
  | some (_,ti),some x,some hi,some mx=>some (.oZ ti.size x hi mx)
  | _,_,_,_=>none
 | .call c=>match c.callee with
  | .builtin .len=>match c.args.toList,c.argTypes.toList with
   | [x],[t]=>match P.underlying t with
    | some (.slice _)=>(cx x).map .len
    | some .string=>(cx x).map .XP
    | some (.map _ _)=>(cx x).map .R9
    | _=>none
   | _,_=>none
  | .builtin .clear=>match c.args.toList,c.argTypes.toList with
   | [x],[t]=>match BI P t with
    | some e=>match cx x,Be P e.1 with
     | some x,some z=>some (.lK z x)
     | _,_=>none
    | none=>none
   | _,_=>none
  | .builtin .copy=>match c.args.toList,c.argTypes.toList with
   | [x,y],[t,_]=>match BI P t,cx x,cx y with
    | some (_,i),some x,some y=>if i.size=1 then some (.lD x y) else none
    | _,_,_=>none
   | _,_=>none
  | .builtin .append=>match c.args.toList,c.argTypes.toList with
   | [s,x],[t,t']=>match BI P t,cx s,cx x,Be P ((P.underlying t).elim 0 fun | .slice e=>e | _=>0) with
    | some (_,i),some s,some x,some _=>if t=t'∧i.bytes≤128*i.size then some (.app i.size i.bytes s x) else none
    | _,_,_,_=>none
   | _,_=>none
  | .builtin .max=>match c.args.toList with
   | [x,y]=>match cx x,cx y with
    | some x,some y=>some (.mx true x y)
    | _,_=>none
   | _=>none
  | .builtin .min=>match c.args.toList with
   | [x,y]=>match cx x,cx y with
    | some x,some y=>some (.mx false x y)
    | _,_=>none
   | _=>none
  | .value f=>match cx f,c9 c.args.toList with
   | some f,some xs=>if h=1 then some (.M7 f xs) else if h=2 then some (.KW f xs) else if 10≤h then some (.KT (h - 10) f xs) else some (.call f xs)
   | _,_=>none
  | .invoke x name=>match cx x,c9 c.args.toList with
   | some x,some xs=>some (.inv x name xs)
   | _,_=>none
  | _=>none
 | _=>none
def EH (ops : Array Oper) : Option (Nat × Bool)→Option (Option (Nat × Bool))
 | none=>some none
 | some (j,b)=>match (ops[j]?).bind (·.dst) with
  | some t=>some (some (t,b))
  | none=>none
def isUnit : Jt→Bool
 | .st .. | .aA ..=>true
 | _=>false
def PU (N : Nat) (i : Jt) : Option Nat→Bool
 | some d=>decide (d<N) && !isUnit i
 | none=>true
def EM (P : Program) (N : Nat) (ops : Array Oper) (h : Nat) (o : Oper) : Option Cq :=
 match Ex P h o.op,EH ops o.guard with
 | some i,some g=>if PU N i o.dst then some ⟨o.dst,g,i⟩ else none
 | _,_=>none
end Go.AW
namespace Go.AW
open Go.RowKit
theorem BN {α} (a b : List α) (i : Nat) (d : α) : (a++b).getD i d=if i<a.length then a.getD i d else b.getD (i - a.length) d:=by
 simp only [gE,List.getElem?_append]
 split <;> rfl
theorem JE {g : Gh} {v : Value} {a : AV} (h : Ks v=some a) : Aa g a v:=by
 unfold Ks at h
 split at h <;> first | (cases h; done) | skip
 all_goals (cases h)
 ·exact .bool _
 ·exact .int _ _
 ·rename_i s
  obtain ⟨⟨l⟩⟩:=s;exact .str l
 ·exact .Ix
 ·exact .A0
 ·exact .KS
 ·exact .Lz
 ·exact .Qz
theorem F9 {a : Option AV} {r : Option (List AV)} {l : List AV} (h : LK a r=some l) : ∃ x s,a=some x∧r=some s∧l=x::s:=by
 cases a <;> cases r <;> simp [LK] at h
 exact ⟨_,_,rfl,rfl,h.symm⟩
theorem MT {a : Option X} {r : Option (List X)} {l : List X} (h : Vw a r=some l) : ∃ x s,a=some x∧r=some s∧l=x::s:=by
 cases a <;> cases r <;> simp [Vw] at h
 exact ⟨_,_,rfl,rfl,h.symm⟩
theorem Gx {g : Gh} : ∀ {vs : List Value} {as : List AV},consts vs=some as→as.length=vs.length∧∀ i,i<as.length→Aa g (as.getD i nv) (vs.getD i undef)
 | [],as,h=>by cases h; simp
 | v::r,as,h=>by
  obtain ⟨x,s,h1,h2,rfl⟩:=F9 h
  obtain ⟨hl,hr⟩:=Gx (g:=g) h2;refine ⟨by simp [hl],fun i hi=>?_⟩
  cases i with
  | zero=>exact JE h1
  | succ i=>simpa using hr i (by simpa using hi)
theorem UZ {g : Gh} {v : Value} {a : AV} (h : Tm v=some a) : Aa g a v:=by
 unfold Tm at h
 split at h
 ·rename_i cs
  cases e : consts cs.toList with
  | none=>simp [e] at h
  | some as =>
   simp [e] at h; subst h
   obtain ⟨hl,hr⟩:=Gx (g:=g) e;exact .agg as cs (by simpa using hl.symm) (fun i hi=>by simpa using hr i hi)
 ·exact JE h
section
variable {g : Gh} {σ : Env} {a : Act}
theorem Al {x : Operand} {x' : X} {v : AV} (hE : Cr g σ a.tmps) (hx : cx x=some x') (hv : val σ x'=some v) : Aa g v (a.eval x):=by
 cases x with
 | tmp t=>simp [cx] at hx; subst hx; exact (hE t v hv).2
 | const c =>
  simp [cx] at hx
  obtain ⟨av,h1,rfl⟩:=hx
  simp [val] at hv; subst hv;exact UZ h1
 | func f=>simp [cx] at hx; subst hx; simp [val] at hv; subst hv; exact .fn _ [] #[] rfl (fun i hi=>by simp at hi)
 | global _=>simp [cx] at hx
theorem Re (hE : Cr g σ a.tmps) : ∀ {xs : List Operand} {xs' : List X} {vs : List AV},c9 xs=some xs'→Cj σ xs'=some vs →
  vs.length=xs.length∧∀ i,i<vs.length→Aa g (vs.getD i nv) ((xs.map a.eval).getD i undef)
 | [],xs',vs,h,hv=>by cases h; cases hv; simp
 | x::r,xs',vs,h,hv=>by
  obtain ⟨x',s,h1,h2,rfl⟩:=MT h
  obtain ⟨v,vs',h3,h4,rfl⟩:=F9 hv
  obtain ⟨hl,hr⟩:=Re hE h2 h4;refine ⟨by simp [hl],fun i hi=>?_⟩
  cases i with
  | zero=>exact Al hE h1 h3
  | succ i=>simpa using hr i (by simpa using hi)
theorem Kn (hE : Cr g σ a.tmps) {xs : List Operand} {xs' : List X} {vs : List AV} (h : c9 xs=some xs') (hv : Cj σ xs'=some vs) :
  HD g vs (xs.map a.eval).toArray:=by
 obtain ⟨h1,h2⟩:=Re hE h hv;exact ⟨by simp [h1],fun i hi=>by simpa using h2 i hi⟩
end
section
variable {P : Program} {g : Gh} {B : Nat} {H : AA} {w : World}
theorem Ch {e : PV} {K : Ak} {H : AA} (h : pW e K H) : ∃ p r,e=some (p,r)∧p∧K r H:=by
 cases e with
 | none=>exact h.elim
 | some x=>exact ⟨x.1,x.2,rfl,h.1,h.2⟩
theorem Aa.one {a : AV} {v : Value} (h : Aa g a v) (ho : a.one=true) : v.oneCell'=true:=by
 cases h <;> first | rfl | (simp [AV.one] at ho)
theorem Aa.cells {a : AV} {v : Value} (h : Aa g a v) : v.cells.size=a.cells.length∧∀ i,i<a.cells.length→Aa g (a.cells.getD i nv) (v.cells.getD i undef):=by
 cases h with
 | agg cs vs hs hv=>exact ⟨hs,hv⟩
 | _=>refine ⟨rfl,fun i hi=>?_⟩ <;> (have h0 : i=0:=by simp [AV.cells] at hi; omega) <;> subst h0 <;> first
   | exact .bool _ | exact .int _ _ | exact .str _ | exact .Ix | exact .A0 | exact .Dg _ | exact .KS | exact .Lz | exact .Qz
   | (rename_i cs b o vs hf hv; exact .ptr cs b o vs hf hv) | (rename_i id off b cap h; exact .ref id off b cap h) | (rename_i cs id b cap vs h hf hv; exact .FX cs id b cap vs h hf hv)
   | (rename_i a cap; exact .slnil a cap) | (rename_i es b o sz cap vs hm OK CW hf hv; exact .sl es b o sz cap vs hm OK CW hf hv)
   | (rename_i id h; exact .CN id h) | (rename_i id n b cap h; exact .buf id n b cap h) | (rename_i id n b cap h; exact .Nj id n b cap h) | (rename_i id off n b cap c h; exact .sub id off n b cap c h) | (rename_i a n cap h; exact .TU a n cap h)
   | (rename_i ks vs b es h h1 h2 hk hv; exact .CS ks vs b es h h1 h2 hk hv) | (rename_i id b h; exact .Fa id b h)
   | (rename_i f ca vs hs hv; exact .fn f ca vs hs hv) | (rename_i t v w h; exact .R4 t v w h) | (rename_i cs vs hs hv; exact .CQ cs vs hs hv)
theorem WI {op : BinOp} {k : IntKind} {x y : Int} {p : Prop} {r : AV} (t : TypeId) (h : O6 op k x y=some (p,r)) (hp : p) :
  ∃ u,(binOp op t (.int k x) (.int k y)).run P w=.ok u w∧Aa g r u:=by
 cases op <;> simp only [O6,Option.some.injEq,Prod.mk.injEq,reduceCtorEq] at h
 all_goals (obtain ⟨rfl,rfl⟩:=h)
 case quo=>exact ⟨_,by simp [binOp,Op.intDiv,hp],.int _ _⟩
 case rem=>exact ⟨_,by simp [binOp,Op.intDiv,hp],.int _ _⟩
 case add=>exact ⟨_,by simp [binOp,Op.intArith],.int _ _⟩
 case sub=>exact ⟨_,by simp [binOp,Op.intArith],.int _ _⟩
 case mul=>exact ⟨_,by simp [binOp,Op.intArith],.int _ _⟩
 case eql=>exact ⟨.bool (x == y),by simp [binOp,Op.intCmp],by rw [show decide (x=y)=(x == y) by rw [Bool.eq_iff_iff]; simp]; exact .bool _⟩
 case neq=>exact ⟨.bool (x != y),by simp [binOp,Op.intCmp],by rw [show (!decide (x=y))=(x != y) by rw [Bool.eq_iff_iff]; simp]; exact .bool _⟩
 case lss=>exact ⟨_,by simp [binOp,Op.intCmp],.bool _⟩
 case leq=>exact ⟨_,by simp [binOp,Op.intCmp],.bool _⟩
 case gtr=>exact ⟨_,by simp [binOp,Op.intCmp],.bool _⟩
 case geq=>exact ⟨_,by simp [binOp,Op.intCmp],.bool _⟩
 case and=>exact ⟨_,by simp [binOp,Op.intBits],.int _ _⟩
 case shr=>exact ⟨_,by
  have : ¬ y<0:=by omega
  simp [binOp,Op.shift,this],.int _ _⟩
theorem bS {k k' : IntKind} {x y : Int} (t : TypeId) (hp : 0≤y) :
  (binOp .shr t (.int k x) (.int k' y)).run P w=.ok (.int k (x.fdiv (2 ^ min y.toNat k.bits))) w:=by
 have : ¬ y<0:=by omega
 simp [binOp,Op.shift,this]
theorem J8 {t : TypeId} {fs} (h : fieldsOf P t=some fs) : P.underlying t=some (.struct fs):=by
 unfold fieldsOf at h
 split at h <;> simp_all
theorem Gb {t : TypeId} {i off n : Nat} {a : Option Nat} (h : Ei P t i=some (off,n,a)) :
  ∃ fs f j,P.underlying t=some (.struct fs)∧fs[i]? = some f∧P.info? f.type=some j∧j.size=n∧n≠0∧f.offset=off∧Fy P f.type=some a:=by
 unfold Ei at h
 cases h1 : fieldsOf P t with
 | none=>simp [h1] at h
 | some fs =>
  cases h2 : fs[i]? with
  | none=>simp [h1,h2] at h
  | some f =>
   simp only [h1,h2] at h
   cases h3 : P.info? f.type with
   | none=>simp [h3] at h
   | some j =>
    cases h4 : Fy P f.type with
    | none=>simp [h3,h4] at h
    | some a' =>
     simp only [h3,h4] at h
     split at h
     ·cases h
     ·simp at h
      obtain ⟨h5,h6,h7⟩:=h;exact ⟨fs,f,j,J8 h1,h2,h3,h6,by omega,h5,by rw [h4,h7]⟩
theorem Bh {t : TypeId} {x : TypeId × TypeInfo} (h : BI P t=some x) : P.underlying t=some (.slice x.1)∧P.info? x.1=some x.2∧x.2.size≠0:=by
 unfold BI at h
 split at h
 ·rename_i e he
  split at h
  ·rename_i i hi
   split at h
   ·cases h
   ·cases h; exact ⟨he,hi,by assumption⟩
  ·cases h
 ·cases h
theorem Eh {t : TypeId} (h : Fy P t=some none) : (isAgg t).run P w=.ok false w:=by
 unfold Fy at h
 split at h
 ·cases h
 ·cases h
 ·rename_i d i h1 h2 h3 h4
  unfold isAgg;simp only [Sem.run_bind,run_underlying h3,Result.andThen_ok]
  rfl
 ·cases h
theorem IZ {t : TypeId} {n : Nat} (h : Fy P t=some (some n)) : (isAgg t).run P w=.ok true w∧∃ i,P.info? t=some i∧i.size=n:=by
 unfold Fy at h
 split at h
 ·rename_i fs i h1 h2
  simp at h;exact ⟨by simp [isAgg,run_underlying h1],i,h2,h⟩
 ·rename_i fs i h1 h2
  simp at h;exact ⟨by simp [isAgg,run_underlying h1],i,by assumption,h⟩
 ·split at h <;> cases h
 ·cases h
theorem O1 {t : TypeId} {i off n : Nat} {a : Option Nat} (h : Ei P t i=some (off,n,a)) {av : AV} {v : Value} (hv : Aa g av v) {p : Prop} {r : AV}
  (he : SJ off n (some av)=some (p,r)) (hp : p) : ∃ u,(Instr.fieldAt t v i).run P w=.ok u w∧Aa g r u:=by
 obtain ⟨fs,f,j,h1,h2,h3,h4,h5,h6,-⟩:=Gb h
 cases hv <;> simp only [SJ,Option.some.injEq,Prod.mk.injEq,reduceCtorEq] at he
 case ptr cs b o vs hf hv =>
  obtain ⟨rfl,rfl⟩:=he;refine ⟨.pointer (some ⟨b,o+off,none⟩), ?_, ?_⟩
  ·simp [Instr.fieldAt,run_underlying h1,h2,Instr.sureAddr,fieldPlace,sizeOf,typeInfo,h3,h4,h5,h6,Addr.add_lit]
  ·refine .ptr _ b (o+off) (fun k=>vs (off+k)) (fun k hk=>?_) (fun k hk=>?_)
   ·rw [Nat.add_assoc]; exact hf _ (by simp at hk; omega)
   ·have Lw : k<n:=by simp at hk; omega
    have : ((cs.drop off).take n).getD k nv=cs.getD (off+k) nv:=by simp [gE,Lw]
    rw [this]; exact hv _ (by simp at hk; omega)
 case ref id o b cap CA =>
  obtain ⟨rfl,rfl⟩:=he;exact ⟨.pointer (some ⟨b,o+off,none⟩),by simp [Instr.fieldAt,run_underlying h1,h2,Instr.sureAddr,fieldPlace,sizeOf,typeInfo,h3,h4,h5,h6,Addr.add_lit],.ref id _ b cap CA⟩
 case FX cs id b cap vs CA hf hv =>
  obtain ⟨rfl,rfl⟩:=he;refine ⟨.pointer (some ⟨b,0+off,none⟩),by simp [Instr.fieldAt,run_underlying h1,h2,Instr.sureAddr,fieldPlace,sizeOf,typeInfo,h3,h4,h5,h6,Addr.add_lit], ?_⟩;rw [Nat.zero_add]
  split
  ·refine .ptr _ b off (fun k=>vs (off+k)) (fun k hk=>hf _ (by simp at hk; omega)) (fun k hk=>?_)
   have Lw : k<n:=by simp at hk; omega
   have : ((cs.drop off).take n).getD k nv=cs.getD (off+k) nv:=by simp [gE,Lw]
   rw [this]; exact hv _ (by simp at hk; omega)
  ·exact .ref id off b cap CA
theorem O4 {t : TypeId} {x : TypeId × TypeInfo} (h : BI P t=some x) {av iv : AV} {v u : Value} (hv : Aa g av v) (hi : Aa g iv u) {p : Prop} {r : AV}
  (he : Gn x.2.size (some av) (some iv)=some (p,r)) (hp : p) : ∃ z,(Instr.indexAt t v u).run P w=.ok z w∧Aa g r z:=by
 obtain ⟨h1,h2,h3⟩:=Bh h
 cases hi <;> try (cases hv <;> simp [Gn] at he; done)
 rename_i k n
 cases hv <;> simp only [Gn,Option.some.injEq,Prod.mk.injEq,reduceCtorEq] at he
 case slnil a cap=>obtain ⟨rfl,rfl⟩:=he; simp at hp
 case CN id CA=>obtain ⟨rfl,rfl⟩:=he; simp at hp
 case sl es b o sz cap vs hm _ CW hf hv =>
  obtain ⟨rfl,rfl⟩:=he
  obtain ⟨p1,p2,p3⟩:=hp
  have hz : sz=x.2.size:=by rw [← p3]; exact (CW _ p2).symm
  subst hz
  have hn : n<(es.length : Int):=by omega
  refine ⟨.pointer (some ⟨b,o+n.toNat*x.2.size,none⟩), ?_, ?_⟩
  ·simp [Instr.indexAt,asIntOf,run_underlying h1,p1,hn,sizeOf,typeInfo,h2,Addr.add_lit]
  ·refine .ptr _ b _ (fun j=>vs (n.toNat*x.2.size+j)) (fun j hj=>?_) (fun j hj=>?_)
   ·rw [Nat.add_assoc]; exact hf _ _ p2 (by rw [p3] at hj; exact hj)
   ·exact hv _ _ p2 (by rw [p3] at hj; exact hj)
 case sub id o m b cap c CA =>
  obtain ⟨rfl,rfl⟩:=he
  obtain ⟨p1,p2⟩:=hp
  have hn : n<(m : Int):=by omega
  refine ⟨.pointer (some ⟨b,o+n.toNat*x.2.size,none⟩), ?_, ?_⟩
  ·simp [Instr.indexAt,asIntOf,run_underlying h1,p1,hn,sizeOf,typeInfo,h2,Addr.add_lit]
  ·exact .ref id _ b cap CA
 case buf id m b cap CA =>
  obtain ⟨rfl,rfl⟩:=he
  obtain ⟨p1,p2⟩:=hp
  have hn : n<(m : Int):=by omega
  refine ⟨.pointer (some ⟨b,0+n.toNat*x.2.size,none⟩), ?_, ?_⟩
  ·simp [Instr.indexAt,asIntOf,run_underlying h1,p1,hn,sizeOf,typeInfo,h2,Addr.add_lit]
  ·rw [Nat.zero_add]; exact .ref id _ b cap CA
theorem Li (hW : Ao g B H w) (b o n : Nat) (vs : Nat→Value) (hf : ∀ i,i<n→g.fz b (o+i)=some (vs i)) :
  (loadCells ⟨b,o,none⟩ n).run P w=.ok ((List.range n).map vs).toArray w :=
 run_loadCells w ⟨b,o,none⟩ n vs fun j hj=>by rw [Addr.add_lit]; exact hW.fz _ _ _ (hf j hj)
theorem JN (hW : Ao g B H w) {t : TypeId} {n : Option Nat} (h : Fy P t=some n) {av : AV} {v : Value} (hv : Aa g av v) {p : Prop} {r : AV}
  (he : Wb n (some av)=some (p,r)) (hp : p) : ∃ u,(Instr.loadAt t v).run P w=.ok u w∧Aa g r u:=by
 cases n with
 | none =>
  cases hv <;> simp only [Wb,reduceCtorEq] at he
  rename_i cs b o vs hf hv
  cases cs with
  | nil=>simp at he
  | cons c cs =>
   simp at he
   obtain ⟨-,rfl⟩:=he
   have h0:=hf 0 (by simp)
   have hc:=hW.fz _ _ _ h0;refine ⟨vs 0, ?_,by simpa using hv 0 (by simp)⟩;simp only [Instr.loadAt,Instr.sureAddr,loadVar,Sem.run_bind,Sem.run_pure,Result.andThen_ok,Eh h];simp only [Bool.false_eq_true,if_false,run_load]
   simp at hc
   simp [hc]
 | some n =>
  obtain ⟨h1,i,h2,h3⟩:=IZ (w:=w) h
  cases hv <;> simp only [Wb,Option.some.injEq,Prod.mk.injEq,reduceCtorEq] at he
  rename_i cs b o vs hf hv
  obtain ⟨rfl,rfl⟩:=he;refine ⟨.agg ((List.range n).map vs).toArray, ?_, ?_⟩
  ·simp only [Instr.loadAt,Instr.sureAddr,loadVar,Sem.run_bind,Sem.run_pure,Result.andThen_ok,h1,if_true,sizeOf,typeInfo,run_program,h2,h3];simp only [Li (P:=P) hW b o n vs (fun i hi=>hf i (by omega)),Result.andThen_ok,Sem.run_pure']
  ·refine .agg cs _ (by simp [hp]) (fun i hi=>?_)
   have : (((List.range n).map vs).toArray.getD i undef)=vs i:=by simp [Array.getD,show i<n by omega]
   rw [this]; exact hv i hi
end
end Go.AW
namespace Go.AW
open Go.RowKit
section
variable {P : Program} {g : Gh} {B : Nat} {H : AA} {w : World}
theorem Cz.same {K : Ak} {r : AV} {v : Value} (hW : Ao g B H w) (hv : Aa g r v) (hk : K r H) : Cz g B w K v w :=
 ⟨g,r,H,.refl g,hk,hv,hW,.refl B w⟩
theorem E6 : ∀ (vs : List AV) (cs : List AV) (o : Nat),(wr cs o vs).length=cs.length
 | [],_,_=>rfl
 | v::r,cs,o=>by simp [wr,E6 r]
theorem Qe : ∀ (vs : List AV) (cs : List AV) (o i : Nat),o+vs.length≤cs.length →
  (wr cs o vs).getD i nv=if o≤i∧i<o+vs.length then vs.getD (i - o) nv else cs.getD i nv
 | [],cs,o,i,_=>by simp only [wr,List.length_nil,Nat.add_zero]; rw [if_neg (by omega)]
 | v::r,cs,o,i,h=>by
  have h' : o+(r.length+1)≤cs.length:=by simpa using h
  rw [wr,Qe r _ _ _ (by simp; omega)]
  by_cases hi : i=o
  ·subst hi;rw [if_neg (by omega),if_pos (by simp)]
   simp [gE,show i<cs.length by omega]
  ·by_cases h2 : o+1≤i∧i<o+1+r.length
   ·rw [if_pos h2,if_pos (by simp; omega)]
    have : i - o=(i - (o+1))+1:=by omega
    rw [this]; simp
   ·rw [if_neg h2,if_neg (by simp; omega)];simp only [gE];rw [List.getElem?_set_ne (by omega)]
theorem Kw (off : Nat) : ∀ (l : List Value) (k : Nat) (cs : Array Value),off+k+l.length≤cs.size →
  ((l.zipIdx k).foldl (fun (cs : Array Value) (x : Value × Nat)=>cs.setIfInBounds (off+x.2) x.1) cs).size=cs.size ∧
  ∀ i,((l.zipIdx k).foldl (fun (cs : Array Value) (x : Value × Nat)=>cs.setIfInBounds (off+x.2) x.1) cs).getD i undef =
   if off+k≤i∧i<off+k+l.length then l.getD (i - (off+k)) undef else cs.getD i undef
 | [],k,cs,_=>by simp; intro i h1 h2; omega
 | v::r,k,cs,h=>by
  have h' : off+k+(r.length+1)≤cs.size:=by simpa using h
  simp only [List.zipIdx_cons,List.foldl_cons]
  obtain ⟨h1,h2⟩:=Kw off r (k+1) (cs.setIfInBounds (off+k) v) (by simp; omega);refine ⟨by rw [h1]; simp,fun i=>?_⟩;rw [h2 i]
  by_cases hi : i=off+k
  ·subst hi;rw [if_neg (by omega),if_pos (by simp)]
   simp [Array.getD_eq_getD_getElem?,show off+k<cs.size by omega]
  ·by_cases h3 : off+(k+1)≤i∧i<off+(k+1)+r.length
   ·rw [if_pos h3,if_pos (by simp; omega)]
    have : i - (off+k)=(i - (off+(k+1)))+1:=by omega
    rw [this]; simp
   ·rw [if_neg h3,if_neg (by simp; omega)];simp only [Array.getD_eq_getD_getElem?];rw [Array.getElem?_setIfInBounds_ne (by omega)]
theorem CZ {t : TypeId} {z : List AV} (h : Be P t=some z) : ∃ i zv,P.info? t=some i∧i.zero=some zv∧z.length=i.size∧zv.cells.size=i.size ∧
  ∀ (g : Gh) k,k<z.length→Aa g (z.getD k nv) (zv.cells.getD k undef):=by
 unfold Be at h
 split at h
 ·rename_i i hi
  split at h
  ·rename_i zv hz
   split at h
   ·rename_i zs hc
    split at h
    ·rename_i hl
     cases h
     obtain ⟨h1,h2⟩:=Gx (g:=⟨fun _ _=>none,fun _=>none,fun _=>none⟩) hc;refine ⟨i,zv,hi,hz,hl,by rw [← hl,h1]; simp,fun g k hk=>?_⟩
     have:=(Gx (g:=g) hc).2 k hk
     simpa using this
    ·cases h
   ·cases h
  ·cases h
 ·cases h
theorem MZ {σ : Env} {a : Act} (hE : Cr g σ a.tmps) {t : TypeId} {fs : Array Field} (Tb : P.underlying t=some (.struct fs)) (pl : Array (Nat × Nat))
  (Nw : ∀ i off n ao,Ei P t i=some (off,n,ao)→pl[i]? = some (off,n)) :
  ∀ (parts : List (Nat × Operand)) (ps : List (Nat × Nat × X)) (cs : List AV) (vs : Array Value) (p : Prop) (r : List AV),partsOf P t parts=some ps →
   IH σ ps cs=some (p,r)→p→vs.size=cs.length→(∀ i,i<cs.length→Aa g (cs.getD i nv) (vs.getD i undef)) →
   ∃ out,Instr.fill (pl[·]?) vs (parts.map fun x=>(x.1,a.eval x.2))=some out∧out.size=r.length∧∀ i,i<r.length→Aa g (r.getD i nv) (out.getD i undef)
 | [],ps,cs,vs,p,r,hp,hb,_,hs,hv=>by
  cases hp
  simp [IH] at hb
  obtain ⟨-,rfl⟩:=hb;exact ⟨vs,rfl,hs,hv⟩
 | (i,x)::parts,ps,cs,vs,p,r,hp,hb,KY,hs,hv=>by
  unfold partsOf at hp
  split at hp
  ·rename_i off n ao x' ps' h1 h2 h3
   cases hp;simp only [IH] at hb
   cases hx : val σ x' with
   | none=>simp [hx,Yd] at hb
   | some av =>
    simp only [hx,Yd] at hb
    cases MI : IH σ ps' (wr cs off av.cells) with
    | none=>simp [MI,Y4] at hb
    | some q =>
     obtain ⟨q,r'⟩:=q;simp only [MI,Y4,Option.some.injEq,Prod.mk.injEq] at hb
     obtain ⟨rfl,rfl⟩:=hb
     obtain ⟨⟨h4,h5⟩,h6⟩:=KY
     have yV:=Al hE h2 hx
     obtain ⟨c1,c2⟩:=yV.cells
     have lH:=Nw i off n ao h1
     obtain ⟨f1,f2⟩:=Kw off (a.eval x).cells.toList 0 vs (by simp; omega);simp only [List.map_cons,Instr.fill,lH]
     have Zl : ¬ ((a.eval x).cells.size≠n∨off+(a.eval x).cells.size > vs.size):=by omega
     rw [if_neg (by simpa using Zl)]
     have Pj : ((a.eval x).cells.zipIdx.foldl (fun (cs : Array Value) (x : Value × Nat)=>cs.setIfInBounds (off+x.2) x.1) vs) =
       (((a.eval x).cells.toList.zipIdx 0).foldl (fun (cs : Array Value) (x : Value × Nat)=>cs.setIfInBounds (off+x.2) x.1) vs):=by
      rw [← Array.foldl_toList]; simp
     refine MZ hE Tb pl Nw parts ps' (wr cs off av.cells) _ q _ h3 MI h6 ?_ ?_
     ·rw [E6]; rw [Pj,f1]; exact hs
     ·intro k hk;rw [E6] at hk;rw [Pj,f2 k,Qe _ _ _ _ (by omega)];simp only [Array.length_toList,Nat.add_zero];rw [c1]
      split
      ·have:=c2 (k - off) (by omega)
       simpa using this
      ·exact hv k hk
  ·cases hp
theorem Rn {σ : Env} {a : Act} (hE : Cr g σ a.tmps) {t : TypeId} {z : List AV} {fs : Array Field} {ps} {parts : Array (Nat × Operand)} (hz : Be P t=some z)
  (hf : fieldsOf P t=some fs) (hps : partsOf P t parts.toList=some ps) (Au : ∀ f,f∈fs→(P.info? f.type).isSome) {p : Prop} {r : AV} (he : Wf (IH σ ps z)=some (p,r)) (hp : p) :
  ∃ u,(Instr.build t (parts.map fun x=>(x.1,a.eval x.2))).run P w=.ok u w∧Aa g r u:=by
 obtain ⟨i,zv,h1,h2,h3,h4,h5⟩:=CZ hz
 have Tb:=J8 hf
 cases hb : IH σ ps z with
 | none=>simp [hb,Wf] at he
 | some q =>
  obtain ⟨q,cs⟩:=q;simp only [hb,Wf,Option.some.injEq,Prod.mk.injEq] at he
  obtain ⟨rfl,rfl⟩:=he
  let pl : Array (Nat × Nat):=fs.map fun f=>(f.offset,((P.info? f.type).map (·.size)).getD 0)
  have oB : (fs.mapM fun f=>do pure (f.offset,← sizeOf f.type) : Sem (Array (Nat × Nat))).run P w=.ok pl w:=by
   have key : ∀ (l : List Field),(∀ f,f∈l→(P.info? f.type).isSome)→(l.mapM fun f=>do pure (f.offset,← sizeOf f.type) : Sem (List (Nat × Nat))).run P w =
     .ok (l.map fun f=>(f.offset,((P.info? f.type).map (·.size)).getD 0)) w:=by
    intro l
    induction l with
    | nil=>intro _; simp
    | cons f r ih =>
     intro hh
     obtain ⟨j,hj⟩:=Option.isSome_iff_exists.1 (hh f (by simp))
     have:=ih fun f' ie=>hh f' (by simp [ie]);simp only [List.mapM_cons,Sem.run_bind,sizeOf,typeInfo,run_program,Result.andThen_ok,hj,Sem.run_pure,List.map_cons,Option.map_some,Option.getD_some] at this ⊢;rw [this]
     simp
   have:=key fs.toList (fun f hf=>Au f (by simpa using hf));rw [Array.mapM_eq_mapM_toList,Sem.run_map,this];simp only [Result.andThen_ok]
   congr 1
   apply Array.ext'
   simp [pl]
  obtain ⟨out,o1,o2,o3⟩:=MZ (P:=P) hE Tb pl (fun i off n ao h=>by
   obtain ⟨fs',f,j,k1,k2,k3,k4,k5,k6,-⟩:=Gb h;rw [Tb] at k1; cases k1
   simp [pl,k2,k3,k4,k6]) parts.toList ps z zv.cells _ cs hps hb hp (by omega) (fun k hk=>h5 g k hk)
  refine ⟨.agg out, ?_,.agg cs out o2 o3⟩;simp only [Instr.build,zeroValue,typeInfo,Sem.run_bind,run_program,Result.andThen_ok,h1,Sem.run_pure,h2,run_underlying Tb,oB];simp only [Array.toList_map,o1,Sem.run_pure]
end
end Go.AW
namespace Go.AW
open Go.RowKit
section
variable {P : Program} {g : Gh} {B : Nat} {H : AA} {w : World}
theorem Fk {sz : Nat} : ∀ {es : List AV},Cc sz es→(flat es).length=es.length*sz
 | [],_=>by simp [flat]
 | e::r,h=>by
  have h1:=(h e (by simp)).1
  have h2:=Fk (sz:=sz) (es:=r) fun x hx=>h x (by simp [hx])
  simp [flat,h1,h2,Nat.add_mul,Nat.add_comm]
theorem Kg {sz : Nat} : ∀ {es : List AV},Cc sz es→∀ i j,i<es.length→j<sz→(flat es).getD (i*sz+j) nv=(es.getD i nv).cells.getD j nv
 | [],_,i,j,hi,_=>by simp at hi
 | e::r,h,i,j,hi,hj=>by
  have h1:=(h e (by simp)).1;simp only [flat];rw [BN,h1]
  cases i with
  | zero=>simp [hj]
  | succ i =>
   rw [if_neg (by rw [Nat.add_mul]; omega)]
   have:=Kg (sz:=sz) (es:=r) (fun x hx=>h x (by simp [hx])) i j (by simpa using hi) hj;rw [show (i+1)*sz+j - sz=i*sz+j by rw [Nat.add_mul]; omega,this]
   simp
theorem SH {sz : Nat} {es : List AV} (h : Cc sz es) : ∀ c,c∈flat es→c.one=true:=by
 induction es with
 | nil=>intro c hc; simp [flat] at hc
 | cons e r ih =>
  intro c hc;simp only [flat,List.mem_append] at hc
  rcases hc with hc | hc
  ·exact (h e (by simp)).2 c hc
  ·exact ih (fun x hx=>h x (by simp [hx])) c hc
theorem Rc {σ : Env} {a : Act} (hE : Cr g σ a.tmps) (sz : Nat) : ∀ (parts : List (Nat × Operand)) (k : Nat) (xs : List X) (as pre : List AV) (vs : Array Value),
  Ef k parts=some xs→Cj σ xs=some as→Cc sz as→pre.length=k*sz→vs.size=k*sz+as.length*sz →
  (∀ i,i<pre.length→Aa g (pre.getD i nv) (vs.getD i undef)) →
  ∃ out,Instr.fill (fun i=>some (i*sz,sz)) vs (parts.map fun x=>(x.1,a.eval x.2))=some out∧out.size=vs.size ∧
   ∀ i,i<(pre++flat as).length→Aa g ((pre++flat as).getD i nv) (out.getD i undef)
 | [],k,xs,as,pre,vs,hx,hv,DW,hp,hs,IK=>by
  cases hx; cases hv;exact ⟨vs,rfl,rfl,by simpa [flat] using IK⟩
 | (i,x)::parts,k,xs,as,pre,vs,hx,hv,DW,hp,hs,IK=>by
  unfold Ef at hx
  split at hx
  ·rename_i iq
   subst iq
   obtain ⟨x',xs',h1,h2,rfl⟩:=MT hx
   obtain ⟨av,as',h3,h4,rfl⟩:=F9 hv
   have yV:=Al hE h1 h3
   obtain ⟨c1,c2⟩:=yV.cells
   have CW:=(DW av (by simp)).1
   have hmul : (as'.length+1)*sz=as'.length*sz+sz:=by rw [Nat.add_mul]; omega
   have J9 : vs.size=i*sz+(as'.length*sz+sz):=by rw [hs]; simp only [List.length_cons,hmul]
   obtain ⟨f1,f2⟩:=Kw (i*sz) (a.eval x).cells.toList 0 vs (by simp; omega);simp only [List.map_cons,Instr.fill]
   have Zl : ¬ ((a.eval x).cells.size≠sz∨i*sz+(a.eval x).cells.size > vs.size):=by omega
   rw [if_neg (by simpa using Zl)]
   have Pj : ((a.eval x).cells.zipIdx.foldl (fun (cs : Array Value) (x : Value × Nat)=>cs.setIfInBounds (i*sz+x.2) x.1) vs) =
     (((a.eval x).cells.toList.zipIdx 0).foldl (fun (cs : Array Value) (x : Value × Nat)=>cs.setIfInBounds (i*sz+x.2) x.1) vs):=by
    rw [← Array.foldl_toList]; simp
   obtain ⟨out,o1,o2,o3⟩:=Rc hE sz parts (i+1) xs' as' (pre++av.cells) (vs:=((a.eval x).cells.zipIdx.foldl (fun (cs : Array Value) (x : Value × Nat)=>cs.setIfInBounds (i*sz+x.2) x.1) vs)) h2 h4 (fun e he=>DW e (by simp [he])) (by simp [hp,CW,Nat.add_mul])
    (by rw [Pj,f1,J9,Nat.add_mul]; omega) (by
     intro k hk;rw [Pj,f2 k,BN];simp only [Array.length_toList,Nat.add_zero,List.length_append] at hk ⊢
     by_cases dZ : k<pre.length
     ·rw [if_pos dZ,if_neg (by omega)]; exact IK k dZ
     ·rw [if_neg dZ,if_pos (by omega)]
      have:=c2 (k - pre.length) (by omega);rw [hp] at this ⊢
      simpa using this)
   refine ⟨out,o1,by rw [o2,Pj,f1], ?_⟩
   simpa [flat,List.append_assoc] using o3
  ·cases hx
theorem LO {σ : Env} : ∀ {xs : List X} {as : List AV},Cj σ xs=some as→as.length=xs.length
 | [],as,h=>by cases h; rfl
 | x::xs,as,h=>by
  obtain ⟨a,s,h1,h2,rfl⟩:=F9 h
  simp [LO h2]
theorem QQ {σ : Env} {a : Act} (hE : Cr g σ a.tmps) {t : TypeId} {x : TypeId × TypeInfo} (he : BI P t=some x) {z : List AV} (hz : Be P x.1=some z)
  {n : Nat} {parts : Array (Nat × Operand)} {xs : List X} (hx : Ef 0 parts.toList=some xs) (hn : xs.length=n) (V2 : n*x.2.size≤16777216) {as : List AV}
  (hv : Cj σ xs=some as) (DW : Cc x.2.size as) :
  ∃ out : Array Value,(Instr.buildSlice t n (parts.map fun x=>(x.1,a.eval x.2))).run P w=.ok (.slice (some ⟨w.heap.size,0,none⟩) n n) (w.alloc (.cells out x.1)) ∧
   out.size=n*x.2.size∧as.length=n∧∀ i,i<(flat as).length→Aa g ((flat as).getD i nv) (out.getD i undef):=by
 obtain ⟨h1,h2,h3⟩:=Bh he
 obtain ⟨i,zv,k1,k2,k3,k4,k5⟩:=CZ hz;rw [h2] at k1; cases k1
 have has : as.length=n:=by rw [LO hv,hn]
 let z0 : Array Value:=if n*x.2.size=0 then #[] else zv.cells
 obtain ⟨out,o1,o2,o3⟩:=Rc hE x.2.size parts.toList 0 xs as [] ((Array.range (n*x.2.size)).map (z0[· % z0.size]!)) hx hv DW (by simp) (by simp [has]) (by simp);refine ⟨out, ?_,by rw [o2]; simp,has,by simpa using o3⟩
 have hgt : ¬ (n*x.2.size > 2 ^ 24):=by omega
 by_cases h0 : n*x.2.size=0
 ·have Nq : z0=#[]:=by simp [z0,h0]
  rw [Nq] at o1
  simp only [Instr.buildSlice,Sem.run_bind,run_underlying h1,Result.andThen_ok,sizeOf,typeInfo,run_program,h2,Sem.run_pure,h0,if_true,Array.toList_map,
   show ¬ (0 > 2 ^ 24) by decide,if_false]
  rw [h0] at o1;rw [o1]
  simp [newRow]
 ·have Nq : z0=zv.cells:=by simp [z0,h0]
  rw [Nq] at o1;simp only [Instr.buildSlice,Sem.run_bind,run_underlying h1,Result.andThen_ok,sizeOf,typeInfo,run_program,h2,Sem.run_pure,hgt,if_false,h0,Array.toList_map,zeroValue,k2,o1]
  simp [newRow]
theorem Tl {σ : Env} {a : Act} (hW : Ao g B H w) (hE : Cr g σ a.tmps) {t : TypeId} {x : TypeId × TypeInfo} (he : BI P t=some x) {z : List AV} (hz : Be P x.1=some z)
  {n : Nat} {parts : Array (Nat × Operand)} {xs : List X} (hx : Ef 0 parts.toList=some xs) (hn : xs.length=n) (V2 : n*x.2.size≤16777216) {as : List AV}
  (hv : Cj σ xs=some as) (DW : Cc x.2.size as) (hm : as.length≤AN) :
  ∃ v w',(Instr.buildSlice t n (parts.map fun x=>(x.1,a.eval x.2))).run P w=.ok v w'∧Cz g B w (fun r' H'=>r'=.sl as∧H'=H) v w':=by
 obtain ⟨out,h1,h2,h3,h4⟩:=QQ (P:=P) (w:=w) hE he hz hx hn V2 hv DW
 obtain ⟨k1,k2⟩:=hW.KA out x.1;refine ⟨_,_,h1,_,_,_,k1,⟨rfl,rfl⟩, ?_,k2,(Below.refl B w).alloc hW.base _⟩;subst h3;refine .sl as w.heap.size 0 x.2.size _ (fun i=>out.getD i undef) hm (by first | exact Nat.le_refl _ | omega) (fun i hi=>?_) (fun i j hi hj=>?_) (fun i j hi hj=>?_)
 ·have : as.getD i nv∈as:=by simp [gE,hi]
  exact (DW _ this).1
 ·have CF : i*x.2.size+j<out.size:=by
   rw [h2]
   have : (i+1)*x.2.size≤as.length*x.2.size:=Nat.mul_le_mul_right _ hi;rw [Nat.add_mul] at this; omega
  simp only [Gh.Gt,Nat.zero_add]
  simp [CF,Array.getD]
 ·have CF : i*x.2.size+j<(flat as).length:=by
   rw [Fk DW]
   have : (i+1)*x.2.size≤as.length*x.2.size:=Nat.mul_le_mul_right _ hi;rw [Nat.add_mul] at this; omega
  have:=(h4 _ CF).mono k1
  rwa [Kg DW i j hi hj] at this
theorem We {σ : Env} {a : Act} (hW : Ao g B H w) (hE : Cr g σ a.tmps) {t : TypeId} {x : TypeId × TypeInfo} (he : BI P t=some x) {z : List AV} (hz : Be P x.1=some z)
  {parts : Array (Nat × Operand)} {xs : List X} (hx : Ef 0 parts.toList=some xs) (hn : xs.length=0) :
  ∃ v w',(Instr.buildSlice t 0 (parts.map fun x=>(x.1,a.eval x.2))).run P w=.ok v w'∧Cz g B w (fun r' H'=>r'=.Dg∧H'=H) v w':=by
 have hxs : xs=[]:=List.eq_nil_of_length_eq_zero hn;subst hxs
 obtain ⟨out,h1,h2,h3,h4⟩:=QQ (P:=P) (w:=w) (n:=0) hE he hz hx hn (by omega) (as:=[]) rfl (by intro e he; simp at he)
 obtain ⟨k1,k2⟩:=hW.KA out x.1;exact ⟨_,_,h1,_,_,_,k1,⟨rfl,rfl⟩,.Dg _,k2,(Below.refl B w).alloc hW.base _⟩
theorem Tx (hW : Ao g B H w) {t : TypeId} {av : AV} {v : Value} (hv : Aa g av v) :
  ∃ u w',(Instr.box t v).run P w=.ok u w'∧Cz g B w (fun r' H'=>r'=.ptr av.cells∧H'=H) u w':=by
 obtain ⟨c1,c2⟩:=hv.cells
 obtain ⟨k1,k2⟩:=hW.KA v.cells t;refine ⟨.pointer (some ⟨w.heap.size,0,none⟩),w.alloc (.cells v.cells t),by simp [Instr.box,newVar,newRow],_,_,_,k1,⟨rfl,rfl⟩, ?_,k2,(Below.refl B w).alloc hW.base _⟩;refine .ptr _ _ 0 (fun i=>v.cells.getD i undef) (fun i hi=>?_) (fun i hi=>(c2 i hi).mono k1)
 simp [Gh.Gt,c1,hi,Array.getD]
theorem RZ : ∀ (es : List AV) (vs : List Value) (acc : ByteArray),(∀ e,e∈es→e.isByte=true)→es.length=vs.length→(∀ i,i<es.length→Aa g (es.getD i nv) (vs.getD i undef)) →
  (forIn (m:=Sem) vs acc fun c r =>
   match c with
   | .int .u8 n=>pure (ForInStep.yield (r.push (UInt8.ofNat n.toNat)))
   | _=>do
    stuck "bytesToString: byte expected"
    pure (ForInStep.yield r)).run P w=.ok ⟨(acc.data.toList++es.map AV.byte).toArray⟩ w
 | [],[],acc,_,_,_=>by simp
 | [],_::_,_,_,hl,_=>by simp at hl
 | _::_,[],_,_,hl,_=>by simp at hl
 | e::es,v::vs,acc,hb,hl,hr=>by
  have h0:=hr 0 (by simp);simp only [List.getD_cons_zero] at h0
  have vF:=hb e (by simp)
  cases h0 <;> try (simp [AV.isByte] at vF; done)
  rename_i k n
  cases k <;> try (simp [AV.isByte] at vF; done)
  have ih:=RZ es vs (acc.push (UInt8.ofNat n.toNat)) (fun x hx=>hb x (by simp [hx])) (by simpa using hl) (fun i hi=>by simpa using hr (i+1) (by simpa using hi));simp only [List.forIn_cons,Sem.run_bind,Sem.run_pure,Result.andThen_ok];rw [ih]
  simp [AV.byte,ByteArray.push]
end
end Go.AW
namespace Go.AW
open Go.RowKit
section
variable {P : Program} {g : Gh} {B : Nat} {H : AA} {w : World}
theorem Rt (hW : Ao g B H w) {av : AV} {v : Value} (hv : Aa g av v) {p : Prop} {r : AV} (he : QB (some av)=some (p,r)) (hp : p) :
  ∃ u,(Conv.bytesToString v).run P w=.ok u w∧Aa g r u:=by
 cases hv <;> simp only [QB,Option.some.injEq,Prod.mk.injEq,reduceCtorEq] at he
 case A0 =>
  obtain ⟨-,rfl⟩:=he;exact ⟨.string ⟨#[]⟩,by simp [Conv.bytesToString]; rfl,.str []⟩
 case slnil a cap =>
  obtain ⟨-,rfl⟩:=he;refine ⟨.string ⟨#[]⟩, ?_,.str []⟩
  cases a with
  | none=>simp [Conv.bytesToString]; rfl
  | some a=>simp [Conv.bytesToString,loadCells,loadCellsFrom]; rfl
 case sl es b o sz cap vs hm _ CW hf hv =>
  obtain ⟨rfl,rfl⟩:=he
  have HY : ∀ i,i<es.length→sz=1:=fun i hi=>by
   have h1:=CW i hi
   have h2:=hp (es.getD i nv) (by simp [gE,hi])
   generalize es.getD i nv=e at h1 h2
   cases e <;> simp [AV.isByte] at h2
   simpa [AV.cells] using h1.symm
  have hl : (loadCells ⟨b,o,none⟩ es.length).run P w=.ok ((List.range es.length).map vs).toArray w :=
   run_loadCells w ⟨b,o,none⟩ es.length vs fun j hj=>by
    have h1:=HY j hj;subst h1
    have:=hf j 0 hj (by omega);rw [Addr.add_lit];exact hW.fz _ _ _ (by simpa using this)
  have hr : ∀ i,i<es.length→Aa g (es.getD i nv) (((List.range es.length).map vs).getD i undef):=fun i hi=>by
   have h1:=HY i hi;subst h1
   have h3:=hv i 0 hi (by omega)
   have h2:=hp (es.getD i nv) (by simp [gE,hi])
   have : ((List.range es.length).map vs).getD i undef=vs i:=by simp [gE,hi]
   rw [this]
   generalize es.getD i nv=e at h3 h2 ⊢
   cases e <;> simp [AV.isByte] at h2
   simpa [AV.cells] using h3
  have:=RZ (P:=P) (w:=w) es ((List.range es.length).map vs) ByteArray.empty hp (by simp) hr;refine ⟨.string ⟨(es.map AV.byte).toArray⟩, ?_,.str _⟩;simp only [Conv.bytesToString,Sem.run_bind,hl,Result.andThen_ok];rw [← Array.forIn_toList];exact Eq.trans (congrArg (fun r=>Result.andThen r _) this) rfl
theorem Me {t : TypeId} {q : IntKind} (ht : P.underlying t=some (.int q)) (d : Nat) (k : IntKind) (a b : Int) :
  (Op.equalIn (d+1) t (.int k a) (.int k b)).run P w=.ok (a == b) w:=by
 simp [Op.equalIn,run_underlying ht]
theorem a9 {t : TypeId} {fs : Array Field} (ht : P.underlying t=some (.struct fs)) (hi : EC P 0 fs.toList=true) (hs : P.stoodInHeld t=false)
  (h2 : fs.size=2) (k1 k2 : IntKind) (a b c d : Int) (dp : Nat) :
  (Op.equalIn (dp+2) t (.agg #[.int k1 a,.int k2 b]) (.agg #[.int k1 c,.int k2 d])).run P w=.ok (decide (a=c) && decide (b=d)) w:=by
 obtain ⟨l⟩:=fs
 match l,h2 with
 | [f0,f1],_ =>
  simp only [EC,Bool.and_eq_true,beq_iff_eq,bne_iff_ne,ne_eq] at hi
  obtain ⟨⟨⟨⟨xm,xk⟩,Nq⟩,Xj⟩,⟨⟨⟨HW,zg⟩,hz1⟩,dM⟩,-⟩:=hi
  have e0 : ∃ k,P.underlying f0.type=some (.int k):=by split at xk <;> simp_all
  have e1 : ∃ k,P.underlying f1.type=some (.int k):=by split at zg <;> simp_all
  obtain ⟨q0,e0⟩:=e0
  obtain ⟨q1,e1⟩:=e1;unfold Op.equalIn;simp only [Sem.run_bind,run_underlying ht,Result.andThen_ok,run_program,hs,Bool.false_eq_true,if_false]
  simp [Xj,dM,xm,HW,part,isAgg,run_underlying e0,run_underlying e1,Me e0,Me e1]
  by_cases RD : a=c
  ·subst RD; by_cases Xo : b=d
   ·subst Xo; simp
   ·simp [Xo]
  ·simp [RD]
theorem Sx {t : TypeId} {fs : Array Field} (ht : P.underlying t=some (.struct fs)) (hi : EC P 0 fs.toList=true) (hs : P.stoodInHeld t=false)
  (h2 : fs.size=2) (k1 k2 : IntKind) (a b c d : Int) :
  (Op.equal t (.agg #[.int k1 a,.int k2 b]) (.agg #[.int k1 c,.int k2 d])).run P w=.ok (decide (a=c) && decide (b=d)) w :=
 a9 ht hi hs h2 k1 k2 a b c d 9998
end
end Go.AW
namespace Go.AW
open Go.RowKit
section
variable {P : Program} {g : Gh} {B : Nat} {H : AA} {w : World}
theorem Ao.obj (hW : Ao g B H w) {id b cap sz f : Nat} {cs : List AV} (CA : g.io id=some (.GA b cap)) (ho : H.get id=some (.cells sz cs f)) :
  ∃ c el,w.heap[b]? = some (.cells c el (0,0))∧B≤b∧f≤cs.length∧cs.length≤AN∧c.size=cap*sz∧cs.length≤c.size∧∀ i,i<cs.length→Aa g (cs.getD i nv) (c.getD i undef):=by
 obtain ⟨p,hp,hr⟩:=hW.ob id _ ho;rw [CA] at hp; cases hp;simp only [Ah] at hr
 obtain ⟨h1,h2,h3,h4,c,el,h5,h6,h7,h8⟩:=hr;exact ⟨c,el,h5,h1,h2,h3,h6,h7,h8⟩
theorem getD_some {c : Array Value} {i : Nat} (h : i<c.size) : c[i]? = some (c.getD i undef):=by simp [Array.getD,h]
theorem Mb (hW : Ao g B H w) {t : TypeId} {n : Option Nat} (h : Fy P t=some n) {id off : Nat} {v : Value} (hv : Aa g (.ref id off) v) {K : Ak}
  (hk : Jd (H.get id) n off K H) : ∃ u,(Instr.loadAt t v).run P w=.ok u w∧Cz g B w K u w:=by
 cases hv
 rename_i b cap CA
 cases ho : H.get id with
 | none=>simp [ho,Jd] at hk
 | some o =>
  cases o with
  | map ks vs=>cases n <;> simp [ho,Jd] at hk
  | cells sz cs f =>
   obtain ⟨c,el,h5,_,_,_,h6,h7,h8⟩:=hW.obj CA ho
   cases n with
   | none =>
    simp only [ho,Jd] at hk
    obtain ⟨k1,k2⟩:=hk
    have hc : w.cell? ⟨b,off,none⟩=some (c.getD off undef):=by rw [cell_of_row w b off c el _ h5]; exact getD_some (by omega)
    refine ⟨c.getD off undef, ?_,.same hW (h8 off k1) k2⟩;simp only [Instr.loadAt,Instr.sureAddr,loadVar,Sem.run_bind,Sem.run_pure,Result.andThen_ok,Eh h];simp only [Bool.false_eq_true,if_false,run_load,hc]
   | some n =>
    simp only [ho,Jd] at hk
    obtain ⟨k1,k2⟩:=hk
    obtain ⟨h1,i,h2,h3⟩:=IZ (w:=w) h
    have hl:=run_loadCells (P:=P) w ⟨b,off,none⟩ n (fun j=>c.getD (off+j) undef) (fun j hj=>by
     rw [Addr.add_lit,cell_of_row w b (off+j) c el _ h5]; exact getD_some (by omega))
    refine ⟨.agg ((List.range n).map fun j=>c.getD (off+j) undef).toArray, ?_,.same hW (.agg _ _ ?_ ?_) k2⟩
    ·simp only [Instr.loadAt,Instr.sureAddr,loadVar,Sem.run_bind,Sem.run_pure,Result.andThen_ok,h1,if_true,sizeOf,typeInfo,run_program,h2,h3];simp only [hl,Result.andThen_ok,Sem.run_pure']
    ·simp; omega
    ·intro j hj
     have RF : j<n:=by simp at hj; omega
     have e1 : ((cs.drop off).take n).getD j nv=cs.getD (off+j) nv:=by simp [gE,RF]
     have e2 : (((List.range n).map fun j=>c.getD (off+j) undef).toArray).getD j undef=c.getD (off+j) undef:=by simp [Array.getD,RF]
     rw [e1,e2];exact h8 _ (by omega)
theorem Ao.store (hW : Ao g B H w) {id b cap sz f off : Nat} {cs : List AV} (CA : g.io id=some (.GA b cap)) (ho : H.get id=some (.cells sz cs f))
  {vs : List AV} {us : List Value} (h1 : f≤off) (h2 : off+vs.length≤cs.length) (hl : us.length=vs.length) (h3 : ∀ c,c∈vs→c.one=true)
  (hv : ∀ i,i<vs.length→Aa g (vs.getD i nv) (us.getD i undef)) :
  ∃ w',(storeCells ⟨b,off,none⟩ us).run P w=.ok () w'∧Ao g B (H.set id (.cells sz (wr cs off vs) f)) w'∧Below B w w':=by
 obtain ⟨c,el,h5,hb,hf,hm,h6,h7,h8⟩:=hW.obj CA ho
 have HY : ∀ u∈us,u.oneCell'=true:=by
  intro u hu
  obtain ⟨i,hi,rfl⟩:=List.getElem_of_mem hu
  have:=hv i (by omega)
  have e1 : us.getD i undef=us[i]:=by simp [gE,hi]
  rw [e1] at this;refine this.one (h3 _ ?_)
  have : vs.getD i nv=vs[i]'(by omega):=by simp [gE,show i<vs.length by omega]
  rw [this]; simp
 have hr:=run_storeCells_at P b off el us 0 c w h5 (by omega) HY;simp only [Nat.add_zero] at hr;refine ⟨_,hr, ?_, ?_⟩
 ·refine hW.write id b cap sz cs _ f c _ el ho CA h5 (setRow_heap w b c _ el _ h5) (by simp [World.setRow]) (fun k hk=>setRow_other w b k _ hk) ?_ ?_ ?_ ?_ ?_ ?_
  ·simp; omega
  ·intro k hk
   have : k<off:=by omega
   simp [List.getElem?_append,show k<min off c.size by omega,this]
  ·rw [E6]; exact hf
  ·rw [E6]; exact hm
  ·rw [E6]; simp; omega
  ·intro k hk;rw [E6] at hk;rw [Qe _ _ _ _ h2]
   have key : ((c.toList.take off++us++c.toList.drop (off+us.length)).toArray).getD k undef=if off≤k∧k<off+vs.length then us.getD (k - off) undef else c.getD k undef:=by
    simp only [Array.getD_eq_getD_getElem?,List.getElem?_toArray,gE]
    by_cases a1 : k<off
    ·rw [if_neg (by omega),List.append_assoc,List.getElem?_append_left (by simp; omega)]
     simp [a1]
    ·by_cases a2 : k<off+us.length
     ·rw [if_pos (by omega),List.append_assoc,List.getElem?_append_right (by simp; omega),List.getElem?_append_left (by simp; omega)]
      simp [show min off c.size=off by omega]
     ·rw [if_neg (by omega),List.getElem?_append_right (by simp; omega)];simp only [List.length_append,List.length_take,Array.length_toList,List.getElem?_drop];rw [show off+us.length+(k - (min off c.size+us.length))=k by omega]
      simp
   rw [key]
   split
   ·exact hv _ (by omega)
   ·exact h8 k hk
 ·exact ⟨rfl,rfl,rfl,by simp [World.setRow],fun k hk=>setRow_other w b k _ (by omega),Nat.le_refl _⟩
theorem WW (hW : Ao g B H w) {t : TypeId} {i : TypeInfo} (hi : P.info? t=some i) {id off : Nat} {p u : Value} {av : AV} (hp : Aa g (.ref id off) p) (hu : Aa g av u) {K : Ak}
  (hk : Ka (H.get id) id off i.size av.cells K H) : ∃ w',(Instr.storeAt t p u).run P w=.ok () w'∧Cz g B w K undef w':=by
 cases hp
 rename_i b cap CA
 cases ho : H.get id with
 | none=>simp [ho,Ka] at hk
 | some o =>
  cases o with
  | map ks vs=>simp [ho,Ka] at hk
  | cells sz cs f =>
   simp only [ho,Ka] at hk
   obtain ⟨⟨k1,k2,k3,k4⟩,k5⟩:=hk
   obtain ⟨c1,c2⟩:=hu.cells
   obtain ⟨w',r1,r2,r3⟩:=hW.store (P:=P) CA ho (vs:=av.cells) (us:=u.cells.toList) k1 (by omega) (by simpa using c1) k4 (fun i hi=>by simpa using c2 i hi);refine ⟨w', ?_,g,nv,_,.refl g,k5,.CQ [] #[] rfl (fun i hi=>by simp at hi),r2,r3⟩
   have hs : ¬ (u.cells.size≠i.size):=by omega
   simp only [Instr.storeAt,Instr.sureAddr,storeVar,Sem.run_bind,Sem.run_pure,Result.andThen_ok,sizeOf,typeInfo,run_program,hi,hs,if_false,r1]
theorem KQ (hW : Ao g B H w) (c : Array Value) (el : TypeId) (sz cap n : Nat) (cs : List AV) (hm : cs.length≤AN) (hc : c.size=cap*sz) (hl : cs.length≤c.size)
  (hv : ∀ k,k<cs.length→Aa g (cs.getD k nv) (c.getD k undef)) {K : Ak} (hk : DX n sz cs K H) :
  Cz g B w K (.slice (some ⟨w.heap.size,0,none⟩) n cap) (w.alloc (.cells c el)):=by
 obtain ⟨i,h1,h2⟩:=hW.fresh
 obtain ⟨k1,k2⟩:=hW.Ms i h1 c el sz cap cs hm hc hl hv;exact ⟨_,_,_,k1,hk i h2,.buf i n _ cap (Gh.DV _ _ _),k2,(Below.refl B w).alloc hW.base _⟩
theorem Jy (hW : Ao g B H w) (c : Array Value) (el : TypeId) (sz : Nat) (cs : List AV) (hm : cs.length≤AN) (hc : c.size=sz) (hl : cs.length=sz)
  (hv : ∀ k,k<cs.length→Aa g (cs.getD k nv) (c.getD k undef)) {K : Ak} (hk : G5 sz cs K H) :
  Cz g B w K (.pointer (some ⟨w.heap.size,0,none⟩)) (w.alloc (.cells c el)):=by
 obtain ⟨i,h1,h2⟩:=hW.fresh
 obtain ⟨k1,k2⟩:=hW.Ms i h1 c el sz 1 cs hm (by omega) (by omega) hv;exact ⟨_,_,_,k1,hk i h2,.ref i 0 _ 1 (Gh.DV _ _ _),k2,(Below.refl B w).alloc hW.base _⟩
theorem Uh {σ : Env} {a : Act} (hW : Ao g B H w) (hE : Cr g σ a.tmps) {t : TypeId} {x : TypeId × TypeInfo} (he : BI P t=some x) {z : List AV} (hz : Be P x.1=some z)
  {n : Nat} {parts : Array (Nat × Operand)} {xs : List X} (hx : Ef 0 parts.toList=some xs) (hn : xs.length=n) (V2 : n*x.2.size≤16777216) {K : Ak}
  (hk : P3 x.2.size (Cj σ xs) K H) :
  ∃ v w',(Instr.buildSlice t n (parts.map fun x=>(x.1,a.eval x.2))).run P w=.ok v w'∧Cz g B w K v w':=by
 cases hv : Cj σ xs with
 | none=>simp [hv,P3] at hk
 | some as =>
  simp only [hv,P3] at hk
  obtain ⟨⟨DW,hm⟩,hk⟩:=hk
  obtain ⟨out,h1,h2,h3,h4⟩:=QQ (P:=P) (w:=w) hE he hz hx hn V2 hv DW
  have HB:=Fk DW;subst h3;exact ⟨_,_,h1,KQ hW out x.1 x.2.size as.length as.length (flat as) (by simp only [AN]; omega) h2 (by omega) h4 hk⟩
theorem UL (hW : Ao g B H w) {t : TypeId} {n : Nat} {oav : Option AV} {av : AV} {v : Value} (xw : oav=some av) (hv : Aa g av v) {K : Ak} (hk : SN n oav K H) :
  ∃ u w',(Instr.box t v).run P w=.ok u w'∧Cz g B w K u w':=by
 subst xw
 obtain ⟨⟨h1,h2⟩,hk⟩:=hk
 obtain ⟨c1,c2⟩:=hv.cells;exact ⟨_,_,by simp [Instr.box,newVar,newRow],Jy hW v.cells t n av.cells (by omega) (by omega) h1 c2 hk⟩
theorem T4 (hW : Ao g B H w) {t : TypeId} {z : List AV} (hz : Be P t=some z) (hm : z.length≤AN) {K : Ak} (hk : G5 z.length z K H) :
  ∃ u w',(Instr.alloc t true (.tuple #[])).run P w=.ok u w'∧Cz g B w K u w':=by
 obtain ⟨i,zv,h1,h2,h3,h4,h5⟩:=CZ hz;exact ⟨_,_,by simp [Instr.alloc,zeroValue,typeInfo,h1,h2,newVar,newRow],Jy hW zv.cells t z.length z hm (by omega) rfl (h5 g) hk⟩
theorem DY (z : List AV) : ∀ n,(rep n z).length=n*z.length
 | 0=>by simp [rep]
 | n+1=>by simp [rep,DY z n,Nat.add_mul,Nat.add_comm]
theorem Mu (z : List AV) : ∀ n k,k<n*z.length→(rep n z).getD k nv=z.getD (k % z.length) nv
 | 0,k,h=>by simp at h
 | n+1,k,h=>by
  have hz : 0<z.length:=by
   rcases Nat.eq_zero_or_pos z.length with e | e
   ·simp [e] at h
   ·exact e
  simp only [rep];rw [BN]
  by_cases hk : k<z.length
  ·rw [if_pos hk,Nat.mod_eq_of_lt hk]
  ·rw [if_neg hk,Mu z n (k - z.length) (by rw [Nat.add_mul] at h; omega)];rw [← Nat.mod_eq_sub_mod (by omega)]
theorem Wn (hW : Ao g B H w) {t : TypeId} {x : TypeId × TypeInfo} (he : BI P t=some x) {z : List AV} (hz : Be P x.1=some z) (hb : x.2.bytes≤256)
  {ol oc : Option AV} {lv cv : AV} {l c : Value} (KU : ol=some lv) (hoc : oc=some cv) (hl : Aa g lv l) (hc : Aa g cv c) {K : Ak} (hk : Q7 x.2.size z ol oc K H) :
  ∃ u w',(Instr.makeSlice t l c).run P w=.ok u w'∧Cz g B w K u w':=by
 subst KU hoc
 cases hl <;> try (simp [Q7] at hk; done)
 cases hc <;> try (simp [Q7] at hk; done)
 rename_i k1 l k2 c
 simp only [Q7] at hk
 obtain ⟨⟨p1,p2,p3,p4⟩,hk⟩:=hk
 obtain ⟨h1,h2,h3⟩:=Bh he
 obtain ⟨i,zv,q1,q2,q3,q4,q5⟩:=CZ hz;rw [h2] at q1; cases q1;simp only [AN] at p3
 have zy : (x.2.bytes : Int)*c≤281474976710656:=by
  have fZ : c≤1099511627776:=by omega
  have : (x.2.bytes : Int)*c≤256*1099511627776:=Int.mul_le_mul (by omega) fZ (by omega) (by omega);omega
 have hr:=run_make (P:=P) w t x.1 x.2 zv h1 h2 q2 k1 k2 l c p1 p2 zy (by omega)
 have hlc : l.toNat*x.2.size≤c.toNat*x.2.size:=Nat.mul_le_mul_right _ (by omega);refine ⟨_,_,hr,KQ hW _ x.1 x.2.size c.toNat l.toNat (rep l.toNat z) ?_ ?_ ?_ ?_ hk⟩
 ·rw [DY,q3]; exact p4
 ·rw [size_madeCells]
 ·rw [DY,size_madeCells,q3]; exact hlc
 ·intro k Lw;rw [DY] at Lw;rw [Mu _ _ _ Lw]
  have TS : k<c.toNat*x.2.size:=by rw [q3] at Lw; omega
  have kZ : 0<z.length:=by omega
  have hm : k % z.length<z.length:=Nat.mod_lt _ kZ
  have e1 : (madeCells zv.cells (c.toNat*x.2.size)).getD k undef=zv.cells.getD (k % z.length) undef:=by
   simp only [madeCells,Array.getD_eq_getD_getElem?];rw [Array.getElem?_map,Array.getElem?_range];rw [if_pos TS];simp only [Option.map_some,Option.getD_some];rw [q4,← q3]
   simp [getElem!_def,show k % z.length<zv.cells.size by omega]
  rw [e1];exact q5 g _ hm
theorem WY (hW : Ao g B H w) {t ty : TypeId} {x : TypeId × TypeInfo} (he : BI P t=some x) {z : List AV} (hz : Be P x.1=some z) {v : AV} {u : Value} (hv : Aa g v u) {K : Ak} (hk : Wg z (some v) K H) :
  ∃ w',(Builtin.clear_ #[t] ty #[u]).run P w=.ok (.tuple #[]) w'∧Cz g B w K (.tuple #[]) w':=by
 cases hv <;> try (simp [Wg] at hk; done)
 rename_i id off n b cap c CA
 simp only [Wg] at hk
 obtain ⟨hn,hk⟩:=hk
 obtain ⟨h1,h2,h3⟩:=Bh he
 obtain ⟨i,zv,q1,q2,q3,q4,q5⟩:=CZ hz;rw [h2] at q1; cases q1
 cases ho : H.get id with
 | none=>simp [ho,Ka] at hk
 | some o =>
  cases o with
  | map ks vs=>simp [ho,Ka] at hk
  | cells sz cs f =>
   simp only [ho,Ka] at hk
   obtain ⟨⟨k1,k2,k3,k4⟩,k5⟩:=hk
   have hzc : (Builtin.zeroCells zv.cells n).toList.length=(rep n z).length:=by simp [Builtin.zeroCells,DY,q3,q4]
   obtain ⟨w',r1,r2,r3⟩:=hW.store (P:=P) CA ho (vs:=rep n z) (us:=(Builtin.zeroCells zv.cells n).toList) k1 (by rw [DY]; exact k2) hzc k4 (fun i hi=>by
    rw [DY] at hi;rw [Mu _ _ _ hi]
    have kZ : 0<z.length:=by omega
    have hm : i % z.length<z.length:=Nat.mod_lt _ kZ
    have Xk : i<n*zv.cells.size:=by rw [q4,← q3]; exact hi
    have e1 : (Builtin.zeroCells zv.cells n).toList.getD i undef=zv.cells.getD (i % z.length) undef:=by
     simp only [Builtin.zeroCells,Array.toList_map,Array.toList_range,gE,List.getElem?_map,Array.getD_eq_getD_getElem?];rw [List.getElem?_range Xk];simp only [Option.map_some,Option.getD_some];rw [q4,← q3]
     simp [getElem!_def,show i % z.length<zv.cells.size by omega]
    rw [e1];exact q5 g _ hm)
   refine ⟨w', ?_,g,nv,_,.refl g,k5,.CQ [] #[] rfl (fun i hi=>by simp at hi),r2,r3⟩
   obtain ⟨m,rfl⟩ : ∃ m,n=m+1:=⟨n - 1,by omega⟩
   simp [Builtin.clear_,run_underlying h1,zeroValue,typeInfo,h2,q2,r1]
end
end Go.AW
namespace Go.AW
open Go.RowKit
section
variable {P : Program} {g : Gh} {B : Nat} {H : AA} {w : World}
theorem Ev (hW : Ao g B H w) {sz : Nat} {av : AV} {v : Value} (hv : Aa g av v) {p : Prop} {m : Nat} {new : List AV} (hs : C5 sz (some av) H=some (p,m,new)) (hp : p) :
  ∃ (ax : Option Addr) (cap : Nat) (news : List Value),v=.slice ax m cap∧news.length=m*sz∧new.length=m*sz∧(∀ i,i<new.length→Aa g (new.getD i nv) (news.getD i undef)) ∧
   (∀ u∈news,u.oneCell'=true)∧(∀ c∈new,c.one=true) ∧
   ∀ w',w'.heap=w.heap→(Builtin.firstCells sz m v).run P w'=.ok news.toArray w':=by
 have RG : ∀ {w' : World},w'.heap=w.heap→∀ a,w'.cell? a=w.cell? a:=fun {w'} e a=>by simp only [World.cell?,e]
 cases hv <;> simp only [C5,Option.some.injEq,Prod.mk.injEq,reduceCtorEq] at hs
 case A0 =>
  obtain ⟨rfl,rfl,rfl⟩:=hs;exact ⟨none,0,[],rfl,by simp,by simp,by simp,by simp,by simp,fun w' _=>by simp [Builtin.firstCells]⟩
 case slnil a cap =>
  obtain ⟨rfl,rfl,rfl⟩:=hs;refine ⟨a,cap,[],rfl,by simp,by simp [flat],by simp [flat],by simp,by simp [flat],fun w' _=>?_⟩
  cases a <;> simp [Builtin.firstCells,loadCells,loadCellsFrom]
 case sl es b o sz' cap vs hm _ CW hf hv =>
  obtain ⟨rfl,rfl,rfl⟩:=hs
  have ys : es.length=0∨sz'=sz:=by
   rcases Nat.eq_zero_or_pos es.length with h | h
   ·exact .inl h
   ·right
    have h1:=CW 0 h
    have h2:=(hp (es.getD 0 nv) (by simp [gE,h])).1;omega
  have HB:=Fk hp
  have L8 : ∀ i,i<es.length*sz→g.fz b (o+i)=some (vs i)∧Aa g ((flat es).getD i nv) (vs i):=by
   intro i hi
   have hz : 0<sz:=by
    rcases Nat.eq_zero_or_pos sz with h | h
    ·simp [h] at hi
    ·exact h
   have hd : i / sz<es.length:=by rw [Nat.div_lt_iff_lt_mul hz]; exact hi
   have hr : i % sz<sz:=Nat.mod_lt _ hz
   have he : i / sz*sz+i % sz=i:=by rw [Nat.mul_comm]; exact Nat.div_add_mod i sz
   have SW : sz'=sz:=by
    rcases ys with h | h
    ·exact absurd hd (by rw [h]; exact Nat.not_lt_zero _)
    ·exact h
   subst SW
   have h1:=hf (i / sz') (i % sz') hd hr
   have h2:=hv (i / sz') (i % sz') hd hr;rw [he] at h1 h2;refine ⟨h1, ?_⟩
   have h3:=Kg hp (i / sz') (i % sz') hd hr;rw [he] at h3;rw [h3]; exact h2
  refine ⟨some ⟨b,o,none⟩,cap,(List.range (es.length*sz)).map vs,rfl,by simp,HB, ?_, ?_,SH hp, ?_⟩
  ·intro i hi;rw [HB] at hi
   have : ((List.range (es.length*sz)).map vs).getD i undef=vs i:=by simp [gE,hi]
   rw [this]; exact (L8 i hi).2
  ·intro u hu;simp only [List.mem_map,List.mem_range] at hu
   obtain ⟨i,hi,rfl⟩:=hu;refine (L8 i hi).2.one (SH hp _ ?_)
   simp [gE,show i<(flat es).length by omega]
  ·intro w' yf;simp only [Builtin.firstCells];exact run_loadCells w' ⟨b,o,none⟩ _ vs fun j hj=>by rw [Addr.add_lit,RG yf]; exact hW.fz _ _ _ (L8 j hj).1
 case CN id CA =>
  cases ho : H.get id with
  | none=>simp [ho,Tq] at hs
  | some o =>
   cases o with
   | map ks vs=>simp [ho,Tq] at hs
   | cells sz' cs f =>
    simp only [ho,Tq,Option.some.injEq,Prod.mk.injEq] at hs
    obtain ⟨rfl,rfl,rfl⟩:=hs;exact absurd hp.1.2.2 (by simp)
 case buf id n b cap CA =>
  cases ho : H.get id with
  | none=>simp [ho,Tq] at hs
  | some o =>
   cases o with
   | map ks vs=>simp [ho,Tq] at hs
   | cells sz' cs f =>
    simp only [ho,Tq,Option.some.injEq,Prod.mk.injEq] at hs
    obtain ⟨rfl,rfl,rfl⟩:=hs
    obtain ⟨⟨rfl,hl,h0⟩,HY⟩:=hp
    obtain ⟨c,el,h5,_,_,_,h6,h7,h8⟩:=hW.obj CA ho
    have hg : ∀ i,i<n*sz'→((List.range (n*sz')).map fun j=>c.getD j undef).getD i undef=c.getD i undef:=fun i hi=>by simp [gE,hi]
    refine ⟨some ⟨b,0,none⟩,cap,(List.range (n*sz')).map fun j=>c.getD j undef,rfl,by simp,hl, ?_, ?_,HY, ?_⟩
    ·intro i hi;rw [hg i (by omega)]; exact h8 i hi
    ·intro u hu;simp only [List.mem_map,List.mem_range] at hu
     obtain ⟨i,hi,rfl⟩:=hu;refine (h8 i (by omega)).one (HY _ ?_)
     simp [gE,show i<cs.length by omega]
    ·intro w' yf;simp only [Builtin.firstCells]
     exact run_loadCells w' ⟨b,0,none⟩ _ _ fun j hj=>by
      rw [Addr.add_lit,Nat.zero_add,RG yf,cell_of_row w b j c el _ h5]; exact getD_some (by omega)
theorem JU {c : AV} (h : c.one=true) : c.cells=[c]:=by cases c <;> first | rfl | simp [AV.one] at h
theorem Od : ∀ {es : List AV},(∀ c,c∈es→c.one=true)→flat es=es
 | [],_=>rfl
 | e::r,h=>by rw [flat,JU (h e (by simp)),Od fun c hc=>h c (by simp [hc])]; rfl
theorem Wy (hW : Ao g B H w) {t t' ty : TypeId} {x : TypeId × TypeInfo} (he : BI P t=some x) (hz : x.2.size=1) {a b : AV} {u v : Value} (ha : Aa g a u) (hb : Aa g b v) {K : Ak} (hk : Uk (some a) (some b) K H) :
  ∃ r w',(Builtin.copy_ #[t,t'] ty #[u,v]).run P w=.ok r w'∧Cz g B w K r w':=by
 obtain ⟨h1,h2,h3⟩:=Bh he
 cases a <;> try (simp [Uk] at hk; done)
 rename_i id n
 cases b <;> try (simp [Uk] at hk; done)
 rename_i es
 simp only [Uk] at hk
 obtain ⟨⟨hn,hl⟩,hk⟩:=hk
 cases ho : H.get id with
 | none=>simp [ho,Ka] at hk
 | some o =>
  cases o with
  | map ks vs=>simp [ho,Ka] at hk
  | cells sz cs f =>
   simp only [ho,Ka] at hk
   obtain ⟨⟨k1,k2,k3,k4⟩,k5⟩:=hk
   obtain ⟨ax,c,news,rfl,l1,l2,hr,HW,-,Kf⟩:=Ev (P:=P) hW hb (sz:=1) (p:=Cc 1 es) (m:=es.length) (new:=flat es) rfl fun e he=>⟨by rw [JU (k4 e he)]; rfl,fun c hc=>by rw [JU (k4 e he),List.mem_singleton] at hc; rw [hc]; exact k4 e he⟩;rw [Od k4] at hr
   cases ha with
   | CN _ _=>omega
   | buf _ _ b cap CA =>
    obtain ⟨w',r1,r2,r3⟩:=hW.store (P:=P) CA ho (vs:=es) (us:=news) k1 (by omega) (by omega) k4 hr;refine ⟨goInt n,w', ?_,g,.int .i64 n,_,.refl g,k5,.int _ _,r2,r3⟩
    have Yb:=Kf w rfl;rw [hl] at Yb
    simp [Builtin.copy_,run_underlying h1,sizeOf,typeInfo,h2,hz,Builtin.lenOf,hl,Yb,r1]
theorem Z7 {w : World} (t ty e : TypeId) (i : TypeInfo) (ht : P.underlying t=some (.slice e)) (hi : P.info? e=some i)
  (b n cap : Nat) (cur : Array Value) (el : TypeId) (hg : w.heap[b]? = some (.cells cur el (0,0))) (ax : Option Addr) (m c : Nat) (news : List Value)
  (hf : (Builtin.firstCells i.size m (.slice ax m c)).run P w=.ok news.toArray w) (hl : news.length=m*i.size) (h1 : ∀ u∈news,u.oneCell'=true)
  (WC : n+m≤cap) (KX : n*i.size+news.length≤cur.size) :
  (Builtin.append_ #[t,t] ty #[.slice (some ⟨b,0,none⟩) n cap,.slice ax m c]).run P w =
   .ok (.slice (some ⟨b,0,none⟩) (n+m) cap) (w.setRow b (cur.toList.take (n*i.size)++news++cur.toList.drop (n*i.size+news.length)).toArray):=by
 have Td:=run_storeCells_at P b (n*i.size) el news 0 cur w hg (by simpa using KX) h1;simp only [Nat.add_zero] at Td
 simp [Builtin.append_,run_underlying ht,sizeOf,typeInfo,hi,Builtin.lenOf,WC,hf,Addr.add_lit,Td]
theorem Hx {w : World} (t ty e : TypeId) (i : TypeInfo) (z : Value) (ht : P.underlying t=some (.slice e)) (hi : P.info? e=some i) (hz : i.zero=some z)
  (s : Option Addr) (n cap : Nat) (olds : List Value) (ax : Option Addr) (m c : Nat) (news : List Value)
  (ho : (Builtin.firstCells i.size n (.slice s n cap)).run P w.drew=.ok olds.toArray w.drew)
  (hf : (Builtin.firstCells i.size m (.slice ax m c)).run P w.drew=.ok news.toArray w.drew)
  (hg : cap<n+m) (h63 : n+m≤AN) (hs : (n+m)*i.size≤AN) (hb : i.bytes≤128*i.size) :
  (Builtin.append_ #[t,t] ty #[.slice s n cap,.slice ax m c]).run P w =
   .ok (.slice (some ⟨w.heap.size,0,none⟩) (n+m) (grownCap w (n+m) cap e))
    (w.drew.alloc (.cells (olds.toArray++news.toArray++Builtin.zeroCells z.cells (grownCap w (n+m) cap e - (n+m))) e)):=by
 have hn : ¬ (n+m≤cap):=by omega
 have ye : ¬ (9223372036854775807<((n : Int)+(m : Int))):=by simp only [AN] at h63; omega
 have LX : (n+m)*i.bytes≤140737488355328:=by
  have h1 : (n+m)*i.bytes≤(n+m)*(128*i.size):=Nat.mul_le_mul_left _ hb
  have h2 : (n+m)*(128*i.size)=128*((n+m)*i.size):=by rw [Nat.mul_left_comm]
  simp only [AN] at hs;omega
 have yg : ¬ (281474976710656<Builtin.nextslicecap (n+m) cap*i.bytes):=by have:=growslice_fits hg LX; omega
 simp [Builtin.append_,run_underlying ht,sizeOf,typeInfo,zeroValue,hi,hz,Builtin.lenOf,hn,ye,yg,Question.forced,ho,hf,newRow,grownCap]
 congr 2
 apply Array.ext'
 simp
theorem Hm (hW : Ao g B H w) {H' : AA} (Dw : H'.sub H) (cap0 : Nat) (e : TypeId) (sz n m f : Nat) (cs new : List AV) (olds news : List Value) (z : Array Value)
  (h1 : olds.length=n*sz) (h2 : news.length=m*sz) (h3 : cs.length=n*sz) (h4 : new.length=m*sz) (hz : z.size=sz) (hm : (n+m)*sz≤AN)
  (ho : ∀ i,i<cs.length→Aa g (cs.getD i nv) (olds.getD i undef)) (hn : ∀ i,i<new.length→Aa g (new.getD i nv) (news.getD i undef)) (hf : f≤cs.length) {K : Ak}
  (hk : ∀ Bz,H.get Bz=none→K (.buf Bz (n+m)) (H'.set Bz (.cells sz (cs++new) f))) :
  Cz g B w K (.slice (some ⟨w.heap.size,0,none⟩) (n+m) (grownCap w (n+m) cap0 e))
   (w.drew.alloc (.cells (olds.toArray++news.toArray++Builtin.zeroCells z (grownCap w (n+m) cap0 e - (n+m))) e)):=by
 have RA:=grownCap_ge w (n+m) cap0 e
 obtain ⟨i,q1,q2⟩:=hW.fresh
 have hlen : (cs++new).length=(n+m)*sz:=by rw [List.length_append,h3,h4,Nat.add_mul]
 have CW : (olds.toArray++news.toArray++Builtin.zeroCells z (grownCap w (n+m) cap0 e - (n+m))).size=grownCap w (n+m) cap0 e*sz:=by
  simp only [Array.size_append,List.size_toArray,size_zeroCells,hz,h1,h2,← Nat.add_mul]
  congr 1
  omega
 have OK : (n+m)*sz≤grownCap w (n+m) cap0 e*sz:=Nat.mul_le_mul_right _ RA
 have hv : ∀ k,k<(cs++new).length→Aa g ((cs++new).getD k nv) ((olds.toArray++news.toArray++Builtin.zeroCells z (grownCap w (n+m) cap0 e - (n+m))).getD k undef):=by
  intro k Lw;rw [BN]
  have e1 : (olds.toArray++news.toArray++Builtin.zeroCells z (grownCap w (n+m) cap0 e - (n+m))).getD k undef=(olds++news).getD k undef:=by
   simp only [Array.getD_eq_getD_getElem?,gE];rw [Array.getElem?_append_left (by simp [h1,h2]; rw [hlen,Nat.add_mul] at Lw; omega)]
   simp
  rw [e1,BN]
  by_cases TS : k<cs.length
  ·rw [if_pos TS,if_pos (by omega)]; exact ho k TS
  ·rw [if_neg TS,if_neg (by omega),h3,h1];simp only [List.length_append] at Lw
   have:=hn (k - cs.length) (by omega);rw [h3] at this;exact this
 obtain ⟨k1,k2⟩:=(hW.drew.sub Dw).Ms i q1 (olds.toArray++news.toArray++Builtin.zeroCells z (grownCap w (n+m) cap0 e - (n+m))) e sz (grownCap w (n+m) cap0 e) (cs++new)
  (by rw [hlen]; exact hm) CW (by rw [hlen,CW]; exact OK) hv
 have hK:=hk i q2;refine ⟨_,_,_,k1,hK,.buf i (n+m) _ _ (Gh.DV _ _ _), ?_,((Below.refl B w).drew).alloc hW.base _⟩
 obtain ⟨hfz,TP,Ee,yc,x7,yC,Ux⟩:=k2;refine ⟨hfz,TP,fun j o ej=>?_, ?_, ?_,yC,Ux⟩
 ·by_cases hj : j=i
  ·subst hj
   simp at ej; subst ej
   obtain ⟨p,hp,hr⟩:=Ee j (.cells sz (cs++new) 0) (by simp);refine ⟨p,hp, ?_⟩;rw [Gh.DV] at hp; cases hp;simp only [Ah] at hr ⊢
   obtain ⟨a1,a2,a3,a4,a5⟩:=hr;exact ⟨a1,by rw [List.length_append]; omega,a3,fun o ho'=>a4 o (Nat.zero_le _),a5⟩
  ·exact Ee j o (by rw [AA.Aw _ _ hj] at ej ⊢; exact ej)
 ·intro a b' c c1 c2 Bg e1 e2
  have fix : ∀ x,((H'.set i (.cells sz (cs++new) f)).get x).isSome→((H'.set i (.cells sz (cs++new) 0)).get x).isSome:=by
   intro x hx
   by_cases Zo : x=i
   ·subst Zo; simp
   ·rw [AA.Aw _ _ Zo] at hx ⊢; exact hx
  exact yc a b' c c1 c2 Bg (fix _ e1) (fix _ e2)
 ·intro a b' c Bg e1 e2
  have fix : ∀ x,((H'.set i (.cells sz (cs++new) f)).get x).isSome→((H'.set i (.cells sz (cs++new) 0)).get x).isSome:=by
   intro x hx
   by_cases Zo : x=i
   ·subst Zo; simp
   ·rw [AA.Aw _ _ Zo] at hx ⊢; exact hx
  exact x7 a b' c Bg (fix _ e1) (fix _ e2)
theorem VL (hW : Ao g B H w) {H' : AA} (Dw : H'.sub H) (sz : Nat) {K : Ak} (hk : ∀ Bz,H.get Bz=none→K (.buf Bz 0) (H'.set Bz (.cells sz [] 0))) :
  Cz g B w K (.slice none 0 0) w:=by
 obtain ⟨i,q1,q2⟩:=hW.fresh
 obtain ⟨k1,k2⟩:=(hW.sub Dw).G4 i q1 .nil (.cells sz [] 0) (fun b hb=>by cases hb) (by simp [Ah]);exact ⟨_,_,_,k1,hk i q2,.CN i (Gh.DV _ _ _),k2,.refl B w⟩
theorem Qt (hW : Ao g B H w) {t ty : TypeId} {x : TypeId × TypeInfo} (he : BI P t=some x) {z : List AV} (hz : Be P x.1=some z) (hb : x.2.bytes≤128*x.2.size)
  {os ox : Option AV} {sv xv : AV} {s u : Value} (yT : os=some sv) (xp : ox=some xv) (hs : Aa g sv s) (hx : Aa g xv u) {K : Ak} (hk : Co x.2.size os ox K H) :
  ∃ v w',(Builtin.append_ #[t,t] ty #[s,u]).run P w=.ok v w'∧Cz g B w K v w':=by
 subst yT xp
 obtain ⟨h1,h2,h3⟩:=Bh he
 obtain ⟨i,zv,q1,q2,q3,q4,q5⟩:=CZ hz;rw [h2] at q1; cases q1
 cases hs <;> try (simp [Co] at hk; done)
 case A0 =>
  simp only [Co] at hk
  cases DA : C5 x.2.size (some xv) H with
  | none=>simp [DA,RN] at hk
  | some q =>
   obtain ⟨p,m,new⟩:=q;simp only [DA,RN] at hk
   obtain ⟨⟨m1,m2,hp⟩,hk⟩:=hk
   obtain ⟨ax,c,news,rfl,l1,l2,hr,HW,-,Kf⟩:=Ev (P:=P) hW hx DA hp
   rcases Nat.eq_zero_or_pos m with Zx | Zx
   ·subst Zx
    have Xj : new=[]:=List.eq_nil_of_length_eq_zero (by simpa using l2)
    have dM : news=[]:=List.eq_nil_of_length_eq_zero (by simpa using l1);subst Xj dM
    have Yb:=Kf w rfl;refine ⟨.slice none 0 0,w, ?_,VL hW (.refl H) x.2.size hk⟩
    simp [Builtin.append_,run_underlying h1,sizeOf,typeInfo,h2,Builtin.lenOf,Yb]
   ·have ho : (Builtin.firstCells x.2.size 0 (.slice none 0 0)).run P w.drew=.ok ([] : List Value).toArray w.drew:=by simp [Builtin.firstCells]
    have Xd:=Hx (P:=P) (w:=w) t ty x.1 x.2 zv h1 h2 q2 none 0 0 [] ax m c news ho (Kf w.drew rfl) (by omega) (by simpa using m1) (by simpa using m2) hb;refine ⟨_,_,Xd, ?_⟩;refine Hm hW (.refl H) 0 x.1 x.2.size 0 m 0 [] new [] news zv.cells (by simp) l1 (by simp) l2 q4 (by simpa using m2) (by simp) hr (by simp) ?_
    intro Bz GC
    simpa using hk Bz GC
 case Dg a0 =>
  simp only [Co] at hk
  cases DA : C5 x.2.size (some xv) H with
  | none=>simp [DA,YU] at hk
  | some q =>
   obtain ⟨p,m,new⟩:=q;simp only [DA,YU] at hk
   obtain ⟨⟨Zx,m1,m2,hp⟩,hk⟩:=hk
   obtain ⟨ax,c,news,rfl,l1,l2,hr,HW,-,Kf⟩:=Ev (P:=P) hW hx DA hp
   have ho : (Builtin.firstCells x.2.size 0 (.slice a0 0 0)).run P w.drew=.ok ([] : List Value).toArray w.drew:=by cases a0 <;> simp [Builtin.firstCells,loadCells,loadCellsFrom]
   have Xd:=Hx (P:=P) (w:=w) t ty x.1 x.2 zv h1 h2 q2 a0 0 0 [] ax m c news ho (Kf w.drew rfl) (by omega) (by simpa using m1) (by simpa using m2) hb;refine ⟨_,_,Xd, ?_⟩;refine Hm hW (.refl H) 0 x.1 x.2.size 0 m 0 [] new [] news zv.cells (by simp) l1 (by simp) l2 q4 (by simpa using m2) (by simp) hr (by simp) ?_
   intro Bz GC
   simpa using hk Bz GC
 case CN id CA =>
  simp only [Co] at hk
  cases hg : H.get id with
  | none=>simp [hg,Fh] at hk
  | some o =>
   cases o with
   | map ks vs=>simp [hg,Fh] at hk
   | cells sz' cs f =>
    cases DA : C5 x.2.size (some xv) H with
    | none=>simp [DA,hg,Fh] at hk
    | some q =>
     obtain ⟨p,m,new⟩:=q;simp only [DA,hg,Fh] at hk
     obtain ⟨⟨rfl,n1,n2,n3,hp⟩,hk⟩:=hk
     have Pe : cs=[]:=List.eq_nil_of_length_eq_zero (by simpa using n1);subst Pe
     obtain ⟨p0,aW,V4⟩:=hW.ob id _ hg;rw [CA] at aW; cases aW;simp only [Ah] at V4
     obtain ⟨-,rfl⟩:=V4
     have Dw : (H.del id).sub H:=fun k x e=>by
      by_cases hk : k=id
      ·subst hk; rw [AA.C1] at e; cases e
      ·rwa [AA.Bd _ hk] at e
     obtain ⟨ax,c,news,rfl,l1,l2,hr,HW,-,Kf⟩:=Ev (P:=P) hW hx DA hp
     rcases Nat.eq_zero_or_pos m with Zx | Zx
     ·subst Zx
      have Xj : new=[]:=List.eq_nil_of_length_eq_zero (by simpa using l2)
      have dM : news=[]:=List.eq_nil_of_length_eq_zero (by simpa using l1);subst Xj dM
      have Yb:=Kf w rfl;refine ⟨.slice none 0 0,w, ?_,VL hW Dw x.2.size (fun Bz GC=>by simpa using hk Bz GC)⟩
      simp [Builtin.append_,run_underlying h1,sizeOf,typeInfo,h2,Builtin.lenOf,Yb]
     ·have ho : (Builtin.firstCells x.2.size 0 (.slice none 0 0)).run P w.drew=.ok ([] : List Value).toArray w.drew:=by simp [Builtin.firstCells]
      have Xd:=Hx (P:=P) (w:=w) t ty x.1 x.2 zv h1 h2 q2 none 0 0 [] ax m c news ho (Kf w.drew rfl) (by omega) (by simpa using n2) (by simpa using n3) hb;refine ⟨_,_,Xd, ?_⟩;refine Hm hW Dw 0 x.1 x.2.size 0 m 0 [] new [] news zv.cells (by simp) l1 (by simp) l2 q4 (by simpa using n3) (by simp) hr (by simp) ?_
      intro Bz GC
      simpa using hk Bz GC
 case buf id n b cap CA =>
  simp only [Co] at hk
  cases hg : H.get id with
  | none=>simp [hg,Fh] at hk
  | some o =>
   cases o with
   | map ks vs=>simp [hg,Fh] at hk
   | cells sz' cs f =>
    cases DA : C5 x.2.size (some xv) H with
    | none=>simp [DA,hg,Fh] at hk
    | some q =>
     obtain ⟨p,m,new⟩:=q;simp only [DA,hg,Fh] at hk
     obtain ⟨⟨rfl,n1,n2,n3,hp⟩,hk⟩:=hk
     obtain ⟨ax,c,news,rfl,l1,l2,hr,HW,y7,Kf⟩:=Ev (P:=P) hW hx DA hp
     obtain ⟨cur,el,k5,hB,kf,km,k6,k7,k8⟩:=hW.obj CA hg
     have hlen : (cs++new).length=(n+m)*x.2.size:=by rw [List.length_append,n1,l2,Nat.add_mul]
     by_cases WC : n+m≤cap
     ·have hmul : (n+m)*x.2.size≤cap*x.2.size:=Nat.mul_le_mul_right _ WC
      have KX : n*x.2.size+news.length≤cur.size:=by rw [l1,k6,← Nat.add_mul]; exact hmul
      have Xd:=Z7 (P:=P) (w:=w) t ty x.1 x.2 h1 h2 b n cap cur el k5 ax m c news (Kf w rfl) l1 HW WC KX;refine ⟨_,_,Xd, ?_⟩
      have dT : Ao g B (H.set id (.cells x.2.size (cs++new) f)) (w.setRow b (cur.toList.take (n*x.2.size)++news++cur.toList.drop (n*x.2.size+news.length)).toArray):=by
       refine hW.write id b cap x.2.size cs _ f cur _ el hg CA k5 (setRow_heap w b cur _ el _ k5) (by simp [World.setRow]) (fun k hk=>setRow_other w b k _ hk) ?_ ?_ ?_ ?_ ?_ ?_
       ·simp; omega
       ·intro k Lw
        have : k<n*x.2.size:=by omega
        simp [List.getElem?_append,show k<min (n*x.2.size) cur.size by omega,this]
       ·simp; omega
       ·rw [hlen]; exact n3
       ·rw [hlen]; simp; omega
       ·intro k Lw;rw [BN]
        have e1 : ((cur.toList.take (n*x.2.size)++news++cur.toList.drop (n*x.2.size+news.length)).toArray).getD k undef =
          if k<n*x.2.size then cur.getD k undef else news.getD (k - n*x.2.size) undef:=by
         rw [hlen,Nat.add_mul] at Lw;simp only [Array.getD_eq_getD_getElem?,List.getElem?_toArray,gE]
         by_cases a1 : k<n*x.2.size
         ·rw [if_pos a1,List.append_assoc,List.getElem?_append_left (by simp; omega)]
          simp [a1]
         ·rw [if_neg a1,List.append_assoc,List.getElem?_append_right (by simp; omega),List.getElem?_append_left (by simp; omega)]
          simp [show min (n*x.2.size) cur.size=n*x.2.size by omega]
        rw [e1,n1]
        by_cases a1 : k<n*x.2.size
        ·rw [if_pos a1,if_pos a1]; exact k8 k (by omega)
        ·rw [if_neg a1,if_neg a1]; exact hr _ (by rw [hlen,Nat.add_mul] at Lw; omega)
      obtain ⟨i',e1,e2⟩:=hW.fresh
      obtain ⟨r1,r2⟩:=dT.rename id i' (.cells x.2.size (cs++new) f) (.GA b cap) (by simp) CA e1;refine ⟨_,_,_,r1,hk i' e2,.buf i' (n+m) b cap (Gh.DV _ _ _),r2.sub ?_,⟨rfl,rfl,rfl,by simp [World.setRow],fun k Lw=>setRow_other w b k _ (by omega),Nat.le_refl _⟩⟩
      intro k o e
      by_cases lI : k=i'
      ·subst lI; simpa using e
      ·rw [AA.Aw _ _ lI] at e ⊢
       by_cases k0 : k=id
       ·subst k0; rw [AA.C1] at e; cases e
       ·rw [AA.Bd _ k0] at e ⊢;rw [AA.Aw _ _ k0]; exact e
     ·have Dw : (H.del id).sub H:=fun k x e=>by
       by_cases hk : k=id
       ·subst hk; rw [AA.C1] at e; cases e
       ·rwa [AA.Bd _ hk] at e
      have ho : (Builtin.firstCells x.2.size n (.slice (some ⟨b,0,none⟩) n cap)).run P w.drew=.ok ((List.range (n*x.2.size)).map fun j=>cur.getD j undef).toArray w.drew:=by
       simp only [Builtin.firstCells];refine run_loadCells w.drew ⟨b,0,none⟩ _ _ fun j hj=>?_;rw [Addr.add_lit,Nat.zero_add]
       have : w.cell? ⟨b,j,none⟩=some (cur.getD j undef):=by rw [cell_of_row w b j cur el _ k5]; exact getD_some (by omega)
       simpa using this
      have Xd:=Hx (P:=P) (w:=w) t ty x.1 x.2 zv h1 h2 q2 (some ⟨b,0,none⟩) n cap _ ax m c news ho (Kf w.drew rfl) (by omega) n2 n3 hb;refine ⟨_,_,Xd, ?_⟩;refine Hm hW Dw cap x.1 x.2.size n m f cs new _ news zv.cells (by simp) l1 n1 l2 q4 n3 ?_ hr kf hk
      intro j hj
      have : ((List.range (n*x.2.size)).map fun j=>cur.getD j undef).getD j undef=cur.getD j undef:=by simp [gE,show j<n*x.2.size by omega]
      rw [this]; exact k8 j hj
 case Nj id n b cap CA =>
  simp only [Co] at hk
  cases hg : H.get id with
  | none=>simp [hg,MS] at hk
  | some o =>
   cases o with
   | map ks vs=>simp [hg,MS] at hk
   | cells sz' cs f =>
    cases DA : C5 x.2.size (some xv) H with
    | none=>simp [DA,hg,MS] at hk
    | some q =>
     obtain ⟨p,m,new⟩:=q;simp only [DA,hg,MS] at hk
     obtain ⟨⟨rfl,n1,n0,n2,n3,hp⟩,hk⟩:=hk
     obtain ⟨ax,c,news,rfl,l1,l2,hr,HW,y7,Kf⟩:=Ev (P:=P) hW hx DA hp
     obtain ⟨cur,el,k5,hB,kf,km,k6,k7,k8⟩:=hW.obj CA hg
     have ho : (Builtin.firstCells x.2.size n (.slice (some ⟨b,0,none⟩) n n)).run P w.drew=.ok ((List.range (n*x.2.size)).map fun j=>cur.getD j undef).toArray w.drew:=by
      simp only [Builtin.firstCells];refine run_loadCells w.drew ⟨b,0,none⟩ _ _ fun j hj=>?_;rw [Addr.add_lit,Nat.zero_add]
      have : w.cell? ⟨b,j,none⟩=some (cur.getD j undef):=by rw [cell_of_row w b j cur el _ k5]; exact getD_some (by omega)
      simpa using this
     have Xd:=Hx (P:=P) (w:=w) t ty x.1 x.2 zv h1 h2 q2 (some ⟨b,0,none⟩) n n _ ax m c news ho (Kf w.drew rfl) (by omega) n2 n3 hb;refine ⟨_,_,Xd, ?_⟩;refine Hm hW (.refl H) n x.1 x.2.size n m 0 cs new _ news zv.cells (by simp) l1 n1 l2 q4 n3 ?_ hr (Nat.zero_le _) hk
     intro j hj
     have : ((List.range (n*x.2.size)).map fun j=>cur.getD j undef).getD j undef=cur.getD j undef:=by simp [gE,show j<n*x.2.size by omega]
     rw [this]; exact k8 j hj
end
end Go.AW
namespace Go.AW
open Go.RowKit
section
variable {P : Program} {g : Gh} {B : Nat} {H : AA} {w : World}
theorem DU {b : Nat} {es : Array MapEntry} {clk : Nat} (h : w.heap[b]? = some (.map es clk)) : (getObj b).run P w=.ok (.map es clk) w:=by
 simp [getObj,Sem.run,h]
theorem HF {b : Nat} {es : Array MapEntry} {clk : Nat} (o : Obj) (h : w.heap[b]? = some (.map es clk)) :
  (setObj b o).run P w=.ok () { w with heap:=w.heap.setIfInBounds b o }:=by
 simp [setObj,Sem.run,h]
theorem LM (l l' : List UInt8) : ((⟨l.toArray⟩ : ByteArray) == ⟨l'.toArray⟩)=decide (l=l'):=by
 have h : ((⟨l.toArray⟩ : ByteArray) == ⟨l'.toArray⟩)=(l.toArray == l'.toArray):=rfl;rw [h,Bool.eq_iff_iff]
 simp
def G1 (s : Nat) : TypeDesc→Bool
 | .int _=>s == 0
 | .string=>s == 1
 | _=>false
def Mh (P : Program) (s : Nat) (kt : TypeId) : Prop:=∃ d,P.underlying kt=some d∧(G1 s d=true∨s=2∧∃ fs,d=.struct fs∧NM P kt fs=true)
theorem OG {s : Nat} {d : TypeDesc} (hd : G1 s d=true) {k a : AV} {kv av : Value} (hk : Aa g k kv) (ha : Aa g a av) (hl : k.BU s a=true) :
  Instr.sameNow d kv av=some (k.QH a):=by
 cases hk <;> try (simp [AV.BU] at hl; done)
 ·cases ha <;> try (simp [AV.BU] at hl; done)
  simp [AV.BU] at hl
  obtain ⟨rfl,rfl⟩:=hl
  cases d <;> simp [G1] at hd
  simp [Instr.sameNow,AV.QH];rw [Bool.eq_iff_iff]; simp
 ·cases ha <;> try (simp [AV.BU] at hl; done)
  simp [AV.BU] at hl;subst hl
  cases d <;> simp [G1] at hd
  rename_i l l'
  simp only [Instr.sameNow,AV.QH,Option.some.injEq];exact LM l l'
 ·exfalso
  have hs : s=2:=by
   unfold AV.BU at hl
   split at hl
   ·cases ‹AV.agg _=AV.int _ _›
   ·cases ‹AV.agg _=AV.str _›
   ·simp only [Bool.and_eq_true,beq_iff_eq] at hl; exact hl.1
   ·cases hl
  subst hs
  cases d <;> simp [G1] at hd
def BZ (k : AV) : List AV→Nat→Option Nat
 | [],_=>none
 | a::ks,i=>if k.QH a then some i else BZ k ks (i+1)
theorem J4 {s : Nat} {d : TypeDesc} (hd : G1 s d=true) {k : AV} {kv : Value} (hk : Aa g k kv) :
  ∀ (ks : List AV) (es : List MapEntry) (i : Nat),es.length=ks.length→(∀ j,j<ks.length→Aa g (ks.getD j nv) (es.getD j default).key)→(∀ a,a∈ks→k.BU s a=true) →
   Instr.findNow d kv es i=some ((BZ k ks i).map fun j=>(j,(es.getD (j - i) default).val))
 | [],[],i,_,_,_=>by simp [Instr.findNow,BZ]
 | [],_::_,_,h,_,_=>by simp at h
 | _::_,[],_,h,_,_=>by simp at h
 | a::ks,e::es,i,h,hr,hl=>by
  have h0:=hr 0 (by simp);simp only [List.getD_cons_zero] at h0
  have hs:=OG hd hk h0 (hl a (by simp));simp only [Instr.findNow,hs,BZ]
  cases hq : k.QH a with
  | true=>simp
  | false =>
   simp only [Bool.false_eq_true,if_false];rw [J4 hd hk ks es (i+1) (by simpa using h) (fun j hj=>by simpa using hr (j+1) (by simpa using hj)) (fun x hx=>hl x (by simp [hx]))]
   cases hm : BZ k ks (i+1) with
   | none=>simp
   | some j =>
    have : ∀ (l : List AV) (n j : Nat),BZ k l n=some j→n≤j:=by
     intro l
     induction l with
     | nil=>intro n j h; simp [BZ] at h
     | cons b l ih =>
      intro n j h;simp only [BZ] at h
      split at h
      ·cases h; omega
      ·have:=ih _ _ h; omega
    have hj:=this _ _ _ hm
    have e1 : j - i=(j - (i+1))+1:=by omega
    simp [e1]
theorem PO (k : AV) : ∀ (ks vs : List AV) (n : Nat),vs.length=ks.length→Hw k ks vs=(BZ k ks n).map fun j=>vs.getD (j - n) nv
 | [],vs,n,_=>by simp [Hw,BZ]
 | a::ks,[],n,h=>by simp at h
 | a::ks,v::vs,n,h=>by
  simp only [Hw,BZ]
  split
  ·simp
  ·rw [PO k ks vs (n+1) (by simpa using h)]
   cases hm : BZ k ks (n+1) with
   | none=>simp
   | some j =>
    have : ∀ (l : List AV) (n j : Nat),BZ k l n=some j→n≤j:=by
     intro l
     induction l with
     | nil=>intro n j h; simp [BZ] at h
     | cons b l ih =>
      intro n j h;simp only [BZ] at h
      split at h
      ·cases h; omega
      ·have:=ih _ _ h; omega
    have hj:=this _ _ _ hm
    have e1 : j - n=(j - (n+1))+1:=by omega
    simp [e1]
theorem Hl (k : AV) : ∀ (ks : List AV) (n j : Nat),BZ k ks n=some j→n≤j∧j<n+ks.length∧k.QH (ks.getD (j - n) nv)=true
 | [],n,j,h=>by simp [BZ] at h
 | a::ks,n,j,h=>by
  simp only [BZ] at h
  split at h
  ·rename_i hq; cases h; simp [hq]
  ·obtain ⟨h1,h2,h3⟩:=Hl k ks (n+1) j h
   have e1 : j - n=(j - (n+1))+1:=by omega
   refine ⟨by omega,by simp; omega,by rw [e1]; simpa using h3⟩
theorem Og (k x : AV) : ∀ (ks vs : List AV) (n : Nat),vs.length=ks.length →
  HT k x ks vs=match BZ k ks n with
   | some j=>(ks.set (j - n) k,vs.set (j - n) x)
   | none=>(ks++[k],vs++[x])
 | [],[],n,_=>by simp [HT,BZ]
 | [],_::_,n,h=>by simp at h
 | a::ks,[],n,h=>by simp at h
 | a::ks,v::vs,n,h=>by
  simp only [HT,BZ]
  split
  ·simp
  ·rw [Og k x ks vs (n+1) (by simpa using h)]
   cases hm : BZ k ks (n+1) with
   | none=>simp
   | some j =>
    obtain ⟨h1,_⟩:=Hl k ks (n+1) j hm
    have e1 : j - n=(j - (n+1))+1:=by omega
    simp [e1]
theorem FD {d : TypeDesc} {s : Nat} (hd : G1 s d=true) {t : TypeId} (ht : P.underlying t=some d) (em : Bool) (n : Nat) (v : Value) : (Instr.checkKey em (n+1) t v).run P w=.ok () w:=by
 unfold Instr.checkKey;simp only [Sem.run_bind,run_underlying ht,Result.andThen_ok]
 cases d <;> simp [G1] at hd <;> rfl
theorem OJ {kt : TypeId} {fs : Array Field} (ht : P.underlying kt=some (.struct fs)) (hp : NM P kt fs=true) (em : Bool) (n : Nat) (k1 k2 : IntKind) (a b : Int) :
  (Instr.checkKey em (n+2) kt (.agg #[.int k1 a,.int k2 b])).run P w=.ok () w:=by
 simp only [NM,Bool.and_eq_true,beq_iff_eq] at hp
 obtain ⟨⟨hi,hs⟩,h2⟩:=hp
 obtain ⟨l⟩:=fs
 match l,h2 with
 | [f0,f1],_ =>
  simp only [EC,Bool.and_eq_true,beq_iff_eq,bne_iff_ne,ne_eq] at hi
  obtain ⟨⟨⟨⟨xm,xk⟩,Nq⟩,Xj⟩,⟨⟨⟨HW,zg⟩,hz1⟩,dM⟩,-⟩:=hi
  have e0 : ∃ k,P.underlying f0.type=some (.int k):=by split at xk <;> simp_all
  have e1 : ∃ k,P.underlying f1.type=some (.int k):=by split at zg <;> simp_all
  obtain ⟨q0,e0⟩:=e0
  obtain ⟨q1,e1⟩:=e1
  have c0 : ∀ v,(Instr.checkKey em (n+1) f0.type v).run P w=.ok () w:=fun v=>FD (s:=0) (d:=.int q0) rfl e0 em n v
  have c1 : ∀ v,(Instr.checkKey em (n+1) f1.type v).run P w=.ok () w:=fun v=>FD (s:=0) (d:=.int q1) rfl e1 em n v;unfold Instr.checkKey;simp only [Sem.run_bind,run_underlying ht,Result.andThen_ok]
  simp [Xj,dM,xm,HW,part,isAgg,run_underlying e0,run_underlying e1,c0,c1]
theorem Gf {k a : AV} {kv av : Value} (hk : Aa g k kv) (ha : Aa g a av) (hl : k.BU 2 a=true) :
  ∃ k1 k2 x1 x2 y1 y2,k=.agg [.int k1 x1,.int k2 x2]∧a=.agg [.int k1 y1,.int k2 y2]∧kv=.agg #[.int k1 x1,.int k2 x2]∧av=.agg #[.int k1 y1,.int k2 y2]:=by
 unfold AV.BU at hl
 split at hl
 ·simp at hl
 ·simp at hl
 ·rename_i k1 x1 k2 x2 l1 y1 l2 y2
  simp only [Bool.and_eq_true,beq_iff_eq,decide_eq_true_eq,true_and] at hl
  obtain ⟨rfl,rfl⟩:=hl;refine ⟨k1,k2,x1,x2,y1,y2,rfl,rfl, ?_, ?_⟩
  ·cases hk
   rename_i vs hs TL
   have q0:=TL 0 (by simp)
   have q1:=TL 1 (by simp)
   obtain ⟨l⟩:=vs
   match l,hs with
   | [z0,z1],_=>simp at q0 q1; cases q0; cases q1; rfl
  ·cases ha
   rename_i vs hs TL
   have q0:=TL 0 (by simp)
   have q1:=TL 1 (by simp)
   obtain ⟨l⟩:=vs
   match l,hs with
   | [z0,z1],_=>simp at q0 q1; cases q0; cases q1; rfl
 ·cases hl
theorem KL {s : Nat} {kt : TypeId} (hd : Mh P s kt) {k : AV} {kv : Value} (hk : Aa g k kv) (hl : k.BU s k=true) (em : Bool) : (Instr.checkKey em 10000 kt kv).run P w=.ok () w:=by
 obtain ⟨d,hu,hd | ⟨rfl,fs,rfl,hp⟩⟩:=hd
 ·exact FD hd hu em 9999 kv
 ·obtain ⟨k1,k2,x1,x2,y1,y2,rfl,-,rfl,-⟩:=Gf hk hk hl;exact OJ hu hp em 9998 k1 k2 x1 x2
theorem Hc {kt : TypeId} {fs : Array Field} (ht : P.underlying kt=some (.struct fs)) (hp : NM P kt fs=true) {k : AV} {kv : Value} (hk : Aa g k kv) :
  ∀ (ks : List AV) (es : List MapEntry) (i : Nat),es.length=ks.length→(∀ j,j<ks.length→Aa g (ks.getD j nv) (es.getD j default).key)→(∀ a,a∈ks→k.BU 2 a=true) →
   (Instr.findAsking kt kv es i).run P w=.ok ((BZ k ks i).map fun j=>(j,(es.getD (j - i) default).val)) w
 | [],[],i,_,_,_=>by simp [Instr.findAsking,BZ]
 | [],_::_,_,h,_,_=>by simp at h
 | _::_,[],_,h,_,_=>by simp at h
 | a::ks,e::es,i,h,hr,hl=>by
  have h0:=hr 0 (by simp);simp only [List.getD_cons_zero] at h0
  have Nv:=hp;simp only [NM,Bool.and_eq_true,beq_iff_eq,Bool.not_eq_true'] at Nv
  obtain ⟨⟨hi,hs⟩,h2⟩:=Nv
  obtain ⟨k1,k2,x1,x2,y1,y2,e1,e2,e3,e4⟩:=Gf hk h0 (hl a (by simp))
  have heq : (Op.equal kt kv e.key).run P w=.ok (k.QH a) w:=by
   rw [e1,e2,e3,e4];exact Sx ht hi hs h2 k1 k2 x1 x2 y1 y2
  simp only [Instr.findAsking,Sem.run_bind,heq,Result.andThen_ok,BZ]
  cases hq : k.QH a with
  | true=>simp
  | false =>
   simp only [Bool.false_eq_true,if_false];rw [Hc ht hp hk ks es (i+1) (by simpa using h) (fun j hj=>by simpa using hr (j+1) (by simpa using hj)) (fun x hx=>hl x (by simp [hx]))]
   cases hm : BZ k ks (i+1) with
   | none=>simp
   | some j =>
    have hj:=(Hl k ks (i+1) j hm).1
    have e1 : j - i=(j - (i+1))+1:=by omega
    simp [e1]
theorem SL {s : Nat} {kt : TypeId} (hd : Mh P s kt) {k : AV} {kv : Value} (hk : Aa g k kv) (ks : List AV) (es : List MapEntry) (hl : es.length=ks.length)
  (hr : ∀ j,j<ks.length→Aa g (ks.getD j nv) (es.getD j default).key) (Nd : ∀ a,a∈ks→k.BU s a=true) :
  (Instr.findKey kt kv es).run P w=.ok ((BZ k ks 0).map fun j=>(j,(es.getD j default).val)) w:=by
 obtain ⟨d,hu,hd | ⟨rfl,fs,rfl,hp⟩⟩:=hd
 ·have TT:=J4 (g:=g) hd hk ks es 0 hl hr Nd;simp only [Nat.sub_zero] at TT;simp only [Instr.findKey,Sem.run_bind,run_underlying hu,Result.andThen_ok,TT,Sem.run_pure]
 ·have Nk:=Hc (w:=w) hu hp hk ks es 0 hl hr Nd;simp only [Nat.sub_zero] at Nk
  match ks,es,hl with
  | [],[],_=>simp [Instr.findKey,run_underlying hu,Instr.findNow,BZ]
  | a::ks,e::es,_ =>
   have h0:=hr 0 (by simp);simp only [List.getD_cons_zero] at h0
   obtain ⟨k1,k2,x1,x2,y1,y2,e1,e2,e3,e4⟩:=Gf hk h0 (Nd a (by simp))
   have hn : Instr.findNow (.struct fs) kv (e::es) 0=none:=by rw [e3]; simp [Instr.findNow,Instr.sameNow]
   simp only [Instr.findKey,Sem.run_bind,run_underlying hu,Result.andThen_ok,hn,Nk]
theorem JT {t kt et : TypeId} (ht : P.underlying t=some (.map kt et)) {s : Nat} (hd : Mh P s kt) {zi : TypeInfo} {zv : Value}
  (hi : P.info? et=some zi) (hz : zi.zero=some zv) {k : AV} {kv : Value} (hk : Aa g k kv) (ks vs : List AV) (es : Array MapEntry) (hl : es.size=ks.length)
  (hr : ∀ j,j<ks.length→Aa g (ks.getD j nv) (es.getD j default).key) (PY : k.BU s k=true) (Nd : ∀ a,a∈ks→k.BU s a=true) (m : Option Nat) (ok : Bool)
  (hm : (match m with | none=>es=#[] | some b=>∃ clk,w.heap[b]? = some (.map es clk))) :
  (Instr.lookup t (.map m) kv ok).run P w=.ok (if ok then .tuple #[((BZ k ks 0).map fun j=>(es.getD j default).val).getD zv,.bool (BZ k ks 0).isSome]
   else ((BZ k ks 0).map fun j=>(es.getD j default).val).getD zv) w:=by
 have TT:=SL (w:=w) hd hk ks es.toList (by simpa using hl) (fun j hj=>by simpa using hr j hj) Nd
 have Zq : ∀ em,(Instr.checkKey em 10000 kt kv).run P w=.ok () w:=fun em=>KL hd hk PY em;unfold Instr.lookup;simp only [Sem.run_bind,run_underlying ht,Result.andThen_ok]
 cases m with
 | none =>
  simp only at hm;subst hm
  have hks : ks=[]:=List.eq_nil_of_length_eq_zero (by simpa using hl.symm);subst hks;simp only [Sem.run_pure,Result.andThen_ok,Zq,Sem.run_bind,TT]
  simp [BZ,zeroValue,typeInfo,hi,hz]
 | some b =>
  obtain ⟨clk,hb⟩:=hm;simp only [Sem.run_bind,DU hb,Sem.run_pure,Result.andThen_ok,Zq,TT]
  cases hq : BZ k ks 0 with
  | none=>simp [zeroValue,typeInfo,hi,hz]
  | some j=>simp
theorem Px {ok : Bool} {zero : AV} {zv : Value} (hz : Aa g zero zv) {k : AV} {ks vs : List AV} {es : Array MapEntry} (h2 : vs.length=ks.length)
  (hv : ∀ i,i<ks.length→Aa g (vs.getD i nv) (es.getD i default).val) :
  Aa g (eJ ok zero (Hw k ks vs)) (if ok then .tuple #[((BZ k ks 0).map fun j=>(es.getD j default).val).getD zv,.bool (BZ k ks 0).isSome]
   else ((BZ k ks 0).map fun j=>(es.getD j default).val).getD zv):=by
 rw [PO k ks vs 0 h2]
 have gD : Aa g (((BZ k ks 0).map fun j=>vs.getD (j - 0) nv).getD zero) (((BZ k ks 0).map fun j=>(es.getD j default).val).getD zv):=by
  cases hq : BZ k ks 0 with
  | none=>simpa using hz
  | some j =>
   obtain ⟨_,h1,_⟩:=Hl k ks 0 j hq
   simpa using hv j (by omega)
 cases ok with
 | false=>simpa [eJ] using gD
 | true =>
  simp only [eJ,if_true];refine .CQ _ _ rfl fun i hi=>?_
  match i,hi with
  | 0,_=>exact gD
  | 1,_=>simp only [List.getD_cons_succ,List.getD_cons_zero,Option.isSome_map]; exact .bool _
theorem Pp (hW : Ao g B H w) {t kt et : TypeId} (ht : P.underlying t=some (.map kt et)) {s : Nat} (hd : Mh P s kt) {z : AV}
  (hz : zeroOf P et=some z) {om ok' : Option AV} {mv kv : AV} {m k : Value} (sC : om=some mv) (lG : ok'=some kv) (hm : Aa g mv m) (Zw : Aa g kv k) (ok : Bool) {K : Ak}
  (hk : VA s ok z om ok' K H) : ∃ u,(Instr.lookup t m k ok).run P w=.ok u w∧Cz g B w K u w:=by
 subst sC lG
 obtain ⟨zi,zv,q1,q2,q3⟩ : ∃ zi zv,P.info? et=some zi∧zi.zero=some zv∧Ks zv=some z:=by
  unfold zeroOf at hz
  split at hz
  ·rename_i zi hi
   split at hz
   ·rename_i zv hzv
    exact ⟨zi,zv,hi,hzv,hz⟩
   ·cases hz
  ·cases hz
 have yb : Aa g z zv:=JE q3
 cases hm <;> try (simp [VA] at hk; done)
 case KS =>
  simp only [VA] at hk
  obtain ⟨⟨k1,k2⟩,hk⟩:=hk;exact ⟨_,JT (P:=P) ht hd q1 q2 Zw [] [] #[] rfl (by simp) k1 (by simp) none ok rfl,.same hW (Px yb rfl (by simp)) hk⟩
 case CS ks vs b es h h1 h2 M0 hvv =>
  simp only [VA] at hk
  obtain ⟨⟨k1,k2⟩,hk⟩:=hk;exact ⟨_,JT (P:=P) ht hd q1 q2 Zw ks vs es h1 M0 k1 k2 (some b) ok (hW.fm b es h),.same hW (Px yb h2 hvv) hk⟩
 case Fa id b CA =>
  simp only [VA] at hk
  cases hg : H.get id with
  | none=>simp [hg,mJ] at hk
  | some o =>
   cases o with
   | cells _ _ _=>simp [hg,mJ] at hk
   | map ks vs =>
    simp only [hg,mJ] at hk
    obtain ⟨⟨k1,k2⟩,hk⟩:=hk
    obtain ⟨p,hp,hr⟩:=hW.ob id _ hg;rw [CA] at hp; cases hp;simp only [Ah] at hr
    obtain ⟨_,_,es,clk,h5,h6,h7,h8,h9⟩:=hr;exact ⟨_,JT (P:=P) ht hd q1 q2 Zw ks vs es h6 h8 k1 k2 (some b) ok ⟨clk,h5⟩,.same hW (Px yb h7 h9) hk⟩
end
end Go.AW
namespace Go.AW
open Go.RowKit
section
variable {P : Program} {g : Gh} {B : Nat} {H : AA} {w : World}
theorem Ao.T5 (h : Ao g B H w) (i b : Nat) (ks vs ks' vs' : List AV) (es es' : Array MapEntry) (clk clk' : Nat)
  (hi : H.get i=some (.map ks vs)) (hp : g.io i=some (.mp b)) (hb : w.heap[b]? = some (.map es clk))
  (hs : es'.size=ks'.length) (hl : vs'.length=ks'.length) (hk : ∀ j,j<ks'.length→Aa g (ks'.getD j nv) (es'.getD j default).key)
  (hv : ∀ j,j<ks'.length→Aa g (vs'.getD j nv) (es'.getD j default).val) :
  Ao g B (H.set i (.map ks' vs')) { w with heap:=w.heap.setIfInBounds b (.map es' clk') }∧Below B w { w with heap:=w.heap.setIfInBounds b (.map es' clk') }:=by
 obtain ⟨p,Nv,hr⟩:=h.ob i _ hi;rw [hp] at Nv; cases Nv;simp only [Ah] at hr
 obtain ⟨h1,h2,es0,clk0,h5,h6,h7,h8,h9⟩:=hr
 have zu : b<w.heap.size:=(Array.getElem?_eq_some_iff.1 hb).1
 have ho : ∀ k,k≠b→(w.heap.setIfInBounds b (.map es' clk'))[k]? = w.heap[k]? := fun k hk=>by rw [Array.getElem?_setIfInBounds_ne (by omega)]
 have dW : (w.heap.setIfInBounds b (.map es' clk'))[b]? = some (.map es' clk'):=by simp [zu]
 have CU : ∀ j,((H.set i (.map ks' vs')).get j).isSome→(H.get j).isSome:=by
  intro j hj
  by_cases e : j=i
  ·subst e; simp [hi]
  ·rwa [AA.Aw _ _ e] at hj
 refine ⟨?_,⟨rfl,rfl,rfl,by simp,fun k hk=>ho k (by omega),Nat.le_refl _⟩⟩
 constructor
 ·intro b' o v e
  have hc:=h.fz _ _ _ e
  have : b'≠b:=by
   rintro rfl
   simp [World.cell?,hb] at hc
  rw [World.cell?_of_block (w:=w) (a:=⟨b',o,none⟩) (ho b' this)]; exact hc
 ·intro b' es'' e
  obtain ⟨clk'',hc⟩:=h.fm b' es'' e
  have : b'≠b:=by rintro rfl; simp [h2] at e
  exact ⟨clk'',by rw [← hc]; exact ho b' this⟩
 ·intro j o e
  by_cases hj : j=i
  ·subst hj
   simp at e; subst e;refine ⟨.mp b,hp, ?_⟩;simp only [Ah];exact ⟨h1,h2,es',clk',dW,hs,hl,hk,hv⟩
  ·rw [AA.Aw _ _ hj] at e
   obtain ⟨q,hq,L6⟩:=h.ob j o e;refine ⟨q,hq,L6.BF (Gh.le.refl g) (fun b'' hb''=>ho b'' ?_) (fun _ _ _ h=>h) (fun _ _ h=>h)⟩
   rintro rfl
   cases q with
   | nil=>cases hb''
   | mp b2=>cases hb''; exact h.G9 j i _ hj (by simp [e]) (by simp [hi]) hq hp
   | GA b2 c2 =>
    cases hb''
    cases o with
    | map _ _=>simp [Ah] at L6
    | cells _ _ _ =>
     simp only [Ah] at L6
     obtain ⟨_,_,_,_,c,el,W9,_⟩:=L6;rw [hb] at W9; cases W9
 ·intro j k b2 c2 c3 Bg e1 e2;exact h.inj j k b2 c2 c3 Bg (CU j e1) (CU k e2)
 ·intro j k b2 Bg e1 e2;exact h.G9 j k b2 Bg (CU j e1) (CU k e2)
 ·simpa using h.base
 ·exact h.fin
theorem YQ {s : Nat} {k a : AV} {kv av : Value} (hk : Aa g k kv) (ha : Aa g a av) (hl : k.BU s a=true) (he : k.QH a=true) : kv=av∧Instr.sameBits 10000 av kv=true:=by
 cases hk <;> try (simp [AV.BU] at hl; done)
 ·cases ha <;> try (simp [AV.BU] at hl; done)
  simp [AV.BU] at hl
  simp [AV.QH] at he
  obtain ⟨rfl,rfl⟩:=hl;subst he;exact ⟨rfl,by simp [Instr.sameBits]⟩
 ·cases ha <;> try (simp [AV.BU] at hl; done)
  simp [AV.QH] at he;subst he;exact ⟨rfl,by simp [Instr.sameBits,LM]⟩
 ·have hs : s=2:=by
   unfold AV.BU at hl
   split at hl
   ·cases ‹AV.agg _=AV.int _ _›
   ·cases ‹AV.agg _=AV.str _›
   ·simp only [Bool.and_eq_true,beq_iff_eq] at hl; exact hl.1
   ·cases hl
  subst hs
  rename_i cs vs dY C0
  obtain ⟨k1,k2,x1,x2,y1,y2,e1,e2,e3,e4⟩:=Gf (.agg cs vs dY C0) ha hl;rw [e1,e2] at he;simp only [AV.QH,Bool.and_eq_true,decide_eq_true_eq] at he
  obtain ⟨rfl,rfl⟩:=he;rw [e3,e4];exact ⟨rfl,by simp [Instr.sameBits]⟩
theorem QP (hW : Ao g B H w) {t kt et : TypeId} (ht : P.underlying t=some (.map kt et)) {s : Nat} (hd : Mh P s kt)
  {om ok' ox : Option AV} {mv kv xv : AV} {m k x : Value} (sC : om=some mv) (lG : ok'=some kv) (xp : ox=some xv) (hm : Aa g mv m) (Zw : Aa g kv k) (hxv : Aa g xv x) {K : Ak}
  (hk : bW s om ok' ox K H) : ∃ w',(Instr.mapUpdate t m k x).run P w=.ok () w'∧Cz g B w K undef w':=by
 subst sC lG xp
 cases hm <;> try (simp [bW] at hk; done)
 rename_i id b CA
 simp only [bW] at hk
 cases hg : H.get id with
 | none=>simp [hg,nC] at hk
 | some o =>
  cases o with
  | cells _ _ _=>simp [hg,nC] at hk
  | map ks vs =>
   simp only [hg,nC] at hk
   obtain ⟨⟨k1,k2⟩,hk⟩:=hk
   obtain ⟨p,hp,hr⟩:=hW.ob id _ hg;rw [CA] at hp; cases hp;simp only [Ah] at hr
   obtain ⟨_,_,es,clk,h5,h6,h7,h8,h9⟩:=hr
   have TT:=SL (P:=P) (w:=w) (g:=g) hd Zw ks es.toList (by simpa using h6) (fun j hj=>by simpa using h8 j hj) k2
   have Zq:=KL (P:=P) (w:=w) (g:=g) hd Zw k1 false
   have OS:=Og kv xv ks vs 0 h7
   cases hq : BZ kv ks 0 with
   | none =>
    simp only [hq,Option.map_none] at OS TT;refine ⟨_,by simp [Instr.mapUpdate,run_underlying ht,DU h5,Zq,TT,HF _ h5]; rfl, ?_⟩
    obtain ⟨r1,r2⟩:=hW.T5 id b ks vs (ks++[kv]) (vs++[xv]) es (es.push { key:=k,val:=x,born:=clk }) clk (clk+1) hg CA h5 (by simp [h6]) (by simp [h7])
     (fun j hj=>by
      rw [BN]
      by_cases aV : j<ks.length
      ·rw [if_pos aV]
       have : (es.push { key:=k,val:=x,born:=clk }).getD j default=es.getD j default:=by
        simp only [Array.getD_eq_getD_getElem?]; rw [Array.getElem?_push_lt (by omega)]; simp [show j<es.size by omega]
       rw [this]; exact h8 j aV
      ·have Ng : j=ks.length:=by simp at hj; omega
       subst Ng;rw [if_neg aV]
       have : (es.push { key:=k,val:=x,born:=clk }).getD ks.length default={ key:=k,val:=x,born:=clk }:=by
        simp [Array.getD_eq_getD_getElem?,← h6]
       rw [this]; simpa using Zw)
     (fun j hj=>by
      rw [BN,h7]
      by_cases aV : j<ks.length
      ·rw [if_pos aV]
       have : (es.push { key:=k,val:=x,born:=clk }).getD j default=es.getD j default:=by
        simp only [Array.getD_eq_getD_getElem?]; rw [Array.getElem?_push_lt (by omega)]; simp [show j<es.size by omega]
       rw [this]; exact h9 j aV
      ·have Ng : j=ks.length:=by simp at hj; omega
       subst Ng;rw [if_neg aV]
       have : (es.push { key:=k,val:=x,born:=clk }).getD ks.length default={ key:=k,val:=x,born:=clk }:=by
        simp [Array.getD_eq_getD_getElem?,← h6]
       rw [this]; simpa using hxv)
    rw [OS] at hk;exact ⟨g,nv,_,.refl g,hk,.CQ [] #[] rfl (fun i hi=>by simp at hi),r1,r2⟩
   | some i =>
    obtain ⟨-,q2,q3⟩:=Hl kv ks 0 i hq;simp only [Nat.zero_add,Nat.sub_zero] at q2 q3;simp only [hq,Nat.sub_zero,Option.map_some] at OS TT
    have Nd : kv.BU s (ks.getD i nv)=true:=k2 _ (by simp [gE,q2])
    obtain ⟨e1,e2⟩:=YQ Zw (h8 i q2) Nd q3
    obtain ⟨ent,yy,lV⟩ : ∃ ent,es[i]? = some ent∧es.getD i default=ent:=⟨es.getD i default,by simp [Array.getD,show i<es.size by omega],rfl⟩;rw [lV] at e1 e2
    have zh : (Instr.keyThatStays ent.key k).run P w=.ok k w:=by
     unfold Instr.keyThatStays;rw [if_pos e2]; rfl
    refine ⟨_,by simp [Instr.mapUpdate,run_underlying ht,DU h5,Zq,TT,yy,zh,HF _ h5]; rfl, ?_⟩
    obtain ⟨r1,r2⟩:=hW.T5 id b ks vs (ks.set i kv) (vs.set i xv) es (es.modify i fun e=>{ e with key:=k,val:=x }) clk clk hg CA h5 (by simp [h6]) (by simp [h7])
     (fun j hj=>by
      simp only [List.length_set] at hj
      by_cases yK : j=i
      ·subst yK
       have : (es.modify j fun e=>{ e with key:=k,val:=x }).getD j default={ (es.getD j default) with key:=k,val:=x }:=by
        rw [lV,Array.getD_eq_getD_getElem?,Array.getElem?_modify,if_pos rfl,yy]; rfl
       rw [this]; simp [gE,hj]; exact Zw
      ·have : (es.modify i fun e=>{ e with key:=k,val:=x }).getD j default=es.getD j default:=by
        simp [Array.getD_eq_getD_getElem?,Array.getElem?_modify,Ne.symm yK]
       rw [this]
       have : (ks.set i kv).getD j nv=ks.getD j nv:=by simp only [gE]; rw [List.getElem?_set_ne (by omega)]
       rw [this]; exact h8 j hj)
     (fun j hj=>by
      simp only [List.length_set] at hj
      by_cases yK : j=i
      ·subst yK
       have : (es.modify j fun e=>{ e with key:=k,val:=x }).getD j default={ (es.getD j default) with key:=k,val:=x }:=by
        rw [lV,Array.getD_eq_getD_getElem?,Array.getElem?_modify,if_pos rfl,yy]; rfl
       rw [this]; simp [gE,hj,h7]; exact hxv
      ·have : (es.modify i fun e=>{ e with key:=k,val:=x }).getD j default=es.getD j default:=by
        simp [Array.getD_eq_getD_getElem?,Array.getElem?_modify,Ne.symm yK]
       rw [this]
       have : (vs.set i xv).getD j nv=vs.getD j nv:=by simp only [gE]; rw [List.getElem?_set_ne (by omega)]
       rw [this]; exact h9 j hj)
    rw [OS] at hk;exact ⟨g,nv,_,.refl g,hk,.CQ [] #[] rfl (fun i hi=>by simp at hi),r1,r2⟩
end
end Go.AW
