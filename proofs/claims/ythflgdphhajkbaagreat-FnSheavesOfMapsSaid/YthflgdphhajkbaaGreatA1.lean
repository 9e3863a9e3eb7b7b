/- Abstract values and an abstract heap, their relation to the worlds of the model, operations on them. -/
import Derived.Below
import Derived.KernelRfl
import Derived.Laws.Cells
import Derived.Laws.Build
import Derived.Laws.World
import Derived.Laws.Slices
import Derived.Laws.AppendOwn
import Derived.Laws.MakeOwn
import Derived.Calls
import Derived.WalkKit
import Derived.Laws.IdiomRangeMap
set_option linter.unusedVariables false
set_option linter.unusedSimpArgs false
set_option linter.unusedSectionVars false
namespace Go.AW
theorem gE {α : Type _} {l : List α} {i : Nat} {a : α} : l.getD i a=(l[i]?).getD a:=List.getD_eq_getElem?_getD
open Go.RowKit
structure Below (B : Nat) (w w' : World) : Prop where
 os : w'.os=w.os
 tape : w'.tape=w.tape
 output : w'.output=w.output
 size : w.heap.size≤w'.heap.size
 block : ∀ k,k<B→w'.heap[k]? = w.heap[k]?
 drawn : w.drawn≤w'.drawn
theorem Below.refl (B : Nat) (w : World) : Below B w w:=⟨rfl,rfl,rfl,Nat.le_refl _,fun _ _=>rfl,Nat.le_refl _⟩
theorem Below.trans {B : Nat} {a b c : World} (h : Below B a b) (k : Below B b c) : Below B a c :=
 ⟨k.os.trans h.os,k.tape.trans h.tape,k.output.trans h.output,Nat.le_trans h.size k.size,fun i hi=>(k.block i hi).trans (h.block i hi),Nat.le_trans h.drawn k.drawn⟩
theorem Below.drew {B : Nat} {a w : World} (h : Below B a w) : Below B a w.drew:=⟨h.os,h.tape,h.output,h.size,h.block,Nat.le_trans h.drawn (Nat.le_succ _)⟩
theorem Below.heap_alloc (w : World) (o : Obj) (k : Nat) (h : k<w.heap.size) : (w.alloc o).heap[k]? = w.heap[k]? := by
 exact Go.RowKit.Below.heap_alloc w o k h
theorem Below.alloc {B : Nat} {a w : World} (h : Below B a w) (hB : B≤w.heap.size) (o : Obj) : Below B a (w.alloc o) :=
 ⟨h.os,h.tape,h.output,((Go.RowKit.Below.refl B w).alloc hB o).size |> Nat.le_trans h.size,fun k hk=>(Below.heap_alloc w o k (by omega)).trans (h.block k hk),h.drawn⟩
inductive AV where
 | bool (b : Bool)
 | int (k : IntKind) (n : Int)
 | str (l : List UInt8)
 | Gk
 | ptr (cs : List AV)
 | ref (id off : Nat)
 | GY (cs : List AV) (id : Nat)
 | A1
 | FI
 | sl (es : List AV)
 | buf (id n : Nat)
 | sub (id off n : Nat)
 | V7 (n : Nat)
 | IH (ks vs : List AV)
 | GX (id : Nat)
 | fn (f : Fn) (ca : List AV)
 | Pq
 | RM (t : TypeId) (v : AV)
 | T3
 | agg (cs : List AV)
 | CK (vs : List AV)
 deriving Inhabited
def AV.cells : AV→List AV
 | .agg cs=>cs
 | v=>[v]
abbrev nv : AV:=.CK []
def AK : Nat:=1099511627776
inductive Place where
 | nil
 | HE (b cap : Nat)
 | mp (b : Nat)
structure Gh where
 fz : Nat→Nat→Option Value
 fm : Nat→Option (Array MapEntry)
 io : Nat→Option Place
structure Gh.le (g g' : Gh) : Prop where
 fz : ∀ b o v,g.fz b o=some v→g'.fz b o=some v
 fm : ∀ b v,g.fm b=some v→g'.fm b=some v
 io : ∀ i p,g.io i=some p→g'.io i=some p
theorem Gh.le.refl (g : Gh) : g.le g:=⟨fun _ _ _ h=>h,fun _ _ h=>h,fun _ _ h=>h⟩
theorem Gh.le.trans {a b c : Gh} (h : a.le b) (k : b.le c) : a.le c :=
 ⟨fun x y z e=>k.fz x y z (h.fz x y z e),fun x y e=>k.fm x y (h.fm x y e),fun x y e=>k.io x y (h.io x y e)⟩
inductive Ad (g : Gh) : AV→Value→Prop
 | bool (b : Bool) : Ad g (.bool b) (.bool b)
 | int (k : IntKind) (n : Int) : Ad g (.int k n) (.int k n)
 | str (l : List UInt8) : Ad g (.str l) (.string ⟨l.toArray⟩)
 | Gk : Ad g .Gk (.pointer none)
 | ptr (cs : List AV) (b o : Nat) (vs : Nat→Value)
   (hf : ∀ i,i<cs.length→g.fz b (o+i)=some (vs i))
   (hv : ∀ i,i<cs.length→Ad g (cs.getD i nv) (vs i)) : Ad g (.ptr cs) (.pointer (some ⟨b,o,none⟩))
 | ref (id off b cap : Nat) (h : g.io id=some (.HE b cap)) : Ad g (.ref id off) (.pointer (some ⟨b,off,none⟩))
 | GY (cs : List AV) (id b cap : Nat) (vs : Nat→Value) (h : g.io id=some (.HE b cap))
   (hf : ∀ i,i<cs.length→g.fz b i=some (vs i))
   (hv : ∀ i,i<cs.length→Ad g (cs.getD i nv) (vs i)) : Ad g (.GY cs id) (.pointer (some ⟨b,0,none⟩))
 | A1 : Ad g .A1 (.slice none 0 0)
 | FI (a : Option Addr) : Ad g .FI (.slice a 0 0)
 | slnil (a : Option Addr) (cap : Nat) : Ad g (.sl []) (.slice a 0 cap)
 | sl (es : List AV) (b o sz cap : Nat) (vs : Nat→Value) (hm : es.length≤AK) (QZ : es.length≤cap)
   (CW : ∀ i,i<es.length→(es.getD i nv).cells.length=sz)
   (hf : ∀ i j,i<es.length→j<sz→g.fz b (o+(i*sz+j))=some (vs (i*sz+j)))
   (hv : ∀ i j,i<es.length→j<sz→Ad g ((es.getD i nv).cells.getD j nv) (vs (i*sz+j))) :
   Ad g (.sl es) (.slice (some ⟨b,o,none⟩) es.length cap)
 | DX (id : Nat) (h : g.io id=some .nil) : Ad g (.buf id 0) (.slice none 0 0)
 | buf (id n b cap : Nat) (h : g.io id=some (.HE b cap)) : Ad g (.buf id n) (.slice (some ⟨b,0,none⟩) n cap)
 | sub (id off n b cap c : Nat) (h : g.io id=some (.HE b cap)) : Ad g (.sub id off n) (.slice (some ⟨b,off,none⟩) n c)
 | V7 (a : Option Addr) (n cap : Nat) (h : n≤140737488355328) : Ad g (.V7 n) (.slice a n cap)
 | Lm : Ad g (.IH [] []) (.map none)
 | IH (ks vs : List AV) (b : Nat) (es : Array MapEntry) (h : g.fm b=some es) (h1 : es.size=ks.length) (h2 : vs.length=ks.length)
   (hk : ∀ i,i<ks.length→Ad g (ks.getD i nv) (es.getD i default).key)
   (hv : ∀ i,i<ks.length→Ad g (vs.getD i nv) (es.getD i default).val) : Ad g (.IH ks vs) (.map (some b))
 | GX (id b : Nat) (h : g.io id=some (.mp b)) : Ad g (.GX id) (.map (some b))
 | fn (f : Fn) (ca : List AV) (vs : Array Value) (hs : vs.size=ca.length)
   (hv : ∀ i,i<ca.length→Ad g (ca.getD i nv) (vs.getD i undef)) : Ad g (.fn f ca) (.func f #[] vs)
 | Pq : Ad g .Pq .nilFunc
 | RM (t : TypeId) (v : AV) (w : Value) (h : Ad g v w) : Ad g (.RM t v) (.iface t w)
 | T3 : Ad g .T3 .nilIface
 | agg (cs : List AV) (vs : Array Value) (hs : vs.size=cs.length)
   (hv : ∀ i,i<cs.length→Ad g (cs.getD i nv) (vs.getD i undef)) : Ad g (.agg cs) (.agg vs)
 | CK (cs : List AV) (vs : Array Value) (hs : vs.size=cs.length)
   (hv : ∀ i,i<cs.length→Ad g (cs.getD i nv) (vs.getD i undef)) : Ad g (.CK cs) (.tuple vs)
theorem Ad.mono {g g' : Gh} (hg : g.le g') {a : AV} {v : Value} (h : Ad g a v) : Ad g' a v:=by
 induction h with
 | bool b=>exact .bool b
 | int k n=>exact .int k n
 | str l=>exact .str l
 | Gk=>exact .Gk
 | ptr cs b o vs hf _ ih=>exact .ptr cs b o vs (fun i hi=>hg.fz _ _ _ (hf i hi)) ih
 | ref id off b cap h=>exact .ref id off b cap (hg.io _ _ h)
 | GY cs id b cap vs h hf _ ih=>exact .GY cs id b cap vs (hg.io _ _ h) (fun i hi=>hg.fz _ _ _ (hf i hi)) ih
 | A1=>exact .A1
 | FI a=>exact .FI a
 | slnil a cap=>exact .slnil a cap
 | sl es b o sz cap vs hm QZ CW hf _ ih=>exact .sl es b o sz cap vs hm QZ CW (fun i j hi hj=>hg.fz _ _ _ (hf i j hi hj)) ih
 | DX id h=>exact .DX id (hg.io _ _ h)
 | buf id n b cap h=>exact .buf id n b cap (hg.io _ _ h)
 | sub id off n b cap c h=>exact .sub id off n b cap c (hg.io _ _ h)
 | V7 a n cap h=>exact .V7 a n cap h
 | Lm=>exact .Lm
 | IH ks vs b es h h1 h2 _ _ ihk ihv=>exact .IH ks vs b es (hg.fm _ _ h) h1 h2 ihk ihv
 | GX id b h=>exact .GX id b (hg.io _ _ h)
 | fn f ca vs hs _ ih=>exact .fn f ca vs hs ih
 | Pq=>exact .Pq
 | RM t v w _ ih=>exact .RM t v w ih
 | T3=>exact .T3
 | agg cs vs hs _ ih=>exact .agg cs vs hs ih
 | CK cs vs hs _ ih=>exact .CK cs vs hs ih
def Fm (g : Gh) (as : List AV) (vs : Array Value) : Prop :=
 vs.size=as.length∧∀ i,i<as.length→Ad g (as.getD i nv) (vs.getD i undef)
inductive AF where
 | cells (sz : Nat) (cs : List AV) (f : Nat)
 | map (ks vs : List AV)
abbrev AA:=List (Nat × AF)
def AA.get (H : AA) (i : Nat) : Option AF:=H.lookup i
def AA.set (H : AA) (i : Nat) (o : AF) : AA:=(i,o)::H
def AA.del (H : AA) (i : Nat) : AA:=H.filter fun x=>x.1 != i
@[simp] theorem AA.Ep (H : AA) (i : Nat) (o : AF) : (H.set i o).get i=some o:=by simp [AA.get,AA.set]
theorem AA.B1 (H : AA) {i j : Nat} (o : AF) (h : j≠i) : (H.set i o).get j=H.get j:=by
 simp only [AA.get,AA.set,List.lookup]
 have : (j == i)=false:=by simpa using h
 simp [this]
theorem AA.Ci (H : AA) (i : Nat) : (H.del i).get i=none:=by
 induction H with
 | nil=>rfl
 | cons x r ih =>
  simp only [AA.del,AA.get,List.filter_cons] at *
  by_cases h : x.1=i
  ·simp [h,ih]
  ·have h' : (i == x.1)=false:=by simpa using fun e=>h e.symm
   simp [h,List.lookup,h',ih]
theorem AA.CA (H : AA) {i j : Nat} (hj : j≠i) : (H.del i).get j=H.get j:=by
 induction H with
 | nil=>rfl
 | cons x r ih =>
  obtain ⟨k,o⟩:=x;simp only [AA.del,AA.get,List.filter_cons] at *
  by_cases h : k=i
  ·have h' : (j == k)=false:=by simpa [h] using hj
   simp [h,List.lookup,ih];subst h; simp [h']
  ·by_cases hk : j=k
   ·subst hk; simp [h,List.lookup]
   ·have h' : (j == k)=false:=by simpa using hk
    simp [h,List.lookup,h',ih]
def AA.sub (H H' : AA) : Prop:=∀ i o,H.get i=some o→H'.get i=some o
theorem AA.sub.refl (H : AA) : H.sub H:=fun _ _ h=>h
theorem AA.sub.trans {a b c : AA} (h : a.sub b) (k : b.sub c) : a.sub c:=fun i o e=>k i o (h i o e)
theorem AA.CE {H H' : AA} {i : Nat} (o : AF) (hi : H.get i=none) (h : H.sub H') : H.sub (H'.set i o):=fun j x e=>by
 have : j≠i:=by rintro rfl; simp [hi] at e
 rw [AA.B1 _ _ this]; exact h j x e
def Ai (g : Gh) (B : Nat) (w : World) : Place→AF→Prop
 | .nil,.cells _ cs f=>cs=[]∧f=0
 | .HE b cap,.cells sz cs f=>B≤b∧f≤cs.length∧cs.length≤AK∧(∀ o,f≤o→g.fz b o=none) ∧
   ∃ c el,w.heap[b]? = some (.cells c el (0,0))∧c.size=cap*sz∧cs.length≤c.size ∧
    ∀ i,i<cs.length→Ad g (cs.getD i nv) (c.getD i undef)
 | .mp b,.map ks vs=>B≤b∧g.fm b=none∧∃ es clk,w.heap[b]? = some (.map es clk)∧es.size=ks.length∧vs.length=ks.length ∧
   (∀ i,i<ks.length→Ad g (ks.getD i nv) (es.getD i default).key)∧∀ i,i<ks.length→Ad g (vs.getD i nv) (es.getD i default).val
 | _,_=>False
structure Ao (g : Gh) (B : Nat) (H : AA) (w : World) : Prop where
 fz : ∀ b o v,g.fz b o=some v→w.cell? ⟨b,o,none⟩=some v
 fm : ∀ b es,g.fm b=some es→∃ clk,w.heap[b]? = some (.map es clk)
 ob : ∀ i o,H.get i=some o→∃ p,g.io i=some p∧Ai g B w p o
 inj : ∀ i j b c c',i≠j→(H.get i).isSome→(H.get j).isSome→g.io i=some (.HE b c)→g.io j=some (.HE b c')→False
 HI : ∀ i j b,i≠j→(H.get i).isSome→(H.get j).isSome→g.io i=some (.mp b)→g.io j=some (.mp b)→False
 base : B≤w.heap.size
 fin : ∃ N,∀ i,N≤i→g.io i=none
theorem Ao.sub {g : Gh} {B : Nat} {H H' : AA} {w : World} (h : Ao g B H w) (s : H'.sub H) : Ao g B H' w where
 fz:=h.fz
 fm:=h.fm
 ob i o e:=h.ob i o (s i o e)
 inj i j b c c' n e1 e2:=by
  obtain ⟨o1,e1⟩:=Option.isSome_iff_exists.1 e1
  obtain ⟨o2,e2⟩:=Option.isSome_iff_exists.1 e2;exact h.inj i j b c c' n (by simp [s _ _ e1]) (by simp [s _ _ e2])
 HI i j b n e1 e2:=by
  obtain ⟨o1,e1⟩:=Option.isSome_iff_exists.1 e1
  obtain ⟨o2,e2⟩:=Option.isSome_iff_exists.1 e2;exact h.HI i j b n (by simp [s _ _ e1]) (by simp [s _ _ e2])
 base:=h.base
 fin:=h.fin
abbrev Env:=List (Nat × Option AV)
def Env.get : Env→Nat→Option AV
 | [],_=>none
 | (s,v)::r,t=>if t=s then v else Env.get r t
def Env.put (σ : Env) (d : Nat) (v : AV) : Env:=(d,some v)::σ
def Env.forget (σ : Env) (d : Nat) : Env:=(d,none)::σ
def Env.BA : List Nat→Env→Env
 | [],_=>[]
 | t::r,σ=>(t,σ.get t)::Env.BA r σ
theorem Env.Hb (s : Nat) (v : Option AV) (r : Env) (t : Nat) : Env.get ((s,v)::r) t=if t=s then v else Env.get r t:=rfl
theorem Env.Tc (l : List Nat) (σ : Env) (t : Nat) (v : AV) (h : (Env.BA l σ).get t=some v) : σ.get t=some v:=by
 induction l with
 | nil=>simp [Env.BA,Env.get] at h
 | cons x r ih =>
  simp only [Env.BA,Env.get] at h
  split at h
  ·rename_i e; rw [e]; exact h
  ·exact ih h
def Cc (g : Gh) (σ : Env) (tm : Array Value) : Prop:=∀ t v,σ.get t=some v→t<tm.size∧Ad g v (tm.getD t undef)
theorem Cc.mono {g g' : Gh} (hg : g.le g') {σ : Env} {tm : Array Value} (h : Cc g σ tm) : Cc g' σ tm :=
 fun t v e=>⟨(h t v e).1,(h t v e).2.mono hg⟩
theorem Cc.BA {g : Gh} {σ : Env} {tm : Array Value} (l : List Nat) (h : Cc g σ tm) : Cc g (σ.BA l) tm :=
 fun t v e=>h t v (Env.Tc l σ t v e)
theorem Cc.put {g : Gh} {σ : Env} {tm : Array Value} (h : Cc g σ tm) {d : Nat} (hd : d<tm.size) {a : AV} {v : Value} (hv : Ad g a v) :
  Cc g (σ.put d a) (tm.setIfInBounds d v):=by
 intro t x e;simp only [Env.put,Env.get] at e
 split at e
 ·rename_i ht
  cases e;subst ht
  simp [hd,Array.getD,hv]
 ·rename_i ht
  obtain ⟨h1,h2⟩:=h t x e;refine ⟨by simpa using h1, ?_⟩
  have : (tm.setIfInBounds d v).getD t undef=tm.getD t undef:=by
   simp only [Array.getD_eq_getD_getElem?];rw [Array.getElem?_setIfInBounds_ne (by omega)]
  rw [this]; exact h2
end Go.AW
namespace Go.AW
open Go.RowKit
def Gh.Hy (g : Gh) (b n : Nat) (c : Array Value) : Gh :=
 { g with fz:=fun b' o=>if b'=b∧o<n then c[o]? else g.fz b' o }
def Gh.Ur (g : Gh) (b : Nat) (es : Array MapEntry) : Gh:={ g with fm:=fun b'=>if b'=b then some es else g.fm b' }
def Gh.HF (g : Gh) (i : Nat) (p : Place) : Gh:={ g with io:=fun j=>if j=i then some p else g.io j }
theorem Gh.SQ (g : Gh) (i : Nat) (p : Place) (h : g.io i=none) : g.le (g.HF i p) :=
 ⟨fun _ _ _ h=>h,fun _ _ h=>h,fun j q hj=>by
  have : j≠i:=by rintro rfl; simp [h] at hj
  simpa [Gh.HF,this] using hj⟩
theorem Gh.EH (g : Gh) (i : Nat) (p : Place) : (g.HF i p).io i=some p:=by simp [Gh.HF]
theorem Gh.D5 (g : Gh) {i j : Nat} (p : Place) (h : j≠i) : (g.HF i p).io j=g.io j:=by simp [Gh.HF,h]
theorem Gh.bM {g : Gh} (i : Nat) (p : Place) (h : ∃ N,∀ i,N≤i→g.io i=none) : ∃ N,∀ j,N≤j→(g.HF i p).io j=none:=by
 obtain ⟨N,hN⟩:=h;exact ⟨max N (i+1),fun j hj=>by rw [Gh.D5 _ _ (by omega)]; exact hN j (by omega)⟩
def Place.block : Place→Option Nat
 | .nil=>none
 | .HE b _=>some b
 | .mp b=>some b
theorem Ai.BA {g g' : Gh} {B : Nat} {w w' : World} {p : Place} {o : AF} (h : Ai g B w p o) (hg : g.le g')
  (hb : ∀ b,p.block=some b→w'.heap[b]? = w.heap[b]?)
  (hf : ∀ b x,p.block=some b→g.fz b x=none→g'.fz b x=none)
  (hm : ∀ b,p.block=some b→g.fm b=none→g'.fm b=none) : Ai g' B w' p o:=by
 cases p with
 | nil=>cases o <;> simp only [Ai] at h ⊢; exact h
 | HE b cap =>
  cases o with
  | cells sz cs f =>
   simp only [Ai] at h ⊢
   obtain ⟨h1,h2,h3,h4,c,el,h5,h6,h7,h8⟩:=h;exact ⟨h1,h2,h3,fun x hx=>hf b x rfl (h4 x hx),c,el,by rw [hb b rfl]; exact h5,h6,h7,fun i hi=>(h8 i hi).mono hg⟩
  | map ks vs=>simp [Ai] at h
 | mp b =>
  cases o with
  | cells sz cs f=>simp [Ai] at h
  | map ks vs =>
   simp only [Ai] at h ⊢
   obtain ⟨h1,h2,es,clk,h5,h6,h7,h8,h9⟩:=h;exact ⟨h1,hm b rfl h2,es,clk,by rw [hb b rfl]; exact h5,h6,h7,fun i hi=>(h8 i hi).mono hg,fun i hi=>(h9 i hi).mono hg⟩
theorem Ai.lt {g : Gh} {B : Nat} {w : World} {p : Place} {o : AF} (h : Ai g B w p o) {b : Nat} (hp : p.block=some b) : B≤b∧b<w.heap.size:=by
 cases p with
 | nil=>cases hp
 | HE b' cap =>
  cases o with
  | cells sz cs f =>
   simp only [Ai] at h
   cases hp
   obtain ⟨h1,h2,h3,h4,c,el,h5,_⟩:=h;exact ⟨h1,(Array.getElem?_eq_some_iff.1 h5).1⟩
  | map ks vs=>simp [Ai] at h
 | mp b' =>
  cases o with
  | cells sz cs f=>simp [Ai] at h
  | map ks vs =>
   simp only [Ai] at h
   cases hp
   obtain ⟨h1,h2,es,clk,h5,_⟩:=h;exact ⟨h1,(Array.getElem?_eq_some_iff.1 h5).1⟩
theorem Ao.Xw {g : Gh} {B : Nat} {H : AA} {w : World} (h : Ao g B H w) {b o : Nat} {v : Value} (e : g.fz b o=some v) : b<w.heap.size :=
 World.block_lt_of_cell? w ⟨b,o,none⟩ (h.fz b o v e)
theorem Ao.pR {g : Gh} {B : Nat} {H : AA} {w : World} (h : Ao g B H w) (b o : Nat) (hb : w.heap.size≤b) : g.fz b o=none:=by
 cases e : g.fz b o with
 | none=>rfl
 | some v=>have:=h.Xw e; omega
theorem Ao.cW {g : Gh} {B : Nat} {H : AA} {w : World} (h : Ao g B H w) {b : Nat} {es} (e : g.fm b=some es) : b<w.heap.size:=by
 obtain ⟨clk,hc⟩:=h.fm b es e;exact (Array.getElem?_eq_some_iff.1 hc).1
theorem Ao.pS {g : Gh} {B : Nat} {H : AA} {w : World} (h : Ao g B H w) (b : Nat) (hb : w.heap.size≤b) : g.fm b=none:=by
 cases e : g.fm b with
 | none=>rfl
 | some v=>have:=h.cW e; omega
theorem Ao.drew {g : Gh} {B : Nat} {H : AA} {w : World} (h : Ao g B H w) : Ao g B H w.drew where
 fz b o v e:=h.fz b o v e
 fm b es e:=h.fm b es e
 ob i o e:=by
  obtain ⟨p,hp,hr⟩:=h.ob i o e;exact ⟨p,hp,hr.BA (Gh.le.refl g) (fun _ _=>rfl) (fun _ _ _ h=>h) (fun _ _ h=>h)⟩
 inj:=h.inj
 HI:=h.HI
 base:=h.base
 fin:=h.fin
theorem Ao.grow {g : Gh} {B : Nat} {H : AA} {w w' : World} (h : Ao g B H w) (hs : w.heap.size≤w'.heap.size)
  (hb : ∀ b,b<w.heap.size→w'.heap[b]? = w.heap[b]?) : Ao g B H w' where
 fz b o v e:=by
  have hl:=h.Xw e
  have:=h.fz b o v e;rw [World.cell?_of_block (w:=w) (hb b hl)]; exact this
 fm b es e:=by
  obtain ⟨clk,hc⟩:=h.fm b es e;exact ⟨clk,by rw [hb b (h.cW e)]; exact hc⟩
 ob i o e:=by
  obtain ⟨p,hp,hr⟩:=h.ob i o e;exact ⟨p,hp,hr.BA (Gh.le.refl g) (fun b Kq=>hb b (hr.lt Kq).2) (fun _ _ _ h=>h) (fun _ _ h=>h)⟩
 inj:=h.inj
 HI:=h.HI
 base:=by have:=h.base; omega
 fin:=h.fin
theorem Ao.alloc {g : Gh} {B : Nat} {H : AA} {w : World} (h : Ao g B H w) (x : Obj) : Ao g B H (w.alloc x) :=
 h.grow (by simp) (fun b hb=>Below.heap_alloc w x b hb)
theorem Ao.Hy {g : Gh} {B : Nat} {H : AA} {w : World} (h : Ao g B H w) (b n : Nat) (c : Array Value) (el : TypeId) (fr : Nat × Nat)
  (hb : w.heap[b]? = some (.cells c el fr))
  (ho : ∀ i p o,H.get i=some o→g.io i=some p→p.block=some b→∃ sz cs f,o=.cells sz cs f∧n≤f) :
  g.le (g.Hy b n c)∧Ao (g.Hy b n c) B H w:=by
 have hle : g.le (g.Hy b n c):=by
  refine ⟨fun b' o v e=>?_,fun _ _ h=>h,fun _ _ h=>h⟩;simp only [Gh.Hy]
  split
  ·rename_i hx
   obtain ⟨rfl,hx⟩:=hx
   have:=h.fz _ _ _ e
   rwa [cell_of_row w b' o c el fr hb] at this
  ·exact e
 refine ⟨hle, ?_⟩
 constructor
 ·intro b' o v e;simp only [Gh.Hy] at e
  split at e
  ·rename_i hx
   obtain ⟨rfl,hx⟩:=hx;rw [cell_of_row w b' o c el fr hb]; exact e
  ·exact h.fz _ _ _ e
 ·exact h.fm
 ·intro i o e
  obtain ⟨p,hp,hr⟩:=h.ob i o e;refine ⟨p,hp, ?_⟩
  by_cases Ux : p.block=some b
  ·obtain ⟨sz,cs,f,rfl,hn⟩:=ho i p o e hp Ux
   cases p with
   | nil=>cases Ux
   | mp b'=>simp [Ai] at hr
   | HE b' cap =>
    cases Ux;simp only [Ai] at hr ⊢
    obtain ⟨h1,h2,h3,h4,c',el',h5,h6,h7,h8⟩:=hr;refine ⟨h1,h2,h3,fun x hx=>?_,c',el',h5,h6,h7,fun i hi=>(h8 i hi).mono hle⟩;simp only [Gh.Hy];rw [if_neg (by omega)];exact h4 x hx
  ·refine hr.BA hle (fun _ _=>rfl) (fun b' x Kq hx=>?_) (fun _ _ h=>h);simp only [Gh.Hy];rw [if_neg]
   ·exact hx
   ·rintro ⟨rfl,_⟩; exact Ux Kq
 ·exact h.inj
 ·exact h.HI
 ·exact h.base
 ·exact h.fin
theorem Ao.Kr {g : Gh} {B : Nat} {H : AA} {w : World} (h : Ao g B H w) (c : Array Value) (el : TypeId) :
  g.le (g.Hy w.heap.size c.size c)∧Ao (g.Hy w.heap.size c.size c) B H (w.alloc (.cells c el)) :=
 (h.alloc _).Hy w.heap.size c.size c el (0,0) (World.alloc_heap_new' w c el)
  (fun i p o e hp Ux=>by
   obtain ⟨p',NS,hr⟩:=h.ob i o e;rw [hp] at NS; cases NS
   have:=(hr.lt Ux).2; omega)
where
 World.alloc_heap_new' (w : World) (c : Array Value) (el : TypeId) : (w.alloc (.cells c el)).heap[w.heap.size]? = some (.cells c el (0,0)):=by
  show (w.heap.push _)[w.heap.size]? = _
  simp
theorem Ao.HF {g : Gh} {B : Nat} {H : AA} {w : World} (h : Ao g B H w) (i : Nat) (hi : g.io i=none) (p : Place) (o : AF)
  (hp : ∀ b,p.block=some b→∀ j q o',H.get j=some o'→g.io j=some q→q.block≠some b)
  (hr : Ai (g.HF i p) B w p o) : g.le (g.HF i p)∧Ao (g.HF i p) B (H.set i o) w:=by
 have hle:=Gh.SQ g i p hi;refine ⟨hle, ?_⟩
 have gf : ∀ j o',H.get j=some o'→j≠i:=by
  rintro j o' e rfl
  obtain ⟨q,hq,_⟩:=h.ob _ o' e
  simp [hi] at hq
 have Cn : ∀ j,((H.set i o).get j).isSome→j≠i→(H.get j).isSome:=by
  intro j hj Bq
  rwa [AA.B1 _ _ Bq] at hj
 constructor
 ·exact h.fz
 ·exact h.fm
 ·intro j o' e
  by_cases hj : j=i
  ·subst hj
   simp at e;subst e;exact ⟨p,Gh.EH _ _ _,hr⟩
  ·rw [AA.B1 _ _ hj] at e
   obtain ⟨q,hq,Me⟩:=h.ob j o' e;exact ⟨q,by rw [Gh.D5 _ _ hj]; exact hq,Me.BA hle (fun _ _=>rfl) (fun _ _ _ h=>h) (fun _ _ h=>h)⟩
 ·intro j k b c c' Bq e1 e2 p1 p2
  by_cases hj : j=i
  ·subst hj
   have hk : k≠j:=fun e=>Bq e.symm;rw [Gh.EH] at p1;rw [Gh.D5 _ _ hk] at p2
   cases p1
   obtain ⟨o',e2⟩:=Option.isSome_iff_exists.1 (Cn k e2 hk);exact hp b rfl k _ o' e2 p2 rfl
  ·by_cases hk : k=i
   ·subst hk;rw [Gh.D5 _ _ hj] at p1;rw [Gh.EH] at p2
    cases p2
    obtain ⟨o',e1⟩:=Option.isSome_iff_exists.1 (Cn j e1 hj);exact hp b rfl j _ o' e1 p1 rfl
   ·rw [Gh.D5 _ _ hj] at p1;rw [Gh.D5 _ _ hk] at p2;exact h.inj j k b c c' Bq (Cn j e1 hj) (Cn k e2 hk) p1 p2
 ·intro j k b Bq e1 e2 p1 p2
  by_cases hj : j=i
  ·subst hj
   have hk : k≠j:=fun e=>Bq e.symm;rw [Gh.EH] at p1;rw [Gh.D5 _ _ hk] at p2
   cases p1
   obtain ⟨o',e2⟩:=Option.isSome_iff_exists.1 (Cn k e2 hk);exact hp b rfl k _ o' e2 p2 rfl
  ·by_cases hk : k=i
   ·subst hk;rw [Gh.D5 _ _ hj] at p1;rw [Gh.EH] at p2
    cases p2
    obtain ⟨o',e1⟩:=Option.isSome_iff_exists.1 (Cn j e1 hj);exact hp b rfl j _ o' e1 p1 rfl
   ·rw [Gh.D5 _ _ hj] at p1;rw [Gh.D5 _ _ hk] at p2;exact h.HI j k b Bq (Cn j e1 hj) (Cn k e2 hk) p1 p2
 ·exact h.base
 ·exact Gh.bM i p h.fin
theorem Ao.fresh {g : Gh} {B : Nat} {H : AA} {w : World} (h : Ao g B H w) : ∃ i,g.io i=none∧H.get i=none:=by
 obtain ⟨N,hN⟩:=h.fin;refine ⟨N,hN N (Nat.le_refl _), ?_⟩
 cases e : H.get N with
 | none=>rfl
 | some o=>obtain ⟨p,hp,_⟩:=h.ob N o e; simp [hN N (Nat.le_refl _)] at hp
theorem Ao.PM {g : Gh} {B : Nat} {H : AA} {w : World} (h : Ao g B H w) (i : Nat) (hi : g.io i=none) (c : Array Value) (el : TypeId)
  (sz cap : Nat) (cs : List AV) (hm : cs.length≤AK) (hc : c.size=cap*sz) (hl : cs.length≤c.size) (hv : ∀ k,k<cs.length→Ad g (cs.getD k nv) (c.getD k undef)) :
  g.le (g.HF i (.HE w.heap.size cap))∧Ao (g.HF i (.HE w.heap.size cap)) B (H.set i (.cells sz cs 0)) (w.alloc (.cells c el)):=by
 refine (h.alloc _).HF i hi (.HE w.heap.size cap) (.cells sz cs 0) ?_ ?_
 ·intro b hb j q o' e hq YQ
  cases hb
  obtain ⟨q',NT,hr⟩:=h.ob j o' e;rw [hq] at NT; cases NT
  have:=(hr.lt YQ).2; omega
 ·simp only [Ai];refine ⟨h.base,Nat.zero_le _,hm,fun o _=>h.pR _ o (Nat.le_refl _),c,el,Ao.Kr.World.alloc_heap_new' w c el,hc,hl,fun k hk=>(hv k hk).mono (Gh.SQ g i _ hi)⟩
theorem Ao.ZP {g : Gh} {B : Nat} {H : AA} {w : World} (h : Ao g B H w) (i : Nat) (hi : g.io i=none) (clk : Nat) :
  g.le (g.HF i (.mp w.heap.size))∧Ao (g.HF i (.mp w.heap.size)) B (H.set i (.map [] [])) (w.alloc (.map #[] clk)):=by
 refine (h.alloc _).HF i hi (.mp w.heap.size) (.map [] []) ?_ ?_
 ·intro b hb j q o' e hq YQ
  cases hb
  obtain ⟨q',NT,hr⟩:=h.ob j o' e;rw [hq] at NT; cases NT
  have:=(hr.lt YQ).2; omega
 ·simp only [Ai];refine ⟨h.base,h.pS _ (Nat.le_refl _),#[],clk, ?_,by simp,by simp,fun i hi=>by simp at hi,fun i hi=>by simp at hi⟩
  show (w.heap.push _)[w.heap.size]? = _
  simp
theorem Ao.write {g : Gh} {B : Nat} {H : AA} {w w' : World} (h : Ao g B H w) (i b cap sz : Nat) (cs cs' : List AV) (f : Nat) (c c' : Array Value) (el : TypeId)
  (hi : H.get i=some (.cells sz cs f)) (hp : g.io i=some (.HE b cap)) (hb : w.heap[b]? = some (.cells c el (0,0)))
  (Kq : w'.heap[b]? = some (.cells c' el (0,0))) (hs : w'.heap.size=w.heap.size) (ho : ∀ k,k≠b→w'.heap[k]? = w.heap[k]?)
  (IK : c'.size=c.size) (Ll : ∀ k,k<f→c'[k]? = c[k]?) (tg : f≤cs'.length) (hm : cs'.length≤AK) (n0 : cs'.length≤c'.size)
  (hv : ∀ k,k<cs'.length→Ad g (cs'.getD k nv) (c'.getD k undef)) : Ao g B (H.set i (.cells sz cs' f)) w':=by
 obtain ⟨p,NS,hr⟩:=h.ob i _ hi;rw [hp] at NS; cases NS;simp only [Ai] at hr
 obtain ⟨h1,h2,h3,h4,c0,el0,h5,h6,h7,h8⟩:=hr;rw [hb] at h5; cases h5
 have Cn : ∀ j,((H.set i (.cells sz cs' f)).get j).isSome→(H.get j).isSome:=by
  intro j hj
  by_cases e : j=i
  ·subst e; simp [hi]
  ·rwa [AA.B1 _ _ e] at hj
 constructor
 ·intro b' o v e
  have hl:=h.Xw e
  by_cases aP : b'=b
  ·subst aP
   have Ju : o<f:=by
    rcases Nat.lt_or_ge o f with x | x
    ·exact x
    ·simp [h4 o x] at e
   have:=h.fz _ _ _ e;rw [cell_of_row w b' o c el (0,0) hb] at this;rw [cell_of_row w' b' o c' el (0,0) Kq,Ll o Ju]; exact this
  ·rw [World.cell?_of_block (w:=w) (a:=⟨b',o,none⟩) (ho b' aP)]; exact h.fz _ _ _ e
 ·intro b' es e
  obtain ⟨clk,hc⟩:=h.fm b' es e
  have : b'≠b:=by rintro rfl; rw [hb] at hc; cases hc
  exact ⟨clk,by rw [ho b' this]; exact hc⟩
 ·intro j o e
  by_cases hj : j=i
  ·subst hj
   simp at e; subst e;refine ⟨.HE b cap,hp, ?_⟩;simp only [Ai];exact ⟨h1,tg,hm,h4,c',el,Kq,by rw [IK]; exact h6,n0,hv⟩
  ·rw [AA.B1 _ _ hj] at e
   obtain ⟨q,hq,Me⟩:=h.ob j o e;refine ⟨q,hq,Me.BA (Gh.le.refl g) (fun b'' hb''=>ho b'' ?_) (fun _ _ _ h=>h) (fun _ _ h=>h)⟩
   rintro rfl
   cases q with
   | nil=>cases hb''
   | HE b2 c2 =>
    cases hb'';exact h.inj j i _ c2 cap hj (by simp [e]) (by simp [hi]) hq hp
   | mp b2 =>
    cases hb''
    cases o with
    | cells _ _ _=>simp [Ai] at Me
    | map ks vs =>
     simp only [Ai] at Me
     obtain ⟨_,_,es,clk,YJ,_⟩:=Me;rw [hb] at YJ; cases YJ
 ·intro j k b2 c2 c3 Bq e1 e2;exact h.inj j k b2 c2 c3 Bq (Cn j e1) (Cn k e2)
 ·intro j k b2 Bq e1 e2;exact h.HI j k b2 Bq (Cn j e1) (Cn k e2)
 ·rw [hs]; exact h.base
 ·exact h.fin
theorem Ao.rename {g : Gh} {B : Nat} {H : AA} {w : World} (h : Ao g B H w) (i j : Nat) (o : AF) (p : Place)
  (hi : H.get i=some o) (hp : g.io i=some p) (hj : g.io j=none) :
  g.le (g.HF j p)∧Ao (g.HF j p) B ((H.del i).set j o) w:=by
 have Cq : (H.del i).sub H:=fun k x e=>by
  by_cases hk : k=i
  ·subst hk; rw [AA.Ci] at e; cases e
  ·rwa [AA.CA _ hk] at e
 obtain ⟨q,hq,hr⟩:=h.ob i o hi;rw [hp] at hq; cases hq;refine (h.sub Cq).HF j hj p o ?_ ?_
 ·intro b hb k q o' e hq YQ
  have sQ : k≠i:=by rintro rfl; rw [AA.Ci] at e; cases e
  have e' : H.get k=some o':=Cq k o' e
  obtain ⟨q',NT,Me⟩:=h.ob k o' e';rw [hq] at NT; cases NT
  cases p with
  | nil=>cases hb
  | HE b1 c1 =>
   cases hb
   cases q with
   | nil=>cases YQ
   | HE b2 c2=>cases YQ; exact h.inj k i _ _ _ sQ (by simp [e']) (by simp [hi]) hq hp
   | mp b2 =>
    cases YQ
    cases o' with
    | cells _ _ _=>simp [Ai] at Me
    | map ks vs =>
     cases o with
     | map _ _=>simp [Ai] at hr
     | cells _ _ _ =>
      simp only [Ai] at Me hr
      obtain ⟨_,_,es,clk,YJ,_⟩:=Me
      obtain ⟨_,_,_,_,c,el,h5,_⟩:=hr;rw [h5] at YJ; cases YJ
  | mp b1 =>
   cases hb
   cases q with
   | nil=>cases YQ
   | mp b2=>cases YQ; exact h.HI k i _ sQ (by simp [e']) (by simp [hi]) hq hp
   | HE b2 c2 =>
    cases YQ
    cases o with
    | cells _ _ _=>simp [Ai] at hr
    | map ks vs =>
     cases o' with
     | map _ _=>simp [Ai] at Me
     | cells _ _ _ =>
      simp only [Ai] at Me hr
      obtain ⟨_,_,es,clk,YJ,_⟩:=hr
      obtain ⟨_,_,_,_,c,el,h5,_⟩:=Me;rw [h5] at YJ; cases YJ
 ·exact hr.BA (Gh.SQ g j p hj) (fun _ _=>rfl) (fun _ _ _ h=>h) (fun _ _ h=>h)
theorem Ao.ZJ {g : Gh} {B : Nat} {H : AA} {w : World} (h : Ao g B H w) (i b cap sz : Nat) (cs : List AV) (f : Nat)
  (hi : H.get i=some (.cells sz cs f)) (hp : g.io i=some (.HE b cap)) :
  ∃ (c : Array Value) (g' : Gh),g.le g'∧Ao g' B (H.set i (.cells sz cs cs.length)) w∧c.size=cap*sz∧cs.length≤c.size ∧
   (∀ k,k<cs.length→g'.fz b k=some (c.getD k undef))∧∀ k,k<cs.length→Ad g' (cs.getD k nv) (c.getD k undef):=by
 obtain ⟨p,NS,hr⟩:=h.ob i _ hi;rw [hp] at NS; cases NS;simp only [Ai] at hr
 obtain ⟨h1,h2,h3,h4,c,el,h5,h6,h7,h8⟩:=hr
 have Cn : ∀ j,((H.set i (.cells sz cs cs.length)).get j).isSome→(H.get j).isSome:=by
  intro j hj
  by_cases e : j=i
  ·subst e; simp [hi]
  ·rwa [AA.B1 _ _ e] at hj
 have h' : Ao g B (H.set i (.cells sz cs cs.length)) w:=by
  constructor
  ·exact h.fz
  ·exact h.fm
  ·intro j o e
   by_cases hj : j=i
   ·subst hj
    simp at e; subst e;refine ⟨.HE b cap,hp, ?_⟩;simp only [Ai];exact ⟨h1,Nat.le_refl _,h3,fun o ho=>h4 o (by omega),c,el,h5,h6,h7,h8⟩
   ·rw [AA.B1 _ _ hj] at e;exact h.ob j o e
  ·intro j k b2 c2 c3 Bq e1 e2;exact h.inj j k b2 c2 c3 Bq (Cn j e1) (Cn k e2)
  ·intro j k b2 Bq e1 e2;exact h.HI j k b2 Bq (Cn j e1) (Cn k e2)
  ·exact h.base
  ·exact h.fin
 have:=h'.Hy b cs.length c el (0,0) h5 (fun j q o e hq YQ=>by
  by_cases hj : j=i
  ·subst hj; simp at e; subst e; exact ⟨_,_,_,rfl,Nat.le_refl _⟩
  ·exfalso
   rw [AA.B1 _ _ hj] at e
   cases q with
   | nil=>cases YQ
   | HE b2 c2=>cases YQ; exact h.inj j i _ _ _ hj (by simp [e]) (by simp [hi]) hq hp
   | mp b2 =>
    cases YQ
    obtain ⟨q',NT,Me⟩:=h.ob j o e;rw [hq] at NT; cases NT
    cases o with
    | cells _ _ _=>simp [Ai] at Me
    | map ks vs =>
     simp only [Ai] at Me
     obtain ⟨_,_,es,clk,YJ,_⟩:=Me;rw [h5] at YJ; cases YJ)
 refine ⟨c,_,this.1,this.2,h6,h7,fun k hk=>?_,fun k hk=>(h8 k hk).mono this.1⟩;simp only [Gh.Hy]
 simp [hk,Array.getD,show k<c.size by omega]
end Go.AW
namespace Go.AW
open Go.RowKit
inductive X where
 | t (n : Nat)
 | c (v : AV)
 deriving Inhabited
inductive Ins where
 | mv (x : X)
 | pick (c a b : X)
 | ar (op : BinOp) (k : IntKind) (x y : X)
 | bq (neg : Bool) (x y : X)
 | nq (neg : Bool) (x : X)
 | aq (neg : Bool) (n : Nat) (x y : X)
 | nt (x : X)
 | conv (k : IntKind) (x : X)
 | len (x : X)
 | Zu (x : X)
 | idx (sz : Nat) (x i : X)
 | nO (off n : Nat) (x : X)
 | vV (n : Option Nat) (x : X)
 | nI (x : X)
 | sL (zero : List AV) (parts : List (Nat × Nat × X))
 | prt (off : Nat) (n : Option Nat) (x : X)
 | ext (x : X) (i : Nat)
 | nG (sz : Nat) (x : X) (lo hi : Option X)
 | rQ (f : Fn) (ca : List X)
 | nS (t : TypeId) (x : X)
 | Zr (sz : Nat) (xs : List X)
 | emp
 | aE (n : Nat) (x : X)
 | N9 (f : X) (xs : List X)
 | mx (V7 : Bool) (x y : X)
 | vD (x : X)
 | ld (n : Option Nat) (x : X)
 | jD (z : Nat) (n : Option Nat) (x : X)
 | st (n : Nat) (p v : X)
 | Sx (sz : Nat) (xs : List X)
 | T4 (n : Nat) (x : X)
 | lX (zero : List AV)
 | app (sz bytes : Nat) (s x : X)
 | l7 (sz : Nat) (zero : List AV) (l c : X)
 | nV
 | aS (s : Nat) (ok : Bool) (zero : AV) (m k : X)
 | hZ (s : Nat) (m k v : X)
 | Sy (x : X)
 | mB (sz : Nat) (x : X) (lo hi : Option X)
 | sD (zero : List AV) (x : X)
 | call (f : X) (xs : List X)
 | Lr (f : X) (xs : List X)
 | Lj (z : Nat) (f : X) (xs : List X)
 | inv (x : X) (name : String) (xs : List X)
 | jE (neg : Bool) (x : X)
 | nH (t : TypeId) (x : X)
 deriving Inhabited
structure Cx where
 d : Option Nat
 g : Option (Nat × Bool)
 i : Ins
 deriving Inhabited
def val (σ : Env) : X→Option AV
 | .t n=>σ.get n
 | .c v=>some v
def My : Option AV→Option (List AV)→Option (List AV)
 | some a,some r=>some (a::r)
 | _,_=>none
def DB (σ : Env) : List X→Option (List AV)
 | []=>some []
 | x::r=>My (val σ x) (DB σ r)
def AV.one : AV→Bool
 | .agg _ | .CK _=>false
 | _=>true
def flat : List AV→List AV
 | []=>[]
 | e::r=>e.cells++flat r
def Da (sz : Nat) (es : List AV) : Prop:=∀ e,e∈es→e.cells.length=sz∧∀ c,c∈e.cells→c.one=true
def chunk (sz : Nat) : Nat→List AV→List AV
 | 0,_=>[]
 | n+1,cs=>(if sz=1 then cs.headD nv else .agg (cs.take sz))::chunk sz n (cs.drop sz)
def wr (cs : List AV) : Nat→List AV→List AV
 | _,[]=>cs
 | o,v::r=>wr (cs.set o v) (o+1) r
def rep : Nat→List AV→List AV
 | 0,_=>[]
 | n+1,z=>z++rep n z
abbrev PV:=Option (Prop × AV)
def Wm : Option AV→PV
 | some v=>some (True,v)
 | none=>none
def Mk : Option AV→Option AV→Option AV→PV
 | some (.bool true),a,_=>Wm a
 | some (.bool false),_,b=>Wm b
 | _,_,_=>none
def Tn : BinOp→IntKind→Int→Int→PV
 | .add,k,a,b=>some (True,.int k (k.wrap (a+b)))
 | .sub,k,a,b=>some (True,.int k (k.wrap (a - b)))
 | .mul,k,a,b=>some (True,.int k (k.wrap (a*b)))
 | .quo,k,a,b=>some (b≠0,.int k (k.wrap (a.tdiv b)))
 | .rem,k,a,b=>some (b≠0,.int k (a.tmod b))
 | .eql,_,a,b=>some (True,.bool (decide (a=b)))
 | .neq,_,a,b=>some (True,.bool (!decide (a=b)))
 | .lss,_,a,b=>some (True,.bool (decide (a<b)))
 | .leq,_,a,b=>some (True,.bool (decide (a≤b)))
 | .gtr,_,a,b=>some (True,.bool (decide (b<a)))
 | .geq,_,a,b=>some (True,.bool (decide (b≤a)))
 | .and,k,a,b=>some (True,.int k (k.wrap (BitVec.ofInt k.bits a &&& BitVec.ofInt k.bits b).toNat))
 | .shr,k,a,b=>some (0≤b,.int k (a.fdiv (2 ^ min b.toNat k.bits)))
 | _,_,_,_=>none
def aY : BinOp→Bool
 | .shr=>true
 | _=>false
def yE : BinOp→List UInt8→List UInt8→PV
 | .add,a,b=>some (a.length+b.length≤AK,.str (a++b))
 | .eql,a,b=>some (True,.bool (decide (a=b)))
 | .neq,a,b=>some (True,.bool (!decide (a=b)))
 | _,_,_=>none
def Hs (op : BinOp) (k : IntKind) : Option AV→Option AV→PV
 | some (.int k1 a),some (.int k2 b)=>if k1=k∧(k2=k∨aY op=true) then Tn op k a b else none
 | some (.str a),some (.str b)=>yE op a b
 | _,_=>none
def jV (neg : Bool) : Option AV→Option AV→PV
 | some (.bool a),some (.bool b)=>some (True,.bool (neg ^^ (a == b)))
 | _,_=>none
def kO (neg : Bool) : Option AV→PV
 | some .Gk=>some (True,.bool (!neg))
 | some (.ptr _)=>some (True,.bool neg)
 | some (.ref _ _)=>some (True,.bool neg)
 | _=>none
def tX : Option AV→PV
 | some (.bool a)=>some (True,.bool (!a))
 | _=>none
def R6 (k : IntKind) : Option AV→PV
 | some (.int _ a)=>some (True,.int k (k.wrap a))
 | _=>none
def FF : Option AV→PV
 | some (.sl es)=>some (True,.int .i64 es.length)
 | some (.buf _ n)=>some (True,.int .i64 n)
 | some (.sub _ _ n)=>some (True,.int .i64 n)
 | some (.V7 n)=>some (True,.int .i64 n)
 | some .A1=>some (True,.int .i64 0)
 | some .FI=>some (True,.int .i64 0)
 | _=>none
def UC : Option AV→PV
 | some (.str l)=>some (True,.int .i64 l.length)
 | _=>none
def Hl (sz : Nat) : Option AV→Option AV→PV
 | some (.sl es),some (.int _ n)=>some (0≤n∧n.toNat<es.length∧(es.getD n.toNat nv).cells.length=sz,.ptr (es.getD n.toNat nv).cells)
 | some (.buf id m),some (.int _ n)=>some (0≤n∧n.toNat<m,.ref id (n.toNat*sz))
 | some (.sub id o m),some (.int _ n)=>some (0≤n∧n.toNat<m,.ref id (o+n.toNat*sz))
 | _,_=>none
def Tg (off n : Nat) : Option AV→PV
 | some (.ptr cs)=>some (off+n≤cs.length,.ptr ((cs.drop off).take n))
 | some (.ref id o)=>some (True,.ref id (o+off))
 | some (.GY cs id)=>some (True,if off+n≤cs.length then .ptr ((cs.drop off).take n) else .ref id off)
 | _=>none
def Zh : Option Nat→Option AV→PV
 | none,some (.ptr (c::_))=>some (True,c)
 | some n,some (.ptr cs)=>some (cs.length=n,.agg cs)
 | _,_=>none
def Wo : Option AV→PV
 | some (.ptr cs)=>some (True,.ptr cs)
 | some (.ref id o)=>some (True,.ref id o)
 | some (.GY cs id)=>some (True,.GY cs id)
 | _=>none
def bU (p : Prop) : Option (Prop × List AV)→Option (Prop × List AV)
 | some (q,r)=>some (p∧q,r)
 | none=>none
def eO (n off : Nat) : Option AV→List AV→(List AV→Option (Prop × List AV))→Option (Prop × List AV)
 | some a,cs,F=>bU (a.cells.length=n∧off+n≤cs.length) (F (wr cs off a.cells))
 | none,_,_=>none
def J4 (σ : Env) : List (Nat × Nat × X)→List AV→Option (Prop × List AV)
 | [],cs=>some (True,cs)
 | (off,n,x)::r,cs=>eO n off (val σ x) cs (J4 σ r)
def ZG : Option (Prop × List AV)→PV
 | some (p,cs)=>some (p,.agg cs)
 | none=>none
def Ug (off : Nat) : Option Nat→Option AV→PV
 | none,some (.agg cs)=>some (off<cs.length,cs.getD off nv)
 | some n,some (.agg cs)=>some (off+n≤cs.length,.agg ((cs.drop off).take n))
 | _,_=>none
def Yj (i : Nat) : Option AV→PV
 | some (.CK vs)=>some (i<vs.length,vs.getD i nv)
 | _=>none
def Rk (sz : Nat) (es : List AV) (a b : Int) : PV:=some ((0≤a∧a≤b∧b≤es.length)∧Da sz es,.sl ((es.take b.toNat).drop a.toNat))
def PL (sz : Nat) (es : List AV) (a : Int) : Option (Option AV)→PV
 | none=>Rk sz es a es.length
 | some (some (.int _ b))=>Rk sz es a b
 | _=>none
def NF (sz : Nat) : Option AV→Option (Option AV)→Option (Option AV)→PV
 | some (.sl es),none,hi=>PL sz es 0 hi
 | some (.sl es),some (some (.int _ a)),hi=>PL sz es a hi
 | _,_,_=>none
def bQ : Option AV→Option (Option AV)→Option (Option AV)→PV
 | some (.str l),some (some (.int _ a)),none=>some (0≤a∧a≤l.length,.str (l.drop a.toNat))
 | _,_,_=>none
def Ki (sz : Nat) (x : Option AV) (lo hi : Option (Option AV)) : PV:=if sz=0 then bQ x lo hi else NF sz x lo hi
def fG (f : Fn) : Option (List AV)→PV
 | some ca=>some (True,.fn f ca)
 | none=>none
def eZ (t : TypeId) : Option AV→PV
 | some v=>some (True,.RM t v)
 | none=>none
def eB (sz : Nat) : Option (List AV)→PV
 | some as=>some (Da sz as∧as.length≤AK,.sl as)
 | none=>none
def fF (n : Nat) : Option AV→PV
 | some a=>some (a.cells.length=n∧∀ c,c∈a.cells→c.one=true,.ptr a.cells)
 | none=>none
def lK (V7 : Bool) : Option AV→Option AV→PV
 | some (.int k1 a),some (.int k2 b)=>some (k1=k2,.int k1 (if V7 then (if b > a then b else a) else (if b<a then b else a)))
 | _,_=>none
def AV.byte : AV→UInt8
 | .int _ n=>UInt8.ofNat n.toNat
 | _=>0
def AV.isByte : AV→Bool
 | .int .u8 _=>true
 | _=>false
def RU : Option AV→PV
 | some (.sl es)=>some (∀ e,e∈es→e.isByte=true,.str (es.map AV.byte))
 | some .A1=>some (True,.str [])
 | _=>none
def yN : List AV→List AV→Bool
 | .int _ a::r,.int _ b::s=>decide (a=b) && yN r s
 | _,_=>true
def iJ (neg : Bool) (n : Nat) : Option AV→Option AV→PV
 | some (.agg as),some (.agg bs)=>some (∃ k1 k2 a1 a2 b1 b2,as=[.int k1 a1,.int k2 a2]∧bs=[.int k1 b1,.int k2 b2],.bool (neg ^^ yN as bs))
 | _,_=>none
def Kb (σ : Env) : Ins→PV
 | .mv x=>Wm (val σ x)
 | .pick c a b=>Mk (val σ c) (val σ a) (val σ b)
 | .ar op k x y=>Hs op k (val σ x) (val σ y)
 | .bq neg x y=>jV neg (val σ x) (val σ y)
 | .nq neg x=>kO neg (val σ x)
 | .nt x=>tX (val σ x)
 | .conv k x=>R6 k (val σ x)
 | .len x=>FF (val σ x)
 | .Zu x=>UC (val σ x)
 | .idx sz x i=>Hl sz (val σ x) (val σ i)
 | .nO off n x=>Tg off n (val σ x)
 | .vV n x=>Zh n (val σ x)
 | .nI x=>Wo (val σ x)
 | .sL zero parts=>ZG (J4 σ parts zero)
 | .prt off n x=>Ug off n (val σ x)
 | .ext x i=>Yj i (val σ x)
 | .nG sz x lo hi=>Ki sz (val σ x) (lo.map (val σ)) (hi.map (val σ))
 | .rQ f ca=>fG f (DB σ ca)
 | .nS t x=>eZ t (val σ x)
 | .Zr sz xs=>eB sz (DB σ xs)
 | .emp=>some (True,.FI)
 | .aE n x=>fF n (val σ x)
 | .mx V7 x y=>lK V7 (val σ x) (val σ y)
 | .vD x=>RU (val σ x)
 | .aq neg n x y=>iJ neg n (val σ x) (val σ y)
 | _=>none
abbrev Ap:=AV→AA→Prop
def pW : PV→Ap→AA→Prop
 | some (p,r),K,H=>p∧K r H
 | none,_,_=>False
def M6 : Option AF→Option Nat→Nat→Ap→AA→Prop
 | some (.cells _ cs _),none,off,K,H=>off<cs.length∧K (cs.getD off nv) H
 | some (.cells _ cs _),some n,off,K,H=>off+n≤cs.length∧K (.agg ((cs.drop off).take n)) H
 | _,_,_,_,_=>False
def VV : Option Nat→Option AV→Ap→AA→Prop
 | n,some (.ref id off),K,H=>M6 (H.get id) n off K H
 | n,x,K,H=>pW (Zh n x) K H
def ZO (z : Nat) (n : Option Nat) : Option AV→Ap→AA→Prop
 | some (.ref id off),K,H=>(∃ cs f,H.get id=some (.cells z cs f))∧M6 (H.get id) n off K H
 | _,_,_=>False
def AA.QH (z : Nat) (H H' : AA) : Prop:=∀ i cs f,H.get i=some (.cells z cs f)→H'.get i=some (.cells z cs f)
def Oa : Option AF→Nat→Nat→Nat→List AV→Ap→AA→Prop
 | some (.cells sz cs f),id,off,n,vs,K,H =>
  (f≤off∧off+n≤cs.length∧vs.length=n∧∀ c,c∈vs→c.one=true)∧K nv (H.set id (.cells sz (wr cs off vs) f))
 | _,_,_,_,_,_,_=>False
def qL (n : Nat) : Option AV→Option AV→Ap→AA→Prop
 | some (.ref id off),some v,K,H=>Oa (H.get id) id off n v.cells K H
 | _,_,_,_=>False
def Eo (n sz : Nat) (cs : List AV) (K : Ap) (H : AA) : Prop:=∀ id,H.get id=none→K (.buf id n) (H.set id (.cells sz cs 0))
def HH (sz : Nat) (cs : List AV) (K : Ap) (H : AA) : Prop:=∀ id,H.get id=none→K (.ref id 0) (H.set id (.cells sz cs 0))
def WJ (K : Ap) (H : AA) : Prop:=∀ id,H.get id=none→K (.GX id) (H.set id (.map [] []))
def Qp (sz : Nat) : Option (List AV)→Ap→AA→Prop
 | some as,K,H=>(Da sz as∧as.length≤AK)∧Eo as.length sz (flat as) K H
 | none,_,_=>False
def Th (n : Nat) : Option AV→Ap→AA→Prop
 | some a,K,H=>(a.cells.length=n∧n≤AK)∧HH n a.cells K H
 | none,_,_=>False
def DD (sz : Nat) : Option AV→AA→Option (Prop × Nat × List AV)
 | some (.sl es),_=>some (Da sz es,es.length,flat es)
 | some .A1,_=>some (True,0,[])
 | _,_=>none
def Gf (sz : Nat) : Option AF→Nat→Nat→Option (Prop × Nat × List AV)→Ap→AA→Prop
 | some (.cells sz' cs f),id,n,some (p,m,new),K,H=>(sz'=sz∧cs.length=n*sz∧n+m≤AK∧(n+m)*sz≤AK∧p) ∧
   ∀ Ca,H.get Ca=none→K (.buf Ca (n+m)) ((H.del id).set Ca (.cells sz (cs++new) f))
 | _,_,_,_,_,_=>False
def TU (sz : Nat) : Option (Prop × Nat × List AV)→Ap→AA→Prop
 | some (p,m,new),K,H=>(m≤AK∧m*sz≤AK∧p)∧Eo m sz new K H
 | none,_,_=>False
def cA (sz : Nat) : Option (Prop × Nat × List AV)→Ap→AA→Prop
 | some (p,m,new),K,H=>(0<m∧m≤AK∧m*sz≤AK∧p)∧Eo m sz new K H
 | none,_,_=>False
def Ds (sz : Nat) : Option AV→Option AV→Ap→AA→Prop
 | some (.buf id n),x,K,H=>Gf sz (H.get id) id n (DD sz x H) K H
 | some .A1,x,K,H=>TU sz (DD sz x H) K H
 | some .FI,x,K,H=>cA sz (DD sz x H) K H
 | _,_,_,_=>False
def S9 (sz : Nat) (zero : List AV) : Option AV→Option AV→Ap→AA→Prop
 | some (.int _ l),some (.int _ c),K,H=>(0≤l∧l≤c∧c.toNat≤AK∧l.toNat*sz≤AK)∧Eo l.toNat sz (rep l.toNat zero) K H
 | _,_,_,_=>False
def AV.Sb : AV→AV→Bool
 | .int _ a,.int _ b=>decide (a=b)
 | .str a,.str b=>decide (a=b)
 | .agg [.int _ a,.int _ b],.agg [.int _ c,.int _ d]=>decide (a=c) && decide (b=d)
 | _,_=>false
def AV.C3 (s : Nat) : AV→AV→Bool
 | .int k _,.int k' _=>s == 0 && decide (k=k')
 | .str _,.str _=>s == 1
 | .agg [.int k _,.int l _],.agg [.int k' _,.int l' _]=>s == 2 && (decide (k=k') && decide (l=l'))
 | _,_=>false
def LU (s : Nat) (k : AV) (ks : List AV) : Prop:=k.C3 s k=true∧∀ a,a∈ks→k.C3 s a=true
def J5 (k : AV) : List AV→List AV→Option AV
 | a::ks,v::vs=>if k.Sb a then some v else J5 k ks vs
 | _,_=>none
def Ie (k x : AV) : List AV→List AV→List AV × List AV
 | a::ks,v::vs=>if k.Sb a then (k::ks,x::vs) else ((a::(Ie k x ks vs).1),(v::(Ie k x ks vs).2))
 | _,_=>([k],[x])
def mS (ok : Bool) (zero : AV) (r : Option AV) : AV :=
 if ok then .CK [r.getD zero,.bool r.isSome] else r.getD zero
def uE (s : Nat) (ok : Bool) (zero : AV) : Option AF→AV→Ap→AA→Prop
 | some (.map ks vs),k,K,H=>LU s k ks∧K (mS ok zero (J5 k ks vs)) H
 | _,_,_,_=>False
def Z0 (s : Nat) (ok : Bool) (zero : AV) : Option AV→Option AV→Ap→AA→Prop
 | some (.IH ks vs),some k,K,H=>LU s k ks∧K (mS ok zero (J5 k ks vs)) H
 | some (.GX id),some k,K,H=>uE s ok zero (H.get id) k K H
 | _,_,_,_=>False
def sV (s : Nat) : Option AF→Nat→AV→AV→Ap→AA→Prop
 | some (.map ks vs),id,k,x,K,H=>LU s k ks∧K nv (H.set id (.map (Ie k x ks vs).1 (Ie k x ks vs).2))
 | _,_,_,_,_,_=>False
def j6 (s : Nat) : Option AV→Option AV→Option AV→Ap→AA→Prop
 | some (.GX id),some k,some x,K,H=>sV s (H.get id) id k x K H
 | _,_,_,_,_=>False
def lm1 : Option AF→Ap→AA→Prop
 | some (.map ks _),K,H=>K (.int .i64 ks.length) H
 | _,_,_=>False
def tE : Option AV→Ap→AA→Prop
 | some (.GX id),K,H=>lm1 (H.get id) K H
 | _,_,_=>False
def Jr (sz id n : Nat) : Option (Option AV)→Option (Option AV)→PV
 | some (some (.int _ a)),none=>some (0≤a∧a.toNat<n,.sub id (a.toNat*sz) (n - a.toNat))
 | none,some (some (.int _ b))=>some (0≤b∧b.toNat≤n∧0<n,.buf id b.toNat)
 | _,_=>none
def wW (sz n : Nat) (r : PV) : Option AF→Ap→AA→Prop
 | some (.cells sz' cs _),K,H=>(sz'=sz∧cs.length=n*sz)∧pW r K H
 | _,_,_=>False
def WS (sz : Nat) : Option AV→Option (Option AV)→Option (Option AV)→Ap→AA→Prop
 | some (.buf id n),lo,hi,K,H=>wW sz n (Jr sz id n lo hi) (H.get id) K H
 | _,_,_,_,_=>False
def Yl (zero : List AV) : Option AV→Ap→AA→Prop
 | some (.sub id off n),K,H=>0<n∧Oa (H.get id) id off (n*zero.length) (rep n zero) K H
 | _,_,_=>False
def Dj (g : Gh) (B : Nat) (w : World) (K : Ap) (v : Value) (w' : World) : Prop :=
 ∃ g' r H',g.le g'∧K r H'∧Ad g' r v∧Ao g' B H' w'∧Below B w w'
def Enters (P : Program) (f : FuncId) : Prop := ∃ fn, P.funcs[f]? = some fn ∧ fn.body.isNone = false ∧ (fn.name == "runtime.NumGoroutine") = false
def BG (P : Program) (B : Nat) (f : FuncId) (args : List AV) (H : AA) (K : Ap) : Prop :=
 Enters P f∧∀ g w vs,Ao g B H w→Fm g args vs→Calls P f vs w fun e w'=>∃ v,e=.returned v∧Dj g B w K v w'
def JC (P : Program) (B : Nat) (f : FuncId) (args : List AV) (r : AV) : Prop :=
 ∀ H,BG P B f args H fun r' H'=>r'=r∧H'=H
theorem Dj.mono {g : Gh} {B : Nat} {w : World} {K K' : Ap} {v : Value} {w' : World} (h : Dj g B w K v w') (hk : ∀ r H,K r H→K' r H) : Dj g B w K' v w':=by
 obtain ⟨g',r,H',a,b,c⟩:=h;exact ⟨g',r,H',a,hk _ _ b,c⟩
theorem BG.mono {P : Program} {B : Nat} {f : FuncId} {args : List AV} {H : AA} {K K' : Ap} (h : BG P B f args H K) (hk : ∀ r H,K r H→K' r H) : BG P B f args H K' :=
 ⟨h.1,fun g w vs hw hv=>(h.2 g w vs hw hv).mono fun _ _ ⟨v,e,hf⟩=>⟨v,e,hf.mono hk⟩⟩
theorem JC.use {P : Program} {B : Nat} {f : FuncId} {args : List AV} {r : AV} {H : AA} {K : Ap} (h : JC P B f args r) (hk : K r H) : BG P B f args H K :=
 (h H).mono fun _ _ ⟨a,b⟩=>by subst a; subst b; exact hk
def Kx (P : Program) (B : Nat) : Option AV→Option (List AV)→Ap→AA→Prop
 | some (.fn (.func f) ca),some as,K,H=>BG P B f (as++ca) H K
 | _,_,_,_=>False
def Se (P : Program) (B : Nat) : Option AV→Option (List AV)→AV→Prop
 | some (.fn (.func f) ca),some as,r=>JC P B f (as++ca) r
 | _,_,_=>False
def pB (P : Program) (t : TypeId) (name : String) (f : FuncId) : Prop :=
 ∀ v w,(method (P.types.size+Made.depth) t v name).run P w=.ok (f,v) w
def kF (P : Program) (B : Nat) (name : String) : Option AV→Option (List AV)→Ap→AA→Prop
 | some (.RM t v),some as,K,H=>∃ f,pB P t name f∧BG P B f (v::as) H K
 | _,_,_,_=>False
def Vz (neg : Bool) : Option AV→Ap→AA→Prop
 | some .A1,K,H=>K (.bool (!neg)) H
 | some (.sl es),K,H=>(es=[]→∀ b,K (.bool b) H)∧(es≠[]→K (.bool neg) H)
 | _,_,_=>False
def oH (P : Program) (t asserted : TypeId) : Prop :=
 ∀ (v : Value) (xT : TypeId) (w : World),(Instr.typeAssert (.iface t v) xT asserted true).run P w=.ok (.tuple #[.iface t v,.bool true]) w
def Z5 (P : Program) (asserted : TypeId) : Option AV→Ap→AA→Prop
 | some (.RM t v),K,H=>oH P t asserted∧K (.CK [.RM t v,.bool true]) H
 | _,_,_=>False
def E1 (P : Program) (B : Nat) (K : Ap) (σ : Env) (H : AA) : Ins→Prop
 | .ld n x=>VV n (val σ x) K H
 | .jD z n x=>ZO z n (val σ x) K H
 | .st n p v=>qL n (val σ p) (val σ v) K H
 | .Sx sz xs=>Qp sz (DB σ xs) K H
 | .T4 n x=>Th n (val σ x) K H
 | .lX zero=>zero.length≤AK∧HH zero.length zero K H
 | .app sz _ s x=>Ds sz (val σ s) (val σ x) K H
 | .l7 sz zero l c=>S9 sz zero (val σ l) (val σ c) K H
 | .nV=>WJ K H
 | .aS s ok zero m k=>Z0 s ok zero (val σ m) (val σ k) K H
 | .hZ s m k v=>j6 s (val σ m) (val σ k) (val σ v) K H
 | .Sy x=>tE (val σ x) K H
 | .mB sz x lo hi=>WS sz (val σ x) (lo.map (val σ)) (hi.map (val σ)) K H
 | .sD z x=>Yl z (val σ x) K H
 | .call f xs=>Kx P B (val σ f) (DB σ xs) K H
 | .Lr f xs=>Kx P B (val σ f) (DB σ xs) (fun r H'=>H.sub H'∧K r H') H
 | .Lj y f xs=>Kx P B (val σ f) (DB σ xs) (fun r H'=>(∀ z,z≠y→H.QH z H')∧K r H') H
 | .N9 f xs=>∃ r,Se P B (val σ f) (DB σ xs) r∧K r H
 | .inv x name xs=>kF P B name (val σ x) (DB σ xs) K H
 | .jE neg x=>Vz neg (val σ x) K H
 | .nH t x=>Z5 P t (val σ x) K H
 | i=>pW (Kb σ i) K H
def DP (d : Option Nat) (F : Env→AA→Prop) (σ : Env) : Ap:=fun v H =>
 match d with
 | some d=>F (σ.put d v) H
 | none=>F σ H
def At (F : Env→AA→Prop) (σ : Env) (H : AA) : Prop:=F σ H
theorem At.mk {F : Env→AA→Prop} {σ : Env} {H : AA} (h : F σ H) : At F σ H:=h
def FZ (P : Program) (B : Nat) (d : Option Nat) (i : Ins) (F : Env→AA→Prop) (σ : Env) (H : AA) : Prop:=E1 P B (DP d F σ) σ H i
def iE (o : Option AV) (b : Bool) (A C : Env→AA→Prop) (σ : Env) (H : AA) : Prop :=
 match o with
 | some (.bool c)=>(c=b→At A σ H)∧(c=(!b)→At C σ H)
 | some (.CK _)=>At C σ H
 | _=>False
def WL (b : Bool) (q : AV) : Prop:=q=.bool (!b)∨∃ cs,q=.CK cs
def Hr : Option Nat→Env→Env
 | some d,σ=>σ.put d nv
 | none,σ=>σ
def bg (d : Option Nat) (F : Env→AA→Prop) (σ : Env) (H : AA) : Prop:=F (Hr d σ) H
def CF (P : Program) (B : Nat) : List Cx→(Env→AA→Prop)→Env→AA→Prop
 | [],K,σ,H=>K σ H
 | ⟨d,none,i⟩::r,K,σ,H=>FZ P B d i (CF P B r K) σ H
 | ⟨d,some (t,b),i⟩::r,K,σ,H=>iE (σ.get t) b (FZ P B d i (CF P B r K)) (bg d (CF P B r K)) σ H
end Go.AW
namespace Go.AW
open Go.RowKit
def M7 : Value→Option AV
 | .bool b=>some (.bool b)
 | .int k n=>some (.int k n)
 | .string s=>some (.str s.data.toList)
 | .pointer none=>some .Gk
 | .slice none 0 0=>some .A1
 | .map none=>some (.IH [] [])
 | .nilFunc=>some .Pq
 | .nilIface=>some .T3
 | _=>none
def consts : List Value→Option (List AV)
 | []=>some []
 | v::r=>My (M7 v) (consts r)
def VM : Value→Option AV
 | .agg cs=>(consts cs.toList).map AV.agg
 | v=>M7 v
def cx : Operand→Option X
 | .tmp t=>some (.t t)
 | .const v=>(VM v).map X.c
 | .func f=>some (.c (.fn (.func f) []))
 | .global _=>none
def XV : Option X→Option (List X)→Option (List X)
 | some a,some r=>some (a::r)
 | _,_=>none
def cF : List Operand→Option (List X)
 | []=>some []
 | x::r=>XV (cx x) (cF r)
def oF : Option Operand→Option (Option X)
 | none=>some none
 | some x=>(cx x).map some
def Gq (P : Program) (t : TypeId) : Option (Option Nat) :=
 match P.underlying t,P.info? t with
 | some (.struct _),some i=>some (some i.size)
 | some (.array _ _),some i=>some (some i.size)
 | some _,some i=>if i.size=1 then some none else none
 | _,_=>none
def fieldsOf (P : Program) (t : TypeId) : Option (Array Field) :=
 match P.underlying t with
 | some (.struct fs)=>some fs
 | _=>none
def Fy (P : Program) (t : TypeId) (i : Nat) : Option (Nat × Nat × Option Nat) :=
 match fieldsOf P t with
 | some fs=>match fs[i]? with
  | some f=>match P.info? f.type,Gq P f.type with
   | some j,some a=>if j.size=0 then none else some (f.offset,j.size,a)
   | _,_=>none
  | none=>none
 | none=>none
def C5 (P : Program) (t : TypeId) : Option (TypeId × TypeInfo) :=
 match P.underlying t with
 | some (.slice e)=>match P.info? e with
  | some i=>if i.size=0 then none else some (e,i)
  | none=>none
 | _=>none
def aZ (P : Program) (t : TypeId) : Option IntKind :=
 match P.underlying t with
 | some (.int k)=>some k
 | _=>none
def C8 (P : Program) (t : TypeId) : Option (List AV) :=
 match P.info? t with
 | some i=>match i.zero with
  | some z=>match consts z.cells.toList with
   | some zs=>if zs.length=i.size then some zs else none
   | none=>none
  | none=>none
 | none=>none
def zeroOf (P : Program) (t : TypeId) : Option AV :=
 match P.info? t with
 | some i=>match i.zero with
  | some z=>M7 z
  | none=>none
 | none=>none
def partsOf (P : Program) (t : TypeId) : List (Nat × Operand)→Option (List (Nat × Nat × X))
 | []=>some []
 | (i,x)::r=>match Fy P t i,cx x,partsOf P t r with
  | some (off,n,_),some x,some r=>some ((off,n,x)::r)
  | _,_,_=>none
def Fv : Nat→List (Nat × Operand)→Option (List X)
 | _,[]=>some []
 | k,(i,x)::r=>if i=k then XV (cx x) (Fv (k+1) r) else none
def Nj : Operand→Bool
 | .const (.slice none 0 0)=>true
 | _=>false
def OJ : Operand→Bool
 | .const (.pointer none)=>true
 | _=>false
def FL (P : Program) : Nat→List Field→Bool
 | _,[]=>true
 | o, f :: r => f.offset == o && (match P.underlying f.type with | some (.int _) => true | _ => false) && ((P.info? f.type).map (·.size) == some 1) && f.name != "_" && FL P (o + 1) r
def Om (P : Program) (t : TypeId) (fs : Array Field) : Bool:=FL P 0 fs.toList && !P.stoodInHeld t && fs.size == 2
def oM : BinOp→Bool
 | .add | .sub | .mul | .quo | .rem | .eql | .neq | .lss | .leq | .gtr | .geq | .and | .shr=>true
 | _=>false
def E0 (P : Program) (h : Nat) : Op→Option Ins
 | .move x | .assign x=>(cx x).map .mv
 | .pick c a b=>match cx c,cx a,cx b with
  | some c,some a,some b=>some (.pick c a b)
  | _,_,_=>none
 | .alloc t=>(C8 P t).map .lX
 | .box t x=>match Gq P t,P.info? t,cx x with
  | some _,some i,some x=>if h=1 then some (.T4 i.size x) else some (.aE i.size x)
  | _,_,_=>none
 | .build t parts=>match C8 P t,fieldsOf P t,partsOf P t parts.toList with
  | some z,some fs,some ps=>if fs.all (fun f=>(P.info? f.type).isSome) then some (.sL z ps) else none
  | _,_,_=>none
 | .buildSlice t n parts=>match C5 P t,Fv 0 parts.toList,C8 P ((P.underlying t).elim 0 fun | .slice e=>e | _=>0) with
  | some (_,i),some xs,some _=>if xs.length=n∧n*i.size≤16777216 then (if h=2∧n=0 then some .emp else if h=1 then some (.Zr i.size xs) else some (.Sx i.size xs)) else none
  | _,_,_=>none
 | .load t x=>match Gq P t,cx x with
  | some n,some x=>if h=1 then some (.vV n x) else if 10≤h then some (.jD (h - 10) n x) else some (.ld n x)
  | _,_=>none
 | .store t p v=>match P.info? t,cx p,cx v with
  | some i,some p,some v=>some (.st i.size p v)
  | _,_,_=>none
 | .nilCheck x=>(cx x).map .nI
 | .binOp op t x y _=>match P.underlying t with
  | some (.int k)=>match cx x,cx y with
   | some x,some y=>if oM op then some (.ar op k x y) else none
   | _,_=>none
  | some .bool=>match op,cx x,cx y with
   | .eql,some x,some y=>some (.bq false x y)
   | .neq,some x,some y=>some (.bq true x y)
   | _,_,_=>none
  | some .string=>match cx x,cx y with
   | some x,some y=>some (.ar op .i64 x y)
   | _,_=>none
  | some (.pointer _)=>match op,cx x,OJ y with
   | .eql,some x,true=>some (.nq false x)
   | .neq,some x,true=>some (.nq true x)
   | _,_,_=>none
  | some (.slice _)=>match op,cx x,Nj y with
   | .eql,some x,true=>some (.jE false x)
   | .neq,some x,true=>some (.jE true x)
   | _,_,_=>none
  | some (.struct fs)=>match op,cx x,cx y with
   | .eql,some x,some y=>if FL P 0 fs.toList && !P.stoodInHeld t && !P.eqGuardType P.depth t && fs.size == 2 then some (.aq false fs.size x y) else none
   | .neq,some x,some y=>if FL P 0 fs.toList && !P.stoodInHeld t && !P.eqGuardType P.depth t && fs.size == 2 then some (.aq true fs.size x y) else none
   | _,_,_=>none
  | _=>none
 | .unOp .not _ x=>(cx x).map .nt
 | .convert s d x=>match P.underlying s,P.underlying d with
  | some (.int _),some (.int k)=>(cx x).map (.conv k)
  | some (.slice e),some .string=>if aZ P e=some .u8 then (cx x).map .vD else none
  | _,_=>none
 | .makeInterface t x=>match P.underlying t with
  | some (.interface _)=>none
  | some _=>(cx x).map (.nS t)
  | none=>none
 | .typeAssert x _ asserted true=>(cx x).map (.nH asserted)
 | .makeFunc f first ca=>if first.size=0 then (cF ca.toList).map (.rQ f) else none
 | .makeMap t r=>match P.underlying t,r with
  | some (.map _ _),none=>some .nV
  | _,_=>none
 | .makeSlice t l c=>match C5 P t,cx l,cx c,C8 P ((P.underlying t).elim 0 fun | .slice e=>e | _=>0) with
  | some (_,i),some l,some c,some z=>if i.bytes≤256 then some (.l7 i.size z l c) else none
  | _,_,_,_=>none
 | .fieldAddr t x f=>match Fy P t f,cx x with
  | some (off,n,_),some x=>some (.nO off n x)
  | _,_=>none
 | .field t x f=>match Fy P t f,cx x with
  | some (off,_,a),some x=>some (.prt off a x)
  | _,_=>none
 | .indexAddr t x i=>match C5 P t,cx x,cx i with
  | some (_,j),some x,some i=>some (.idx j.size x i)
  | _,_,_=>none
 | .lookup t m k ok=>match P.underlying t,cx m,cx k with
  | some (.map kt et),some m,some k=>match P.underlying kt,zeroOf P et with
   | some (.int _),some z=>some (.aS 0 ok z m k)
   | some .string,some z=>some (.aS 1 ok z m k)
   | some (.struct fs),some z=>if Om P kt fs then some (.aS 2 ok z m k) else none
   | _,_=>none
  | _,_,_=>none
 | .mapUpdate t m k v=>match P.underlying t,cx m,cx k,cx v with
  | some (.map kt _),some m,some k,some v=>match P.underlying kt with
   | some (.int _)=>some (.hZ 0 m k v)
   | some .string=>some (.hZ 1 m k v)
   | some (.struct fs)=>if Om P kt fs then some (.hZ 2 m k v) else none
   | _=>none
  | _,_,_,_=>none
 | .extract x i=>(cx x).map (.ext · i)
 | .slice t x lo hi none=>match C5 P t,cx x,oF lo,oF hi with
  | some (_,ti),some x,some lo,some hi=>if h=1 then some (.mB ti.size x lo hi) else some (.nG ti.size x lo hi)
  | none,some x,some lo,some hi=>match P.underlying t with
   | some .string=>some (.nG 0 x lo hi)
   | _=>none
  | _,_,_,_=>none
 | .call c=>match c.callee with
  | .builtin .len=>match c.args.toList,c.argTypes.toList with
   | [x],[t]=>match P.underlying t with
    | some (.slice _)=>(cx x).map .len
    | some .string=>(cx x).map .Zu
    | some (.map _ _)=>(cx x).map .Sy
    | _=>none
   | _,_=>none
  | .builtin .clear=>match c.args.toList,c.argTypes.toList with
   | [x],[t]=>match C5 P t with
    | some e=>match cx x,C8 P e.1 with
     | some x,some z=>some (.sD z x)
     | _,_=>none
    | none=>none
   | _,_=>none
  | .builtin .append=>match c.args.toList,c.argTypes.toList with
   | [s,x],[t,t']=>match C5 P t,cx s,cx x,C8 P ((P.underlying t).elim 0 fun | .slice e=>e | _=>0) with
    | some (_,i),some s,some x,some _=>if t=t'∧i.bytes≤128 then some (.app i.size i.bytes s x) else none
    | _,_,_,_=>none
   | _,_=>none
  | .builtin .max=>match c.args.toList with
   | [x,y]=>match cx x,cx y with
    | some x,some y=>some (.mx true x y)
    | _,_=>none
   | _=>none
  | .builtin .min=>match c.args.toList with
   | [x,y]=>match cx x,cx y with
    | some x,some y=>some (.mx false x y)
    | _,_=>none
   | _=>none
  | .value f=>match cx f,cF c.args.toList with
   | some f,some xs=>if h=1 then some (.N9 f xs) else if h=2 then some (.Lr f xs) else if 10≤h then some (.Lj (h - 10) f xs) else some (.call f xs)
   | _,_=>none
  | .invoke x name=>match cx x,cF c.args.toList with
   | some x,some xs=>some (.inv x name xs)
   | _,_=>none
  | _=>none
 | _=>none
def Ei (ops : Array Oper) : Option (Nat × Bool)→Option (Option (Nat × Bool))
 | none=>some none
 | some (j,b)=>match (ops[j]?).bind (·.dst) with
  | some t=>some (some (t,b))
  | none=>none
def isUnit : Ins→Bool
 | .st .. | .hZ ..=>true
 | _=>false
def Ns (N : Nat) (i : Ins) : Option Nat→Bool
 | some d=>decide (d<N) && !isUnit i
 | none=>true
def EB (P : Program) (N : Nat) (ops : Array Oper) (h : Nat) (o : Oper) : Option Cx :=
 match E0 P h o.op,Ei ops o.guard with
 | some i,some g=>if Ns N i o.dst then some ⟨o.dst,g,i⟩ else none
 | _,_=>none
end Go.AW
namespace Go.AW
open Go.RowKit
theorem Bk {α} (a b : List α) (i : Nat) (d : α) : (a++b).getD i d=if i<a.length then a.getD i d else b.getD (i - a.length) d:=by
 simp only [gE,List.getElem?_append]
 split <;> rfl
theorem Kj {g : Gh} {v : Value} {a : AV} (h : M7 v=some a) : Ad g a v:=by
 unfold M7 at h
 split at h <;> first | (cases h; done) | skip
 all_goals (cases h)
 ·exact .bool _
 ·exact .int _ _
 ·rename_i s
  obtain ⟨⟨l⟩⟩:=s;exact .str l
 ·exact .Gk
 ·exact .A1
 ·exact .Lm
 ·exact .Pq
 ·exact .T3
theorem GK {a : Option AV} {r : Option (List AV)} {l : List AV} (h : My a r=some l) : ∃ x s,a=some x∧r=some s∧l=x::s:=by
 cases a <;> cases r <;> simp [My] at h
 exact ⟨_,_,rfl,rfl,h.symm⟩
theorem OC {a : Option X} {r : Option (List X)} {l : List X} (h : XV a r=some l) : ∃ x s,a=some x∧r=some s∧l=x::s:=by
 cases a <;> cases r <;> simp [XV] at h
 exact ⟨_,_,rfl,rfl,h.symm⟩
theorem Ho {g : Gh} : ∀ {vs : List Value} {as : List AV},consts vs=some as→as.length=vs.length∧∀ i,i<as.length→Ad g (as.getD i nv) (vs.getD i undef)
 | [],as,h=>by cases h; simp
 | v::r,as,h=>by
  obtain ⟨x,s,h1,h2,rfl⟩:=GK h
  obtain ⟨hl,hr⟩:=Ho (g:=g) h2;refine ⟨by simp [hl],fun i hi=>?_⟩
  cases i with
  | zero=>exact Kj h1
  | succ i=>simpa using hr i (by simpa using hi)
theorem Wq {g : Gh} {v : Value} {a : AV} (h : VM v=some a) : Ad g a v:=by
 unfold VM at h
 split at h
 ·rename_i cs
  cases e : consts cs.toList with
  | none=>simp [e] at h
  | some as =>
   simp [e] at h; subst h
   obtain ⟨hl,hr⟩:=Ho (g:=g) e;exact .agg as cs (by simpa using hl.symm) (fun i hi=>by simpa using hr i hi)
 ·exact Kj h
section
variable {g : Gh} {σ : Env} {a : Act}
theorem Ar {x : Operand} {x' : X} {v : AV} (hE : Cc g σ a.tmps) (hx : cx x=some x') (hv : val σ x'=some v) : Ad g v (a.eval x):=by
 cases x with
 | tmp t=>simp [cx] at hx; subst hx; exact (hE t v hv).2
 | const c =>
  simp [cx] at hx
  obtain ⟨av,h1,rfl⟩:=hx
  simp [val] at hv; subst hv;exact Wq h1
 | func f=>simp [cx] at hx; subst hx; simp [val] at hv; subst hv; exact .fn _ [] #[] rfl (fun i hi=>by simp at hi)
 | global _=>simp [cx] at hx
theorem Tz (hE : Cc g σ a.tmps) : ∀ {xs : List Operand} {xs' : List X} {vs : List AV},cF xs=some xs'→DB σ xs'=some vs →
  vs.length=xs.length∧∀ i,i<vs.length→Ad g (vs.getD i nv) ((xs.map a.eval).getD i undef)
 | [],xs',vs,h,hv=>by cases h; cases hv; simp
 | x::r,xs',vs,h,hv=>by
  obtain ⟨x',s,h1,h2,rfl⟩:=OC h
  obtain ⟨v,vs',h3,h4,rfl⟩:=GK hv
  obtain ⟨hl,hr⟩:=Tz hE h2 h4;refine ⟨by simp [hl],fun i hi=>?_⟩
  cases i with
  | zero=>exact Ar hE h1 h3
  | succ i=>simpa using hr i (by simpa using hi)
theorem Jg (hE : Cc g σ a.tmps) {xs : List Operand} {xs' : List X} {vs : List AV} (h : cF xs=some xs') (hv : DB σ xs'=some vs) :
  Fm g vs (xs.map a.eval).toArray:=by
 obtain ⟨h1,h2⟩:=Tz hE h hv;exact ⟨by simp [h1],fun i hi=>by simpa using h2 i hi⟩
end
section
variable {P : Program} {g : Gh} {B : Nat} {H : AA} {w : World}
theorem DU {e : PV} {K : Ap} {H : AA} (h : pW e K H) : ∃ p r,e=some (p,r)∧p∧K r H:=by
 cases e with
 | none=>exact h.elim
 | some x=>exact ⟨x.1,x.2,rfl,h.1,h.2⟩
theorem Ad.one {a : AV} {v : Value} (h : Ad g a v) (ho : a.one=true) : v.oneCell'=true:=by
 cases h <;> first | rfl | (simp [AV.one] at ho)
theorem Ad.cells {a : AV} {v : Value} (h : Ad g a v) : v.cells.size=a.cells.length∧∀ i,i<a.cells.length→Ad g (a.cells.getD i nv) (v.cells.getD i undef):=by
 cases h with
 | agg cs vs hs hv=>exact ⟨hs,hv⟩
 | _=>refine ⟨rfl,fun i hi=>?_⟩ <;> (have h0 : i=0:=by simp [AV.cells] at hi; omega) <;> subst h0 <;> first
   | exact .bool _ | exact .int _ _ | exact .str _ | exact .Gk | exact .A1 | exact .FI _ | exact .Lm | exact .Pq | exact .T3
   | (rename_i cs b o vs hf hv; exact .ptr cs b o vs hf hv) | (rename_i id off b cap h; exact .ref id off b cap h) | (rename_i cs id b cap vs h hf hv; exact .GY cs id b cap vs h hf hv)
   | (rename_i a cap; exact .slnil a cap) | (rename_i es b o sz cap vs hm QZ CW hf hv; exact .sl es b o sz cap vs hm QZ CW hf hv)
   | (rename_i id h; exact .DX id h) | (rename_i id n b cap h; exact .buf id n b cap h) | (rename_i id off n b cap c h; exact .sub id off n b cap c h) | (rename_i a n cap h; exact .V7 a n cap h)
   | (rename_i ks vs b es h h1 h2 hk hv; exact .IH ks vs b es h h1 h2 hk hv) | (rename_i id b h; exact .GX id b h)
   | (rename_i f ca vs hs hv; exact .fn f ca vs hs hv) | (rename_i t v w h; exact .RM t v w h) | (rename_i cs vs hs hv; exact .CK cs vs hs hv)
theorem Yz {op : BinOp} {k : IntKind} {x y : Int} {p : Prop} {r : AV} (t : TypeId) (h : Tn op k x y=some (p,r)) (hp : p) :
  ∃ u,(binOp op t (.int k x) (.int k y)).run P w=.ok u w∧Ad g r u:=by
 cases op <;> simp only [Tn,Option.some.injEq,Prod.mk.injEq,reduceCtorEq] at h
 all_goals (obtain ⟨rfl,rfl⟩:=h)
 case quo=>exact ⟨_,by simp [binOp,Op.intDiv,hp],.int _ _⟩
 case rem=>exact ⟨_,by simp [binOp,Op.intDiv,hp],.int _ _⟩
 case add=>exact ⟨_,by simp [binOp,Op.intArith],.int _ _⟩
 case sub=>exact ⟨_,by simp [binOp,Op.intArith],.int _ _⟩
 case mul=>exact ⟨_,by simp [binOp,Op.intArith],.int _ _⟩
 case eql=>exact ⟨.bool (x == y),by simp [binOp,Op.intCmp],by rw [show decide (x=y)=(x == y) by rw [Bool.eq_iff_iff]; simp]; exact .bool _⟩
 case neq=>exact ⟨.bool (x != y),by simp [binOp,Op.intCmp],by rw [show (!decide (x=y))=(x != y) by rw [Bool.eq_iff_iff]; simp]; exact .bool _⟩
 case lss=>exact ⟨_,by simp [binOp,Op.intCmp],.bool _⟩
 case leq=>exact ⟨_,by simp [binOp,Op.intCmp],.bool _⟩
 case gtr=>exact ⟨_,by simp [binOp,Op.intCmp],.bool _⟩
 case geq=>exact ⟨_,by simp [binOp,Op.intCmp],.bool _⟩
 case and=>exact ⟨_,by simp [binOp,Op.intBits],.int _ _⟩
 case shr=>exact ⟨_,by
  have : ¬ y<0:=by omega
  simp [binOp,Op.shift,this],.int _ _⟩
theorem lI {k k' : IntKind} {x y : Int} (t : TypeId) (hp : 0≤y) :
  (binOp .shr t (.int k x) (.int k' y)).run P w=.ok (.int k (x.fdiv (2 ^ min y.toNat k.bits))) w:=by
 have : ¬ y<0:=by omega
 simp [binOp,Op.shift,this]
theorem K3 {t : TypeId} {fs} (h : fieldsOf P t=some fs) : P.underlying t=some (.struct fs):=by
 unfold fieldsOf at h
 split at h <;> simp_all
theorem IB {t : TypeId} {i off n : Nat} {a : Option Nat} (h : Fy P t i=some (off,n,a)) :
  ∃ fs f j,P.underlying t=some (.struct fs)∧fs[i]? = some f∧P.info? f.type=some j∧j.size=n∧n≠0∧f.offset=off∧Gq P f.type=some a:=by
 unfold Fy at h
 cases h1 : fieldsOf P t with
 | none=>simp [h1] at h
 | some fs =>
  cases h2 : fs[i]? with
  | none=>simp [h1,h2] at h
  | some f =>
   simp only [h1,h2] at h
   cases h3 : P.info? f.type with
   | none=>simp [h3] at h
   | some j =>
    cases h4 : Gq P f.type with
    | none=>simp [h3,h4] at h
    | some a' =>
     simp only [h3,h4] at h
     split at h
     ·cases h
     ·simp at h
      obtain ⟨h5,h6,h7⟩:=h;exact ⟨fs,f,j,K3 h1,h2,h3,h6,by omega,h5,by rw [h4,h7]⟩
theorem Co {t : TypeId} {x : TypeId × TypeInfo} (h : C5 P t=some x) : P.underlying t=some (.slice x.1)∧P.info? x.1=some x.2∧x.2.size≠0:=by
 unfold C5 at h
 split at h
 ·rename_i e he
  split at h
  ·rename_i i hi
   split at h
   ·cases h
   ·cases h; exact ⟨he,hi,by assumption⟩
  ·cases h
 ·cases h
theorem Ft {t : TypeId} (h : Gq P t=some none) : (isAgg t).run P w=.ok false w:=by
 unfold Gq at h
 split at h
 ·cases h
 ·cases h
 ·rename_i d i h1 h2 h3 h4
  unfold isAgg;simp only [Sem.run_bind,run_underlying h3,Result.andThen_ok]
  rfl
 ·cases h
theorem JR {t : TypeId} {n : Nat} (h : Gq P t=some (some n)) : (isAgg t).run P w=.ok true w∧∃ i,P.info? t=some i∧i.size=n:=by
 unfold Gq at h
 split at h
 ·rename_i fs i h1 h2
  simp at h;exact ⟨by simp [isAgg,run_underlying h1],i,h2,h⟩
 ·rename_i fs i h1 h2
  simp at h;exact ⟨by simp [isAgg,run_underlying h1],i,by assumption,h⟩
 ·split at h <;> cases h
 ·cases h
theorem QP {t : TypeId} {i off n : Nat} {a : Option Nat} (h : Fy P t i=some (off,n,a)) {av : AV} {v : Value} (hv : Ad g av v) {p : Prop} {r : AV}
  (he : Tg off n (some av)=some (p,r)) (hp : p) : ∃ u,(Instr.fieldAt t v i).run P w=.ok u w∧Ad g r u:=by
 obtain ⟨fs,f,j,h1,h2,h3,h4,h5,h6,-⟩:=IB h
 cases hv <;> simp only [Tg,Option.some.injEq,Prod.mk.injEq,reduceCtorEq] at he
 case ptr cs b o vs hf hv =>
  obtain ⟨rfl,rfl⟩:=he;refine ⟨.pointer (some ⟨b,o+off,none⟩), ?_, ?_⟩
  ·simp [Instr.fieldAt,run_underlying h1,h2,Instr.sureAddr,fieldPlace,sizeOf,typeInfo,h3,h4,h5,h6,Addr.add_lit]
  ·refine .ptr _ b (o+off) (fun k=>vs (off+k)) (fun k hk=>?_) (fun k hk=>?_)
   ·rw [Nat.add_assoc]; exact hf _ (by simp at hk; omega)
   ·have JP : k<n:=by simp at hk; omega
    have : ((cs.drop off).take n).getD k nv=cs.getD (off+k) nv:=by simp [gE,JP]
    rw [this]; exact hv _ (by simp at hk; omega)
 case ref id o b cap D4 =>
  obtain ⟨rfl,rfl⟩:=he;exact ⟨.pointer (some ⟨b,o+off,none⟩),by simp [Instr.fieldAt,run_underlying h1,h2,Instr.sureAddr,fieldPlace,sizeOf,typeInfo,h3,h4,h5,h6,Addr.add_lit],.ref id _ b cap D4⟩
 case GY cs id b cap vs D4 hf hv =>
  obtain ⟨rfl,rfl⟩:=he;refine ⟨.pointer (some ⟨b,0+off,none⟩),by simp [Instr.fieldAt,run_underlying h1,h2,Instr.sureAddr,fieldPlace,sizeOf,typeInfo,h3,h4,h5,h6,Addr.add_lit], ?_⟩;rw [Nat.zero_add]
  split
  ·refine .ptr _ b off (fun k=>vs (off+k)) (fun k hk=>hf _ (by simp at hk; omega)) (fun k hk=>?_)
   have JP : k<n:=by simp at hk; omega
   have : ((cs.drop off).take n).getD k nv=cs.getD (off+k) nv:=by simp [gE,JP]
   rw [this]; exact hv _ (by simp at hk; omega)
  ·exact .ref id off b cap D4
theorem QQ {t : TypeId} {x : TypeId × TypeInfo} (h : C5 P t=some x) {av iv : AV} {v u : Value} (hv : Ad g av v) (hi : Ad g iv u) {p : Prop} {r : AV}
  (he : Hl x.2.size (some av) (some iv)=some (p,r)) (hp : p) : ∃ z,(Instr.indexAt t v u).run P w=.ok z w∧Ad g r z:=by
 obtain ⟨h1,h2,h3⟩:=Co h
 cases hi <;> try (cases hv <;> simp [Hl] at he; done)
 rename_i k n
 cases hv <;> simp only [Hl,Option.some.injEq,Prod.mk.injEq,reduceCtorEq] at he
 case slnil a cap=>obtain ⟨rfl,rfl⟩:=he; simp at hp
 case DX id D4=>obtain ⟨rfl,rfl⟩:=he; simp at hp
 case sl es b o sz cap vs hm _ CW hf hv =>
  obtain ⟨rfl,rfl⟩:=he
  obtain ⟨p1,p2,p3⟩:=hp
  have hz : sz=x.2.size:=by rw [← p3]; exact (CW _ p2).symm
  subst hz
  have hn : n<(es.length : Int):=by omega
  refine ⟨.pointer (some ⟨b,o+n.toNat*x.2.size,none⟩), ?_, ?_⟩
  ·simp [Instr.indexAt,asIntOf,run_underlying h1,p1,hn,sizeOf,typeInfo,h2,Addr.add_lit]
  ·refine .ptr _ b _ (fun j=>vs (n.toNat*x.2.size+j)) (fun j hj=>?_) (fun j hj=>?_)
   ·rw [Nat.add_assoc]; exact hf _ _ p2 (by rw [p3] at hj; exact hj)
   ·exact hv _ _ p2 (by rw [p3] at hj; exact hj)
 case sub id o m b cap c D4 =>
  obtain ⟨rfl,rfl⟩:=he
  obtain ⟨p1,p2⟩:=hp
  have hn : n<(m : Int):=by omega
  refine ⟨.pointer (some ⟨b,o+n.toNat*x.2.size,none⟩), ?_, ?_⟩
  ·simp [Instr.indexAt,asIntOf,run_underlying h1,p1,hn,sizeOf,typeInfo,h2,Addr.add_lit]
  ·exact .ref id _ b cap D4
 case buf id m b cap D4 =>
  obtain ⟨rfl,rfl⟩:=he
  obtain ⟨p1,p2⟩:=hp
  have hn : n<(m : Int):=by omega
  refine ⟨.pointer (some ⟨b,0+n.toNat*x.2.size,none⟩), ?_, ?_⟩
  ·simp [Instr.indexAt,asIntOf,run_underlying h1,p1,hn,sizeOf,typeInfo,h2,Addr.add_lit]
  ·rw [Nat.zero_add]; exact .ref id _ b cap D4
theorem NP (hW : Ao g B H w) (b o n : Nat) (vs : Nat→Value) (hf : ∀ i,i<n→g.fz b (o+i)=some (vs i)) :
  (loadCells ⟨b,o,none⟩ n).run P w=.ok ((List.range n).map vs).toArray w :=
 run_loadCells w ⟨b,o,none⟩ n vs fun j hj=>by rw [Addr.add_lit]; exact hW.fz _ _ _ (hf j hj)
theorem KH (hW : Ao g B H w) {t : TypeId} {n : Option Nat} (h : Gq P t=some n) {av : AV} {v : Value} (hv : Ad g av v) {p : Prop} {r : AV}
  (he : Zh n (some av)=some (p,r)) (hp : p) : ∃ u,(Instr.loadAt t v).run P w=.ok u w∧Ad g r u:=by
 cases n with
 | none =>
  cases hv <;> simp only [Zh,reduceCtorEq] at he
  rename_i cs b o vs hf hv
  cases cs with
  | nil=>simp at he
  | cons c cs =>
   simp at he
   obtain ⟨-,rfl⟩:=he
   have h0:=hf 0 (by simp)
   have hc:=hW.fz _ _ _ h0;refine ⟨vs 0, ?_,by simpa using hv 0 (by simp)⟩;simp only [Instr.loadAt,Instr.sureAddr,loadVar,Sem.run_bind,Sem.run_pure,Result.andThen_ok,Ft h];simp only [Bool.false_eq_true,if_false,run_load]
   simp at hc
   simp [hc]
 | some n =>
  obtain ⟨h1,i,h2,h3⟩:=JR (w:=w) h
  cases hv <;> simp only [Zh,Option.some.injEq,Prod.mk.injEq,reduceCtorEq] at he
  rename_i cs b o vs hf hv
  obtain ⟨rfl,rfl⟩:=he;refine ⟨.agg ((List.range n).map vs).toArray, ?_, ?_⟩
  ·simp only [Instr.loadAt,Instr.sureAddr,loadVar,Sem.run_bind,Sem.run_pure,Result.andThen_ok,h1,if_true,sizeOf,typeInfo,run_program,h2,h3];simp only [NP (P:=P) hW b o n vs (fun i hi=>hf i (by omega)),Result.andThen_ok,Sem.run_pure']
  ·refine .agg cs _ (by simp [hp]) (fun i hi=>?_)
   have : (((List.range n).map vs).toArray.getD i undef)=vs i:=by simp [Array.getD,show i<n by omega]
   rw [this]; exact hv i hi
end
end Go.AW
namespace Go.AW
open Go.RowKit
section
variable {P : Program} {g : Gh} {B : Nat} {H : AA} {w : World}
theorem Dj.same {K : Ap} {r : AV} {v : Value} (hW : Ao g B H w) (hv : Ad g r v) (hk : K r H) : Dj g B w K v w :=
 ⟨g,r,H,.refl g,hk,hv,hW,.refl B w⟩
theorem FH : ∀ (vs : List AV) (cs : List AV) (o : Nat),(wr cs o vs).length=cs.length
 | [],_,_=>rfl
 | v::r,cs,o=>by simp [wr,FH r]
theorem Ri : ∀ (vs : List AV) (cs : List AV) (o i : Nat),o+vs.length≤cs.length →
  (wr cs o vs).getD i nv=if o≤i∧i<o+vs.length then vs.getD (i - o) nv else cs.getD i nv
 | [],cs,o,i,_=>by simp only [wr,List.length_nil,Nat.add_zero]; rw [if_neg (by omega)]
 | v::r,cs,o,i,h=>by
  have h' : o+(r.length+1)≤cs.length:=by simpa using h
  rw [wr,Ri r _ _ _ (by simp; omega)]
  by_cases hi : i=o
  ·subst hi;rw [if_neg (by omega),if_pos (by simp)]
   simp [gE,show i<cs.length by omega]
  ·by_cases h2 : o+1≤i∧i<o+1+r.length
   ·rw [if_pos h2,if_pos (by simp; omega)]
    have : i - o=(i - (o+1))+1:=by omega
    rw [this]; simp
   ·rw [if_neg h2,if_neg (by simp; omega)];simp only [gE];rw [List.getElem?_set_ne (by omega)]
theorem MX (off : Nat) : ∀ (l : List Value) (k : Nat) (cs : Array Value),off+k+l.length≤cs.size →
  ((l.zipIdx k).foldl (fun (cs : Array Value) (x : Value × Nat)=>cs.setIfInBounds (off+x.2) x.1) cs).size=cs.size ∧
  ∀ i,((l.zipIdx k).foldl (fun (cs : Array Value) (x : Value × Nat)=>cs.setIfInBounds (off+x.2) x.1) cs).getD i undef =
   if off+k≤i∧i<off+k+l.length then l.getD (i - (off+k)) undef else cs.getD i undef
 | [],k,cs,_=>by simp; intro i h1 h2; omega
 | v::r,k,cs,h=>by
  have h' : off+k+(r.length+1)≤cs.size:=by simpa using h
  simp only [List.zipIdx_cons,List.foldl_cons]
  obtain ⟨h1,h2⟩:=MX off r (k+1) (cs.setIfInBounds (off+k) v) (by simp; omega);refine ⟨by rw [h1]; simp,fun i=>?_⟩;rw [h2 i]
  by_cases hi : i=off+k
  ·subst hi;rw [if_neg (by omega),if_pos (by simp)]
   simp [Array.getD_eq_getD_getElem?,show off+k<cs.size by omega]
  ·by_cases h3 : off+(k+1)≤i∧i<off+(k+1)+r.length
   ·rw [if_pos h3,if_pos (by simp; omega)]
    have : i - (off+k)=(i - (off+(k+1)))+1:=by omega
    rw [this]; simp
   ·rw [if_neg h3,if_neg (by simp; omega)];simp only [Array.getD_eq_getD_getElem?];rw [Array.getElem?_setIfInBounds_ne (by omega)]
theorem DJ {t : TypeId} {z : List AV} (h : C8 P t=some z) : ∃ i zv,P.info? t=some i∧i.zero=some zv∧z.length=i.size∧zv.cells.size=i.size ∧
  ∀ (g : Gh) k,k<z.length→Ad g (z.getD k nv) (zv.cells.getD k undef):=by
 unfold C8 at h
 split at h
 ·rename_i i hi
  split at h
  ·rename_i zv hz
   split at h
   ·rename_i zs hc
    split at h
    ·rename_i hl
     cases h
     obtain ⟨h1,h2⟩:=Ho (g:=⟨fun _ _=>none,fun _=>none,fun _=>none⟩) hc;refine ⟨i,zv,hi,hz,hl,by rw [← hl,h1]; simp,fun g k hk=>?_⟩
     have:=(Ho (g:=g) hc).2 k hk
     simpa using this
    ·cases h
   ·cases h
  ·cases h
 ·cases h
theorem PX {σ : Env} {a : Act} (hE : Cc g σ a.tmps) {t : TypeId} {fs : Array Field} (Ga : P.underlying t=some (.struct fs)) (pl : Array (Nat × Nat))
  (Ko : ∀ i off n ao,Fy P t i=some (off,n,ao)→pl[i]? = some (off,n)) :
  ∀ (parts : List (Nat × Operand)) (ps : List (Nat × Nat × X)) (cs : List AV) (vs : Array Value) (p : Prop) (r : List AV),partsOf P t parts=some ps →
   J4 σ ps cs=some (p,r)→p→vs.size=cs.length→(∀ i,i<cs.length→Ad g (cs.getD i nv) (vs.getD i undef)) →
   ∃ out,Instr.fill (pl[·]?) vs (parts.map fun x=>(x.1,a.eval x.2))=some out∧out.size=r.length∧∀ i,i<r.length→Ad g (r.getD i nv) (out.getD i undef)
 | [],ps,cs,vs,p,r,hp,hb,_,hs,hv=>by
  cases hp
  simp [J4] at hb
  obtain ⟨-,rfl⟩:=hb;exact ⟨vs,rfl,hs,hv⟩
 | (i,x)::parts,ps,cs,vs,p,r,hp,hb,VF,hs,hv=>by
  unfold partsOf at hp
  split at hp
  ·rename_i off n ao x' ps' h1 h2 h3
   cases hp;simp only [J4] at hb
   cases hx : val σ x' with
   | none=>simp [hx,eO] at hb
   | some av =>
    simp only [hx,eO] at hb
    cases Zz : J4 σ ps' (wr cs off av.cells) with
    | none=>simp [Zz,bU] at hb
    | some q =>
     obtain ⟨q,r'⟩:=q;simp only [Zz,bU,Option.some.injEq,Prod.mk.injEq] at hb
     obtain ⟨rfl,rfl⟩:=hb
     obtain ⟨⟨h4,h5⟩,h6⟩:=VF
     have Ew:=Ar hE h2 hx
     obtain ⟨c1,c2⟩:=Ew.cells
     have hpl':=Ko i off n ao h1
     obtain ⟨f1,f2⟩:=MX off (a.eval x).cells.toList 0 vs (by simp; omega);simp only [List.map_cons,Instr.fill,hpl']
     have fX : ¬ ((a.eval x).cells.size≠n∨off+(a.eval x).cells.size > vs.size):=by omega
     rw [if_neg (by simpa using fX)]
     have RH : ((a.eval x).cells.zipIdx.foldl (fun (cs : Array Value) (x : Value × Nat)=>cs.setIfInBounds (off+x.2) x.1) vs) =
       (((a.eval x).cells.toList.zipIdx 0).foldl (fun (cs : Array Value) (x : Value × Nat)=>cs.setIfInBounds (off+x.2) x.1) vs):=by
      rw [← Array.foldl_toList]; simp
     refine PX hE Ga pl Ko parts ps' (wr cs off av.cells) _ q _ h3 Zz h6 ?_ ?_
     ·rw [FH]; rw [RH,f1]; exact hs
     ·intro k hk;rw [FH] at hk;rw [RH,f2 k,Ri _ _ _ _ (by omega)];simp only [Array.length_toList,Nat.add_zero];rw [c1]
      split
      ·have:=c2 (k - off) (by omega)
       simpa using this
      ·exact hv k hk
  ·cases hp
theorem TW {σ : Env} {a : Act} (hE : Cc g σ a.tmps) {t : TypeId} {z : List AV} {fs : Array Field} {ps} {parts : Array (Nat × Operand)} (hz : C8 P t=some z)
  (hf : fieldsOf P t=some fs) (hps : partsOf P t parts.toList=some ps) (Aj : ∀ f,f∈fs→(P.info? f.type).isSome) {p : Prop} {r : AV} (he : ZG (J4 σ ps z)=some (p,r)) (hp : p) :
  ∃ u,(Instr.build t (parts.map fun x=>(x.1,a.eval x.2))).run P w=.ok u w∧Ad g r u:=by
 obtain ⟨i,zv,h1,h2,h3,h4,h5⟩:=DJ hz
 have Ga:=K3 hf
 cases hb : J4 σ ps z with
 | none=>simp [hb,ZG] at he
 | some q =>
  obtain ⟨q,cs⟩:=q;simp only [hb,ZG,Option.some.injEq,Prod.mk.injEq] at he
  obtain ⟨rfl,rfl⟩:=he
  let pl : Array (Nat × Nat):=fs.map fun f=>(f.offset,((P.info? f.type).map (·.size)).getD 0)
  have V2 : (fs.mapM fun f=>do pure (f.offset,← sizeOf f.type) : Sem (Array (Nat × Nat))).run P w=.ok pl w:=by
   have key : ∀ (l : List Field),(∀ f,f∈l→(P.info? f.type).isSome)→(l.mapM fun f=>do pure (f.offset,← sizeOf f.type) : Sem (List (Nat × Nat))).run P w =
     .ok (l.map fun f=>(f.offset,((P.info? f.type).map (·.size)).getD 0)) w:=by
    intro l
    induction l with
    | nil=>intro _; simp
    | cons f r ih =>
     intro hh
     obtain ⟨j,hj⟩:=Option.isSome_iff_exists.1 (hh f (by simp))
     have:=ih fun f' tg=>hh f' (by simp [tg]);simp only [List.mapM_cons,Sem.run_bind,sizeOf,typeInfo,run_program,Result.andThen_ok,hj,Sem.run_pure,List.map_cons,Option.map_some,Option.getD_some] at this ⊢;rw [this]
     simp
   have:=key fs.toList (fun f hf=>Aj f (by simpa using hf));rw [Array.mapM_eq_mapM_toList,Sem.run_map,this];simp only [Result.andThen_ok]
   congr 1
   apply Array.ext'
   simp [pl]
  obtain ⟨out,o1,o2,o3⟩:=PX (P:=P) hE Ga pl (fun i off n ao h=>by
   obtain ⟨fs',f,j,k1,k2,k3,k4,k5,k6,-⟩:=IB h;rw [Ga] at k1; cases k1
   simp [pl,k2,k3,k4,k6]) parts.toList ps z zv.cells _ cs hps hb hp (by omega) (fun k hk=>h5 g k hk)
  refine ⟨.agg out, ?_,.agg cs out o2 o3⟩;simp only [Instr.build,zeroValue,typeInfo,Sem.run_bind,run_program,Result.andThen_ok,h1,Sem.run_pure,h2,run_underlying Ga,V2];simp only [Array.toList_map,o1,Sem.run_pure]
end
end Go.AW
namespace Go.AW
open Go.RowKit
section
variable {P : Program} {g : Gh} {B : Nat} {H : AA} {w : World}
theorem Gu {sz : Nat} : ∀ {es : List AV},Da sz es→(flat es).length=es.length*sz
 | [],_=>by simp [flat]
 | e::r,h=>by
  have h1:=(h e (by simp)).1
  have h2:=Gu (sz:=sz) (es:=r) fun x hx=>h x (by simp [hx])
  simp [flat,h1,h2,Nat.add_mul,Nat.add_comm]
theorem MQ {sz : Nat} : ∀ {es : List AV},Da sz es→∀ i j,i<es.length→j<sz→(flat es).getD (i*sz+j) nv=(es.getD i nv).cells.getD j nv
 | [],_,i,j,hi,_=>by simp at hi
 | e::r,h,i,j,hi,hj=>by
  have h1:=(h e (by simp)).1;simp only [flat];rw [Bk,h1]
  cases i with
  | zero=>simp [hj]
  | succ i =>
   rw [if_neg (by rw [Nat.add_mul]; omega)]
   have:=MQ (sz:=sz) (es:=r) (fun x hx=>h x (by simp [hx])) i j (by simpa using hi) hj;rw [show (i+1)*sz+j - sz=i*sz+j by rw [Nat.add_mul]; omega,this]
   simp
theorem UR {sz : Nat} {es : List AV} (h : Da sz es) : ∀ c,c∈flat es→c.one=true:=by
 induction es with
 | nil=>intro c hc; simp [flat] at hc
 | cons e r ih =>
  intro c hc;simp only [flat,List.mem_append] at hc
  rcases hc with hc | hc
  ·exact (h e (by simp)).2 c hc
  ·exact ih (fun x hx=>h x (by simp [hx])) c hc
theorem TG {σ : Env} {a : Act} (hE : Cc g σ a.tmps) (sz : Nat) : ∀ (parts : List (Nat × Operand)) (k : Nat) (xs : List X) (as pre : List AV) (vs : Array Value),
  Fv k parts=some xs→DB σ xs=some as→Da sz as→pre.length=k*sz→vs.size=k*sz+as.length*sz →
  (∀ i,i<pre.length→Ad g (pre.getD i nv) (vs.getD i undef)) →
  ∃ out,Instr.fill (fun i=>some (i*sz,sz)) vs (parts.map fun x=>(x.1,a.eval x.2))=some out∧out.size=vs.size ∧
   ∀ i,i<(pre++flat as).length→Ad g ((pre++flat as).getD i nv) (out.getD i undef)
 | [],k,xs,as,pre,vs,hx,hv,FJ,hp,hs,Ll=>by
  cases hx; cases hv;exact ⟨vs,rfl,rfl,by simpa [flat] using Ll⟩
 | (i,x)::parts,k,xs,as,pre,vs,hx,hv,FJ,hp,hs,Ll=>by
  unfold Fv at hx
  split at hx
  ·rename_i sx
   subst sx
   obtain ⟨x',xs',h1,h2,rfl⟩:=OC hx
   obtain ⟨av,as',h3,h4,rfl⟩:=GK hv
   have Ew:=Ar hE h1 h3
   obtain ⟨c1,c2⟩:=Ew.cells
   have CW:=(FJ av (by simp)).1
   have hmul : (as'.length+1)*sz=as'.length*sz+sz:=by rw [Nat.add_mul]; omega
   have Hf : vs.size=i*sz+(as'.length*sz+sz):=by rw [hs]; simp only [List.length_cons,hmul]
   obtain ⟨f1,f2⟩:=MX (i*sz) (a.eval x).cells.toList 0 vs (by simp; omega);simp only [List.map_cons,Instr.fill]
   have fX : ¬ ((a.eval x).cells.size≠sz∨i*sz+(a.eval x).cells.size > vs.size):=by omega
   rw [if_neg (by simpa using fX)]
   have RH : ((a.eval x).cells.zipIdx.foldl (fun (cs : Array Value) (x : Value × Nat)=>cs.setIfInBounds (i*sz+x.2) x.1) vs) =
     (((a.eval x).cells.toList.zipIdx 0).foldl (fun (cs : Array Value) (x : Value × Nat)=>cs.setIfInBounds (i*sz+x.2) x.1) vs):=by
    rw [← Array.foldl_toList]; simp
   obtain ⟨out,o1,o2,o3⟩:=TG hE sz parts (i+1) xs' as' (pre++av.cells) (vs:=((a.eval x).cells.zipIdx.foldl (fun (cs : Array Value) (x : Value × Nat)=>cs.setIfInBounds (i*sz+x.2) x.1) vs)) h2 h4 (fun e he=>FJ e (by simp [he])) (by simp [hp,CW,Nat.add_mul])
    (by rw [RH,f1,Hf,Nat.add_mul]; omega) (by
     intro k hk;rw [RH,f2 k,Bk];simp only [Array.length_toList,Nat.add_zero,List.length_append] at hk ⊢
     by_cases XA : k<pre.length
     ·rw [if_pos XA,if_neg (by omega)]; exact Ll k XA
     ·rw [if_neg XA,if_pos (by omega)]
      have:=c2 (k - pre.length) (by omega);rw [hp] at this ⊢
      simpa using this)
   refine ⟨out,o1,by rw [o2,RH,f1], ?_⟩
   simpa [flat,List.append_assoc] using o3
  ·cases hx
theorem Mt {σ : Env} : ∀ {xs : List X} {as : List AV},DB σ xs=some as→as.length=xs.length
 | [],as,h=>by cases h; rfl
 | x::xs,as,h=>by
  obtain ⟨a,s,h1,h2,rfl⟩:=GK h
  simp [Mt h2]
theorem Rn {σ : Env} {a : Act} (hE : Cc g σ a.tmps) {t : TypeId} {x : TypeId × TypeInfo} (he : C5 P t=some x) {z : List AV} (hz : C8 P x.1=some z)
  {n : Nat} {parts : Array (Nat × Operand)} {xs : List X} (hx : Fv 0 parts.toList=some xs) (hn : xs.length=n) (Ww : n*x.2.size≤16777216) {as : List AV}
  (hv : DB σ xs=some as) (FJ : Da x.2.size as) :
  ∃ out : Array Value,(Instr.buildSlice t n (parts.map fun x=>(x.1,a.eval x.2))).run P w=.ok (.slice (some ⟨w.heap.size,0,none⟩) n n) (w.alloc (.cells out x.1)) ∧
   out.size=n*x.2.size∧as.length=n∧∀ i,i<(flat as).length→Ad g ((flat as).getD i nv) (out.getD i undef):=by
 obtain ⟨h1,h2,h3⟩:=Co he
 obtain ⟨i,zv,k1,k2,k3,k4,k5⟩:=DJ hz;rw [h2] at k1; cases k1
 have has : as.length=n:=by rw [Mt hv,hn]
 let z0 : Array Value:=if n*x.2.size=0 then #[] else zv.cells
 obtain ⟨out,o1,o2,o3⟩:=TG hE x.2.size parts.toList 0 xs as [] ((Array.range (n*x.2.size)).map (z0[· % z0.size]!)) hx hv FJ (by simp) (by simp [has]) (by simp);refine ⟨out, ?_,by rw [o2]; simp,has,by simpa using o3⟩
 have hgt : ¬ (n*x.2.size > 2 ^ 24):=by omega
 by_cases h0 : n*x.2.size=0
 ·have St : z0=#[]:=by simp [z0,h0]
  rw [St] at o1
  simp only [Instr.buildSlice,Sem.run_bind,run_underlying h1,Result.andThen_ok,sizeOf,typeInfo,run_program,h2,Sem.run_pure,h0,if_true,Array.toList_map,
   show ¬ (0 > 2 ^ 24) by decide,if_false]
  rw [h0] at o1;rw [o1]
  simp [newRow]
 ·have St : z0=zv.cells:=by simp [z0,h0]
  rw [St] at o1;simp only [Instr.buildSlice,Sem.run_bind,run_underlying h1,Result.andThen_ok,sizeOf,typeInfo,run_program,h2,Sem.run_pure,hgt,if_false,h0,Array.toList_map,zeroValue,k2,o1]
  simp [newRow]
theorem Wc {σ : Env} {a : Act} (hW : Ao g B H w) (hE : Cc g σ a.tmps) {t : TypeId} {x : TypeId × TypeInfo} (he : C5 P t=some x) {z : List AV} (hz : C8 P x.1=some z)
  {n : Nat} {parts : Array (Nat × Operand)} {xs : List X} (hx : Fv 0 parts.toList=some xs) (hn : xs.length=n) (Ww : n*x.2.size≤16777216) {as : List AV}
  (hv : DB σ xs=some as) (FJ : Da x.2.size as) (hm : as.length≤AK) :
  ∃ v w',(Instr.buildSlice t n (parts.map fun x=>(x.1,a.eval x.2))).run P w=.ok v w'∧Dj g B w (fun r' H'=>r'=.sl as∧H'=H) v w':=by
 obtain ⟨out,h1,h2,h3,h4⟩:=Rn (P:=P) (w:=w) hE he hz hx hn Ww hv FJ
 obtain ⟨k1,k2⟩:=hW.Kr out x.1;refine ⟨_,_,h1,_,_,_,k1,⟨rfl,rfl⟩, ?_,k2,(Below.refl B w).alloc hW.base _⟩;subst h3;refine .sl as w.heap.size 0 x.2.size _ (fun i=>out.getD i undef) hm (by first | exact Nat.le_refl _ | omega) (fun i hi=>?_) (fun i j hi hj=>?_) (fun i j hi hj=>?_)
 ·have : as.getD i nv∈as:=by simp [gE,hi]
  exact (FJ _ this).1
 ·have D3 : i*x.2.size+j<out.size:=by
   rw [h2]
   have : (i+1)*x.2.size≤as.length*x.2.size:=Nat.mul_le_mul_right _ hi;rw [Nat.add_mul] at this; omega
  simp only [Gh.Hy,Nat.zero_add]
  simp [D3,Array.getD]
 ·have D3 : i*x.2.size+j<(flat as).length:=by
   rw [Gu FJ]
   have : (i+1)*x.2.size≤as.length*x.2.size:=Nat.mul_le_mul_right _ hi;rw [Nat.add_mul] at this; omega
  have:=(h4 _ D3).mono k1
  rwa [MQ FJ i j hi hj] at this
theorem Yb {σ : Env} {a : Act} (hW : Ao g B H w) (hE : Cc g σ a.tmps) {t : TypeId} {x : TypeId × TypeInfo} (he : C5 P t=some x) {z : List AV} (hz : C8 P x.1=some z)
  {parts : Array (Nat × Operand)} {xs : List X} (hx : Fv 0 parts.toList=some xs) (hn : xs.length=0) :
  ∃ v w',(Instr.buildSlice t 0 (parts.map fun x=>(x.1,a.eval x.2))).run P w=.ok v w'∧Dj g B w (fun r' H'=>r'=.FI∧H'=H) v w':=by
 have hxs : xs=[]:=List.eq_nil_of_length_eq_zero hn;subst hxs
 obtain ⟨out,h1,h2,h3,h4⟩:=Rn (P:=P) (w:=w) (n:=0) hE he hz hx hn (by omega) (as:=[]) rfl (by intro e he; simp at he)
 obtain ⟨k1,k2⟩:=hW.Kr out x.1;exact ⟨_,_,h1,_,_,_,k1,⟨rfl,rfl⟩,.FI _,k2,(Below.refl B w).alloc hW.base _⟩
theorem W1 (hW : Ao g B H w) {t : TypeId} {av : AV} {v : Value} (hv : Ad g av v) :
  ∃ u w',(Instr.box t v).run P w=.ok u w'∧Dj g B w (fun r' H'=>r'=.ptr av.cells∧H'=H) u w':=by
 obtain ⟨c1,c2⟩:=hv.cells
 obtain ⟨k1,k2⟩:=hW.Kr v.cells t;refine ⟨.pointer (some ⟨w.heap.size,0,none⟩),w.alloc (.cells v.cells t),by simp [Instr.box,newVar,newRow],_,_,_,k1,⟨rfl,rfl⟩, ?_,k2,(Below.refl B w).alloc hW.base _⟩;refine .ptr _ _ 0 (fun i=>v.cells.getD i undef) (fun i hi=>?_) (fun i hi=>(c2 i hi).mono k1)
 simp [Gh.Hy,c1,hi,Array.getD]
theorem Uu : ∀ (es : List AV) (vs : List Value) (acc : ByteArray),(∀ e,e∈es→e.isByte=true)→es.length=vs.length→(∀ i,i<es.length→Ad g (es.getD i nv) (vs.getD i undef)) →
  (forIn (m:=Sem) vs acc fun c r =>
   match c with
   | .int .u8 n=>pure (ForInStep.yield (r.push (UInt8.ofNat n.toNat)))
   | _=>do
    stuck "bytesToString: byte expected"
    pure (ForInStep.yield r)).run P w=.ok ⟨(acc.data.toList++es.map AV.byte).toArray⟩ w
 | [],[],acc,_,_,_=>by simp
 | [],_::_,_,_,hl,_=>by simp at hl
 | _::_,[],_,_,hl,_=>by simp at hl
 | e::es,v::vs,acc,hb,hl,hr=>by
  have h0:=hr 0 (by simp);simp only [List.getD_cons_zero] at h0
  have hbe:=hb e (by simp)
  cases h0 <;> try (simp [AV.isByte] at hbe; done)
  rename_i k n
  cases k <;> try (simp [AV.isByte] at hbe; done)
  have ih:=Uu es vs (acc.push (UInt8.ofNat n.toNat)) (fun x hx=>hb x (by simp [hx])) (by simpa using hl) (fun i hi=>by simpa using hr (i+1) (by simpa using hi));simp only [List.forIn_cons,Sem.run_bind,Sem.run_pure,Result.andThen_ok];rw [ih]
  simp [AV.byte,ByteArray.push]
end
end Go.AW
namespace Go.AW
open Go.RowKit
section
variable {P : Program} {g : Gh} {B : Nat} {H : AA} {w : World}
theorem TY (hW : Ao g B H w) {av : AV} {v : Value} (hv : Ad g av v) {p : Prop} {r : AV} (he : RU (some av)=some (p,r)) (hp : p) :
  ∃ u,(Conv.bytesToString v).run P w=.ok u w∧Ad g r u:=by
 cases hv <;> simp only [RU,Option.some.injEq,Prod.mk.injEq,reduceCtorEq] at he
 case A1 =>
  obtain ⟨-,rfl⟩:=he;exact ⟨.string ⟨#[]⟩,by simp [Conv.bytesToString]; rfl,.str []⟩
 case slnil a cap =>
  obtain ⟨-,rfl⟩:=he;refine ⟨.string ⟨#[]⟩, ?_,.str []⟩
  cases a with
  | none=>simp [Conv.bytesToString]; rfl
  | some a=>simp [Conv.bytesToString,loadCells,loadCellsFrom]; rfl
 case sl es b o sz cap vs hm _ CW hf hv =>
  obtain ⟨rfl,rfl⟩:=he
  have Il : ∀ i,i<es.length→sz=1:=fun i hi=>by
   have h1:=CW i hi
   have h2:=hp (es.getD i nv) (by simp [gE,hi])
   generalize es.getD i nv=e at h1 h2
   cases e <;> simp [AV.isByte] at h2
   simpa [AV.cells] using h1.symm
  have hl : (loadCells ⟨b,o,none⟩ es.length).run P w=.ok ((List.range es.length).map vs).toArray w :=
   run_loadCells w ⟨b,o,none⟩ es.length vs fun j hj=>by
    have h1:=Il j hj;subst h1
    have:=hf j 0 hj (by omega);rw [Addr.add_lit];exact hW.fz _ _ _ (by simpa using this)
  have hr : ∀ i,i<es.length→Ad g (es.getD i nv) (((List.range es.length).map vs).getD i undef):=fun i hi=>by
   have h1:=Il i hi;subst h1
   have h3:=hv i 0 hi (by omega)
   have h2:=hp (es.getD i nv) (by simp [gE,hi])
   have : ((List.range es.length).map vs).getD i undef=vs i:=by simp [gE,hi]
   rw [this]
   generalize es.getD i nv=e at h3 h2 ⊢
   cases e <;> simp [AV.isByte] at h2
   simpa [AV.cells] using h3
  have:=Uu (P:=P) (w:=w) es ((List.range es.length).map vs) ByteArray.empty hp (by simp) hr;refine ⟨.string ⟨(es.map AV.byte).toArray⟩, ?_,.str _⟩;simp only [Conv.bytesToString,Sem.run_bind,hl,Result.andThen_ok];rw [← Array.forIn_toList];exact Eq.trans (congrArg (fun r=>Result.andThen r _) this) rfl
theorem PE {t : TypeId} {q : IntKind} (ht : P.underlying t=some (.int q)) (d : Nat) (k : IntKind) (a b : Int) :
  (Op.equalIn (d+1) t (.int k a) (.int k b)).run P w=.ok (a == b) w:=by
 simp [Op.equalIn,run_underlying ht]
theorem lE {t : TypeId} {fs : Array Field} (ht : P.underlying t=some (.struct fs)) (hi : FL P 0 fs.toList=true) (hs : P.stoodInHeld t=false)
  (h2 : fs.size=2) (k1 k2 : IntKind) (a b c d : Int) (dp : Nat) :
  (Op.equalIn (dp+2) t (.agg #[.int k1 a,.int k2 b]) (.agg #[.int k1 c,.int k2 d])).run P w=.ok (decide (a=c) && decide (b=d)) w:=by
 obtain ⟨l⟩:=fs
 match l,h2 with
 | [f0,f1],_ =>
  simp only [FL,Bool.and_eq_true,beq_iff_eq,bne_iff_ne,ne_eq] at hi
  obtain ⟨⟨⟨⟨ho0,hu0⟩,St⟩,YL⟩,⟨⟨⟨V5,vJ⟩,hz1⟩,lR⟩,-⟩:=hi
  have e0 : ∃ k,P.underlying f0.type=some (.int k):=by split at hu0 <;> simp_all
  have e1 : ∃ k,P.underlying f1.type=some (.int k):=by split at vJ <;> simp_all
  obtain ⟨q0,e0⟩:=e0
  obtain ⟨q1,e1⟩:=e1;unfold Op.equalIn;simp only [Sem.run_bind,run_underlying ht,Result.andThen_ok,run_program,hs,Bool.false_eq_true,if_false]
  simp [YL,lR,ho0,V5,part,isAgg,run_underlying e0,run_underlying e1,PE e0,PE e1]
  by_cases Po : a=c
  ·subst Po; by_cases Ss : b=d
   ·subst Ss; simp
   ·simp [Ss]
  ·simp [Po]
theorem TF {t : TypeId} {fs : Array Field} (ht : P.underlying t=some (.struct fs)) (hi : FL P 0 fs.toList=true) (hs : P.stoodInHeld t=false)
  (h2 : fs.size=2) (k1 k2 : IntKind) (a b c d : Int) :
  (Op.equal t (.agg #[.int k1 a,.int k2 b]) (.agg #[.int k1 c,.int k2 d])).run P w=.ok (decide (a=c) && decide (b=d)) w :=
 lE ht hi hs h2 k1 k2 a b c d 9998
end
end Go.AW
namespace Go.AW
open Go.RowKit
section
variable {P : Program} {g : Gh} {B : Nat} {H : AA} {w : World}
theorem Ao.obj (hW : Ao g B H w) {id b cap sz f : Nat} {cs : List AV} (D4 : g.io id=some (.HE b cap)) (ho : H.get id=some (.cells sz cs f)) :
  ∃ c el,w.heap[b]? = some (.cells c el (0,0))∧B≤b∧f≤cs.length∧cs.length≤AK∧c.size=cap*sz∧cs.length≤c.size∧∀ i,i<cs.length→Ad g (cs.getD i nv) (c.getD i undef):=by
 obtain ⟨p,hp,hr⟩:=hW.ob id _ ho;rw [D4] at hp; cases hp;simp only [Ai] at hr
 obtain ⟨h1,h2,h3,h4,c,el,h5,h6,h7,h8⟩:=hr;exact ⟨c,el,h5,h1,h2,h3,h6,h7,h8⟩
theorem getD_some {c : Array Value} {i : Nat} (h : i<c.size) : c[i]? = some (c.getD i undef):=by simp [Array.getD,h]
theorem OQ (hW : Ao g B H w) {t : TypeId} {n : Option Nat} (h : Gq P t=some n) {id off : Nat} {v : Value} (hv : Ad g (.ref id off) v) {K : Ap}
  (hk : M6 (H.get id) n off K H) : ∃ u,(Instr.loadAt t v).run P w=.ok u w∧Dj g B w K u w:=by
 cases hv
 rename_i b cap D4
 cases ho : H.get id with
 | none=>simp [ho,M6] at hk
 | some o =>
  cases o with
  | map ks vs=>cases n <;> simp [ho,M6] at hk
  | cells sz cs f =>
   obtain ⟨c,el,h5,_,_,_,h6,h7,h8⟩:=hW.obj D4 ho
   cases n with
   | none =>
    simp only [ho,M6] at hk
    obtain ⟨k1,k2⟩:=hk
    have hc : w.cell? ⟨b,off,none⟩=some (c.getD off undef):=by rw [cell_of_row w b off c el _ h5]; exact getD_some (by omega)
    refine ⟨c.getD off undef, ?_,.same hW (h8 off k1) k2⟩;simp only [Instr.loadAt,Instr.sureAddr,loadVar,Sem.run_bind,Sem.run_pure,Result.andThen_ok,Ft h];simp only [Bool.false_eq_true,if_false,run_load,hc]
   | some n =>
    simp only [ho,M6] at hk
    obtain ⟨k1,k2⟩:=hk
    obtain ⟨h1,i,h2,h3⟩:=JR (w:=w) h
    have hl:=run_loadCells (P:=P) w ⟨b,off,none⟩ n (fun j=>c.getD (off+j) undef) (fun j hj=>by
     rw [Addr.add_lit,cell_of_row w b (off+j) c el _ h5]; exact getD_some (by omega))
    refine ⟨.agg ((List.range n).map fun j=>c.getD (off+j) undef).toArray, ?_,.same hW (.agg _ _ ?_ ?_) k2⟩
    ·simp only [Instr.loadAt,Instr.sureAddr,loadVar,Sem.run_bind,Sem.run_pure,Result.andThen_ok,h1,if_true,sizeOf,typeInfo,run_program,h2,h3];simp only [hl,Result.andThen_ok,Sem.run_pure']
    ·simp; omega
    ·intro j hj
     have V4 : j<n:=by simp at hj; omega
     have e1 : ((cs.drop off).take n).getD j nv=cs.getD (off+j) nv:=by simp [gE,V4]
     have e2 : (((List.range n).map fun j=>c.getD (off+j) undef).toArray).getD j undef=c.getD (off+j) undef:=by simp [Array.getD,V4]
     rw [e1,e2];exact h8 _ (by omega)
theorem Ao.store (hW : Ao g B H w) {id b cap sz f off : Nat} {cs : List AV} (D4 : g.io id=some (.HE b cap)) (ho : H.get id=some (.cells sz cs f))
  {vs : List AV} {us : List Value} (h1 : f≤off) (h2 : off+vs.length≤cs.length) (hl : us.length=vs.length) (h3 : ∀ c,c∈vs→c.one=true)
  (hv : ∀ i,i<vs.length→Ad g (vs.getD i nv) (us.getD i undef)) :
  ∃ w',(storeCells ⟨b,off,none⟩ us).run P w=.ok () w'∧Ao g B (H.set id (.cells sz (wr cs off vs) f)) w'∧Below B w w':=by
 obtain ⟨c,el,h5,hb,hf,hm,h6,h7,h8⟩:=hW.obj D4 ho
 have Il : ∀ u∈us,u.oneCell'=true:=by
  intro u hu
  obtain ⟨i,hi,rfl⟩:=List.getElem_of_mem hu
  have:=hv i (by omega)
  have e1 : us.getD i undef=us[i]:=by simp [gE,hi]
  rw [e1] at this;refine this.one (h3 _ ?_)
  have : vs.getD i nv=vs[i]'(by omega):=by simp [gE,show i<vs.length by omega]
  rw [this]; simp
 have hr:=run_storeCells_at P b off el us 0 c w h5 (by omega) Il;simp only [Nat.add_zero] at hr;refine ⟨_,hr, ?_, ?_⟩
 ·refine hW.write id b cap sz cs _ f c _ el ho D4 h5 (setRow_heap w b c _ el _ h5) (by simp [World.setRow]) (fun k hk=>setRow_other w b k _ hk) ?_ ?_ ?_ ?_ ?_ ?_
  ·simp; omega
  ·intro k hk
   have : k<off:=by omega
   simp [List.getElem?_append,show k<min off c.size by omega,this]
  ·rw [FH]; exact hf
  ·rw [FH]; exact hm
  ·rw [FH]; simp; omega
  ·intro k hk;rw [FH] at hk;rw [Ri _ _ _ _ h2]
   have key : ((c.toList.take off++us++c.toList.drop (off+us.length)).toArray).getD k undef=if off≤k∧k<off+vs.length then us.getD (k - off) undef else c.getD k undef:=by
    simp only [Array.getD_eq_getD_getElem?,List.getElem?_toArray,gE]
    by_cases a1 : k<off
    ·rw [if_neg (by omega),List.append_assoc,List.getElem?_append_left (by simp; omega)]
     simp [a1]
    ·by_cases a2 : k<off+us.length
     ·rw [if_pos (by omega),List.append_assoc,List.getElem?_append_right (by simp; omega),List.getElem?_append_left (by simp; omega)]
      simp [show min off c.size=off by omega]
     ·rw [if_neg (by omega),List.getElem?_append_right (by simp; omega)];simp only [List.length_append,List.length_take,Array.length_toList,List.getElem?_drop];rw [show off+us.length+(k - (min off c.size+us.length))=k by omega]
      simp
   rw [key]
   split
   ·exact hv _ (by omega)
   ·exact h8 k hk
 ·exact ⟨rfl,rfl,rfl,by simp [World.setRow],fun k hk=>setRow_other w b k _ (by omega),Nat.le_refl _⟩
theorem ZY (hW : Ao g B H w) {t : TypeId} {i : TypeInfo} (hi : P.info? t=some i) {id off : Nat} {p u : Value} {av : AV} (hp : Ad g (.ref id off) p) (hu : Ad g av u) {K : Ap}
  (hk : Oa (H.get id) id off i.size av.cells K H) : ∃ w',(Instr.storeAt t p u).run P w=.ok () w'∧Dj g B w K undef w':=by
 cases hp
 rename_i b cap D4
 cases ho : H.get id with
 | none=>simp [ho,Oa] at hk
 | some o =>
  cases o with
  | map ks vs=>simp [ho,Oa] at hk
  | cells sz cs f =>
   simp only [ho,Oa] at hk
   obtain ⟨⟨k1,k2,k3,k4⟩,k5⟩:=hk
   obtain ⟨c1,c2⟩:=hu.cells
   obtain ⟨w',r1,r2,r3⟩:=hW.store (P:=P) D4 ho (vs:=av.cells) (us:=u.cells.toList) k1 (by omega) (by simpa using c1) k4 (fun i hi=>by simpa using c2 i hi);refine ⟨w', ?_,g,nv,_,.refl g,k5,.CK [] #[] rfl (fun i hi=>by simp at hi),r2,r3⟩
   have hs : ¬ (u.cells.size≠i.size):=by omega
   simp only [Instr.storeAt,Instr.sureAddr,storeVar,Sem.run_bind,Sem.run_pure,Result.andThen_ok,sizeOf,typeInfo,run_program,hi,hs,if_false,r1]
theorem LO (hW : Ao g B H w) (c : Array Value) (el : TypeId) (sz cap n : Nat) (cs : List AV) (hm : cs.length≤AK) (hc : c.size=cap*sz) (hl : cs.length≤c.size)
  (hv : ∀ k,k<cs.length→Ad g (cs.getD k nv) (c.getD k undef)) {K : Ap} (hk : Eo n sz cs K H) :
  Dj g B w K (.slice (some ⟨w.heap.size,0,none⟩) n cap) (w.alloc (.cells c el)):=by
 obtain ⟨i,h1,h2⟩:=hW.fresh
 obtain ⟨k1,k2⟩:=hW.PM i h1 c el sz cap cs hm hc hl hv;exact ⟨_,_,_,k1,hk i h2,.buf i n _ cap (Gh.EH _ _ _),k2,(Below.refl B w).alloc hW.base _⟩
theorem LX (hW : Ao g B H w) (c : Array Value) (el : TypeId) (sz : Nat) (cs : List AV) (hm : cs.length≤AK) (hc : c.size=sz) (hl : cs.length=sz)
  (hv : ∀ k,k<cs.length→Ad g (cs.getD k nv) (c.getD k undef)) {K : Ap} (hk : HH sz cs K H) :
  Dj g B w K (.pointer (some ⟨w.heap.size,0,none⟩)) (w.alloc (.cells c el)):=by
 obtain ⟨i,h1,h2⟩:=hW.fresh
 obtain ⟨k1,k2⟩:=hW.PM i h1 c el sz 1 cs hm (by omega) (by omega) hv;exact ⟨_,_,_,k1,hk i h2,.ref i 0 _ 1 (Gh.EH _ _ _),k2,(Below.refl B w).alloc hW.base _⟩
theorem WH {σ : Env} {a : Act} (hW : Ao g B H w) (hE : Cc g σ a.tmps) {t : TypeId} {x : TypeId × TypeInfo} (he : C5 P t=some x) {z : List AV} (hz : C8 P x.1=some z)
  {n : Nat} {parts : Array (Nat × Operand)} {xs : List X} (hx : Fv 0 parts.toList=some xs) (hn : xs.length=n) (Ww : n*x.2.size≤16777216) {K : Ap}
  (hk : Qp x.2.size (DB σ xs) K H) :
  ∃ v w',(Instr.buildSlice t n (parts.map fun x=>(x.1,a.eval x.2))).run P w=.ok v w'∧Dj g B w K v w':=by
 cases hv : DB σ xs with
 | none=>simp [hv,Qp] at hk
 | some as =>
  simp only [hv,Qp] at hk
  obtain ⟨⟨FJ,hm⟩,hk⟩:=hk
  obtain ⟨out,h1,h2,h3,h4⟩:=Rn (P:=P) (w:=w) hE he hz hx hn Ww hv FJ
  have G7:=Gu FJ;subst h3;exact ⟨_,_,h1,LO hW out x.1 x.2.size as.length as.length (flat as) (by simp only [AK]; omega) h2 (by omega) h4 hk⟩
theorem Vb (hW : Ao g B H w) {t : TypeId} {n : Nat} {oav : Option AV} {av : AV} {v : Value} (hoav : oav=some av) (hv : Ad g av v) {K : Ap} (hk : Th n oav K H) :
  ∃ u w',(Instr.box t v).run P w=.ok u w'∧Dj g B w K u w':=by
 subst hoav
 obtain ⟨⟨h1,h2⟩,hk⟩:=hk
 obtain ⟨c1,c2⟩:=hv.cells;exact ⟨_,_,by simp [Instr.box,newVar,newRow],LX hW v.cells t n av.cells (by omega) (by omega) h1 c2 hk⟩
theorem Tt (hW : Ao g B H w) {t : TypeId} {z : List AV} (hz : C8 P t=some z) (hm : z.length≤AK) {K : Ap} (hk : HH z.length z K H) :
  ∃ u w',(Instr.alloc t true (.tuple #[])).run P w=.ok u w'∧Dj g B w K u w':=by
 obtain ⟨i,zv,h1,h2,h3,h4,h5⟩:=DJ hz;exact ⟨_,_,by simp [Instr.alloc,zeroValue,typeInfo,h1,h2,newVar,newRow],LX hW zv.cells t z.length z hm (by omega) rfl (h5 g) hk⟩
theorem EO (z : List AV) : ∀ n,(rep n z).length=n*z.length
 | 0=>by simp [rep]
 | n+1=>by simp [rep,EO z n,Nat.add_mul,Nat.add_comm]
theorem OY (z : List AV) : ∀ n k,k<n*z.length→(rep n z).getD k nv=z.getD (k % z.length) nv
 | 0,k,h=>by simp at h
 | n+1,k,h=>by
  have hz : 0<z.length:=by
   rcases Nat.eq_zero_or_pos z.length with e | e
   ·simp [e] at h
   ·exact e
  simp only [rep];rw [Bk]
  by_cases hk : k<z.length
  ·rw [if_pos hk,Nat.mod_eq_of_lt hk]
  ·rw [if_neg hk,OY z n (k - z.length) (by rw [Nat.add_mul] at h; omega)];rw [← Nat.mod_eq_sub_mod (by omega)]
theorem Zi (hW : Ao g B H w) {t : TypeId} {x : TypeId × TypeInfo} (he : C5 P t=some x) {z : List AV} (hz : C8 P x.1=some z) (hb : x.2.bytes≤256)
  {ol oc : Option AV} {lv cv : AV} {l c : Value} (V8 : ol=some lv) (hoc : oc=some cv) (hl : Ad g lv l) (hc : Ad g cv c) {K : Ap} (hk : S9 x.2.size z ol oc K H) :
  ∃ u w',(Instr.makeSlice t l c).run P w=.ok u w'∧Dj g B w K u w':=by
 subst V8 hoc
 cases hl <;> try (simp [S9] at hk; done)
 cases hc <;> try (simp [S9] at hk; done)
 rename_i k1 l k2 c
 simp only [S9] at hk
 obtain ⟨⟨p1,p2,p3,p4⟩,hk⟩:=hk
 obtain ⟨h1,h2,h3⟩:=Co he
 obtain ⟨i,zv,q1,q2,q3,q4,q5⟩:=DJ hz;rw [h2] at q1; cases q1;simp only [AK] at p3
 have vN : (x.2.bytes : Int)*c≤281474976710656:=by
  have iW : c≤1099511627776:=by omega
  have : (x.2.bytes : Int)*c≤256*1099511627776:=Int.mul_le_mul (by omega) iW (by omega) (by omega);omega
 have hr:=run_make (P:=P) w t x.1 x.2 zv h1 h2 q2 k1 k2 l c p1 p2 vN (by omega)
 have hlc : l.toNat*x.2.size≤c.toNat*x.2.size:=Nat.mul_le_mul_right _ (by omega);refine ⟨_,_,hr,LO hW _ x.1 x.2.size c.toNat l.toNat (rep l.toNat z) ?_ ?_ ?_ ?_ hk⟩
 ·rw [EO,q3]; exact p4
 ·rw [size_madeCells]
 ·rw [EO,size_madeCells,q3]; exact hlc
 ·intro k JP;rw [EO] at JP;rw [OY _ _ _ JP]
  have IM : k<c.toNat*x.2.size:=by rw [q3] at JP; omega
  have hzl : 0<z.length:=by omega
  have hm : k % z.length<z.length:=Nat.mod_lt _ hzl
  have e1 : (madeCells zv.cells (c.toNat*x.2.size)).getD k undef=zv.cells.getD (k % z.length) undef:=by
   simp only [madeCells,Array.getD_eq_getD_getElem?];rw [Array.getElem?_map,Array.getElem?_range];rw [if_pos IM];simp only [Option.map_some,Option.getD_some];rw [q4,← q3]
   simp [getElem!_def,show k % z.length<zv.cells.size by omega]
  rw [e1];exact q5 g _ hm
theorem ZA (hW : Ao g B H w) {t ty : TypeId} {x : TypeId × TypeInfo} (he : C5 P t=some x) {z : List AV} (hz : C8 P x.1=some z) {v : AV} {u : Value} (hv : Ad g v u) {K : Ap} (hk : Yl z (some v) K H) :
  ∃ w',(Builtin.clear_ #[t] ty #[u]).run P w=.ok (.tuple #[]) w'∧Dj g B w K (.tuple #[]) w':=by
 cases hv <;> try (simp [Yl] at hk; done)
 rename_i id off n b cap c D4
 simp only [Yl] at hk
 obtain ⟨hn,hk⟩:=hk
 obtain ⟨h1,h2,h3⟩:=Co he
 obtain ⟨i,zv,q1,q2,q3,q4,q5⟩:=DJ hz;rw [h2] at q1; cases q1
 cases ho : H.get id with
 | none=>simp [ho,Oa] at hk
 | some o =>
  cases o with
  | map ks vs=>simp [ho,Oa] at hk
  | cells sz cs f =>
   simp only [ho,Oa] at hk
   obtain ⟨⟨k1,k2,k3,k4⟩,k5⟩:=hk
   have hzc : (Builtin.zeroCells zv.cells n).toList.length=(rep n z).length:=by simp [Builtin.zeroCells,EO,q3,q4]
   obtain ⟨w',r1,r2,r3⟩:=hW.store (P:=P) D4 ho (vs:=rep n z) (us:=(Builtin.zeroCells zv.cells n).toList) k1 (by rw [EO]; exact k2) hzc k4 (fun i hi=>by
    rw [EO] at hi;rw [OY _ _ _ hi]
    have hzl : 0<z.length:=by omega
    have hm : i % z.length<z.length:=Nat.mod_lt _ hzl
    have sG : i<n*zv.cells.size:=by rw [q4,← q3]; exact hi
    have e1 : (Builtin.zeroCells zv.cells n).toList.getD i undef=zv.cells.getD (i % z.length) undef:=by
     simp only [Builtin.zeroCells,Array.toList_map,Array.toList_range,gE,List.getElem?_map,Array.getD_eq_getD_getElem?];rw [List.getElem?_range sG];simp only [Option.map_some,Option.getD_some];rw [q4,← q3]
     simp [getElem!_def,show i % z.length<zv.cells.size by omega]
    rw [e1];exact q5 g _ hm)
   refine ⟨w', ?_,g,nv,_,.refl g,k5,.CK [] #[] rfl (fun i hi=>by simp at hi),r2,r3⟩
   obtain ⟨m,rfl⟩ : ∃ m,n=m+1:=⟨n - 1,by omega⟩
   simp [Builtin.clear_,run_underlying h1,zeroValue,typeInfo,h2,q2,r1]
end
end Go.AW
namespace Go.AW
open Go.RowKit
section
variable {P : Program} {g : Gh} {B : Nat} {H : AA} {w : World}
theorem Ja (hW : Ao g B H w) {sz : Nat} {av : AV} {v : Value} (hv : Ad g av v) {p : Prop} {m : Nat} {new : List AV} (hs : DD sz (some av) H=some (p,m,new)) (hp : p) :
  ∃ (ax : Option Addr) (cap : Nat) (news : List Value),v=.slice ax m cap∧news.length=m*sz∧new.length=m*sz∧(∀ i,i<new.length→Ad g (new.getD i nv) (news.getD i undef)) ∧
   (∀ u∈news,u.oneCell'=true)∧(∀ c∈new,c.one=true) ∧
   ∀ w',(∀ b o u,g.fz b o=some u→w'.cell? ⟨b,o,none⟩=some u)→(Builtin.firstCells sz m v).run P w'=.ok news.toArray w':=by
 cases hv <;> simp only [DD,Option.some.injEq,Prod.mk.injEq,reduceCtorEq] at hs
 case A1 =>
  obtain ⟨rfl,rfl,rfl⟩:=hs;exact ⟨none,0,[],rfl,by simp,by simp,by simp,by simp,by simp,fun w' _=>by simp [Builtin.firstCells]⟩
 case slnil a cap =>
  obtain ⟨rfl,rfl,rfl⟩:=hs;refine ⟨a,cap,[],rfl,by simp,by simp [flat],by simp [flat],by simp,by simp [flat],fun w' _=>?_⟩
  cases a <;> simp [Builtin.firstCells,loadCells,loadCellsFrom]
 case sl es b o sz' cap vs hm _ CW hf hv =>
  obtain ⟨rfl,rfl,rfl⟩:=hs
  have hszz : es.length=0∨sz'=sz:=by
   rcases Nat.eq_zero_or_pos es.length with h | h
   ·exact .inl h
   ·right
    have h1:=CW 0 h
    have h2:=(hp (es.getD 0 nv) (by simp [gE,h])).1;omega
  have G7:=Gu hp
  have Mg : ∀ i,i<es.length*sz→g.fz b (o+i)=some (vs i)∧Ad g ((flat es).getD i nv) (vs i):=by
   intro i hi
   have hz : 0<sz:=by
    rcases Nat.eq_zero_or_pos sz with h | h
    ·simp [h] at hi
    ·exact h
   have hd : i / sz<es.length:=by rw [Nat.div_lt_iff_lt_mul hz]; exact hi
   have hr : i % sz<sz:=Nat.mod_lt _ hz
   have he : i / sz*sz+i % sz=i:=by rw [Nat.mul_comm]; exact Nat.div_add_mod i sz
   have hz' : sz'=sz:=by
    rcases hszz with h | h
    ·exact absurd hd (by rw [h]; exact Nat.not_lt_zero _)
    ·exact h
   subst hz'
   have h1:=hf (i / sz') (i % sz') hd hr
   have h2:=hv (i / sz') (i % sz') hd hr;rw [he] at h1 h2;refine ⟨h1, ?_⟩
   have h3:=MQ hp (i / sz') (i % sz') hd hr;rw [he] at h3;rw [h3]; exact h2
  refine ⟨some ⟨b,o,none⟩,cap,(List.range (es.length*sz)).map vs,rfl,by simp,G7, ?_, ?_,UR hp, ?_⟩
  ·intro i hi;rw [G7] at hi
   have : ((List.range (es.length*sz)).map vs).getD i undef=vs i:=by simp [gE,hi]
   rw [this]; exact (Mg i hi).2
  ·intro u hu;simp only [List.mem_map,List.mem_range] at hu
   obtain ⟨i,hi,rfl⟩:=hu;refine (Mg i hi).2.one (UR hp _ ?_)
   simp [gE,show i<(flat es).length by omega]
  ·intro w' hw';simp only [Builtin.firstCells];exact run_loadCells w' ⟨b,o,none⟩ _ vs fun j hj=>by rw [Addr.add_lit]; exact hw' _ _ _ (Mg j hj).1
theorem bH {w : World} (t ty e : TypeId) (i : TypeInfo) (ht : P.underlying t=some (.slice e)) (hi : P.info? e=some i)
  (b n cap : Nat) (cur : Array Value) (el : TypeId) (hg : w.heap[b]? = some (.cells cur el (0,0))) (ax : Option Addr) (m c : Nat) (news : List Value)
  (hf : (Builtin.firstCells i.size m (.slice ax m c)).run P w=.ok news.toArray w) (hl : news.length=m*i.size) (h1 : ∀ u∈news,u.oneCell'=true)
  (YT : n+m≤cap) (rS : n*i.size+news.length≤cur.size) :
  (Builtin.append_ #[t,t] ty #[.slice (some ⟨b,0,none⟩) n cap,.slice ax m c]).run P w =
   .ok (.slice (some ⟨b,0,none⟩) (n+m) cap) (w.setRow b (cur.toList.take (n*i.size)++news++cur.toList.drop (n*i.size+news.length)).toArray):=by
 have HJ:=run_storeCells_at P b (n*i.size) el news 0 cur w hg (by simpa using rS) h1;simp only [Nat.add_zero] at HJ
 simp [Builtin.append_,run_underlying ht,sizeOf,typeInfo,hi,Builtin.lenOf,YT,hf,Addr.add_lit,HJ]
theorem LF {w : World} (t ty e : TypeId) (i : TypeInfo) (z : Value) (ht : P.underlying t=some (.slice e)) (hi : P.info? e=some i) (hz : i.zero=some z)
  (s : Option Addr) (n cap : Nat) (olds : List Value) (ax : Option Addr) (m c : Nat) (news : List Value)
  (ho : (Builtin.firstCells i.size n (.slice s n cap)).run P w.drew=.ok olds.toArray w.drew)
  (hf : (Builtin.firstCells i.size m (.slice ax m c)).run P w.drew=.ok news.toArray w.drew)
  (hg : cap<n+m) (h63 : n+m≤AK) (hb : i.bytes≤128) :
  (Builtin.append_ #[t,t] ty #[.slice s n cap,.slice ax m c]).run P w =
   .ok (.slice (some ⟨w.heap.size,0,none⟩) (n+m) (grownCap w (n+m) cap e))
    (w.drew.alloc (.cells (olds.toArray++news.toArray++Builtin.zeroCells z.cells (grownCap w (n+m) cap e - (n+m))) e)):=by
 have hn : ¬ (n+m≤cap):=by omega
 have h63' : ¬ (9223372036854775807<((n : Int)+(m : Int))):=by simp only [AK] at h63; omega
 have Kq : (n+m)*i.bytes≤140737488355328:=by
  have : (n+m)*i.bytes≤1099511627776*128:=Nat.mul_le_mul h63 hb;omega
 have h48' : ¬ (281474976710656<Builtin.nextslicecap (n+m) cap*i.bytes):=by have:=growslice_fits hg Kq; omega
 simp [Builtin.append_,run_underlying ht,sizeOf,typeInfo,zeroValue,hi,hz,Builtin.lenOf,hn,h63',h48',Question.forced,ho,hf,newRow,grownCap]
 congr 2
 apply Array.ext'
 simp
theorem LA (hW : Ao g B H w) {H' : AA} (Cq : H'.sub H) (cap0 : Nat) (e : TypeId) (sz n m f : Nat) (cs new : List AV) (olds news : List Value) (z : Array Value)
  (h1 : olds.length=n*sz) (h2 : news.length=m*sz) (h3 : cs.length=n*sz) (h4 : new.length=m*sz) (hz : z.size=sz) (hm : (n+m)*sz≤AK)
  (ho : ∀ i,i<cs.length→Ad g (cs.getD i nv) (olds.getD i undef)) (hn : ∀ i,i<new.length→Ad g (new.getD i nv) (news.getD i undef)) (hf : f≤cs.length) {K : Ap}
  (hk : ∀ Ca,H.get Ca=none→K (.buf Ca (n+m)) (H'.set Ca (.cells sz (cs++new) f))) :
  Dj g B w K (.slice (some ⟨w.heap.size,0,none⟩) (n+m) (grownCap w (n+m) cap0 e))
   (w.drew.alloc (.cells (olds.toArray++news.toArray++Builtin.zeroCells z (grownCap w (n+m) cap0 e - (n+m))) e)):=by
 have XM:=grownCap_ge w (n+m) cap0 e
 obtain ⟨i,q1,q2⟩:=hW.fresh
 have hlen : (cs++new).length=(n+m)*sz:=by rw [List.length_append,h3,h4,Nat.add_mul]
 have CW : (olds.toArray++news.toArray++Builtin.zeroCells z (grownCap w (n+m) cap0 e - (n+m))).size=grownCap w (n+m) cap0 e*sz:=by
  simp only [Array.size_append,List.size_toArray,size_zeroCells,hz,h1,h2,← Nat.add_mul]
  congr 1
  omega
 have QZ : (n+m)*sz≤grownCap w (n+m) cap0 e*sz:=Nat.mul_le_mul_right _ XM
 have hv : ∀ k,k<(cs++new).length→Ad g ((cs++new).getD k nv) ((olds.toArray++news.toArray++Builtin.zeroCells z (grownCap w (n+m) cap0 e - (n+m))).getD k undef):=by
  intro k JP;rw [Bk]
  have e1 : (olds.toArray++news.toArray++Builtin.zeroCells z (grownCap w (n+m) cap0 e - (n+m))).getD k undef=(olds++news).getD k undef:=by
   simp only [Array.getD_eq_getD_getElem?,gE];rw [Array.getElem?_append_left (by simp [h1,h2]; rw [hlen,Nat.add_mul] at JP; omega)]
   simp
  rw [e1,Bk]
  by_cases IM : k<cs.length
  ·rw [if_pos IM,if_pos (by omega)]; exact ho k IM
  ·rw [if_neg IM,if_neg (by omega),h3,h1];simp only [List.length_append] at JP
   have:=hn (k - cs.length) (by omega);rw [h3] at this;exact this
 obtain ⟨k1,k2⟩:=(hW.drew.sub Cq).PM i q1 (olds.toArray++news.toArray++Builtin.zeroCells z (grownCap w (n+m) cap0 e - (n+m))) e sz (grownCap w (n+m) cap0 e) (cs++new)
  (by rw [hlen]; exact hm) CW (by rw [hlen,CW]; exact QZ) hv
 have hK:=hk i q2;refine ⟨_,_,_,k1,hK,.buf i (n+m) _ _ (Gh.EH _ _ _), ?_,((Below.refl B w).drew).alloc hW.base _⟩
 obtain ⟨vR,Pn,Fh,hinj,ij,fw,XG⟩:=k2;refine ⟨vR,Pn,fun j o ej=>?_, ?_, ?_,fw,XG⟩
 ·by_cases hj : j=i
  ·subst hj
   simp at ej; subst ej
   obtain ⟨p,hp,hr⟩:=Fh j (.cells sz (cs++new) 0) (by simp);refine ⟨p,hp, ?_⟩;rw [Gh.EH] at hp; cases hp;simp only [Ai] at hr ⊢
   obtain ⟨a1,a2,a3,a4,a5⟩:=hr;exact ⟨a1,by rw [List.length_append]; omega,a3,fun o ho'=>a4 o (Nat.zero_le _),a5⟩
  ·exact Fh j o (by rw [AA.B1 _ _ hj] at ej ⊢; exact ej)
 ·intro a b' c c1 c2 Bq e1 e2
  have fix : ∀ x,((H'.set i (.cells sz (cs++new) f)).get x).isSome→((H'.set i (.cells sz (cs++new) 0)).get x).isSome:=by
   intro x hx
   by_cases iD : x=i
   ·subst iD; simp
   ·rw [AA.B1 _ _ iD] at hx ⊢; exact hx
  exact hinj a b' c c1 c2 Bq (fix _ e1) (fix _ e2)
 ·intro a b' c Bq e1 e2
  have fix : ∀ x,((H'.set i (.cells sz (cs++new) f)).get x).isSome→((H'.set i (.cells sz (cs++new) 0)).get x).isSome:=by
   intro x hx
   by_cases iD : x=i
   ·subst iD; simp
   ·rw [AA.B1 _ _ iD] at hx ⊢; exact hx
  exact ij a b' c Bq (fix _ e1) (fix _ e2)
theorem Xx (hW : Ao g B H w) {H' : AA} (Cq : H'.sub H) (sz : Nat) {K : Ap} (hk : ∀ Ca,H.get Ca=none→K (.buf Ca 0) (H'.set Ca (.cells sz [] 0))) :
  Dj g B w K (.slice none 0 0) w:=by
 obtain ⟨i,q1,q2⟩:=hW.fresh
 obtain ⟨k1,k2⟩:=(hW.sub Cq).HF i q1 .nil (.cells sz [] 0) (fun b hb=>by cases hb) (by simp [Ai]);exact ⟨_,_,_,k1,hk i q2,.DX i (Gh.EH _ _ _),k2,.refl B w⟩
theorem SY (hW : Ao g B H w) {t ty : TypeId} {x : TypeId × TypeInfo} (he : C5 P t=some x) {z : List AV} (hz : C8 P x.1=some z) (hb : x.2.bytes≤128)
  {os ox : Option AV} {sv xv : AV} {s u : Value} (rM : os=some sv) (hox : ox=some xv) (hs : Ad g sv s) (hx : Ad g xv u) {K : Ap} (hk : Ds x.2.size os ox K H) :
  ∃ v w',(Builtin.append_ #[t,t] ty #[s,u]).run P w=.ok v w'∧Dj g B w K v w':=by
 subst rM hox
 obtain ⟨h1,h2,h3⟩:=Co he
 obtain ⟨i,zv,q1,q2,q3,q4,q5⟩:=DJ hz;rw [h2] at q1; cases q1
 cases hs <;> try (simp [Ds] at hk; done)
 case A1 =>
  simp only [Ds] at hk
  cases F3 : DD x.2.size (some xv) H with
  | none=>simp [F3,TU] at hk
  | some q =>
   obtain ⟨p,m,new⟩:=q;simp only [F3,TU] at hk
   obtain ⟨⟨m1,m2,hp⟩,hk⟩:=hk
   obtain ⟨ax,c,news,rfl,l1,l2,hr,V5,-,N8⟩:=Ja (P:=P) hW hx F3 hp
   rcases Nat.eq_zero_or_pos m with VG | VG
   ·subst VG
    have YL : new=[]:=List.eq_nil_of_length_eq_zero (by simpa using l2)
    have lR : news=[]:=List.eq_nil_of_length_eq_zero (by simpa using l1);subst YL lR
    have rF:=N8 w hW.fz;refine ⟨.slice none 0 0,w, ?_,Xx hW (.refl H) x.2.size hk⟩
    simp [Builtin.append_,run_underlying h1,sizeOf,typeInfo,h2,Builtin.lenOf,rF]
   ·have ho : (Builtin.firstCells x.2.size 0 (.slice none 0 0)).run P w.drew=.ok ([] : List Value).toArray w.drew:=by simp [Builtin.firstCells]
    have Wy:=LF (P:=P) (w:=w) t ty x.1 x.2 zv h1 h2 q2 none 0 0 [] ax m c news ho (N8 w.drew hW.fz) (by omega) (by simpa using m1) hb;refine ⟨_,_,Wy, ?_⟩;refine LA hW (.refl H) 0 x.1 x.2.size 0 m 0 [] new [] news zv.cells (by simp) l1 (by simp) l2 q4 (by simpa using m2) (by simp) hr (by simp) ?_
    intro Ca KD
    simpa using hk Ca KD
 case FI a0 =>
  simp only [Ds] at hk
  cases F3 : DD x.2.size (some xv) H with
  | none=>simp [F3,cA] at hk
  | some q =>
   obtain ⟨p,m,new⟩:=q;simp only [F3,cA] at hk
   obtain ⟨⟨VG,m1,m2,hp⟩,hk⟩:=hk
   obtain ⟨ax,c,news,rfl,l1,l2,hr,V5,-,N8⟩:=Ja (P:=P) hW hx F3 hp
   have ho : (Builtin.firstCells x.2.size 0 (.slice a0 0 0)).run P w.drew=.ok ([] : List Value).toArray w.drew:=by cases a0 <;> simp [Builtin.firstCells,loadCells,loadCellsFrom]
   have Wy:=LF (P:=P) (w:=w) t ty x.1 x.2 zv h1 h2 q2 a0 0 0 [] ax m c news ho (N8 w.drew hW.fz) (by omega) (by simpa using m1) hb;refine ⟨_,_,Wy, ?_⟩;refine LA hW (.refl H) 0 x.1 x.2.size 0 m 0 [] new [] news zv.cells (by simp) l1 (by simp) l2 q4 (by simpa using m2) (by simp) hr (by simp) ?_
   intro Ca KD
   simpa using hk Ca KD
 case DX id D4 =>
  simp only [Ds] at hk
  cases hg : H.get id with
  | none=>simp [hg,Gf] at hk
  | some o =>
   cases o with
   | map ks vs=>simp [hg,Gf] at hk
   | cells sz' cs f =>
    cases F3 : DD x.2.size (some xv) H with
    | none=>simp [F3,hg,Gf] at hk
    | some q =>
     obtain ⟨p,m,new⟩:=q;simp only [F3,hg,Gf] at hk
     obtain ⟨⟨rfl,n1,n2,n3,hp⟩,hk⟩:=hk
     have IK : cs=[]:=List.eq_nil_of_length_eq_zero (by simpa using n1);subst IK
     obtain ⟨p0,gU,XD⟩:=hW.ob id _ hg;rw [D4] at gU; cases gU;simp only [Ai] at XD
     obtain ⟨-,rfl⟩:=XD
     have Cq : (H.del id).sub H:=fun k x e=>by
      by_cases hk : k=id
      ·subst hk; rw [AA.Ci] at e; cases e
      ·rwa [AA.CA _ hk] at e
     obtain ⟨ax,c,news,rfl,l1,l2,hr,V5,-,N8⟩:=Ja (P:=P) hW hx F3 hp
     rcases Nat.eq_zero_or_pos m with VG | VG
     ·subst VG
      have YL : new=[]:=List.eq_nil_of_length_eq_zero (by simpa using l2)
      have lR : news=[]:=List.eq_nil_of_length_eq_zero (by simpa using l1);subst YL lR
      have rF:=N8 w hW.fz;refine ⟨.slice none 0 0,w, ?_,Xx hW Cq x.2.size (fun Ca KD=>by simpa using hk Ca KD)⟩
      simp [Builtin.append_,run_underlying h1,sizeOf,typeInfo,h2,Builtin.lenOf,rF]
     ·have ho : (Builtin.firstCells x.2.size 0 (.slice none 0 0)).run P w.drew=.ok ([] : List Value).toArray w.drew:=by simp [Builtin.firstCells]
      have Wy:=LF (P:=P) (w:=w) t ty x.1 x.2 zv h1 h2 q2 none 0 0 [] ax m c news ho (N8 w.drew hW.fz) (by omega) (by simpa using n2) hb;refine ⟨_,_,Wy, ?_⟩;refine LA hW Cq 0 x.1 x.2.size 0 m 0 [] new [] news zv.cells (by simp) l1 (by simp) l2 q4 (by simpa using n3) (by simp) hr (by simp) ?_
      intro Ca KD
      simpa using hk Ca KD
 case buf id n b cap D4 =>
  simp only [Ds] at hk
  cases hg : H.get id with
  | none=>simp [hg,Gf] at hk
  | some o =>
   cases o with
   | map ks vs=>simp [hg,Gf] at hk
   | cells sz' cs f =>
    cases F3 : DD x.2.size (some xv) H with
    | none=>simp [F3,hg,Gf] at hk
    | some q =>
     obtain ⟨p,m,new⟩:=q;simp only [F3,hg,Gf] at hk
     obtain ⟨⟨rfl,n1,n2,n3,hp⟩,hk⟩:=hk
     obtain ⟨ax,c,news,rfl,l1,l2,hr,V5,gR,N8⟩:=Ja (P:=P) hW hx F3 hp
     obtain ⟨cur,el,k5,hB,kf,km,k6,k7,k8⟩:=hW.obj D4 hg
     have hlen : (cs++new).length=(n+m)*x.2.size:=by rw [List.length_append,n1,l2,Nat.add_mul]
     by_cases YT : n+m≤cap
     ·have hmul : (n+m)*x.2.size≤cap*x.2.size:=Nat.mul_le_mul_right _ YT
      have rS : n*x.2.size+news.length≤cur.size:=by rw [l1,k6,← Nat.add_mul]; exact hmul
      have Wy:=bH (P:=P) (w:=w) t ty x.1 x.2 h1 h2 b n cap cur el k5 ax m c news (N8 w hW.fz) l1 V5 YT rS;refine ⟨_,_,Wy, ?_⟩
      have l6 : Ao g B (H.set id (.cells x.2.size (cs++new) f)) (w.setRow b (cur.toList.take (n*x.2.size)++news++cur.toList.drop (n*x.2.size+news.length)).toArray):=by
       refine hW.write id b cap x.2.size cs _ f cur _ el hg D4 k5 (setRow_heap w b cur _ el _ k5) (by simp [World.setRow]) (fun k hk=>setRow_other w b k _ hk) ?_ ?_ ?_ ?_ ?_ ?_
       ·simp; omega
       ·intro k JP
        have : k<n*x.2.size:=by omega
        simp [List.getElem?_append,show k<min (n*x.2.size) cur.size by omega,this]
       ·simp; omega
       ·rw [hlen]; exact n3
       ·rw [hlen]; simp; omega
       ·intro k JP;rw [Bk]
        have e1 : ((cur.toList.take (n*x.2.size)++news++cur.toList.drop (n*x.2.size+news.length)).toArray).getD k undef =
          if k<n*x.2.size then cur.getD k undef else news.getD (k - n*x.2.size) undef:=by
         rw [hlen,Nat.add_mul] at JP;simp only [Array.getD_eq_getD_getElem?,List.getElem?_toArray,gE]
         by_cases a1 : k<n*x.2.size
         ·rw [if_pos a1,List.append_assoc,List.getElem?_append_left (by simp; omega)]
          simp [a1]
         ·rw [if_neg a1,List.append_assoc,List.getElem?_append_right (by simp; omega),List.getElem?_append_left (by simp; omega)]
          simp [show min (n*x.2.size) cur.size=n*x.2.size by omega]
        rw [e1,n1]
        by_cases a1 : k<n*x.2.size
        ·rw [if_pos a1,if_pos a1]; exact k8 k (by omega)
        ·rw [if_neg a1,if_neg a1]; exact hr _ (by rw [hlen,Nat.add_mul] at JP; omega)
      obtain ⟨i',e1,e2⟩:=hW.fresh
      obtain ⟨r1,r2⟩:=l6.rename id i' (.cells x.2.size (cs++new) f) (.HE b cap) (by simp) D4 e1;refine ⟨_,_,_,r1,hk i' e2,.buf i' (n+m) b cap (Gh.EH _ _ _),r2.sub ?_,⟨rfl,rfl,rfl,by simp [World.setRow],fun k JP=>setRow_other w b k _ (by omega),Nat.le_refl _⟩⟩
      intro k o e
      by_cases sQ : k=i'
      ·subst sQ; simpa using e
      ·rw [AA.B1 _ _ sQ] at e ⊢
       by_cases sM : k=id
       ·subst sM; rw [AA.Ci] at e; cases e
       ·rw [AA.CA _ sM] at e ⊢;rw [AA.B1 _ _ sM]; exact e
     ·have Cq : (H.del id).sub H:=fun k x e=>by
       by_cases hk : k=id
       ·subst hk; rw [AA.Ci] at e; cases e
       ·rwa [AA.CA _ hk] at e
      have ho : (Builtin.firstCells x.2.size n (.slice (some ⟨b,0,none⟩) n cap)).run P w.drew=.ok ((List.range (n*x.2.size)).map fun j=>cur.getD j undef).toArray w.drew:=by
       simp only [Builtin.firstCells];refine run_loadCells w.drew ⟨b,0,none⟩ _ _ fun j hj=>?_;rw [Addr.add_lit,Nat.zero_add]
       have : w.cell? ⟨b,j,none⟩=some (cur.getD j undef):=by rw [cell_of_row w b j cur el _ k5]; exact getD_some (by omega)
       simpa using this
      have Wy:=LF (P:=P) (w:=w) t ty x.1 x.2 zv h1 h2 q2 (some ⟨b,0,none⟩) n cap _ ax m c news ho (N8 w.drew hW.fz) (by omega) n2 hb;refine ⟨_,_,Wy, ?_⟩;refine LA hW Cq cap x.1 x.2.size n m f cs new _ news zv.cells (by simp) l1 n1 l2 q4 n3 ?_ hr kf hk
      intro j hj
      have : ((List.range (n*x.2.size)).map fun j=>cur.getD j undef).getD j undef=cur.getD j undef:=by simp [gE,show j<n*x.2.size by omega]
      rw [this]; exact k8 j hj
end
end Go.AW
namespace Go.AW
open Go.RowKit
section
variable {P : Program} {g : Gh} {B : Nat} {H : AA} {w : World}
theorem EG {b : Nat} {es : Array MapEntry} {clk : Nat} (h : w.heap[b]? = some (.map es clk)) : (getObj b).run P w=.ok (.map es clk) w:=by
 simp [getObj,Sem.run,h]
theorem IP {b : Nat} {es : Array MapEntry} {clk : Nat} (o : Obj) (h : w.heap[b]? = some (.map es clk)) :
  (setObj b o).run P w=.ok () { w with heap:=w.heap.setIfInBounds b o }:=by
 simp [setObj,Sem.run,h]
theorem N5 (l l' : List UInt8) : ((⟨l.toArray⟩ : ByteArray) == ⟨l'.toArray⟩)=decide (l=l'):=by
 have h : ((⟨l.toArray⟩ : ByteArray) == ⟨l'.toArray⟩)=(l.toArray == l'.toArray):=rfl;rw [h,Bool.eq_iff_iff]
 simp
def H9 (s : Nat) : TypeDesc→Bool
 | .int _=>s == 0
 | .string=>s == 1
 | _=>false
def Nz (P : Program) (s : Nat) (kt : TypeId) : Prop:=∃ d,P.underlying kt=some d∧(H9 s d=true∨s=2∧∃ fs,d=.struct fs∧Om P kt fs=true)
theorem Q9 {s : Nat} {d : TypeDesc} (hd : H9 s d=true) {k a : AV} {kv av : Value} (hk : Ad g k kv) (ha : Ad g a av) (hl : k.C3 s a=true) :
  Instr.sameNow d kv av=some (k.Sb a):=by
 cases hk <;> try (simp [AV.C3] at hl; done)
 ·cases ha <;> try (simp [AV.C3] at hl; done)
  simp [AV.C3] at hl
  obtain ⟨rfl,rfl⟩:=hl
  cases d <;> simp [H9] at hd
  simp [Instr.sameNow,AV.Sb];rw [Bool.eq_iff_iff]; simp
 ·cases ha <;> try (simp [AV.C3] at hl; done)
  simp [AV.C3] at hl;subst hl
  cases d <;> simp [H9] at hd
  rename_i l l'
  simp only [Instr.sameNow,AV.Sb,Option.some.injEq];exact N5 l l'
 ·exfalso
  have hs : s=2:=by
   unfold AV.C3 at hl
   split at hl
   ·cases ‹AV.agg _=AV.int _ _›
   ·cases ‹AV.agg _=AV.str _›
   ·simp only [Bool.and_eq_true,beq_iff_eq] at hl; exact hl.1
   ·cases hl
  subst hs
  cases d <;> simp [H9] at hd
def C6 (k : AV) : List AV→Nat→Option Nat
 | [],_=>none
 | a::ks,i=>if k.Sb a then some i else C6 k ks (i+1)
theorem K5 {s : Nat} {d : TypeDesc} (hd : H9 s d=true) {k : AV} {kv : Value} (hk : Ad g k kv) :
  ∀ (ks : List AV) (es : List MapEntry) (i : Nat),es.length=ks.length→(∀ j,j<ks.length→Ad g (ks.getD j nv) (es.getD j default).key)→(∀ a,a∈ks→k.C3 s a=true) →
   Instr.findNow d kv es i=some ((C6 k ks i).map fun j=>(j,(es.getD (j - i) default).val))
 | [],[],i,_,_,_=>by simp [Instr.findNow,C6]
 | [],_::_,_,h,_,_=>by simp at h
 | _::_,[],_,h,_,_=>by simp at h
 | a::ks,e::es,i,h,hr,hl=>by
  have h0:=hr 0 (by simp);simp only [List.getD_cons_zero] at h0
  have hs:=Q9 hd hk h0 (hl a (by simp));simp only [Instr.findNow,hs,C6]
  cases hq : k.Sb a with
  | true=>simp
  | false =>
   simp only [Bool.false_eq_true,if_false];rw [K5 hd hk ks es (i+1) (by simpa using h) (fun j hj=>by simpa using hr (j+1) (by simpa using hj)) (fun x hx=>hl x (by simp [hx]))]
   cases hm : C6 k ks (i+1) with
   | none=>simp
   | some j =>
    have : ∀ (l : List AV) (n j : Nat),C6 k l n=some j→n≤j:=by
     intro l
     induction l with
     | nil=>intro n j h; simp [C6] at h
     | cons b l ih =>
      intro n j h;simp only [C6] at h
      split at h
      ·cases h; omega
      ·have:=ih _ _ h; omega
    have hj:=this _ _ _ hm
    have e1 : j - i=(j - (i+1))+1:=by omega
    simp [e1]
theorem Qf (k : AV) : ∀ (ks vs : List AV) (n : Nat),vs.length=ks.length→J5 k ks vs=(C6 k ks n).map fun j=>vs.getD (j - n) nv
 | [],vs,n,_=>by simp [J5,C6]
 | a::ks,[],n,h=>by simp at h
 | a::ks,v::vs,n,h=>by
  simp only [J5,C6]
  split
  ·simp
  ·rw [Qf k ks vs (n+1) (by simpa using h)]
   cases hm : C6 k ks (n+1) with
   | none=>simp
   | some j =>
    have : ∀ (l : List AV) (n j : Nat),C6 k l n=some j→n≤j:=by
     intro l
     induction l with
     | nil=>intro n j h; simp [C6] at h
     | cons b l ih =>
      intro n j h;simp only [C6] at h
      split at h
      ·cases h; omega
      ·have:=ih _ _ h; omega
    have hj:=this _ _ _ hm
    have e1 : j - n=(j - (n+1))+1:=by omega
    simp [e1]
theorem Ir (k : AV) : ∀ (ks : List AV) (n j : Nat),C6 k ks n=some j→n≤j∧j<n+ks.length∧k.Sb (ks.getD (j - n) nv)=true
 | [],n,j,h=>by simp [C6] at h
 | a::ks,n,j,h=>by
  simp only [C6] at h
  split at h
  ·rename_i hq; cases h; simp [hq]
  ·obtain ⟨h1,h2,h3⟩:=Ir k ks (n+1) j h
   have e1 : j - n=(j - (n+1))+1:=by omega
   refine ⟨by omega,by simp; omega,by rw [e1]; simpa using h3⟩
theorem Qj (k x : AV) : ∀ (ks vs : List AV) (n : Nat),vs.length=ks.length →
  Ie k x ks vs=match C6 k ks n with
   | some j=>(ks.set (j - n) k,vs.set (j - n) x)
   | none=>(ks++[k],vs++[x])
 | [],[],n,_=>by simp [Ie,C6]
 | [],_::_,n,h=>by simp at h
 | a::ks,[],n,h=>by simp at h
 | a::ks,v::vs,n,h=>by
  simp only [Ie,C6]
  split
  ·simp
  ·rw [Qj k x ks vs (n+1) (by simpa using h)]
   cases hm : C6 k ks (n+1) with
   | none=>simp
   | some j =>
    obtain ⟨h1,_⟩:=Ir k ks (n+1) j hm
    have e1 : j - n=(j - (n+1))+1:=by omega
    simp [e1]
theorem GI {d : TypeDesc} {s : Nat} (hd : H9 s d=true) {t : TypeId} (ht : P.underlying t=some d) (em : Bool) (n : Nat) (v : Value) : (Instr.checkKey em (n+1) t v).run P w=.ok () w:=by
 unfold Instr.checkKey;simp only [Sem.run_bind,run_underlying ht,Result.andThen_ok]
 cases d <;> simp [H9] at hd <;> rfl
theorem QG {kt : TypeId} {fs : Array Field} (ht : P.underlying kt=some (.struct fs)) (hp : Om P kt fs=true) (em : Bool) (n : Nat) (k1 k2 : IntKind) (a b : Int) :
  (Instr.checkKey em (n+2) kt (.agg #[.int k1 a,.int k2 b])).run P w=.ok () w:=by
 simp only [Om,Bool.and_eq_true,beq_iff_eq] at hp
 obtain ⟨⟨hi,hs⟩,h2⟩:=hp
 obtain ⟨l⟩:=fs
 match l,h2 with
 | [f0,f1],_ =>
  simp only [FL,Bool.and_eq_true,beq_iff_eq,bne_iff_ne,ne_eq] at hi
  obtain ⟨⟨⟨⟨ho0,hu0⟩,St⟩,YL⟩,⟨⟨⟨V5,vJ⟩,hz1⟩,lR⟩,-⟩:=hi
  have e0 : ∃ k,P.underlying f0.type=some (.int k):=by split at hu0 <;> simp_all
  have e1 : ∃ k,P.underlying f1.type=some (.int k):=by split at vJ <;> simp_all
  obtain ⟨q0,e0⟩:=e0
  obtain ⟨q1,e1⟩:=e1
  have c0 : ∀ v,(Instr.checkKey em (n+1) f0.type v).run P w=.ok () w:=fun v=>GI (s:=0) (d:=.int q0) rfl e0 em n v
  have c1 : ∀ v,(Instr.checkKey em (n+1) f1.type v).run P w=.ok () w:=fun v=>GI (s:=0) (d:=.int q1) rfl e1 em n v;unfold Instr.checkKey;simp only [Sem.run_bind,run_underlying ht,Result.andThen_ok]
  simp [YL,lR,ho0,V5,part,isAgg,run_underlying e0,run_underlying e1,c0,c1]
theorem I6 {k a : AV} {kv av : Value} (hk : Ad g k kv) (ha : Ad g a av) (hl : k.C3 2 a=true) :
  ∃ k1 k2 x1 x2 y1 y2,k=.agg [.int k1 x1,.int k2 x2]∧a=.agg [.int k1 y1,.int k2 y2]∧kv=.agg #[.int k1 x1,.int k2 x2]∧av=.agg #[.int k1 y1,.int k2 y2]:=by
 unfold AV.C3 at hl
 split at hl
 ·simp at hl
 ·simp at hl
 ·rename_i k1 x1 k2 x2 l1 y1 l2 y2
  simp only [Bool.and_eq_true,beq_iff_eq,decide_eq_true_eq,true_and] at hl
  obtain ⟨rfl,rfl⟩:=hl;refine ⟨k1,k2,x1,x2,y1,y2,rfl,rfl, ?_, ?_⟩
  ·cases hk
   rename_i vs hs NA
   have q0:=NA 0 (by simp)
   have q1:=NA 1 (by simp)
   obtain ⟨l⟩:=vs
   match l,hs with
   | [z0,z1],_=>simp at q0 q1; cases q0; cases q1; rfl
  ·cases ha
   rename_i vs hs NA
   have q0:=NA 0 (by simp)
   have q1:=NA 1 (by simp)
   obtain ⟨l⟩:=vs
   match l,hs with
   | [z0,z1],_=>simp at q0 q1; cases q0; cases q1; rfl
 ·cases hl
theorem LG {s : Nat} {kt : TypeId} (hd : Nz P s kt) {k : AV} {kv : Value} (hk : Ad g k kv) (hl : k.C3 s k=true) (em : Bool) : (Instr.checkKey em 10000 kt kv).run P w=.ok () w:=by
 obtain ⟨d,hu,hd | ⟨rfl,fs,rfl,hp⟩⟩:=hd
 ·exact GI hd hu em 9999 kv
 ·obtain ⟨k1,k2,x1,x2,y1,y2,rfl,-,rfl,-⟩:=I6 hk hk hl;exact QG hu hp em 9998 k1 k2 x1 x2
theorem J9 {kt : TypeId} {fs : Array Field} (ht : P.underlying kt=some (.struct fs)) (hp : Om P kt fs=true) {k : AV} {kv : Value} (hk : Ad g k kv) :
  ∀ (ks : List AV) (es : List MapEntry) (i : Nat),es.length=ks.length→(∀ j,j<ks.length→Ad g (ks.getD j nv) (es.getD j default).key)→(∀ a,a∈ks→k.C3 2 a=true) →
   (Instr.findAsking kt kv es i).run P w=.ok ((C6 k ks i).map fun j=>(j,(es.getD (j - i) default).val)) w
 | [],[],i,_,_,_=>by simp [Instr.findAsking,C6]
 | [],_::_,_,h,_,_=>by simp at h
 | _::_,[],_,h,_,_=>by simp at h
 | a::ks,e::es,i,h,hr,hl=>by
  have h0:=hr 0 (by simp);simp only [List.getD_cons_zero] at h0
  have NS:=hp;simp only [Om,Bool.and_eq_true,beq_iff_eq,Bool.not_eq_true'] at NS
  obtain ⟨⟨hi,hs⟩,h2⟩:=NS
  obtain ⟨k1,k2,x1,x2,y1,y2,e1,e2,e3,e4⟩:=I6 hk h0 (hl a (by simp))
  have heq : (Op.equal kt kv e.key).run P w=.ok (k.Sb a) w:=by
   rw [e1,e2,e3,e4];exact TF ht hi hs h2 k1 k2 x1 x2 y1 y2
  simp only [Instr.findAsking,Sem.run_bind,heq,Result.andThen_ok,C6]
  cases hq : k.Sb a with
  | true=>simp
  | false =>
   simp only [Bool.false_eq_true,if_false];rw [J9 ht hp hk ks es (i+1) (by simpa using h) (fun j hj=>by simpa using hr (j+1) (by simpa using hj)) (fun x hx=>hl x (by simp [hx]))]
   cases hm : C6 k ks (i+1) with
   | none=>simp
   | some j =>
    have hj:=(Ir k ks (i+1) j hm).1
    have e1 : j - i=(j - (i+1))+1:=by omega
    simp [e1]
theorem TN {s : Nat} {kt : TypeId} (hd : Nz P s kt) {k : AV} {kv : Value} (hk : Ad g k kv) (ks : List AV) (es : List MapEntry) (hl : es.length=ks.length)
  (hr : ∀ j,j<ks.length→Ad g (ks.getD j nv) (es.getD j default).key) (Ph : ∀ a,a∈ks→k.C3 s a=true) :
  (Instr.findKey kt kv es).run P w=.ok ((C6 k ks 0).map fun j=>(j,(es.getD j default).val)) w:=by
 obtain ⟨d,hu,hd | ⟨rfl,fs,rfl,hp⟩⟩:=hd
 ·have Uy:=K5 (g:=g) hd hk ks es 0 hl hr Ph;simp only [Nat.sub_zero] at Uy;simp only [Instr.findKey,Sem.run_bind,run_underlying hu,Result.andThen_ok,Uy,Sem.run_pure]
 ·have Pj:=J9 (w:=w) hu hp hk ks es 0 hl hr Ph;simp only [Nat.sub_zero] at Pj
  match ks,es,hl with
  | [],[],_=>simp [Instr.findKey,run_underlying hu,Instr.findNow,C6]
  | a::ks,e::es,_ =>
   have h0:=hr 0 (by simp);simp only [List.getD_cons_zero] at h0
   obtain ⟨k1,k2,x1,x2,y1,y2,e1,e2,e3,e4⟩:=I6 hk h0 (Ph a (by simp))
   have hn : Instr.findNow (.struct fs) kv (e::es) 0=none:=by rw [e3]; simp [Instr.findNow,Instr.sameNow]
   simp only [Instr.findKey,Sem.run_bind,run_underlying hu,Result.andThen_ok,hn,Pj]
theorem KU {t kt et : TypeId} (ht : P.underlying t=some (.map kt et)) {s : Nat} (hd : Nz P s kt) {zi : TypeInfo} {zv : Value}
  (hi : P.info? et=some zi) (hz : zi.zero=some zv) {k : AV} {kv : Value} (hk : Ad g k kv) (ks vs : List AV) (es : Array MapEntry) (hl : es.size=ks.length)
  (hr : ∀ j,j<ks.length→Ad g (ks.getD j nv) (es.getD j default).key) (fV : k.C3 s k=true) (Ph : ∀ a,a∈ks→k.C3 s a=true) (m : Option Nat) (ok : Bool)
  (hm : (match m with | none=>es=#[] | some b=>∃ clk,w.heap[b]? = some (.map es clk))) :
  (Instr.lookup t (.map m) kv ok).run P w=.ok (if ok then .tuple #[((C6 k ks 0).map fun j=>(es.getD j default).val).getD zv,.bool (C6 k ks 0).isSome]
   else ((C6 k ks 0).map fun j=>(es.getD j default).val).getD zv) w:=by
 have Uy:=TN (w:=w) hd hk ks es.toList (by simpa using hl) (fun j hj=>by simpa using hr j hj) Ph
 have gV : ∀ em,(Instr.checkKey em 10000 kt kv).run P w=.ok () w:=fun em=>LG hd hk fV em;unfold Instr.lookup;simp only [Sem.run_bind,run_underlying ht,Result.andThen_ok]
 cases m with
 | none =>
  simp only at hm;subst hm
  have hks : ks=[]:=List.eq_nil_of_length_eq_zero (by simpa using hl.symm);subst hks;simp only [Sem.run_pure,Result.andThen_ok,gV,Sem.run_bind,Uy]
  simp [C6,zeroValue,typeInfo,hi,hz]
 | some b =>
  obtain ⟨clk,hb⟩:=hm;simp only [Sem.run_bind,EG hb,Sem.run_pure,Result.andThen_ok,gV,Uy]
  cases hq : C6 k ks 0 with
  | none=>simp [zeroValue,typeInfo,hi,hz]
  | some j=>simp
theorem SR {ok : Bool} {zero : AV} {zv : Value} (hz : Ad g zero zv) {k : AV} {ks vs : List AV} {es : Array MapEntry} (h2 : vs.length=ks.length)
  (hv : ∀ i,i<ks.length→Ad g (vs.getD i nv) (es.getD i default).val) :
  Ad g (mS ok zero (J5 k ks vs)) (if ok then .tuple #[((C6 k ks 0).map fun j=>(es.getD j default).val).getD zv,.bool (C6 k ks 0).isSome]
   else ((C6 k ks 0).map fun j=>(es.getD j default).val).getD zv):=by
 rw [Qf k ks vs 0 h2]
 have n5 : Ad g (((C6 k ks 0).map fun j=>vs.getD (j - 0) nv).getD zero) (((C6 k ks 0).map fun j=>(es.getD j default).val).getD zv):=by
  cases hq : C6 k ks 0 with
  | none=>simpa using hz
  | some j =>
   obtain ⟨_,h1,_⟩:=Ir k ks 0 j hq
   simpa using hv j (by omega)
 cases ok with
 | false=>simpa [mS] using n5
 | true =>
  simp only [mS,if_true];refine .CK _ _ rfl fun i hi=>?_
  match i,hi with
  | 0,_=>exact n5
  | 1,_=>simp only [List.getD_cons_succ,List.getD_cons_zero,Option.isSome_map]; exact .bool _
theorem Rz (hW : Ao g B H w) {t kt et : TypeId} (ht : P.underlying t=some (.map kt et)) {s : Nat} (hd : Nz P s kt) {z : AV}
  (hz : zeroOf P et=some z) {om ok' : Option AV} {mv kv : AV} {m k : Value} (hom : om=some mv) (rY : ok'=some kv) (hm : Ad g mv m) (fW : Ad g kv k) (ok : Bool) {K : Ap}
  (hk : Z0 s ok z om ok' K H) : ∃ u,(Instr.lookup t m k ok).run P w=.ok u w∧Dj g B w K u w:=by
 subst hom rY
 obtain ⟨zi,zv,q1,q2,q3⟩ : ∃ zi zv,P.info? et=some zi∧zi.zero=some zv∧M7 zv=some z:=by
  unfold zeroOf at hz
  split at hz
  ·rename_i zi hi
   split at hz
   ·rename_i zv hzv
    exact ⟨zi,zv,hi,hzv,hz⟩
   ·cases hz
  ·cases hz
 have hzr : Ad g z zv:=Kj q3
 cases hm <;> try (simp [Z0] at hk; done)
 case Lm =>
  simp only [Z0] at hk
  obtain ⟨⟨k1,k2⟩,hk⟩:=hk;exact ⟨_,KU (P:=P) ht hd q1 q2 fW [] [] #[] rfl (by simp) k1 (by simp) none ok rfl,.same hW (SR hzr rfl (by simp)) hk⟩
 case IH ks vs b es h h1 h2 Qa sa =>
  simp only [Z0] at hk
  obtain ⟨⟨k1,k2⟩,hk⟩:=hk;exact ⟨_,KU (P:=P) ht hd q1 q2 fW ks vs es h1 Qa k1 k2 (some b) ok (hW.fm b es h),.same hW (SR hzr h2 sa) hk⟩
 case GX id b D4 =>
  simp only [Z0] at hk
  cases hg : H.get id with
  | none=>simp [hg,uE] at hk
  | some o =>
   cases o with
   | cells _ _ _=>simp [hg,uE] at hk
   | map ks vs =>
    simp only [hg,uE] at hk
    obtain ⟨⟨k1,k2⟩,hk⟩:=hk
    obtain ⟨p,hp,hr⟩:=hW.ob id _ hg;rw [D4] at hp; cases hp;simp only [Ai] at hr
    obtain ⟨_,_,es,clk,h5,h6,h7,h8,h9⟩:=hr;exact ⟨_,KU (P:=P) ht hd q1 q2 fW ks vs es h6 h8 k1 k2 (some b) ok ⟨clk,h5⟩,.same hW (SR hzr h7 h9) hk⟩
end
end Go.AW
namespace Go.AW
open Go.RowKit
section
variable {P : Program} {g : Gh} {B : Nat} {H : AA} {w : World}
theorem Ao.TR (h : Ao g B H w) (i b : Nat) (ks vs ks' vs' : List AV) (es es' : Array MapEntry) (clk clk' : Nat)
  (hi : H.get i=some (.map ks vs)) (hp : g.io i=some (.mp b)) (hb : w.heap[b]? = some (.map es clk))
  (hs : es'.size=ks'.length) (hl : vs'.length=ks'.length) (hk : ∀ j,j<ks'.length→Ad g (ks'.getD j nv) (es'.getD j default).key)
  (hv : ∀ j,j<ks'.length→Ad g (vs'.getD j nv) (es'.getD j default).val) :
  Ao g B (H.set i (.map ks' vs')) { w with heap:=w.heap.setIfInBounds b (.map es' clk') }∧Below B w { w with heap:=w.heap.setIfInBounds b (.map es' clk') }:=by
 obtain ⟨p,NS,hr⟩:=h.ob i _ hi;rw [hp] at NS; cases NS;simp only [Ai] at hr
 obtain ⟨h1,h2,es0,clk0,h5,h6,h7,h8,h9⟩:=hr
 have hblt : b<w.heap.size:=(Array.getElem?_eq_some_iff.1 hb).1
 have ho : ∀ k,k≠b→(w.heap.setIfInBounds b (.map es' clk'))[k]? = w.heap[k]? := fun k hk=>by rw [Array.getElem?_setIfInBounds_ne (by omega)]
 have aP : (w.heap.setIfInBounds b (.map es' clk'))[b]? = some (.map es' clk'):=by simp [hblt]
 have Cn : ∀ j,((H.set i (.map ks' vs')).get j).isSome→(H.get j).isSome:=by
  intro j hj
  by_cases e : j=i
  ·subst e; simp [hi]
  ·rwa [AA.B1 _ _ e] at hj
 refine ⟨?_,⟨rfl,rfl,rfl,by simp,fun k hk=>ho k (by omega),Nat.le_refl _⟩⟩
 constructor
 ·intro b' o v e
  have hc:=h.fz _ _ _ e
  have : b'≠b:=by
   rintro rfl
   simp [World.cell?,hb] at hc
  rw [World.cell?_of_block (w:=w) (a:=⟨b',o,none⟩) (ho b' this)]; exact hc
 ·intro b' es'' e
  obtain ⟨clk'',hc⟩:=h.fm b' es'' e
  have : b'≠b:=by rintro rfl; simp [h2] at e
  exact ⟨clk'',by rw [← hc]; exact ho b' this⟩
 ·intro j o e
  by_cases hj : j=i
  ·subst hj
   simp at e; subst e;refine ⟨.mp b,hp, ?_⟩;simp only [Ai];exact ⟨h1,h2,es',clk',aP,hs,hl,hk,hv⟩
  ·rw [AA.B1 _ _ hj] at e
   obtain ⟨q,hq,Me⟩:=h.ob j o e;refine ⟨q,hq,Me.BA (Gh.le.refl g) (fun b'' hb''=>ho b'' ?_) (fun _ _ _ h=>h) (fun _ _ h=>h)⟩
   rintro rfl
   cases q with
   | nil=>cases hb''
   | mp b2=>cases hb''; exact h.HI j i _ hj (by simp [e]) (by simp [hi]) hq hp
   | HE b2 c2 =>
    cases hb''
    cases o with
    | map _ _=>simp [Ai] at Me
    | cells _ _ _ =>
     simp only [Ai] at Me
     obtain ⟨_,_,_,_,c,el,YJ,_⟩:=Me;rw [hb] at YJ; cases YJ
 ·intro j k b2 c2 c3 Bq e1 e2;exact h.inj j k b2 c2 c3 Bq (Cn j e1) (Cn k e2)
 ·intro j k b2 Bq e1 e2;exact h.HI j k b2 Bq (Cn j e1) (Cn k e2)
 ·simpa using h.base
 ·exact h.fin
theorem dQ {s : Nat} {k a : AV} {kv av : Value} (hk : Ad g k kv) (ha : Ad g a av) (hl : k.C3 s a=true) (he : k.Sb a=true) : kv=av∧Instr.sameBits 10000 av kv=true:=by
 cases hk <;> try (simp [AV.C3] at hl; done)
 ·cases ha <;> try (simp [AV.C3] at hl; done)
  simp [AV.C3] at hl
  simp [AV.Sb] at he
  obtain ⟨rfl,rfl⟩:=hl;subst he;exact ⟨rfl,by simp [Instr.sameBits]⟩
 ·cases ha <;> try (simp [AV.C3] at hl; done)
  simp [AV.Sb] at he;subst he;exact ⟨rfl,by simp [Instr.sameBits,N5]⟩
 ·have hs : s=2:=by
   unfold AV.C3 at hl
   split at hl
   ·cases ‹AV.agg _=AV.int _ _›
   ·cases ‹AV.agg _=AV.str _›
   ·simp only [Bool.and_eq_true,beq_iff_eq] at hl; exact hl.1
   ·cases hl
  subst hs
  rename_i cs vs XJ CJ
  obtain ⟨k1,k2,x1,x2,y1,y2,e1,e2,e3,e4⟩:=I6 (.agg cs vs XJ CJ) ha hl;rw [e1,e2] at he;simp only [AV.Sb,Bool.and_eq_true,decide_eq_true_eq] at he
  obtain ⟨rfl,rfl⟩:=he;rw [e3,e4];exact ⟨rfl,by simp [Instr.sameBits]⟩
theorem SA (hW : Ao g B H w) {t kt et : TypeId} (ht : P.underlying t=some (.map kt et)) {s : Nat} (hd : Nz P s kt)
  {om ok' ox : Option AV} {mv kv xv : AV} {m k x : Value} (hom : om=some mv) (rY : ok'=some kv) (hox : ox=some xv) (hm : Ad g mv m) (fW : Ad g kv k) (hxv : Ad g xv x) {K : Ap}
  (hk : j6 s om ok' ox K H) : ∃ w',(Instr.mapUpdate t m k x).run P w=.ok () w'∧Dj g B w K undef w':=by
 subst hom rY hox
 cases hm <;> try (simp [j6] at hk; done)
 rename_i id b D4
 simp only [j6] at hk
 cases hg : H.get id with
 | none=>simp [hg,sV] at hk
 | some o =>
  cases o with
  | cells _ _ _=>simp [hg,sV] at hk
  | map ks vs =>
   simp only [hg,sV] at hk
   obtain ⟨⟨k1,k2⟩,hk⟩:=hk
   obtain ⟨p,hp,hr⟩:=hW.ob id _ hg;rw [D4] at hp; cases hp;simp only [Ai] at hr
   obtain ⟨_,_,es,clk,h5,h6,h7,h8,h9⟩:=hr
   have Uy:=TN (P:=P) (w:=w) (g:=g) hd fW ks es.toList (by simpa using h6) (fun j hj=>by simpa using h8 j hj) k2
   have gV:=LG (P:=P) (w:=w) (g:=g) hd fW k1 false
   have QU:=Qj kv xv ks vs 0 h7
   cases hq : C6 kv ks 0 with
   | none =>
    simp only [hq,Option.map_none] at QU Uy;refine ⟨_,by simp [Instr.mapUpdate,run_underlying ht,EG h5,gV,Uy,IP _ h5]; rfl, ?_⟩
    obtain ⟨r1,r2⟩:=hW.TR id b ks vs (ks++[kv]) (vs++[xv]) es (es.push { key:=k,val:=x,born:=clk }) clk (clk+1) hg D4 h5 (by simp [h6]) (by simp [h7])
     (fun j hj=>by
      rw [Bk]
      by_cases jA : j<ks.length
      ·rw [if_pos jA]
       have : (es.push { key:=k,val:=x,born:=clk }).getD j default=es.getD j default:=by
        simp only [Array.getD_eq_getD_getElem?]; rw [Array.getElem?_push_lt (by omega)]; simp [show j<es.size by omega]
       rw [this]; exact h8 j jA
      ·have jo : j=ks.length:=by simp at hj; omega
       subst jo;rw [if_neg jA]
       have : (es.push { key:=k,val:=x,born:=clk }).getD ks.length default={ key:=k,val:=x,born:=clk }:=by
        simp [Array.getD_eq_getD_getElem?,← h6]
       rw [this]; simpa using fW)
     (fun j hj=>by
      rw [Bk,h7]
      by_cases jA : j<ks.length
      ·rw [if_pos jA]
       have : (es.push { key:=k,val:=x,born:=clk }).getD j default=es.getD j default:=by
        simp only [Array.getD_eq_getD_getElem?]; rw [Array.getElem?_push_lt (by omega)]; simp [show j<es.size by omega]
       rw [this]; exact h9 j jA
      ·have jo : j=ks.length:=by simp at hj; omega
       subst jo;rw [if_neg jA]
       have : (es.push { key:=k,val:=x,born:=clk }).getD ks.length default={ key:=k,val:=x,born:=clk }:=by
        simp [Array.getD_eq_getD_getElem?,← h6]
       rw [this]; simpa using hxv)
    rw [QU] at hk;exact ⟨g,nv,_,.refl g,hk,.CK [] #[] rfl (fun i hi=>by simp at hi),r1,r2⟩
   | some i =>
    obtain ⟨-,q2,q3⟩:=Ir kv ks 0 i hq;simp only [Nat.zero_add,Nat.sub_zero] at q2 q3;simp only [hq,Nat.sub_zero,Option.map_some] at QU Uy
    have Ph : kv.C3 s (ks.getD i nv)=true:=k2 _ (by simp [gE,q2])
    obtain ⟨e1,e2⟩:=dQ fW (h8 i q2) Ph q3
    obtain ⟨ent,hes,Pm⟩ : ∃ ent,es[i]? = some ent∧es.getD i default=ent:=⟨es.getD i default,by simp [Array.getD,show i<es.size by omega],rfl⟩;rw [Pm] at e1 e2
    have hkey : (Instr.keyThatStays ent.key k).run P w=.ok k w:=by
     unfold Instr.keyThatStays;rw [if_pos e2]; rfl
    refine ⟨_,by simp [Instr.mapUpdate,run_underlying ht,EG h5,gV,Uy,hes,hkey,IP _ h5]; rfl, ?_⟩
    obtain ⟨r1,r2⟩:=hW.TR id b ks vs (ks.set i kv) (vs.set i xv) es (es.modify i fun e=>{ e with key:=k,val:=x }) clk clk hg D4 h5 (by simp [h6]) (by simp [h7])
     (fun j hj=>by
      simp only [List.length_set] at hj
      by_cases ka : j=i
      ·subst ka
       have : (es.modify j fun e=>{ e with key:=k,val:=x }).getD j default={ (es.getD j default) with key:=k,val:=x }:=by
        rw [Pm,Array.getD_eq_getD_getElem?,Array.getElem?_modify,if_pos rfl,hes]; rfl
       rw [this]; simp [gE,hj]; exact fW
      ·have : (es.modify i fun e=>{ e with key:=k,val:=x }).getD j default=es.getD j default:=by
        simp [Array.getD_eq_getD_getElem?,Array.getElem?_modify,Ne.symm ka]
       rw [this]
       have : (ks.set i kv).getD j nv=ks.getD j nv:=by simp only [gE]; rw [List.getElem?_set_ne (by omega)]
       rw [this]; exact h8 j hj)
     (fun j hj=>by
      simp only [List.length_set] at hj
      by_cases ka : j=i
      ·subst ka
       have : (es.modify j fun e=>{ e with key:=k,val:=x }).getD j default={ (es.getD j default) with key:=k,val:=x }:=by
        rw [Pm,Array.getD_eq_getD_getElem?,Array.getElem?_modify,if_pos rfl,hes]; rfl
       rw [this]; simp [gE,hj,h7]; exact hxv
      ·have : (es.modify i fun e=>{ e with key:=k,val:=x }).getD j default=es.getD j default:=by
        simp [Array.getD_eq_getD_getElem?,Array.getElem?_modify,Ne.symm ka]
       rw [this]
       have : (vs.set i xv).getD j nv=vs.getD j nv:=by simp only [gE]; rw [List.getElem?_set_ne (by omega)]
       rw [this]; exact h9 j hj)
    rw [QU] at hk;exact ⟨g,nv,_,.refl g,hk,.CK [] #[] rfl (fun i hi=>by simp at hi),r1,r2⟩
end
end Go.AW
