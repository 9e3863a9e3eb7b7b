/- How the codes of the functions are reckoned from the program (by cbv) and held against it (by the kernel). -/
import Derived.Test.YthflgdphhajkbaaGreatS2
import Derived.Test.YthflgdphhajkbaaGreatProg
set_option linter.unusedVariables false
set_option linter.defProp false
set_option maxRecDepth 100000
set_option maxHeartbeats 4000000
namespace Go.AW.Z
open Go.AW
def inN (a : Nat) : List Nat→List Nat
 | []=>[a]
 | b::r=>if a < b then a::b::r else if a = b then b::r else b::inN a r
def uG : List Nat→List Nat→List Nat
 | [],l=>l
 | a::r,l=>inN a (uG r l)
def dlN (a : Nat) : List Nat→List Nat
 | []=>[]
 | b::r=>if a = b then dlN a r else b::dlN a r
def ec (a : Nat) : List Nat→Bool
 | []=>false
 | b::r=>if a = b then true else ec a r
def iP : List Cu→List Nat→List Nat
 | [],o=>o
 | s::r,o=>uG (looks s) (match s.d with | some d=>dlN d (iP r o) | none=>iP r o)
def ez : Sp→List Cu
 | .fin l=>l
 | .br l ts=>l++ez ts
 | .nil=>[]
 | .alt h t _=>h::ez t
def na : List (Nat × List Nat)→Nat→List Nat
 | [],_=>[]
 | (j,l)::r,i=>if i = j then l else na r i
def lv (rt : List Nat) : SC→List (Nat × List Nat)→List Nat→List Nat
 | .Mb l,_,o=>iP l o
 | .two p l _,_,o=>iP p (iP l o)
 | .iW t,_,o=>iP (ez t) o
 | .seq a b,ex,o=>lv rt a ex (lv rt b ex o)
 | .cond c a b,ex,o=>uG (Rw c) (uG (lv rt a ex o) (lv rt b ex o))
 | .block i c,ex,o=>lv rt c ((i,o)::ex) o
 | .loop _ c,ex,_=>lv rt c ex []
 | .exit i,ex,_=>na ex i
 | .ret,_,_=>rt
 | .Xd c,ex,o=>lv rt c ex o
 | _,_,o=>o
def uI : List Cu→List Nat→List Nat
 | [],l=>l
 | s::r,l=>match s.d with | some d=>d::uI r l | none=>uI r l
def ds : SC→List Nat→List Nat
 | .Mb o,l=>uI o l
 | .two p o _,l=>uI p (uI o l)
 | .iW t,l=>uI (ez t) l
 | .seq a b,l=>ds a (ds b l)
 | .cond _ a b,l=>ds a (ds b l)
 | .block _ c,l=>ds c l
 | .loop _ c,l=>ds c l
 | .Xd c,l=>ds c l
 | _,l=>l
def YP (d : List Nat) (v : Bool) : List Nat→List Nat
 | []=>[]
 | a::r=>bif Bool.xor v (ec a d) then YP d v r else a::YP d v r
def hd : SC→Option Nat
 | .Mb (s::_)=>s.d
 | .seq a _=>hd a
 | .cut _ a _=>hd a
 | .cond _ a _=>hd a
 | .block _ c=>hd c
 | .loop _ c=>hd c
 | .Xd c=>hd c
 | _=>none
def pt1 (d : Nat) : List (Nat × Nat)→SC→SC
 | [],c=>c
 | (a,k)::r,c=>if a = d then pt1 d r (match k with | 0=>.wk c | 1=>c | t + 2=>.fz t c) else pt1 d r c
def pt (d : Option Nat) (p : List (Nat × Nat)) (c : SC) : SC:=match d with
 | some d=>pt1 d p c | none=>c
def sq (d k : Nat) : List (Nat × Nat)→Bool
 | []=>false
 | (a,b)::r=>if a = d ∧ b = k then true else sq d k r
def ctH (d : Option Nat) (p : List (Nat × Nat)) : Bool:=match d with
 | some d=>sq d 1 p | none=>false
def sqS (p : List (Nat × Nat)) (a : SC) (l : List Nat) (b : SC) : SC:=match b with
 | .B6 .. | .exit _ | .skip | .ret | .fz ..=>.seq a b
 | _=>bif ctH (hd b) p then .cut l a (pt (hd b) p b) else .seq a (.B6 l (pt (hd b) p b))
def fzs : List Nat→SC
 | []=>.ret
 | t::r=>.fz t (fzs r)
def an (rt fz : List Nat) (p : List (Nat × Nat)) : SC→List (Nat × List Nat)→List Nat→SC × List Nat
 | .seq a b,ex,o=>match an rt fz p b ex o with | (b',lb)=>match an rt fz p a ex lb with | (a',la)=>(sqS p a' lb b',la)
 | .cond c a b,ex,o=>match an rt fz p a ex o with | (a',la)=>match an rt fz p b ex o with | (b',lb)=>(.cond c a' b',uG (Rw c) (uG la lb))
 | .block i c,ex,o=>match an rt fz p c ((i,o)::ex) o with | (c',l)=>(.block i c',l)
 | .loop _ c,ex,_=>match an rt fz p c ex (lv rt c ex []) with | (c',_)=>(.loop (YP (ds c []) true (lv rt c ex [])++YP (ds c []) false (lv rt c ex [])) c',lv rt c ex [])
 | .Xd c,ex,o=>match an rt fz p c ex o with | (c',l)=>(.Xd c',l)
 | .Mb l,_,o=>(.Mb l,iP l o)
 | .two a b c,_,o=>(.two a b c,iP a (iP b o))
 | .iW t,_,o=>(.iW t,iP (ez t) o)
 | .exit i,ex,_=>(.exit i,na ex i)
 | .ret,_,_=>(fzs (bif sq 9999 1 p then [] else fz),rt)
 | s,_,o=>(s,o)
def Zg : SC→SC
 | .seq a b=>.seq (Zg a) (Zg b)
 | .cut l a b=>.cut l (Zg a) (Zg b)
 | .cond c a b=>.cond c (Zg a) (Zg b)
 | .block i c=>.block i (Zg c)
 | .loop l c=>.loop l (Zg c)
 | .Xd c=>.Xd (Zg c)
 | .B6 l c=>.B6 l (Zg c)
 | .wk c=>.wk (Zg c)
 | .fz t c=>.fz t (Zg c)
 | .ret=>.wk .ret
 | s=>s
def anP (rt fz : List Nat) (p : List (Nat × Nat)) (c : SC) : SC:=match an rt fz p c [] [] with | (s,_)=>bif sq 9999 0 p then Zg s else s
inductive Ty where
 | int (k : IntKind) | bool | str | ptr | Rk | fn
 | sl (e b : Nat)
 | st (fs : List (Nat × Nat × Option Nat)) (z : List AV)
 | mp (s e : Nat)
abbrev vK:=Nat→Ty
def rz : List (Nat × Ty)→Nat→Ty
 | [],_=>.bool
 | (a,t)::r,n=>if n = a then t else rz r n
def Ty.n : Ty→Nat
 | .st _ z=>z.length
 | _=>1
def Ty.a : Ty→Option Nat
 | .st _ z=>some z.length
 | _=>none
def Ty.z : Ty→List AV
 | .int k=>[.int k 0] | .bool=>[.bool false] | .str=>[.str []] | .ptr=>[.G1] | .Rk=>[.T7] | .fn=>[.NY] | .sl _ _=>[.A1] | .st _ z=>z | .mp _ _=>[.IU [] []]
def Ty.f : Ty→Nat→Nat × Nat × Option Nat
 | .st fs _,i=>fs.getD i (0,0,none)
 | _,_=>(0,0,none)
def Ty.e : Ty→Nat
 | .sl e _=>e | .mp _ e=>e | _=>0
def Ty.b : Ty→Nat
 | .sl _ b=>b | _=>0
def Ty.s : Ty→Nat
 | .mp s _=>s | _=>0
def Ty.k : Ty→IntKind
 | .int k=>k | _=>.i64
def c0 : Value→AV
 | .bool b=>.bool b | .int k n=>.int k n | .string s=>.str s.data.toList | .pointer _=>.G1 | .slice _ _ _=>.A1 | .map _=>.IU [] [] | .nilFunc=>.NY | _=>.T7
def c0s : List Value→List AV
 | []=>[] | a::r=>c0 a::c0s r
def ox : Operand→X
 | .tmp t=>.t t | .const (.agg c)=>.c (.agg (c0s c.toList)) | .const v=>.c (c0 v) | .func f=>.c (.fn (.func f) []) | _=>.t 0
def pA : List Operand→List X
 | []=>[] | a::r=>ox a::pA r
def qu : List (Nat × Operand)→List X
 | []=>[] | (_,a)::r=>ox a::qu r
def tT : Option Operand→Option X
 | none=>none | some a=>some (ox a)
def prs (t : Ty) : List (Nat × Operand)→List (Nat × Nat × X)
 | []=>[] | (i,a)::r=>(match t.f i with | (o,n,_)=>(o,n,ox a))::prs t r
def xR {α : Type} (h : Nat) (a b c : α) (d : Nat→α) : α:=match h with
 | 0=>a | 1=>b | 2=>c | n=>d (n - 10)
def lbin (t : Ty) (o : BinOp) (x y : X) : Ins:=match t with
 | .int k=>.ar o k x y
 | .str=>.ar o .i64 x y
 | .sl _ _=>(match o with | .eql=>.iV false x | _=>.iV true x)
 | .st _ z=>(match o with | .eql=>.aq false z.length x y | _=>.aq true z.length x y)
 | _=>.emp
def cq (T : vK) (h : Nat) (args : List Operand) (ts : List Nat) : Callee→Ins
 | .value f=>xR h (.call (ox f) (pA args)) (.N8 (ox f) (pA args)) (.Lr (ox f) (pA args)) fun z=>.Ll z (ox f) (pA args)
 | .invoke x n=>.inv (ox x) n (pA args)
 | .builtin b=>match b,args,ts with
   | .len,[x],[t]=>(match T t with | .sl _ _=>.len (ox x) | _=>.emp)
   | .append,[s,x],[t,_]=>.app (T (T t).e).n (T t).b (ox s) (ox x)
   | .max,[x,y],_=>.mx true (ox x) (ox y)
   | .min,[x,y],_=>.mx false (ox x) (ox y)
   | _,_,_=>.emp
def lop (T : vK) (h : Nat) : Op→Ins
 | .move x | .assign x=>.mv (ox x)
 | .pick c a b=>.pick (ox c) (ox a) (ox b)
 | .alloc t=>.lV (T t).z
 | .box t x=>xR h (.aM (T t).n (ox x)) (.TI (T t).n (ox x)) .emp fun _=>.emp
 | .build t parts=>.rU (T t).z (prs (T t) parts.toList)
 | .buildSlice t _ parts=>xR h (.TD (T (T t).e).n (qu parts.toList)) (.aS (T (T t).e).n (qu parts.toList)) .emp fun _=>.emp
 | .load t x=>xR h (.ld (T t).a (ox x)) (.v8 (T t).a (ox x)) .emp fun z=>.jD z (T t).a (ox x)
 | .store t p v=>.st (T t).n (ox p) (ox v)
 | .nilCheck x=>.n0 (ox x)
 | .binOp o t x y _=>lbin (T t) o (ox x) (ox y)
 | .unOp _ _ x=>.nt (ox x)
 | .convert _ d x=>(match T d with | .str=>.wR (ox x) | t=>.conv t.k (ox x))
 | .makeInterface t x=>.oA t (ox x)
 | .typeAssert x _ a _=>.oE a (ox x)
 | .makeFunc f _ ca=>.tM f (pA ca.toList)
 | .makeMap _ _=>.nR
 | .makeSlice t l c=>.l8 (T (T t).e).n (T (T t).e).z (ox l) (ox c)
 | .fieldAddr t x f=>(match (T t).f f with | (o,n,_)=>.oL o n (ox x))
 | .field t x f=>(match (T t).f f with | (o,_,a)=>.prt o a (ox x))
 | .indexAddr t x i=>.idx (T (T t).e).n (ox x) (ox i)
 | .lookup t m k ok=>.bE (T t).s ok ((T (T t).e).z.getD 0 .G1) (ox m) (ox k)
 | .mapUpdate t m k v=>.gH (T t).s (ox m) (ox k) (ox v)
 | .extract x i=>.ext (ox x) i
 | .slice t x lo hi _=>.n5 (T (T t).e).n (ox x) (tT lo) (tT hi)
 | .call c=>cq T h c.args.toList c.argTypes.toList c.callee
 | _=>.emp
def lgd (ops : List Oper) : Option (Nat × Bool)→Option (Nat × Bool)
 | none=>none
 | some (j,b)=>match ops[j]? with
   | some o=>(match o.dst with | some t=>some (t,b) | none=>none)
   | none=>none
def lkN : List (Nat × Nat)→Nat→Nat
 | [],_=>0
 | (a,b)::r,i=>if a = i then b else lkN r i
def ef (T : vK) (ops : List Oper) : List Oper→Nat→List (Nat × Nat)→List Cu
 | [],_,_=>[]
 | o::r,i,v=>⟨o.dst,lgd ops o.guard,lop T (lkN v i) o.op⟩::ef T ops r (i + 1) v
def cF (l : List Cu) : List Nat→List Cu
 | []=>[] | i::r=>(match l[i]? with | some s=>s::cF l r | none=>cF l r)
def mvT (k j u : Nat) : Nat:=if u < k then u else if u = k then j else if u ≤ j then u - 1 else u
def mvL {α : Type} (d : α) (l : List α) (k j n : Nat) : List α:=(List.range n).map fun u=>l.getD (mvT k j u) d
inductive KJ where
 | o
 | w (k j : Nat)
 | t (i : IT)
structure Hn where
 id : Nat
 vs : List (Nat × Nat)
 pm : List Nat
 kj : KJ
def Hn.k (h : Hn) : Nat × List Nat × List Nat:=(h.id,h.pm,(List.range 64).map (lkN h.vs))
def hnL : List Hn→Nat→Option Hn
 | [],_=>none
 | h::r,i=>if i = h.id then some h else hnL r i
def lreg (l0 l : List Cu) : KJ→SC
 | .o=>.Mb l
 | .w k j=>.two (l.take k) (l.drop k) ((mvL default l k j l.length).drop k)
 | .t i=>.iW (i.ot fun k=>l0.getD k default)
def lc (T : vK) (hs : List Hn) : Code→SC
 | .region id ops _=>(match hnL hs id with
   | none=>.Mb (ef T ops.toList ops.toList 0 [])
   | some h=>lreg (ef T ops.toList ops.toList 0 h.vs) (match h.pm with | []=>ef T ops.toList ops.toList 0 h.vs | p=>cF (ef T ops.toList ops.toList 0 h.vs) p) h.kj)
 | .seq a b=>.seq (lc T hs a) (lc T hs b)
 | .cond c a b=>.cond (ox c) (lc T hs a) (lc T hs b)
 | .block i c=>.block i (lc T hs c)
 | .loop c=>.loop [] (lc T hs c)
 | .exit i=>.exit i
 | .scope c=>.Xd (lc T hs c)
 | .ret=>.ret
 | _=>.skip
def rtl : List ResultVar→List Nat
 | []=>[]
 | .tmp t::r=>t::rtl r
 | .cell t _::r=>t::rtl r
def zc (T : vK) : List ResultVar→List RV
 | []=>[]
 | .tmp t::r=>.tmp t::zc T r
 | .cell t y::r=>.cell t (T y).a::zc T r
def np (T : vK) : List ResultVar→List Nat→List Nat
 | .tmp t::r,y::s=>(match T y with | .sl _ _=>t::np T r s | _=>np T r s)
 | _::r,_::s=>np T r s
 | _,_=>[]
noncomputable def T0 : List (Nat × Ty) := [(2,.int .i64),(3,.int .i64),(5,.int .u8),(9,.str),(22,.sl 5 1),(24,.sl 2 8),(25,.sl 24 24),(27,.st [(0,1,none),(1,1,none),(2,1,none),(3,1,none),(4,1,none)] [(.int .i64 0),.A1,.A1,.A1,.A1]),(44,.st [(0,5,(some 5)),(5,1,none),(6,1,none)] [(.int .i64 0),.A1,.A1,.A1,.A1,.A1,.A1]),(55,.sl 25 24),(57,.st [(0,5,(some 5)),(5,1,none)] [(.int .i64 0),.A1,.A1,.A1,.A1,.A1]),(65,.int .u64),(68,.st [(0,7,(some 7)),(7,7,(some 7)),(14,1,none)] [(.int .i64 0),.A1,.A1,.A1,.A1,.A1,.A1,(.int .i64 0),.A1,.A1,.A1,.A1,.A1,.A1,.A1]),(82,.ptr),(98,.ptr),(121,.st [(0,7,(some 7)),(7,1,none)] [(.int .i64 0),.A1,.A1,.A1,.A1,.A1,.A1,.A1]),(127,.ptr),(131,.ptr),(132,.ptr),(136,.sl 199 24),(137,.sl 244 8),(139,.st [(0,1,none),(1,7,(some 7)),(8,1,none),(9,1,none),(10,1,none)] [.G1,(.int .i64 0),.A1,.A1,.A1,.A1,.A1,.A1,.A1,.A1,.A1]),(140,.ptr),(142,.st [(0,1,none),(1,1,none)] [.G1,.G1]),(155,.ptr),(169,.st [(0,1,none),(1,1,none),(2,1,none)] [.A1,(.int .i64 0),(.int .u64 0)]),(191,.sl 195 64),(195,.st [(0,1,none),(1,1,none),(2,1,none),(3,1,none)] [(.int .i64 0),(.int .i64 0),.A1,.A1]),(199,.sl 2 8),(200,.sl 204 40),(204,.st [(0,1,none),(1,1,none),(2,1,none)] [(.int .i64 0),(.int .i64 0),.A1]),(211,.sl 131 8),(220,.ptr),(221,.sl 225 24),(222,.ptr),(224,.st [(0,1,none),(1,1,none),(2,1,none),(3,1,none)] [.G1,.G1,.A1,.G1]),(225,.sl 4 1),(226,.sl 136 24),(228,.st [(0,7,(some 7)),(7,1,none)] [(.int .i64 0),.A1,.A1,.A1,.A1,.A1,.A1,.A1]),(232,.st [(0,5,(some 5)),(5,1,none),(6,1,none),(7,1,none)] [(.int .i64 0),.A1,.A1,.A1,.A1,.A1,.A1,.A1]),(244,.mp 1 2),(247,.sl 155 8),(250,.fn),(255,.st [(0,1,none),(1,1,none)] [(.int .i64 0),(.int .i64 0)]),(276,.fn),(280,.st [(0,1,none),(1,1,none),(2,1,none),(3,1,none),(4,1,none)] [.A1,.A1,.A1,(.int .i64 0),.A1]),(284,.mp 0 200),(286,.st [(0,1,none),(1,1,none),(2,1,none),(3,1,none)] [.A1,(.IU [] []),.A1,.NY]),(302,.st [(0,7,(some 7)),(7,7,(some 7)),(14,1,none),(15,1,none),(16,1,none)] [(.int .i64 0),.A1,.A1,.A1,.A1,.A1,.A1,(.int .i64 0),.A1,.A1,.A1,.A1,.A1,.A1,(.bool false),(.int .i64 0),.A1]),(306,.st [(0,1,none),(1,1,none),(2,1,none),(3,1,none),(4,1,none)] [.G1,.G1,(.bool false),.A1,.NY]),(329,.sl 333 16),(333,.st [(0,1,none),(1,1,none)] [(.int .i64 0),(.int .i64 0)]),(334,.sl 337 40),(337,.st [(0,1,none),(1,1,none),(2,1,none)] [(.int .i64 0),(.int .i64 0),.A1]),(362,.st [(0,0,none),(0,0,none),(0,1,none)] [(.int .i64 0)])]
structure Cd (f n : Nat) (s : SC) (r : List RV) : Prop where
 go : ∀ {B : Nat} {args : List AV} {H : AB} {K : Am} (hk : Tt args → FW Go.Proofs.Tryz.prog B s (Qa r K) (GV 0 args) H) (ha : args.length ≤ n := by simp), B7 Go.Proofs.Tryz.prog B f args H K
theorem cx {f n : Nat} {fn : Func} {c : Code} {s0 s : SC} {r : List RV} (h : List Hn) (p : List (Nat × Nat)) (hf : Go.Proofs.Tryz.prog.funcs[f]? = some fn) (hb : fn.body = some c := by exact rfl) (ht : fn.ntmps = n := by cbv) (e1 : zc (rz T0) fn.results.toList = r := by cbv)
 (e0 : lc (rz T0) h c = s0 := by cbv) (e : anP (rtl fn.results.toList) (np (rz T0) fn.results.toList fn.resultTypes.toList) p s0 = s := by cbv) (hn : (fn.name == "runtime.NumGoroutine") = false := by kernel_rfl)
 (hc : B4 Go.Proofs.Tryz.prog fn.ntmps (h.map Hn.k) c = some s.strip := by kernel_rfl) (hr : EU Go.Proofs.Tryz.prog fn.results.toList = some r := by kernel_rfl) : Cd f n s r := ⟨fun hk ha => B7.YQ (hs := h.map Hn.k) hf hb hn hc hr (ht ▸ ha) hk⟩
noncomputable def Xh : String := match Go.Proofs.Tryz.prog.underlying 383 with | some (.interface ms) => (ms[0]!).1 | _ => ""
end Go.AW.Z
namespace Go.Proofs.Shf
open Go.AW Go.Proofs Go.AW.Z
noncomputable def pK : SC := (.seq (.Mb [⟨(some 6), none, .mv (.c (.bool false))⟩]) (.B6 [0, 1, 2] (.seq (.Mb [⟨(some 10), none, .mv (.t 2)⟩, ⟨(some 11), none, .oE 383 (.t 10)⟩, ⟨(some 9), none, .mv (.t 11)⟩, ⟨(some 12), none, .ext (.t 9) 0⟩, ⟨(some 13), none, .ext (.t 9) 1⟩, ⟨(some 7), none, .mv (.t 12)⟩, ⟨(some 8), none, .mv (.t 13)⟩]) (.B6 [0, 1, 7, 8] (.seq (.Mb [⟨(some 14), none, .mv (.t 8)⟩, ⟨(some 15), none, .mv (.t 14)⟩, ⟨(some 16), some (15, true), .mv (.t 7)⟩, ⟨(some 17), some (15, true), .mv (.t 0)⟩, ⟨(some 18), some (15, true), .mv (.t 1)⟩, ⟨(some 19), some (15, true), .inv (.t 16) Xh [(.t 17), (.t 18)]⟩, ⟨(some 20), none, .pick (.t 15) (.t 19) (.c (.bool false))⟩, ⟨(some 6), none, .mv (.t 20)⟩]) .ret)))))
theorem c337 : Cd 337 21 pK [.tmp 6] := ⟨fun hk ha => B7.YQ (s := pK) (hs := []) Tryz.func337 rfl (by kernel_rfl) (by kernel_rfl) (by kernel_rfl) ha hk⟩
end Go.Proofs.Shf
