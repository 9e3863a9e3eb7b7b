/- How the codes of the functions are reckoned from the program (by cbv) and held against it (by the kernel). -/
import Derived.Test.YtphikjciekmijaaGreatS2
import Derived.Test.YtphikjciekmijaaGreatProg
set_option linter.unusedVariables false
set_option linter.defProp false
set_option maxRecDepth 100000
set_option maxHeartbeats 4000000
namespace Go.AW.Z
open Go.AW
def inN (a : Nat) : List Nat→List Nat
 | []=>[a]
 | b::r=>if a < b then a::b::r else if a = b then b::r else b::inN a r
def oJ : List Nat→List Nat→List Nat
 | [],l=>l
 | a::r,l=>inN a (oJ r l)
def uj (a : Nat) : List Nat→List Nat
 | []=>[]
 | b::r=>if a = b then uj a r else b::uj a r
def rD (a : Nat) : List Nat→Bool
 | []=>false
 | b::r=>if a = b then true else rD a r
def aG : List Cq→List Nat→List Nat
 | [],o=>o
 | s::r,o=>oJ (looks s) (match s.d with | some d=>uj d (aG r o) | none=>aG r o)
def rN : Pz→List Cq
 | .fin l=>l
 | .br l ts=>l++rN ts
 | .nil=>[]
 | .alt h t _=>h::rN t
def rz : List (Nat × List Nat)→Nat→List Nat
 | [],_=>[]
 | (j,l)::r,i=>if i = j then l else rz r i
def lv (rt : List Nat) : SC→List (Nat × List Nat)→List Nat→List Nat
 | .XW l,_,o=>aG l o
 | .two p l _,_,o=>aG p (aG l o)
 | .aQ t,_,o=>aG (rN t) o
 | .seq a b,ex,o=>lv rt a ex (lv rt b ex o)
 | .cond c a b,ex,o=>oJ (QX c) (oJ (lv rt a ex o) (lv rt b ex o))
 | .block i c,ex,o=>lv rt c ((i,o)::ex) o
 | .loop _ c,ex,_=>lv rt c ex []
 | .exit i,ex,_=>rz ex i
 | .ret,_,_=>rt
 | .Uy c,ex,o=>lv rt c ex o
 | _,_,o=>o
def mN : List Cq→List Nat→List Nat
 | [],l=>l
 | s::r,l=>match s.d with | some d=>d::mN r l | none=>mN r l
def ds : SC→List Nat→List Nat
 | .XW o,l=>mN o l
 | .two p o _,l=>mN p (mN o l)
 | .aQ t,l=>mN (rN t) l
 | .seq a b,l=>ds a (ds b l)
 | .cond _ a b,l=>ds a (ds b l)
 | .block _ c,l=>ds c l
 | .loop _ c,l=>ds c l
 | .Uy c,l=>ds c l
 | _,l=>l
def Vh (d : List Nat) (v : Bool) : List Nat→List Nat
 | []=>[]
 | a::r=>bif Bool.xor v (rD a d) then Vh d v r else a::Vh d v r
def hd : SC→Option Nat
 | .XW (s::_)=>s.d
 | .two (s::_) _ _=>s.d
 | .seq a _=>hd a
 | .cut _ a _=>hd a
 | .cond _ a _=>hd a
 | .block _ c=>hd c
 | .loop _ c=>hd c
 | .Uy c=>hd c
 | _=>none
def ky (d : Nat) : List (Nat × Nat)→SC→SC
 | [],c=>c
 | (a,k)::r,c=>if a = d then ky d r (match k with | 0=>.wk c | 1=>c | t + 2=>.fz t c) else ky d r c
def pt (d : Option Nat) (p : List (Nat × Nat)) (c : SC) : SC:=match d with
 | some d=>ky d p c | none=>c
def fx (d k : Nat) : List (Nat × Nat)→Bool
 | []=>false
 | (a,b)::r=>if a = d ∧ b = k then true else fx d k r
def ctH (d : Option Nat) (p : List (Nat × Nat)) : Bool:=match d with
 | some d=>fx d 1 p | none=>false
def sqS (p : List (Nat × Nat)) (a : SC) (l : List Nat) (b : SC) : SC:=match b with
 | .BF .. | .exit _ | .skip | .ret | .fz ..=>.seq a b
 | _=>bif ctH (hd b) p then .cut l a (pt (hd b) p b) else .seq a (.BF l (pt (hd b) p b))
def fzs : List Nat→SC
 | []=>.ret
 | t::r=>.fz t (fzs r)
def an (rt fz : List Nat) (p : List (Nat × Nat)) : SC→List (Nat × List Nat)→List Nat→SC × List Nat
 | .seq a b,ex,o=>match an rt fz p b ex o with | (b',lb)=>match an rt fz p a ex lb with | (a',la)=>(sqS p a' lb b',la)
 | .cond c a b,ex,o=>match an rt fz p a ex o with | (a',la)=>match an rt fz p b ex o with | (b',lb)=>(.cond c a' b',oJ (QX c) (oJ la lb))
 | .block i c,ex,o=>match an rt fz p c ((i,o)::ex) o with | (c',l)=>(.block i c',l)
 | .loop _ c,ex,_=>match an rt fz p c ex (lv rt c ex []) with | (c',_)=>(.loop (Vh (ds c []) true (lv rt c ex [])++Vh (ds c []) false (lv rt c ex [])) c',lv rt c ex [])
 | .Uy c,ex,o=>match an rt fz p c ex o with | (c',l)=>(.Uy c',l)
 | .XW l,_,o=>(.XW l,aG l o)
 | .two a b c,_,o=>(.two a b c,aG a (aG b o))
 | .aQ t,_,o=>(.aQ t,aG (rN t) o)
 | .exit i,ex,_=>(.exit i,rz ex i)
 | .ret,_,_=>(fzs (bif fx 9999 1 p then [] else fz),rt)
 | s,_,o=>(s,o)
def Wo : SC→SC
 | .seq a b=>.seq (Wo a) (Wo b)
 | .cut l a b=>.cut l (Wo a) (Wo b)
 | .cond c a b=>.cond c (Wo a) (Wo b)
 | .block i c=>.block i (Wo c)
 | .loop l c=>.loop l (Wo c)
 | .Uy c=>.Uy (Wo c)
 | .BF l c=>.BF l (Wo c)
 | .wk c=>.wk (Wo c)
 | .fz t c=>.fz t (Wo c)
 | .ret=>.wk .ret
 | s=>s
def anP (rt fz : List Nat) (p : List (Nat × Nat)) (c : SC) : SC:=match an rt fz p c [] [] with | (s,_)=>bif fx 9999 0 p then Wo s else s
inductive Ty where
 | int (k : IntKind) | bool | str | ptr | R4 | fn
 | sl (e b : Nat)
 | st (fs : List (Nat × Nat × Option Nat)) (z : List AV)
 | mp (s e : Nat)
abbrev mF:=Nat→Ty
def ah : List (Nat × Ty)→Nat→Ty
 | [],_=>.bool
 | (a,t)::r,n=>if n = a then t else ah r n
def Ty.n : Ty→Nat
 | .st _ z=>z.length
 | _=>1
def Ty.a : Ty→Option Nat
 | .st _ z=>some z.length
 | _=>none
def Ty.z : Ty→List AV
 | .int k=>[.int k 0] | .bool=>[.bool false] | .str=>[.str []] | .ptr=>[.Ix] | .R4=>[.Qz] | .fn=>[.Lz] | .sl _ _=>[.A0] | .st _ z=>z | .mp _ _=>[.CS [] []]
def Ty.f : Ty→Nat→Nat × Nat × Option Nat
 | .st fs _,i=>fs.getD i (0,0,none)
 | _,_=>(0,0,none)
def Ty.e : Ty→Nat
 | .sl e _=>e | .mp _ e=>e | _=>0
def Ty.b : Ty→Nat
 | .sl _ b=>b | _=>0
def Ty.s : Ty→Nat
 | .mp s _=>s | _=>0
def Ty.k : Ty→IntKind
 | .int k=>k | _=>.i64
def c0 : Value→AV
 | .bool b=>.bool b | .int k n=>.int k n | .string s=>.str s.data.toList | .pointer _=>.Ix | .slice _ _ _=>.A0 | .map _=>.CS [] [] | .nilFunc=>.Lz | _=>.Qz
def c0s : List Value→List AV
 | []=>[] | a::r=>c0 a::c0s r
def ox : Operand→X
 | .tmp t=>.t t | .const (.agg c)=>.c (.agg (c0s c.toList)) | .const v=>.c (c0 v) | .func f=>.c (.fn (.func f) []) | _=>.t 0
def iE : List Operand→List X
 | []=>[] | a::r=>ox a::iE r
def vx : List (Nat × Operand)→List X
 | []=>[] | (_,a)::r=>ox a::vx r
def mY : Option Operand→Option X
 | none=>none | some a=>some (ox a)
def prs (t : Ty) : List (Nat × Operand)→List (Nat × Nat × X)
 | []=>[] | (i,a)::r=>(match t.f i with | (o,n,_)=>(o,n,ox a))::prs t r
def sW {α : Type} (h : Nat) (a b c : α) (d : Nat→α) : α:=match h with
 | 0=>a | 1=>b | 2=>c | n=>d (n - 10)
def mm (t : Ty) (o : BinOp) (x y : X) : Jt:=match t with
 | .int k=>.ar o k x y
 | .str=>.ar o .i64 x y
 | .bool=>(match o with | .eql=>.bq false x y | _=>.bq true x y)
 | .sl _ _=>(match o with | .eql=>.aP false x | _=>.aP true x)
 | .st _ z=>(match o with | .eql=>.aq false z.length x y | _=>.aq true z.length x y)
 | _=>(match o with | .eql=>.nq false x | _=>.nq true x)
def vV (T : mF) (h : Nat) (args : List Operand) (ts : List Nat) : Callee→Jt
 | .value f=>sW h (.call (ox f) (iE args)) (.M7 (ox f) (iE args)) (.KW (ox f) (iE args)) fun z=>.KT z (ox f) (iE args)
 | .invoke x n=>.inv (ox x) n (iE args)
 | .builtin b=>match b,args,ts with
   | .len,[x],[t]=>(match T t with | .sl _ _=>.len (ox x) | .str=>.XP (ox x) | _=>.R9 (ox x))
   | .clear,[x],[t]=>.lK (T (T t).e).z (ox x)
   | .copy,[x,y],_=>.lD (ox x) (ox y)
   | .append,[s,x],[t,_]=>.app (T (T t).e).n (T t).b (ox s) (ox x)
   | .max,[x,y],_=>.mx true (ox x) (ox y)
   | .min,[x,y],_=>.mx false (ox x) (ox y)
   | _,_,_=>.emp
def lop (T : mF) (h : Nat) : Op→Jt
 | .move x | .assign x=>.mv (ox x)
 | .pick c a b=>.pick (ox c) (ox a) (ox b)
 | .alloc t=>.gG (T t).z
 | .box t x=>sW h (.Xa (T t).n (ox x)) (.R3 (T t).n (ox x)) .emp fun _=>.emp
 | .build t parts=>.pJ (T t).z (prs (T t) parts.toList)
 | .buildSlice t _ parts=>sW h (.QF (T (T t).e).n (vx parts.toList)) (.XT (T (T t).e).n (vx parts.toList)) .emp fun _=>.emp
 | .load t x=>sW h (.ld (T t).a (ox x)) (.u6 (T t).a (ox x)) .emp fun z=>.aR z (T t).a (ox x)
 | .store t p v=>.st (T t).n (ox p) (ox v)
 | .nilCheck x=>.pH (ox x)
 | .binOp o t x y _=>mm (T t) o (ox x) (ox y)
 | .unOp _ _ x=>.nt (ox x)
 | .convert _ d x=>(match T d with | .str=>.pB (ox x) | t=>.conv t.k (ox x))
 | .makeInterface t x=>.kW t (ox x)
 | .typeAssert x _ a _=>.kR a (ox x)
 | .makeFunc f _ ca=>.o7 f (iE ca.toList)
 | .makeMap _ _=>.pM
 | .makeSlice t l c=>.dP (T (T t).e).n (T (T t).e).z (ox l) (ox c)
 | .fieldAddr t x f=>(match (T t).f f with | (o,n,_)=>.oN o n (ox x))
 | .field t x f=>(match (T t).f f with | (o,_,a)=>.oW o a (ox x))
 | .indexAddr t x i=>.idx (T (T t).e).n (ox x) (ox i)
 | .lookup t m k ok=>.Xn (T t).s ok ((T (T t).e).z.getD 0 .Ix) (ox m) (ox k)
 | .mapUpdate t m k v=>.aA (T t).s (ox m) (ox k) (ox v)
 | .extract x i=>.ext (ox x) i
 | .slice t x none (some hi) (some mx)=>.oZ (T (T t).e).n (ox x) (ox hi) (ox mx)
 | .slice t x lo hi _=>(match T t with | .str=>.p8 0 (ox x) (mY lo) (mY hi) | u=>sW h (.p8 (T u.e).n (ox x) (mY lo) (mY hi)) (.dK (T u.e).n (ox x) (mY lo) (mY hi)) .emp fun _=>.emp)
 | .call c=>vV T h c.args.toList c.argTypes.toList c.callee
 | _=>.emp
def lgd (ops : List Oper) : Option (Nat × Bool)→Option (Nat × Bool)
 | none=>none
 | some (j,b)=>match ops[j]? with
   | some o=>(match o.dst with | some t=>some (t,b) | none=>none)
   | none=>none
def px : List (Nat × Nat)→Nat→Nat
 | [],_=>0
 | (a,b)::r,i=>if a = i then b else px r i
def vS (T : mF) (ops : List Oper) : List Oper→Nat→List (Nat × Nat)→List Cq
 | [],_,_=>[]
 | o::r,i,v=>⟨o.dst,lgd ops o.guard,lop T (px v i) o.op⟩::vS T ops r (i + 1) v
def Yi (l : List Cq) : List Nat→List Cq
 | []=>[] | i::r=>(match l[i]? with | some s=>s::Yi l r | none=>Yi l r)
def mvT (k j u : Nat) : Nat:=if u < k then u else if u = k then j else if u ≤ j then u - 1 else u
def mvL {α : Type} (d : α) (l : List α) (k j n : Nat) : List α:=(List.range n).map fun u=>l.getD (mvT k j u) d
inductive KJ where
 | o
 | w (k j : Nat)
 | t (i : IT)
structure Hn where
 id : Nat
 vs : List (Nat × Nat)
 pm : List Nat
 kj : KJ
def Hn.k (h : Hn) : Nat × List Nat × List Nat:=(h.id,h.pm,(List.range 64).map (px h.vs))
def hnL : List Hn→Nat→Option Hn
 | [],_=>none
 | h::r,i=>if i = h.id then some h else hnL r i
def kh (l0 l : List Cq) : KJ→SC
 | .o=>.XW l
 | .w k j=>.two (l.take k) (l.drop k) ((mvL default l k j l.length).drop k)
 | .t i=>.aQ (i.ot fun k=>l0.getD k default)
def lc (T : mF) (hs : List Hn) : Code→SC
 | .region id ops _=>(match hnL hs id with
   | none=>.XW (vS T ops.toList ops.toList 0 [])
   | some h=>kh (vS T ops.toList ops.toList 0 h.vs) (match h.pm with | []=>vS T ops.toList ops.toList 0 h.vs | p=>Yi (vS T ops.toList ops.toList 0 h.vs) p) h.kj)
 | .seq a b=>.seq (lc T hs a) (lc T hs b)
 | .cond c a b=>.cond (ox c) (lc T hs a) (lc T hs b)
 | .block i c=>.block i (lc T hs c)
 | .loop c=>.loop [] (lc T hs c)
 | .exit i=>.exit i
 | .scope c=>.Uy (lc T hs c)
 | .ret=>.ret
 | _=>.skip
def lr : List ResultVar→List Nat
 | []=>[]
 | .tmp t::r=>t::lr r
 | .cell t _::r=>t::lr r
def rq (T : mF) : List ResultVar→List RV
 | []=>[]
 | .tmp t::r=>.tmp t::rq T r
 | .cell t y::r=>.cell t (T y).a::rq T r
def fq (T : mF) : List ResultVar→List Nat→List Nat
 | .tmp t::r,y::s=>(match T y with | .sl _ _=>t::fq T r s | _=>fq T r s)
 | _::r,_::s=>fq T r s
 | _,_=>[]
noncomputable def T0 : List (Nat × Ty) := [(2,.int .i64),(3,.int .i64),(5,.int .u8),(22,.sl 5 1),(24,.sl 2 8),(25,.sl 24 24),(27,.st [(0,1,none),(1,1,none),(2,1,none),(3,1,none),(4,1,none)] [(.int .i64 0),.A0,.A0,.A0,.A0]),(29,.st [(0,5,(some 5)),(5,1,none),(6,1,none)] [(.int .i64 0),.A0,.A0,.A0,.A0,.A0,.A0]),(32,.sl 25 24),(34,.st [(0,5,(some 5)),(5,5,(some 5)),(10,1,none),(11,1,none),(12,1,none)] [(.int .i64 0),.A0,.A0,.A0,.A0,(.int .i64 0),.A0,.A0,.A0,.A0,.A0,.A0,.A0]),(66,.sl 32 24),(72,.st [(0,5,(some 5)),(5,5,(some 5)),(10,1,none),(11,1,none)] [(.int .i64 0),.A0,.A0,.A0,.A0,(.int .i64 0),.A0,.A0,.A0,.A0,.A0,.A0]),(82,.ptr),(91,.ptr),(104,.fn),(148,.sl 257 40),(190,.int .u64),(192,.st [(0,1,none),(1,1,none),(2,1,none)] [.A0,(.int .i64 0),(.int .u64 0)]),(203,.sl 205 64),(205,.st [(0,1,none),(1,1,none),(2,1,none),(3,1,none)] [(.int .i64 0),(.int .i64 0),.A0,.A0]),(219,.st [(0,1,none),(1,1,none)] [(.int .i64 0),(.int .i64 0)]),(253,.sl 4 1),(257,.st [(0,1,none),(1,1,none),(2,1,none)] [(.int .i64 0),(.int .i64 0),.A0]),(259,.mp 0 148),(261,.st [(0,1,none),(1,1,none),(2,1,none),(3,1,none)] [.A0,(.CS [] []),.A0,.Lz]),(283,.st [(0,1,none),(1,1,none),(2,1,none),(3,1,none),(4,1,none)] [.A0,.A0,.A0,(.int .i64 0),.A0]),(308,.sl 91 8),(309,.sl 312 40),(312,.st [(0,1,none),(1,1,none),(2,1,none)] [(.int .i64 0),(.int .i64 0),.A0]),(323,.sl 72 256)]
structure Cd (f n : Nat) (s : SC) (r : List RV) : Prop where
 go : ∀ {B : Nat} {args : List AV} {H : AA} {K : Ak} (hk : VW args → Dx Go.Proofs.Tryz.prog B s (U9 r K) (HM 0 args) H) (ha : args.length ≤ n := by simp), B9 Go.Proofs.Tryz.prog B f args H K
theorem cx {f n : Nat} {fn : Func} {c : Code} {s0 s : SC} {r : List RV} (h : List Hn) (p : List (Nat × Nat)) (hf : Go.Proofs.Tryz.prog.funcs[f]? = some fn) (hb : fn.body = some c := by exact rfl) (ht : fn.ntmps = n := by cbv) (e1 : rq (ah T0) fn.results.toList = r := by cbv)
 (e0 : lc (ah T0) h c = s0 := by cbv) (e : anP (lr fn.results.toList) (fq (ah T0) fn.results.toList fn.resultTypes.toList) p s0 = s := by cbv) (hn : (fn.name == "runtime.NumGoroutine") = false := by kernel_rfl)
 (hc : B3 Go.Proofs.Tryz.prog fn.ntmps (h.map Hn.k) c = some s.strip := by kernel_rfl) (hr : Eu Go.Proofs.Tryz.prog fn.results.toList = some r := by kernel_rfl) : Cd f n s r := ⟨fun hk ha => B9.kM (hs := h.map Hn.k) hf hb hn hc hr (ht ▸ ha) hk⟩
end Go.AW.Z
