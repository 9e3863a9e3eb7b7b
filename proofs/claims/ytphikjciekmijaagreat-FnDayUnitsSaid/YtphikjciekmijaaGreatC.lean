/- How the codes of the functions are reckoned from the program (by cbv) and held against it (by the kernel). -/
import Derived.Test.YtphikjciekmijaaGreatA2
import Derived.Test.YtphikjciekmijaaGreatProg
set_option linter.unusedVariables false
set_option linter.defProp false
set_option maxRecDepth 100000
set_option maxHeartbeats 4000000
namespace Go.AW.Z
open Go.AW
def inN (a : Nat) : List Nat→List Nat
 | []=>[a]
 | b::r=>if a < b then a::b::r else if a = b then b::r else b::inN a r
def unN : List Nat→List Nat→List Nat
 | [],l=>l
 | a::r,l=>inN a (unN r l)
def dlN (a : Nat) : List Nat→List Nat
 | []=>[]
 | b::r=>if a = b then dlN a r else b::dlN a r
def hasN (a : Nat) : List Nat→Bool
 | []=>false
 | b::r=>if a = b then true else hasN a r
def lvO : List SOp→List Nat→List Nat
 | [],o=>o
 | s::r,o=>unN (looks s) (match s.d with | some d=>dlN d (lvO r o) | none=>lvO r o)
def otF : OrdT→List SOp
 | .fin l=>l
 | .br l ts=>l++otF ts
 | .nil=>[]
 | .alt h t _=>h::otF t
def exN : List (Nat × List Nat)→Nat→List Nat
 | [],_=>[]
 | (j,l)::r,i=>if i = j then l else exN r i
def lv (rt : List Nat) : SC→List (Nat × List Nat)→List Nat→List Nat
 | .reg l,_,o=>lvO l o
 | .two p l _,_,o=>lvO p (lvO l o)
 | .tre t,_,o=>lvO (otF t) o
 | .seq a b,ex,o=>lv rt a ex (lv rt b ex o)
 | .cond c a b,ex,o=>unN (rdX c) (unN (lv rt a ex o) (lv rt b ex o))
 | .block i c,ex,o=>lv rt c ((i,o)::ex) o
 | .loop _ c,ex,_=>lv rt c ex []
 | .exit i,ex,_=>exN ex i
 | .ret,_,_=>rt
 | .scp c,ex,o=>lv rt c ex o
 | _,_,o=>o
def dsO : List SOp→List Nat→List Nat
 | [],l=>l
 | s::r,l=>match s.d with | some d=>d::dsO r l | none=>dsO r l
def ds : SC→List Nat→List Nat
 | .reg o,l=>dsO o l
 | .two p o _,l=>dsO p (dsO o l)
 | .tre t,l=>dsO (otF t) l
 | .seq a b,l=>ds a (ds b l)
 | .cond _ a b,l=>ds a (ds b l)
 | .block _ c,l=>ds c l
 | .loop _ c,l=>ds c l
 | .scp c,l=>ds c l
 | _,l=>l
def pickN (d : List Nat) (v : Bool) : List Nat→List Nat
 | []=>[]
 | a::r=>bif Bool.xor v (hasN a d) then pickN d v r else a::pickN d v r
def hd : SC→Option Nat
 | .reg (s::_)=>s.d
 | .two (s::_) _ _=>s.d
 | .seq a _=>hd a
 | .cut _ a _=>hd a
 | .cond _ a _=>hd a
 | .block _ c=>hd c
 | .loop _ c=>hd c
 | .scp c=>hd c
 | _=>none
def pt1 (d : Nat) : List (Nat × Nat)→SC→SC
 | [],c=>c
 | (a,k)::r,c=>if a = d then pt1 d r (match k with | 0=>.wk c | 1=>c | t + 2=>.fz t c) else pt1 d r c
def pt (d : Option Nat) (p : List (Nat × Nat)) (c : SC) : SC:=match d with
 | some d=>pt1 d p c | none=>c
def ptH (d k : Nat) : List (Nat × Nat)→Bool
 | []=>false
 | (a,b)::r=>if a = d ∧ b = k then true else ptH d k r
def ctH (d : Option Nat) (p : List (Nat × Nat)) : Bool:=match d with
 | some d=>ptH d 1 p | none=>false
def sqS (p : List (Nat × Nat)) (a : SC) (l : List Nat) (b : SC) : SC:=match b with
 | .keep .. | .exit _ | .skip | .ret | .fz ..=>.seq a b
 | _=>bif ctH (hd b) p then .cut l a (pt (hd b) p b) else .seq a (.keep l (pt (hd b) p b))
def fzs : List Nat→SC
 | []=>.ret
 | t::r=>.fz t (fzs r)
def an (rt fz : List Nat) (p : List (Nat × Nat)) : SC→List (Nat × List Nat)→List Nat→SC × List Nat
 | .seq a b,ex,o=>match an rt fz p b ex o with | (b',lb)=>match an rt fz p a ex lb with | (a',la)=>(sqS p a' lb b',la)
 | .cond c a b,ex,o=>match an rt fz p a ex o with | (a',la)=>match an rt fz p b ex o with | (b',lb)=>(.cond c a' b',unN (rdX c) (unN la lb))
 | .block i c,ex,o=>match an rt fz p c ((i,o)::ex) o with | (c',l)=>(.block i c',l)
 | .loop _ c,ex,_=>match an rt fz p c ex (lv rt c ex []) with | (c',_)=>(.loop (pickN (ds c []) true (lv rt c ex [])++pickN (ds c []) false (lv rt c ex [])) c',lv rt c ex [])
 | .scp c,ex,o=>match an rt fz p c ex o with | (c',l)=>(.scp c',l)
 | .reg l,_,o=>(.reg l,lvO l o)
 | .two a b c,_,o=>(.two a b c,lvO a (lvO b o))
 | .tre t,_,o=>(.tre t,lvO (otF t) o)
 | .exit i,ex,_=>(.exit i,exN ex i)
 | .ret,_,_=>(fzs (bif ptH 9999 1 p then [] else fz),rt)
 | s,_,o=>(s,o)
def rtW : SC→SC
 | .seq a b=>.seq (rtW a) (rtW b)
 | .cut l a b=>.cut l (rtW a) (rtW b)
 | .cond c a b=>.cond c (rtW a) (rtW b)
 | .block i c=>.block i (rtW c)
 | .loop l c=>.loop l (rtW c)
 | .scp c=>.scp (rtW c)
 | .keep l c=>.keep l (rtW c)
 | .wk c=>.wk (rtW c)
 | .fz t c=>.fz t (rtW c)
 | .ret=>.wk .ret
 | s=>s
def anP (rt fz : List Nat) (p : List (Nat × Nat)) (c : SC) : SC:=match an rt fz p c [] [] with | (s,_)=>bif ptH 9999 0 p then rtW s else s
inductive Ty where
 | int (k : IntKind) | bool | str | ptr | ifc | fn
 | sl (e b : Nat)
 | st (fs : List (Nat × Nat × Option Nat)) (z : List AV)
 | mp (s e : Nat)
abbrev TyT:=Nat→Ty
def tyL : List (Nat × Ty)→Nat→Ty
 | [],_=>.bool
 | (a,t)::r,n=>if n = a then t else tyL r n
def Ty.n : Ty→Nat
 | .st _ z=>z.length
 | _=>1
def Ty.a : Ty→Option Nat
 | .st _ z=>some z.length
 | _=>none
def Ty.z : Ty→List AV
 | .int k=>[.int k 0] | .bool=>[.bool false] | .str=>[.str []] | .ptr=>[.nilp] | .ifc=>[.nili] | .fn=>[.nilf] | .sl _ _=>[.nilsl] | .st _ z=>z | .mp _ _=>[.imap [] []]
def Ty.f : Ty→Nat→Nat × Nat × Option Nat
 | .st fs _,i=>fs.getD i (0,0,none)
 | _,_=>(0,0,none)
def Ty.e : Ty→Nat
 | .sl e _=>e | .mp _ e=>e | _=>0
def Ty.b : Ty→Nat
 | .sl _ b=>b | _=>0
def Ty.s : Ty→Nat
 | .mp s _=>s | _=>0
def Ty.k : Ty→IntKind
 | .int k=>k | _=>.i64
def c0 : Value→AV
 | .bool b=>.bool b | .int k n=>.int k n | .string s=>.str s.data.toList | .pointer _=>.nilp | .slice _ _ _=>.nilsl | .map _=>.imap [] [] | .nilFunc=>.nilf | _=>.nili
def c0s : List Value→List AV
 | []=>[] | a::r=>c0 a::c0s r
def ox : Operand→X
 | .tmp t=>.t t | .const (.agg c)=>.c (.agg (c0s c.toList)) | .const v=>.c (c0 v) | .func f=>.c (.fn (.func f) []) | _=>.t 0
def oxs : List Operand→List X
 | []=>[] | a::r=>ox a::oxs r
def oxp : List (Nat × Operand)→List X
 | []=>[] | (_,a)::r=>ox a::oxp r
def oxo : Option Operand→Option X
 | none=>none | some a=>some (ox a)
def prs (t : Ty) : List (Nat × Operand)→List (Nat × Nat × X)
 | []=>[] | (i,a)::r=>(match t.f i with | (o,n,_)=>(o,n,ox a))::prs t r
def by3 {α : Type} (h : Nat) (a b c : α) (d : Nat→α) : α:=match h with
 | 0=>a | 1=>b | 2=>c | n=>d (n - 10)
def lbin (t : Ty) (o : BinOp) (x y : X) : Ins:=match t with
 | .int k=>.ar o k x y
 | .str=>.ar o .i64 x y
 | .bool=>(match o with | .eql=>.bq false x y | _=>.bq true x y)
 | .sl _ _=>(match o with | .eql=>.nls false x | _=>.nls true x)
 | .st _ z=>(match o with | .eql=>.aq false z.length x y | _=>.aq true z.length x y)
 | _=>(match o with | .eql=>.nq false x | _=>.nq true x)
def lcall (T : TyT) (h : Nat) (args : List Operand) (ts : List Nat) : Callee→Ins
 | .value f=>by3 h (.call (ox f) (oxs args)) (.callP (ox f) (oxs args)) (.callQ (ox f) (oxs args)) fun z=>.callZ z (ox f) (oxs args)
 | .invoke x n=>.inv (ox x) n (oxs args)
 | .builtin b=>match b,args,ts with
   | .len,[x],[t]=>(match T t with | .sl _ _=>.len (ox x) | .str=>.lenS (ox x) | _=>.lenM (ox x))
   | .clear,[x],[t]=>.clr (T (T t).e).z (ox x)
   | .copy,[x,y],_=>.cpy (ox x) (ox y)
   | .append,[s,x],[t,_]=>.app (T (T t).e).n (T t).b (ox s) (ox x)
   | .max,[x,y],_=>.mx true (ox x) (ox y)
   | .min,[x,y],_=>.mx false (ox x) (ox y)
   | _,_,_=>.emp
def lop (T : TyT) (h : Nat) : Op→Ins
 | .move x | .assign x=>.mv (ox x)
 | .pick c a b=>.pick (ox c) (ox a) (ox b)
 | .alloc t=>.alc (T t).z
 | .box t x=>by3 h (.boxP (T t).n (ox x)) (.boxW (T t).n (ox x)) .emp fun _=>.emp
 | .build t parts=>.bld (T t).z (prs (T t) parts.toList)
 | .buildSlice t _ parts=>by3 h (.litW (T (T t).e).n (oxp parts.toList)) (.litP (T (T t).e).n (oxp parts.toList)) .emp fun _=>.emp
 | .load t x=>by3 h (.ld (T t).a (ox x)) (.ldP (T t).a (ox x)) .emp fun z=>.ldZ z (T t).a (ox x)
 | .store t p v=>.st (T t).n (ox p) (ox v)
 | .nilCheck x=>.nck (ox x)
 | .binOp o t x y _=>lbin (T t) o (ox x) (ox y)
 | .unOp _ _ x=>.nt (ox x)
 | .convert _ d x=>(match T d with | .str=>.b2s (ox x) | t=>.conv t.k (ox x))
 | .makeInterface t x=>.mki t (ox x)
 | .typeAssert x _ a _=>.tas a (ox x)
 | .makeFunc f _ ca=>.mkf f (oxs ca.toList)
 | .makeMap _ _=>.mkm
 | .makeSlice t l c=>.mks (T (T t).e).n (T (T t).e).z (ox l) (ox c)
 | .fieldAddr t x f=>(match (T t).f f with | (o,n,_)=>.fld o n (ox x))
 | .field t x f=>(match (T t).f f with | (o,_,a)=>.prt o a (ox x))
 | .indexAddr t x i=>.idx (T (T t).e).n (ox x) (ox i)
 | .lookup t m k ok=>.lkm (T t).s ok ((T (T t).e).z.getD 0 .nilp) (ox m) (ox k)
 | .mapUpdate t m k v=>.upd (T t).s (ox m) (ox k) (ox v)
 | .extract x i=>.ext (ox x) i
 | .slice t x none (some hi) (some mx)=>.sl3 (T (T t).e).n (ox x) (ox hi) (ox mx)
 | .slice t x lo hi _=>(match T t with | .str=>.slc 0 (ox x) (oxo lo) (oxo hi) | u=>by3 h (.slc (T u.e).n (ox x) (oxo lo) (oxo hi)) (.slb (T u.e).n (ox x) (oxo lo) (oxo hi)) .emp fun _=>.emp)
 | .call c=>lcall T h c.args.toList c.argTypes.toList c.callee
 | _=>.emp
def lgd (ops : List Oper) : Option (Nat × Bool)→Option (Nat × Bool)
 | none=>none
 | some (j,b)=>match ops[j]? with
   | some o=>(match o.dst with | some t=>some (t,b) | none=>none)
   | none=>none
def lkN : List (Nat × Nat)→Nat→Nat
 | [],_=>0
 | (a,b)::r,i=>if a = i then b else lkN r i
def lps (T : TyT) (ops : List Oper) : List Oper→Nat→List (Nat × Nat)→List SOp
 | [],_,_=>[]
 | o::r,i,v=>⟨o.dst,lgd ops o.guard,lop T (lkN v i) o.op⟩::lps T ops r (i + 1) v
def permS (l : List SOp) : List Nat→List SOp
 | []=>[] | i::r=>(match l[i]? with | some s=>s::permS l r | none=>permS l r)
def mvT (k j u : Nat) : Nat:=if u < k then u else if u = k then j else if u ≤ j then u - 1 else u
def mvL {α : Type} (d : α) (l : List α) (k j n : Nat) : List α:=(List.range n).map fun u=>l.getD (mvT k j u) d
inductive KJ where
 | o
 | w (k j : Nat)
 | t (i : IT)
structure Hn where
 id : Nat
 vs : List (Nat × Nat)
 pm : List Nat
 kj : KJ
def Hn.k (h : Hn) : Nat × List Nat × List Nat:=(h.id,h.pm,(List.range 64).map (lkN h.vs))
def hnL : List Hn→Nat→Option Hn
 | [],_=>none
 | h::r,i=>if i = h.id then some h else hnL r i
def lreg (l0 l : List SOp) : KJ→SC
 | .o=>.reg l
 | .w k j=>.two (l.take k) (l.drop k) ((mvL default l k j l.length).drop k)
 | .t i=>.tre (i.ot fun k=>l0.getD k default)
def lc (T : TyT) (hs : List Hn) : Code→SC
 | .region id ops _=>(match hnL hs id with
   | none=>.reg (lps T ops.toList ops.toList 0 [])
   | some h=>lreg (lps T ops.toList ops.toList 0 h.vs) (match h.pm with | []=>lps T ops.toList ops.toList 0 h.vs | p=>permS (lps T ops.toList ops.toList 0 h.vs) p) h.kj)
 | .seq a b=>.seq (lc T hs a) (lc T hs b)
 | .cond c a b=>.cond (ox c) (lc T hs a) (lc T hs b)
 | .block i c=>.block i (lc T hs c)
 | .loop c=>.loop [] (lc T hs c)
 | .exit i=>.exit i
 | .scope c=>.scp (lc T hs c)
 | .ret=>.ret
 | _=>.skip
def rtl : List ResultVar→List Nat
 | []=>[]
 | .tmp t::r=>t::rtl r
 | .cell t _::r=>t::rtl r
def lrs (T : TyT) : List ResultVar→List RV
 | []=>[]
 | .tmp t::r=>.tmp t::lrs T r
 | .cell t y::r=>.cell t (T y).a::lrs T r
def fzl (T : TyT) : List ResultVar→List Nat→List Nat
 | .tmp t::r,y::s=>(match T y with | .sl _ _=>t::fzl T r s | _=>fzl T r s)
 | _::r,_::s=>fzl T r s
 | _,_=>[]
noncomputable def T0 : List (Nat × Ty) := [(2,.int .i64),(3,.int .i64),(5,.int .u8),(9,.str),(22,.sl 5 1),(24,.sl 2 8),(25,.sl 24 24),(27,.st [(0,1,none),(1,1,none),(2,1,none),(3,1,none),(4,1,none)] [(.int .i64 0),.nilsl,.nilsl,.nilsl,.nilsl]),(29,.st [(0,5,(some 5)),(5,1,none),(6,1,none)] [(.int .i64 0),.nilsl,.nilsl,.nilsl,.nilsl,.nilsl,.nilsl]),(32,.sl 25 24),(46,.st [(0,5,(some 5)),(5,1,none),(6,1,none),(7,1,none)] [(.int .i64 0),.nilsl,.nilsl,.nilsl,.nilsl,(.int .i64 0),.nilsl,.nilsl]),(60,.st [(0,7,(some 7)),(7,7,(some 7)),(14,1,none)] [(.int .i64 0),.nilsl,.nilsl,.nilsl,.nilsl,.nilsl,.nilsl,(.int .i64 0),.nilsl,.nilsl,.nilsl,.nilsl,.nilsl,.nilsl,.nilsl]),(82,.ptr),(88,.ptr),(91,.ptr),(117,.sl 118 8),(118,.ptr),(121,.mp 1 2),(122,.sl 2 8),(124,.st [(0,1,none),(1,1,none),(2,1,none)] [.nilsl,(.imap [] []),.nilsl]),(190,.int .u64),(192,.st [(0,1,none),(1,1,none),(2,1,none)] [.nilsl,(.int .i64 0),(.int .u64 0)]),(198,.sl 88 8),(208,.fn),(219,.st [(0,1,none),(1,1,none)] [(.int .i64 0),(.int .i64 0)]),(222,.sl 2 8),(232,.ptr),(244,.st [(0,0,none),(0,1,(some 1)),(1,2,(some 2))] [(.int .u32 0),(.int .i32 0),(.int .u32 0)]),(246,.st [(0,1,none),(1,1,none),(2,3,(some 3)),(5,1,none)] [.nilp,(.int .i64 0),(.int .u32 0),(.int .i32 0),(.int .u32 0),.nilsl]),(288,.st [(0,1,none),(1,1,none),(2,1,none),(3,1,none),(4,1,none)] [.nilp,.nilp,(.bool false),.nilsl,.nilf]),(309,.sl 312 40),(312,.st [(0,1,none),(1,1,none),(2,1,none)] [(.int .i64 0),(.int .i64 0),.nilsl]),(315,.sl 319 16),(319,.st [(0,1,none),(1,1,none)] [(.int .i64 0),(.int .i64 0)]),(320,.mp 0 2)]
structure Cd (f n : Nat) (s : SC) (r : List RV) : Prop where
 go : ∀ {B : Nat} {args : List AV} {H : Heap} {K : Kont} (hk : fines args → awp Go.Proofs.Tryz.prog B s (retQ r K) (envOf 0 args) H) (ha : args.length ≤ n := by simp), CallH Go.Proofs.Tryz.prog B f args H K
theorem cx {f n : Nat} {fn : Func} {c : Code} {s0 s : SC} {r : List RV} (h : List Hn) (p : List (Nat × Nat)) (hf : Go.Proofs.Tryz.prog.funcs[f]? = some fn) (hb : fn.body = some c := by exact rfl) (ht : fn.ntmps = n := by cbv) (e1 : lrs (tyL T0) fn.results.toList = r := by cbv)
 (e0 : lc (tyL T0) h c = s0 := by cbv) (e : anP (rtl fn.results.toList) (fzl (tyL T0) fn.results.toList fn.resultTypes.toList) p s0 = s := by cbv) (hn : (fn.name == "runtime.NumGoroutine") = false := by kernel_rfl)
 (hc : compileC Go.Proofs.Tryz.prog fn.ntmps (h.map Hn.k) c = some s.strip := by kernel_rfl) (hr : compileRs Go.Proofs.Tryz.prog fn.results.toList = some r := by kernel_rfl) : Cd f n s r := ⟨fun hk ha => CallH.of_awp' (hs := h.map Hn.k) hf hb hn hc hr (ht ▸ ha) hk⟩
end Go.AW.Z
namespace Go.Proofs.Shf
open Go.AW Go.Proofs Go.AW.Z
end Go.Proofs.Shf
