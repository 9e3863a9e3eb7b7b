/- Sound steps and walks over abstract values. -/
import Derived.Test.YthflgdphhajkbaaGreatA1
import Derived.Orders
import Derived.Scope
set_option linter.unusedVariables false
set_option linter.unusedSimpArgs false
set_option linter.unusedSectionVars false
namespace Go.AW
open Go.RowKit
section
variable {P : Program} {g : Gh} {B : Nat} {H : AA} {w : World}
def Fits (P : Program) (g : Gh) (B : Nat) (w : World) (K : Ap) : Result Next→Prop
 | .ok (.value v) w'=>Dj g B w K v w'
 | .ok .skip w'=>Dj g B w K undef w'
 | .ok (.enter f args) w'=>w'=w∧Calls P f args w fun e w''=>∃ v,e=.returned v∧Dj g B w K v w''
 | _=>False
theorem Fits.val {K : Ap} {s : Sem Value} (h : ∃ u w',s.run P w=.ok u w'∧Dj g B w K u w') : Fits P g B w K ((do pure (.value (← s)) : Sem Next).run P w):=by
 obtain ⟨u,w',h1,h2⟩:=h;simp only [Sem.run_bind,h1,Result.andThen_ok,Sem.run_pure];exact h2
theorem Fits.unit {K : Ap} {s : Sem Unit} (h : ∃ w',s.run P w=.ok () w'∧Dj g B w K undef w') : Fits P g B w K ((do s; pure .skip : Sem Next).run P w):=by
 obtain ⟨w',h1,h2⟩:=h;simp only [Sem.run_bind,h1,Result.andThen_ok,Sem.run_pure];exact h2
theorem pv {K : Ap} {e : PV} {s : Sem Value} (hW : Ao g B H w) (hk : pW e K H) (h : ∀ p r,e=some (p,r)→p→∃ u,s.run P w=.ok u w∧Ad g r u) :
  ∃ u w',s.run P w=.ok u w'∧Dj g B w K u w':=by
 obtain ⟨p,r,rfl,hp,hk⟩:=DU hk
 obtain ⟨u,h1,h2⟩:=h p r rfl hp;exact ⟨u,w,h1,.same hW h2 hk⟩
theorem Fm.append {as bs : List AV} {vs us : Array Value} (h : Fm g as vs) (k : Fm g bs us) : Fm g (as++bs) (vs++us):=by
 refine ⟨by simp [h.1,k.1],fun i hi=>?_⟩;rw [Bk];simp only [Array.getD_eq_getD_getElem?]
 by_cases Fg : i<as.length
 ·rw [if_pos Fg,Array.getElem?_append_left (by rw [h.1]; exact Fg)]
  simpa [Array.getD_eq_getD_getElem?] using h.2 i Fg
 ·rw [if_neg Fg,Array.getElem?_append_right (by rw [h.1]; omega),h.1]
  have:=k.2 (i - as.length) (by simp at hi; omega)
  simpa [Array.getD_eq_getD_getElem?] using this
theorem Qv {f : FuncId} {as : List AV} {vs : Array Value} {K : Ap} (hW : Ao g B H w) (hv : Fm g as vs) (hk : BG P B f as H K) : Fits P g B w K ((callFunc f vs).run P w):=by
 obtain ⟨⟨fn,h1,h2,h3⟩,hc⟩:=hk
 have : (callFunc f vs).run P w=.ok (.enter f vs) w:=by
  simp only [callFunc,Sem.run_bind,run_program,Result.andThen_ok,h1,h2,h3,Bool.false_eq_true,if_false,Sem.run_pure]
 rw [this];exact ⟨rfl,hc g w vs hW hv⟩
theorem Zc {x : Operand} (h : OJ x=true) (a : Act) : a.eval x=.pointer none:=by
 unfold OJ at h
 split at h
 ·rfl
 ·cases h
theorem Vx {x : Operand} (h : Nj x=true) (a : Act) : a.eval x=.slice none 0 0:=by
 unfold Nj at h
 split at h
 ·rfl
 ·cases h
theorem Xq {op : BinOp} {k : IntKind} {t : TypeId} {x y : Operand} {v1 v2 : AV} {u1 u2 : Value} (r1 : Ad g v1 u1) (r2 : Ad g v2 u2) {p : Prop} {r : AV}
  (he : Hs op k (some v1) (some v2)=some (p,r)) (hp : p) : ∃ u,((do eqGuard op t x y u1 u2; binOp op t u1 u2) : Sem Value).run P w=.ok u w∧Ad g r u:=by
 cases r1 <;> try (simp [Hs] at he; done)
 all_goals (cases r2 <;> try (simp [Hs] at he; done))
 all_goals simp only [Hs] at he
 rotate_left 1
 ·rename_i a b
  have hg : (eqGuard op t x y (.string ⟨a.toArray⟩) (.string ⟨b.toArray⟩)).run P w=.ok () w:=by cases op <;> simp [eqGuard]
  cases op <;> simp only [yE,reduceCtorEq,Option.some.injEq,Prod.mk.injEq] at he
  all_goals obtain ⟨rfl,rfl⟩:=he
  ·refine ⟨_,by simp only [Sem.run_bind,hg,Result.andThen_ok,binOp_string_add]; exact run_string_add_sum w _ _ (by simp only [AK] at hp; simp [ByteArray.size]; omega), ?_⟩;rw [ByteArray.mk_append_mk]; exact .str _
  ·refine ⟨.bool (decide (a=b)), ?_,.bool _⟩
   simp [hg,binOp_string_eql,Bool.beq_eq_decide_eq]
  ·refine ⟨.bool (!decide (a=b)), ?_,.bool _⟩
   simp [hg,binOp_string_neq];rw [Bool.eq_iff_iff]; simp
 split at he
 ·rename_i Qa
  have hg : ∀ (a b : Int) (k k' : IntKind),(eqGuard op t x y (.int k a) (.int k' b)).run P w=.ok () w:=by
   intro a b k k'; cases op <;> simp [eqGuard]
  obtain ⟨rfl,h2⟩:=Qa
  rcases h2 with h2 | h2
  ·subst h2
   obtain ⟨u,q1,q2⟩:=Yz (P:=P) (g:=g) (w:=w) t he hp;exact ⟨u,by simp [hg,q1],q2⟩
  ·cases op <;> simp [aY] at h2
   simp only [Tn,Option.some.injEq,Prod.mk.injEq] at he
   obtain ⟨rfl,rfl⟩:=he;exact ⟨_,by simp only [Sem.run_bind,hg,Result.andThen_ok]; exact lI t hp,.int _ _⟩
 ·cases he
def Js (neg : Bool) : BinOp:=if neg then .neq else .eql
theorem Sn {t : TypeId} (hu : P.underlying t=some .bool) (d : Nat) (b1 b2 : Bool) : (Op.equalIn (d+1) t (.bool b1) (.bool b2)).run P w=.ok (b1 == b2) w:=by
 simp [Op.equalIn,run_underlying hu]
theorem US {t e : TypeId} (hu : P.underlying t=some (.pointer e)) (d : Nat) (p : Option Addr) : (Op.equalIn (d+1) t (.pointer p) (.pointer none)).run P w=.ok p.isNone w:=by
 cases p <;> simp [Op.equalIn,run_underlying hu]
theorem j3 {t e : TypeId} (hu : P.underlying t=some (.slice e)) (d : Nat) (p : Option Addr) (n c : Nat) : (Op.equalIn (d+1) t (.slice p n c) (.slice none 0 0)).run P w=.ok p.isNone w:=by
 cases p <;> simp [Op.equalIn,run_underlying hu]
theorem dM {neg : Bool} {t : TypeId} (hu : P.underlying t=some .bool) {x y : Operand} {v1 v2 : AV} {u1 u2 : Value} (r1 : Ad g v1 u1) (r2 : Ad g v2 u2) {p : Prop} {r : AV}
  (he : jV neg (some v1) (some v2)=some (p,r)) : ∃ u,((do eqGuard (Js neg) t x y u1 u2; binOp (Js neg) t u1 u2) : Sem Value).run P w=.ok u w∧Ad g r u:=by
 cases r1 <;> try (simp [jV] at he; done)
 cases r2 <;> try (simp [jV] at he; done)
 rename_i b1 b2
 simp [jV] at he
 obtain ⟨-,rfl⟩:=he;refine ⟨.bool (neg ^^ (b1 == b2)), ?_,.bool _⟩
 have hq : (Op.equal t (.bool b1) (.bool b2)).run P w=.ok (b1 == b2) w:=Sn hu 9999 b1 b2
 cases neg
 ·simp [Js,eqGuard,binOp,hq]
 ·simp [Js,eqGuard,binOp,hq]
theorem j5 {neg : Bool} {t e : TypeId} (hu : P.underlying t=some (.pointer e)) {x y : Operand} {v1 : AV} {u1 : Value} (r1 : Ad g v1 u1) {p : Prop} {r : AV}
  (he : kO neg (some v1)=some (p,r)) : ∃ u,((do eqGuard (Js neg) t x y u1 (.pointer none); binOp (Js neg) t u1 (.pointer none)) : Sem Value).run P w=.ok u w∧Ad g r u:=by
 have hq : ∀ (p : Option Addr),(Op.equal t (.pointer p) (.pointer none)).run P w=.ok p.isNone w:=US hu 9999
 cases r1 <;> try (simp [kO] at he; done)
 all_goals (simp [kO] at he; obtain ⟨-,rfl⟩:=he)
 all_goals (refine ⟨.bool _, ?_,.bool _⟩)
 all_goals (cases neg <;> simp [Js,eqGuard,binOp,hq])
theorem Wl {neg : Bool} {t : TypeId} {fs : Array Field} (hu : P.underlying t=some (.struct fs)) (h1 : FL P 0 fs.toList=true) (h2 : P.stoodInHeld t=false)
  (h3 : P.eqGuardType P.depth t=false) (h4 : fs.size=2) {x y : Operand} {v1 v2 : AV} {u1 u2 : Value} (r1 : Ad g v1 u1) (r2 : Ad g v2 u2) {p : Prop} {r : AV}
  (he : iJ neg 2 (some v1) (some v2)=some (p,r)) (hp : p) : ∃ u,((do eqGuard (Js neg) t x y u1 u2; binOp (Js neg) t u1 u2) : Sem Value).run P w=.ok u w∧Ad g r u:=by
 cases r1 <;> try (simp [iJ] at he; done)
 cases r2 <;> try (simp [iJ] at he; done)
 rename_i as vs hs NA bs us Hf hus
 simp only [iJ,Option.some.injEq,Prod.mk.injEq] at he
 obtain ⟨rfl,rfl⟩:=he
 obtain ⟨k1,k2,a1,a2,b1,b2,rfl,rfl⟩:=hp
 have e1 : vs=#[.int k1 a1,.int k2 a2]:=by
  have q0:=NA 0 (by simp)
  have q1:=NA 1 (by simp)
  obtain ⟨l⟩:=vs
  match l,hs with
  | [z0,z1],_=>simp at q0 q1; cases q0; cases q1; rfl
 have e2 : us=#[.int k1 b1,.int k2 b2]:=by
  have q0:=hus 0 (by simp)
  have q1:=hus 1 (by simp)
  obtain ⟨l⟩:=us
  match l,Hf with
  | [z0,z1],_=>simp at q0 q1; cases q0; cases q1; rfl
 subst e1 e2
 have hq:=TF (P:=P) (w:=w) hu h1 h2 h4 k1 k2 a1 a2 b1 b2;refine ⟨.bool (neg ^^ (decide (a1=b1) && decide (a2=b2))), ?_,by rw [show yN [.int k1 a1,.int k2 a2] [.int k1 b1,.int k2 b2]=(decide (a1=b1) && decide (a2=b2)) by simp [yN]]; exact .bool _⟩
 cases neg
 ·simp [Js,eqGuard,binOp,hq,h3]
 ·simp [Js,eqGuard,binOp,hq,h3]
inductive OR (g : Gh) : Option (Option AV)→Option Value→Prop
 | no : OR g none none
 | sJ (u : Value) : OR g (some none) (some u)
 | so (a : AV) (u : Value) (h : Ad g a u) : OR g (some (some a)) (some u)
theorem L3 {es : List AV} {a : Option Addr} {n c sz : Nat} (hv : Ad g (.sl es) (.slice a n c)) (hk : Da sz es) {l h : Nat} (h1 : l≤h) (h2 : h≤es.length) :
  Ad g (.sl ((es.take h).drop l)) (sliced a l h c sz):=by
 by_cases hl : l=h
 ·subst hl
  have : (es.take l).drop l=[]:=by simp
  rw [this];simp only [sliced,Nat.sub_self];exact .slnil _ _
 ·cases hv with
  | slnil _ _=>simp at h2; omega
  | sl _ b o sz' cap vs hm QZ CW hf hv =>
   have hz : sz'=sz:=by
    rw [← CW 0 (by omega)]
    have : es.getD 0 nv∈es:=by
     rw [gE,List.getElem?_eq_getElem (by omega)]; exact List.getElem_mem _
    exact (hk _ this).1
   subst hz
   have Bq : ¬ c=l:=by omega
   have hlen : ((es.take h).drop l).length=h - l:=by simp; omega
   have Cn : ∀ i,i<h - l→((es.take h).drop l).getD i nv=es.getD (l+i) nv:=by
    intro i hi;simp only [gE,List.getElem?_drop];rw [List.getElem?_take_of_lt (by omega)]
   have hmul : ∀ i j,(l+i)*sz'+j=l*sz'+(i*sz'+j):=by intro i j; rw [Nat.add_mul]; omega
   simp only [sliced,Bq,if_false,Option.map,Addr.add_lit];rw [← hlen];refine .sl _ b (o+l*sz') sz' (c - l) (fun k=>vs (l*sz'+k)) (by omega) (by omega) (fun i hi=>?_) (fun i j hi hj=>?_) (fun i j hi hj=>?_)
   ·rw [hlen] at hi; rw [Cn i hi]; exact CW _ (by omega)
   ·rw [hlen] at hi
    have:=hf (l+i) j (by omega) hj;rw [hmul] at this;rw [Nat.add_assoc]; exact this
   ·rw [hlen] at hi
    have:=hv (l+i) j (by omega) hj;rw [hmul] at this;rw [Cn i hi]; exact this
theorem Vi {t : TypeId} (h : P.underlying t=some .string) {av : AV} {v : Value} (hv : Ad g av v) {lo hi : Option (Option AV)} {lo' Fg : Option Value} (hl : OR g lo lo') (hh : OR g hi Fg)
  {p : Prop} {r : AV} (he : Ki 0 (some av) lo hi=some (p,r)) (hp : p) : ∃ u,(Instr.sliceAt t v lo' Fg none).run P w=.ok u w∧Ad g r u:=by
 rw [run_sliceAt_string w t _ _ _ _ h];rw [Ki,if_pos rfl] at he
 cases hv <;> cases hl <;> try (simp [bQ] at he; done)
 rename_i b u hb
 cases hb <;> cases hh <;> simp only [bQ,reduceCtorEq,Option.some.injEq,Prod.mk.injEq] at he
 obtain ⟨rfl,rfl⟩:=he
 rename_i l k n
 refine ⟨_,run_slice_string_l w t _ h _ _ hp.1 (by have:=hp.2; simpa [ByteArray.size] using this), ?_⟩
 have : (ByteArray.mk l.toArray).extract n.toNat (ByteArray.mk l.toArray).size=⟨(l.drop n.toNat).toArray⟩:=by
  rw [ByteArray.extract_mk]
  congr 1
  apply Array.ext'
  simp [ByteArray.size];rw [List.take_of_length_le (by simp)]
 rw [this]; exact .str _
theorem Yy {t : TypeId} {x : TypeId × TypeInfo} (h : C5 P t=some x) {av : AV} {v : Value} (hv : Ad g av v) {lo hi : Option (Option AV)} {lo' Fg : Option Value} (hl : OR g lo lo') (hh : OR g hi Fg)
  {p : Prop} {r : AV} (he : Ki x.2.size (some av) lo hi=some (p,r)) (hp : p) : ∃ u,(Instr.sliceAt t v lo' Fg none).run P w=.ok u w∧Ad g r u:=by
 obtain ⟨h1,h2,h3⟩:=Co h;rw [Ki,if_neg h3] at he
 have iV : P.elem t=x.1:=by simp [Program.elem,h1]
 have hu : P.underlying t=some (.slice (P.elem t)):=by rw [iV]; exact h1
 have hs : (sizeOf (P.elem t)).run P w=.ok x.2.size w:=by simp [iV,sizeOf,typeInfo,h2]
 have Gd : ∃ es,av=.sl es:=by
  cases hv <;> cases hl <;> simp [NF] at he
  all_goals first | exact ⟨_,rfl⟩ | skip
 obtain ⟨es,rfl⟩:=Gd
 obtain ⟨a,n,c,rfl,hn,hc⟩ : ∃ a n c,v=.slice a n c∧n=es.length∧n≤c:=by
  cases hv with
  | slnil a c=>exact ⟨_,_,_,rfl,rfl,Nat.zero_le _⟩
  | sl _ b o sz cap vs hm QZ CW hf hv=>exact ⟨_,_,_,rfl,rfl,QZ⟩
 rw [run_sliceAt_slice w t _ _ _ _ hu]
 cases hl with
 | sJ u=>simp [NF] at he
 | no =>
  cases hh with
  | sJ u=>simp [NF,PL] at he
  | no =>
   simp only [NF,PL,Rk,Option.some.injEq,Prod.mk.injEq] at he
   obtain ⟨rfl,rfl⟩:=he;refine ⟨_,by rw [run_slice_all w t a n c hu,hs]; rfl, ?_⟩
   have:=L3 (h:=es.length) (l:=0) hv hp.2 (by omega) (by omega);rw [hn]; simpa using this
  | so b u hb =>
   cases hb <;> simp only [NF,PL,Rk,Option.some.injEq,Prod.mk.injEq,reduceCtorEq] at he
   obtain ⟨rfl,rfl⟩:=he
   rename_i k b
   refine ⟨_,by rw [run_slice_h w t a n c hu k b (by omega) (by omega),hs]; rfl, ?_⟩;exact L3 (h:=b.toNat) (l:=0) hv hp.2 (by omega) (by omega)
 | so b u hb =>
  cases hb <;> simp only [NF,reduceCtorEq] at he
  rename_i k b
  cases hh with
  | sJ u=>simp [PL] at he
  | no =>
   simp only [PL,Rk,Option.some.injEq,Prod.mk.injEq] at he
   obtain ⟨rfl,rfl⟩:=he;refine ⟨_,by rw [run_slice_l w t a n c hu k b (by omega) (by omega),hs]; rfl, ?_⟩
   have:=L3 (h:=es.length) (l:=b.toNat) hv hp.2 (by omega) (by omega);rw [hn]; simpa using this
  | so d u hd =>
   cases hd <;> simp only [PL,Rk,Option.some.injEq,Prod.mk.injEq,reduceCtorEq] at he
   obtain ⟨rfl,rfl⟩:=he
   rename_i k' d
   refine ⟨_,by rw [run_slice_lh w t a n c hu k k' b d (by omega) (by omega) (by omega),hs]; rfl, ?_⟩;exact L3 (h:=d.toNat) (l:=b.toNat) hv hp.2 (by omega) (by omega)
theorem ZE (hW : Ao g B H w) {t : TypeId} {x : TypeId × TypeInfo} (h : C5 P t=some x) {av : AV} {v : Value} (hv : Ad g av v) {lo hi : Option (Option AV)} {lo' Fg : Option Value} (hl : OR g lo lo') (hh : OR g hi Fg)
  {K : Ap} (hk : WS x.2.size (some av) lo hi K H) : ∃ u w',(Instr.sliceAt t v lo' Fg none).run P w=.ok u w'∧Dj g B w K u w':=by
 obtain ⟨h1,h2,h3⟩:=Co h
 have iV : P.elem t=x.1:=by simp [Program.elem,h1]
 have hu : P.underlying t=some (.slice (P.elem t)):=by rw [iV]; exact h1
 have hs : (sizeOf (P.elem t)).run P w=.ok x.2.size w:=by simp [iV,sizeOf,typeInfo,h2]
 obtain ⟨id,n,rfl⟩ : ∃ id n,av=.buf id n:=by
  cases av <;> try exact hk.elim
  exact ⟨_,_,rfl⟩
 simp only [WS] at hk
 cases ho : H.get id with
 | none=>rw [ho] at hk; exact hk.elim
 | some o =>
  rw [ho] at hk
  cases o with
  | map _ _=>exact hk.elim
  | cells sz cs f =>
   obtain ⟨⟨rfl,IK⟩,hk⟩:=hk
   obtain ⟨p,r,he,hp,hk⟩:=DU hk
   cases hv with
   | DX _ _ =>
    exfalso
    cases hl <;> cases hh <;> try (simp [Jr] at he; done)
    all_goals (rename_i a1 u1 jt; cases jt <;> try (simp [Jr] at he; done))
    all_goals (simp only [Jr,Option.some.injEq,Prod.mk.injEq] at he; obtain ⟨rfl,rfl⟩:=he; omega)
   | buf _ _ b cap D4 =>
    obtain ⟨c,el,k1,k2,k3,k4,k5,k6,k7⟩:=hW.obj D4 ho
    have hnc : n≤cap:=Nat.le_of_mul_le_mul_right (by omega : n*x.2.size≤cap*x.2.size) (by omega);rw [run_sliceAt_slice w t _ _ _ _ hu]
    cases hl with
    | sJ u=>simp [Jr] at he
    | no =>
     cases hh with
     | sJ u=>simp [Jr] at he
     | no=>simp [Jr] at he
     | so b' u hb =>
      cases hb <;> try (simp [Jr] at he; done)
      rename_i k b'
      simp only [Jr,Option.some.injEq,Prod.mk.injEq] at he
      obtain ⟨rfl,rfl⟩:=he;refine ⟨_,_,by rw [run_slice_h w t _ n cap hu k b' (by omega) (by omega),hs]; rfl, ?_⟩;refine .same hW ?_ hk
      have Bq : ¬ cap=0:=by omega
      simp only [sliced,Bq,if_false,Option.map,Addr.add_lit,Nat.zero_mul,Nat.sub_zero,Nat.add_zero];exact .buf id _ b cap D4
    | so a u ha =>
     cases ha <;> try (cases hh <;> simp [Jr] at he; done)
     rename_i k a
     cases hh with
     | sJ u=>simp [Jr] at he
     | so _ _ _=>simp [Jr] at he
     | no =>
      simp only [Jr,Option.some.injEq,Prod.mk.injEq] at he
      obtain ⟨rfl,rfl⟩:=he;refine ⟨_,_,by rw [run_slice_l w t _ n cap hu k a (by omega) (by omega),hs]; rfl, ?_⟩;refine .same hW ?_ hk
      have Bq : ¬ cap=a.toNat:=by omega
      simp only [sliced,Bq,if_false,Option.map,Addr.add_lit,Nat.zero_add];exact .sub id _ _ b cap _ D4
theorem JX {σ : Env} {a : Act} (hE : Cc g σ a.tmps) {o : Option Operand} {x : Option X} (h : oF o=some x) : OR g (x.map (val σ)) (o.map a.eval):=by
 cases o with
 | none=>simp [oF] at h; subst h; exact .no
 | some o =>
  simp only [oF] at h
  cases hx : cx o with
  | none=>simp [hx] at h
  | some y =>
   simp [hx] at h; subst h;simp only [Option.map]
   cases hv : val σ y with
   | none=>exact .sJ _
   | some v=>exact .so _ _ (Ar hE hx hv)
set_option maxHeartbeats 1000000 in
theorem U6 {o : Oper} {h : Nat} {i : Ins} (hc : E0 P h o.op=some i) {σ : Env} {a : Act} (hW : Ao g B H w) (hE : Cc g σ a.tmps) {K : Ap} (hk : E1 P B K σ H i) :
  Fits P g B w K ((execOp a.eval o).run P w):=by
 cases ho : o.op <;> simp only [ho,E0] at hc <;> try (cases hc; done)
 all_goals simp only [execOp,ho]
 case move x =>
  cases hx : cx x with
  | none=>simp [hx] at hc
  | some x' =>
   simp [hx] at hc; subst hc
   obtain ⟨p,r,he,hp,hk⟩:=DU hk
   cases hv : val σ x' with
   | none=>simp [Kb,hv,Wm] at he
   | some v =>
    simp [Kb,hv,Wm] at he; obtain ⟨-,rfl⟩:=he;exact .same hW (Ar hE hx hv) hk
 case assign x =>
  cases hx : cx x with
  | none=>simp [hx] at hc
  | some x' =>
   simp [hx] at hc; subst hc
   obtain ⟨p,r,he,hp,hk⟩:=DU hk
   cases hv : val σ x' with
   | none=>simp [Kb,hv,Wm] at he
   | some v =>
    simp [Kb,hv,Wm] at he; obtain ⟨-,rfl⟩:=he;exact .same hW (Ar hE hx hv) hk
 case pick c x y =>
  cases hc1 : cx c <;> cases gK : cx x <;> cases ia : cx y <;> simp [hc1,gK,ia] at hc
  rename_i c' x' y'
  subst hc
  obtain ⟨p,r,he,hp,hk⟩:=DU hk;simp only [Kb] at he
  cases mC : val σ c' with
  | none=>simp [mC,Mk] at he
  | some vc =>
   have hrc:=Ar hE hc1 mC
   generalize a.eval c=uc at hrc ⊢
   cases hrc <;> try (simp [mC,Mk] at he; done)
   rename_i b
   cases b
   ·simp only [mC,Mk] at he
    cases hv : val σ y' with
    | none=>simp [hv,Wm] at he
    | some v =>
     simp [hv,Wm] at he; obtain ⟨-,rfl⟩:=he;simp only [asBool,Sem.run_bind,Sem.run_pure,Result.andThen_ok,Bool.false_eq_true,if_false];exact .same hW (Ar hE ia hv) hk
   ·simp only [mC,Mk] at he
    cases hv : val σ x' with
    | none=>simp [hv,Wm] at he
    | some v =>
     simp [hv,Wm] at he; obtain ⟨-,rfl⟩:=he;simp only [asBool,Sem.run_bind,Sem.run_pure,Result.andThen_ok,if_true];exact .same hW (Ar hE gK hv) hk
 case alloc t =>
  cases hz : C8 P t with
  | none=>simp [hz] at hc
  | some z =>
   simp [hz] at hc; subst hc
   obtain ⟨k1,k2⟩:=hk;exact .val (Tt hW hz k1 k2)
 case box t x =>
  cases h1 : Gq P t <;> cases h2 : P.info? t <;> cases h3 : cx x <;> simp [h1,h2,h3] at hc
  rename_i ao ti x'
  split at hc
  ·cases hc;simp only [E1] at hk
   cases hv : val σ x' with
   | none=>simp [hv,Th] at hk
   | some v=>exact .val (Vb hW hv (Ar hE h3 hv) hk)
  ·cases hc;refine .val ?_
   obtain ⟨p,r,he,hp,hk⟩:=DU hk;simp only [Kb] at he
   cases hv : val σ x' with
   | none=>simp [hv,fF] at he
   | some v =>
    simp only [hv,fF,Option.some.injEq,Prod.mk.injEq] at he
    obtain ⟨rfl,rfl⟩:=he
    obtain ⟨u,w',r1,r2⟩:=W1 (P:=P) hW (t:=t) (Ar hE h3 hv);exact ⟨u,w',r1,r2.mono fun r H' ⟨a,b⟩=>by subst a; subst b; exact hk⟩
 case build t parts =>
  cases h1 : C8 P t <;> cases h2 : fieldsOf P t <;> cases h3 : partsOf P t parts.toList <;> simp only [h1,h2,h3,reduceCtorEq] at hc
  rename_i z fs ps
  split at hc
  ·rename_i Aj
   cases hc;refine .val (pv hW hk fun p r he hp=>?_);exact TW hE h1 h2 h3 (fun f hf=>by rw [Array.all_eq_true_iff_forall_mem] at Aj; exact Aj f hf) he hp
  ·cases hc
 case buildSlice t n parts =>
  cases h1 : C5 P t with
  | none=>simp [h1] at hc
  | some e =>
   obtain ⟨hu,hi,hs⟩:=Co h1;simp only [h1,hu,Option.elim_some] at hc
   cases h2 : Fv 0 parts.toList <;> cases h3 : C8 P e.1 <;> simp [h2,h3] at hc
   rename_i xs z
   obtain ⟨⟨hn,Ww⟩,hc⟩:=hc
   split at hc
   ·rename_i h0
    cases hc;refine .val ?_
    have hk : True∧K .FI H:=hk
    have hk:=hk.2
    obtain ⟨-,rfl⟩:=h0
    obtain ⟨u,w',r1,r2⟩:=Yb (P:=P) hW hE h1 h3 h2 hn;exact ⟨u,w',r1,r2.mono fun r H' ⟨a,b⟩=>by subst a; subst b; exact hk⟩
   split at hc
   ·cases hc;refine .val ?_
    obtain ⟨p,r,he,hp,hk⟩:=DU hk;simp only [Kb] at he
    cases hv : DB σ xs with
    | none=>simp [hv,eB] at he
    | some as =>
     simp only [hv,eB,Option.some.injEq,Prod.mk.injEq] at he
     obtain ⟨rfl,rfl⟩:=he
     obtain ⟨u,w',r1,r2⟩:=Wc (P:=P) hW hE h1 h3 h2 hn Ww hv hp.1 hp.2;exact ⟨u,w',r1,r2.mono fun r H' ⟨a,b⟩=>by subst a; subst b; exact hk⟩
   ·cases hc;exact .val (WH hW hE h1 h3 h2 hn Ww hk)
 case load t x =>
  cases h1 : Gq P t <;> cases h2 : cx x <;> simp [h1,h2] at hc
  rename_i n x'
  split at hc
  ·cases hc;refine .val (pv hW hk fun p r he hp=>?_);simp only [Kb] at he
   cases hv : val σ x' with
   | none=>cases n <;> simp [hv,Zh] at he
   | some v=>rw [hv] at he; exact KH hW h1 (Ar hE h2 hv) he hp
  ·split at hc
   ·cases hc;simp only [E1] at hk
    cases hv : val σ x' with
    | none=>rw [hv] at hk; exact hk.elim
    | some v =>
     have hr:=Ar hE h2 hv;rw [hv] at hk
     cases v <;> try exact hk.elim
     obtain ⟨u,r1,r2⟩:=OQ (P:=P) hW h1 hr hk.2;exact .val ⟨u,w,r1,r2⟩
   cases hc;simp only [E1] at hk
   cases hv : val σ x' with
   | none=>cases n <;> simp [hv,VV,Zh,pW] at hk
   | some v =>
    have hr:=Ar hE h2 hv;rw [hv] at hk
    by_cases gS : ∃ id off,v=.ref id off
    ·obtain ⟨id,off,rfl⟩:=gS;simp only [VV] at hk
     obtain ⟨u,r1,r2⟩:=OQ (P:=P) hW h1 hr hk;exact .val ⟨u,w,r1,r2⟩
    ·have JP : pW (Zh n (some v)) K H:=by
      unfold VV at hk
      split at hk
      ·rename_i id off heq; cases heq; exact absurd ⟨_,_,rfl⟩ gS
      ·exact hk
     exact .val (pv hW JP fun p r he hp=>KH hW h1 hr he hp)
 case store t p v =>
  cases h1 : P.info? t <;> cases h2 : cx p <;> cases h3 : cx v <;> simp [h1,h2,h3] at hc
  rename_i ti p' v'
  subst hc;simp only [E1] at hk
  cases CJ : val σ p' with
  | none=>simp [CJ,qL] at hk
  | some pv' =>
   cases FX : val σ v' with
   | none=>cases pv' <;> simp [CJ,FX,qL] at hk
   | some vv =>
    rw [CJ,FX] at hk
    cases pv' <;> try (simp [qL] at hk; done)
    simp only [qL] at hk
    obtain ⟨w',r1,r2⟩:=ZY (P:=P) hW h1 (Ar hE h2 CJ) (Ar hE h3 FX) hk;exact .unit ⟨w',r1,r2⟩
 case nilCheck x =>
  cases hx : cx x with
  | none=>simp [hx] at hc
  | some x' =>
   simp [hx] at hc; subst hc
   obtain ⟨p,r,he,hp,hk⟩:=DU hk;simp only [Kb] at he
   cases hv : val σ x' with
   | none=>simp [hv,Wo] at he
   | some v =>
    have hr:=Ar hE hx hv
    generalize a.eval x=ux at hr ⊢
    cases hr <;> simp [hv,Wo] at he
    ·obtain ⟨-,rfl⟩:=he
     rename_i cs b o vs hf T8
     exact .same hW (.ptr cs b o vs hf T8) hk
    ·obtain ⟨-,rfl⟩:=he
     rename_i id off b cap D4
     exact .same hW (.ref id off b cap D4) hk
    ·obtain ⟨-,rfl⟩:=he
     rename_i cs id b cap vs D4 hf T8
     exact .same hW (.GY cs id b cap vs D4 hf T8) hk
 case binOp op t x y yt =>
  cases hu : P.underlying t with
  | none=>simp [hu] at hc
  | some d =>
   cases d <;> simp only [hu,reduceCtorEq] at hc
   case int k =>
    cases h1 : cx x <;> cases h2 : cx y <;> simp [h1,h2] at hc
    rename_i x' y'
    obtain ⟨hgood,rfl⟩:=hc;refine .val (pv hW hk fun p r he hp=>?_);simp only [Kb] at he
    cases CJ : val σ x' with
    | none=>simp [CJ,Hs] at he
    | some v1 =>
     cases FX : val σ y' with
     | none=>cases v1 <;> simp [CJ,FX,Hs] at he
     | some v2 =>
      rw [CJ,FX] at he;exact Xq (Ar hE h1 CJ) (Ar hE h2 FX) he hp
   case string =>
    cases h1 : cx x <;> cases h2 : cx y <;> simp [h1,h2] at hc
    rename_i x' y'
    subst hc;refine .val (pv hW hk fun p r he hp=>?_);simp only [Kb] at he
    cases CJ : val σ x' with
    | none=>simp [CJ,Hs] at he
    | some v1 =>
     cases FX : val σ y' with
     | none=>cases v1 <;> simp [CJ,FX,Hs] at he
     | some v2 =>
      rw [CJ,FX] at he;exact Xq (Ar hE h1 CJ) (Ar hE h2 FX) he hp
   case bool =>
    have key : ∀ (neg : Bool) x' y',cx x=some x'→cx y=some y'→i=.bq neg x' y'→op=Js neg →
      Fits P g B w K ((do pure (.value (← (do eqGuard op t x y (a.eval x) (a.eval y); binOp op t (a.eval x) (a.eval y) : Sem Value))) : Sem Next).run P w):=by
     intro neg x' y' h1 h2 hi Km;subst hi;refine .val (pv hW hk fun p r he hp=>?_);simp only [Kb] at he
     cases CJ : val σ x' with
     | none=>simp [CJ,jV] at he
     | some v1 =>
      cases FX : val σ y' with
      | none=>cases v1 <;> simp [CJ,FX,jV] at he
      | some v2 =>
       rw [CJ,FX] at he;subst Km;exact dM hu (Ar hE h1 CJ) (Ar hE h2 FX) he
    cases h1 : cx x <;> cases h2 : cx y <;> cases op <;> simp only [h1,h2,reduceCtorEq,Option.some.injEq] at hc
    ·exact key false _ _ h1 h2 hc.symm rfl
    ·exact key true _ _ h1 h2 hc.symm rfl
   case pointer e =>
    have key : ∀ (neg : Bool) x',cx x=some x'→OJ y=true→i=.nq neg x'→op=Js neg →
      Fits P g B w K ((do pure (.value (← (do eqGuard op t x y (a.eval x) (a.eval y); binOp op t (a.eval x) (a.eval y) : Sem Value))) : Sem Next).run P w):=by
     intro neg x' h1 h2 hi Km;subst hi
     have hy:=Zc h2 a;refine .val (pv hW hk fun p r he hp=>?_);simp only [Kb] at he
     cases CJ : val σ x' with
     | none=>simp [CJ,kO] at he
     | some v1 =>
      rw [CJ] at he;subst Km;rw [hy];exact j5 hu (Ar hE h1 CJ) he
    cases h1 : cx x <;> cases h2 : OJ y <;> cases op <;> simp only [h1,h2,reduceCtorEq,Option.some.injEq] at hc
    ·exact key false _ h1 h2 hc.symm rfl
    ·exact key true _ h1 h2 hc.symm rfl
   case slice e =>
    have key : ∀ (neg : Bool) x',cx x=some x'→Nj y=true→i=.jE neg x'→op=Js neg →
      Fits P g B w K ((do pure (.value (← (do eqGuard op t x y (a.eval x) (a.eval y); binOp op t (a.eval x) (a.eval y) : Sem Value))) : Sem Next).run P w):=by
     intro neg x' h1 h2 hi Km;subst hi
     have hy:=Vx h2 a;simp only [E1] at hk
     have hq : ∀ (p : Option Addr) (n c : Nat),(Op.equal t (.slice p n c) (.slice none 0 0)).run P w=.ok p.isNone w:=j3 hu 9999
     have Io : ∀ (p : Option Addr) (n c : Nat),a.eval x=.slice p n c→((do eqGuard op t x y (a.eval x) (a.eval y); binOp op t (a.eval x) (a.eval y) : Sem Value)).run P w=.ok (.bool (neg ^^ p.isNone)) w:=by
      intro p n c e;subst Km;rw [e,hy]
      cases neg <;> simp [Js,eqGuard,binOp,hq]
     have fin : ∀ (p : Option Addr) (n c : Nat),a.eval x=.slice p n c→K (.bool (neg ^^ p.isNone)) H →
       Fits P g B w K ((do pure (.value (← (do eqGuard op t x y (a.eval x) (a.eval y); binOp op t (a.eval x) (a.eval y) : Sem Value))) : Sem Next).run P w):=by
      intro p n c e Qa;exact .val ⟨_,w,Io p n c e,g,_,H,.refl g,Qa,.bool _,hW,.refl B w⟩
     cases hv : val σ x' with
     | none=>simp [hv,Vz] at hk
     | some v =>
      have hr:=Ar hE h1 hv;rw [hv] at hk
      have all : ∀ ux,a.eval x=ux→Ad g v ux→Fits P g B w K ((do pure (.value (← (do eqGuard op t x y (a.eval x) (a.eval y); binOp op t (a.eval x) (a.eval y) : Sem Value))) : Sem Next).run P w):=by
       intro ux tu hr
       cases hr <;> try (simp [Vz] at hk; done)
       ·exact fin _ _ _ tu (by simpa [Vz] using hk)
       ·exact fin _ _ _ tu ((hk : (([] : List AV)=[]→∀ b,K (.bool b) H)∧(([] : List AV)≠[]→K (.bool neg) H)).1 rfl _)
       ·refine fin _ _ _ tu ?_
        rename_i es b o sz cap vs hm _ CW hf T8
        have JP : (es=[]→∀ b,K (.bool b) H)∧(es≠[]→K (.bool neg) H):=hk
        by_cases he : es=[]
        ·exact JP.1 he _
        ·simpa using JP.2 he
      exact all _ rfl hr
    cases h1 : cx x <;> cases h2 : Nj y <;> cases op <;> simp only [h1,h2,reduceCtorEq,Option.some.injEq] at hc
    ·exact key false _ h1 h2 hc.symm rfl
    ·exact key true _ h1 h2 hc.symm rfl
   case struct fs =>
    have key : ∀ (neg : Bool) x' y',cx x=some x'→cx y=some y'→i=.aq neg fs.size x' y'→op=Js neg →
      (FL P 0 fs.toList && !P.stoodInHeld t && !P.eqGuardType P.depth t && fs.size == 2)=true →
      Fits P g B w K ((do pure (.value (← (do eqGuard op t x y (a.eval x) (a.eval y); binOp op t (a.eval x) (a.eval y) : Sem Value))) : Sem Next).run P w):=by
     intro neg x' y' h1 h2 hi Km Aj;subst hi;simp only [Bool.and_eq_true,Bool.not_eq_true',beq_iff_eq] at Aj
     obtain ⟨⟨⟨a1,a2⟩,a3⟩,a4⟩:=Aj;refine .val (pv hW hk fun p r he hp=>?_);simp only [Kb] at he
     cases CJ : val σ x' with
     | none=>simp [CJ,iJ] at he
     | some v1 =>
      cases FX : val σ y' with
      | none=>cases v1 <;> simp [CJ,FX,iJ] at he
      | some v2 =>
       rw [CJ,FX,a4] at he;subst Km;exact Wl hu a1 a2 a3 a4 (Ar hE h1 CJ) (Ar hE h2 FX) he hp
    cases h1 : cx x <;> cases h2 : cx y <;> cases op <;> simp only [h1,h2,reduceCtorEq,Option.some.injEq] at hc
    ·split at hc
     ·rename_i Aj; cases hc; exact key false _ _ h1 h2 rfl rfl Aj
     ·cases hc
    ·split at hc
     ·rename_i Aj; cases hc; exact key true _ _ h1 h2 rfl rfl Aj
     ·cases hc
 case unOp op t x =>
  cases op <;> simp only [reduceCtorEq] at hc
  cases hx : cx x with
  | none=>simp [hx] at hc
  | some x' =>
   simp [hx] at hc; subst hc;refine .val (pv hW hk fun p r he hp=>?_);simp only [Kb] at he
   cases hv : val σ x' with
   | none=>simp [hv,tX] at he
   | some v =>
    have hr:=Ar hE hx hv;rw [hv] at he
    generalize a.eval x=ux at hr ⊢
    cases hr <;> try (simp [tX] at he; done)
    simp [tX] at he; obtain ⟨-,rfl⟩:=he;exact ⟨_,by simp [Op.unary],.bool _⟩
 case convert s d x =>
  cases hs : P.underlying s <;> cases hd : P.underlying d <;> simp only [hs,hd,reduceCtorEq] at hc
  rename_i ds dd
  split at hc
  ·rename_i ks kd qT sB
   cases qT; cases sB
   cases hx : cx x with
   | none=>simp [hx] at hc
   | some x' =>
    simp [hx] at hc; subst hc;refine .val (pv hW hk fun p r he hp=>?_);simp only [Kb] at he
    cases hv : val σ x' with
    | none=>simp [hv,R6] at he
    | some v =>
     have hr:=Ar hE hx hv;rw [hv] at he
     generalize a.eval x=ux at hr ⊢
     cases hr <;> try (simp [R6] at he; done)
     simp [R6] at he; obtain ⟨-,rfl⟩:=he;exact ⟨_,by simp [convert,run_underlying hs,run_underlying hd,Conv.intToInt],.int _ _⟩
  ·rename_i e qT sB
   cases qT; cases sB
   split at hc
   ·rename_i hint
    have hu8 : P.underlying e=some (.int .u8):=by
     unfold aZ at hint
     split at hint
     ·rename_i hk8; cases hint; exact hk8
     ·cases hint
    cases hx : cx x with
    | none=>simp [hx] at hc
    | some x' =>
     simp [hx] at hc; subst hc;refine .val (pv hW hk fun p r he hp=>?_);simp only [Kb] at he
     cases hv : val σ x' with
     | none=>simp [hv,RU] at he
     | some v =>
      have hr:=Ar hE hx hv;rw [hv] at he
      obtain ⟨u,q1,q2⟩:=TY (P:=P) hW hr he hp;refine ⟨u, ?_,q2⟩
      generalize a.eval x=ux at hr q1 ⊢
      cases hr <;> simp [RU] at he
      all_goals simp [convert,run_underlying hs,run_underlying hd,run_underlying hu8,q1]
   ·cases hc
  ·cases hc
 case makeInterface t x =>
  cases hu : P.underlying t with
  | none=>simp [hu] at hc
  | some d =>
   have qS : ∀ ms,d≠.interface ms:=by rintro ms rfl; simp [hu] at hc
   have iW : (cx x).map (Ins.nS t)=some i:=by
    rw [hu] at hc
    cases d <;> first | exact hc | exact absurd rfl (qS _)
   cases hx : cx x with
   | none=>simp [hx] at iW
   | some x' =>
    simp [hx] at iW; subst iW;refine .val (pv hW hk fun p r he hp=>?_);simp only [Kb] at he
    cases hv : val σ x' with
    | none=>simp [hv,eZ] at he
    | some v =>
     simp [hv,eZ] at he; obtain ⟨-,rfl⟩:=he;refine ⟨.iface t (a.eval x), ?_,.RM t v _ (Ar hE hx hv)⟩;simp only [Instr.makeInterface,Sem.run_bind,run_underlying hu,Result.andThen_ok]
     cases d <;> first | rfl | exact absurd rfl (qS _)
 case typeAssert x xT asserted ok =>
  cases ok <;> simp only [reduceCtorEq] at hc
  cases hx : cx x with
  | none=>simp [hx] at hc
  | some x' =>
   simp [hx] at hc; subst hc;simp only [E1] at hk
   cases hv : val σ x' with
   | none=>simp [hv,Z5] at hk
   | some v =>
    have hr:=Ar hE hx hv;rw [hv] at hk
    generalize tu : a.eval x=ux at hr
    cases hr <;> try (simp [Z5] at hk; done)
    rename_i t v u h
    simp only [Z5] at hk;refine .val ⟨_,w,hk.1 u xT w,g,_,H,.refl g,hk.2,.CK _ _ rfl fun i hi=>?_,hW,.refl B w⟩;simp only [List.length_cons,List.length_nil] at hi
    obtain rfl | rfl : i=0∨i=1:=by omega
    ·exact .RM t v u h
    ·exact .bool _
 case makeFunc f first ca =>
  split at hc
  ·rename_i hf
   have gT : first=#[]:=Array.eq_empty_of_size_eq_zero hf;subst gT
   cases hx : cF ca.toList with
   | none=>simp [hx] at hc
   | some xs =>
    simp [hx] at hc; subst hc;refine .val (pv hW hk fun p r he hp=>?_);simp only [Kb] at he
    cases hv : DB σ xs with
    | none=>simp [hv,fG] at he
    | some vs =>
     simp [hv,fG] at he; obtain ⟨-,rfl⟩:=he
     obtain ⟨q1,q2⟩:=Jg hE hx hv;refine ⟨.func f #[] (ca.map a.eval),by simp [Instr.makeFunc],.fn f vs _ ?_ ?_⟩
     ·simpa using q1
     ·intro j hj
      have:=q2 j hj;rw [show (List.map a.eval ca.toList).toArray=ca.map a.eval by apply Array.ext'; simp] at this;exact this
  ·cases hc
 case makeMap t r =>
  cases hu : P.underlying t with
  | none=>simp [hu] at hc
  | some d =>
   cases d <;> simp only [hu,reduceCtorEq] at hc
   cases r with
   | some x=>simp at hc
   | none =>
    simp at hc; subst hc
    obtain ⟨j,h1,h2⟩:=hW.fresh
    obtain ⟨k1,k2⟩:=hW.ZP j h1 0;exact .val ⟨.map (some w.heap.size),w.alloc (.map #[] 0),by simp [Instr.makeMap],_,_,_,k1,hk j h2,.GX j _ (Gh.EH _ _ _),k2,(Below.refl B w).alloc hW.base _⟩
 case makeSlice t l c =>
  cases h1 : C5 P t with
  | none=>simp [h1] at hc
  | some e =>
   obtain ⟨hu,hi,hs⟩:=Co h1;simp only [h1,hu,Option.elim_some] at hc
   cases h2 : cx l <;> cases h3 : cx c <;> cases h4 : C8 P e.1 <;> simp [h2,h3,h4] at hc
   rename_i l' c' z
   obtain ⟨hb,rfl⟩:=hc;simp only [E1] at hk
   cases CJ : val σ l' with
   | none=>simp [CJ,S9] at hk
   | some v1 =>
    cases FX : val σ c' with
    | none=>cases v1 <;> simp [CJ,FX,S9] at hk
    | some v2=>exact .val (Zi (P:=P) hW h1 h4 hb CJ FX (Ar hE h2 CJ) (Ar hE h3 FX) hk)
 case fieldAddr t x f =>
  cases h1 : Fy P t f <;> cases h2 : cx x <;> simp [h1,h2] at hc
  rename_i q x'
  obtain ⟨off,n,ao⟩:=q;subst hc;refine .val (pv hW hk fun p r he hp=>?_);simp only [Kb] at he
  cases hv : val σ x' with
  | none=>simp [hv,Tg] at he
  | some v=>rw [hv] at he; exact QP h1 (Ar hE h2 hv) he hp
 case field t x f =>
  cases h1 : Fy P t f <;> cases h2 : cx x <;> simp [h1,h2] at hc
  rename_i q x'
  obtain ⟨off,n,ao⟩:=q;subst hc
  obtain ⟨fs,fl,j,g1,g2,g3,g4,g5,g6,g7⟩:=IB h1;refine .val (pv hW hk fun p r he hp=>?_);simp only [Kb] at he
  cases hv : val σ x' with
  | none=>cases ao <;> simp [hv,Ug] at he
  | some v =>
   have hr:=Ar hE h2 hv;rw [hv] at he
   generalize a.eval x=ux at hr ⊢
   cases hr <;> try (cases ao <;> simp [Ug] at he; done)
   rename_i cs vs hs NA
   cases ao with
   | none =>
    simp only [Ug,Option.some.injEq,Prod.mk.injEq] at he
    obtain ⟨rfl,rfl⟩:=he
    have D3 : off<vs.size:=by omega
    exact ⟨vs.getD off undef,by simp [Instr.field,run_underlying g1,g2,asAgg,part,Ft g7,g6,D3,Array.getD],NA _ hp⟩
   | some m =>
    simp only [Ug,Option.some.injEq,Prod.mk.injEq] at he
    obtain ⟨rfl,rfl⟩:=he
    obtain ⟨b1,ti,b2,b3⟩:=JR (w:=w) g7;refine ⟨.agg (vs.extract off (off+m)),by simp [Instr.field,run_underlying g1,g2,asAgg,part,b1,g6,sizeOf,typeInfo,b2,b3],.agg _ _ ?_ ?_⟩
    ·simp; omega
    ·intro k JP
     have IM : k<m:=by simp at JP; omega
     have e1 : ((cs.drop off).take m).getD k nv=cs.getD (off+k) nv:=by simp [gE,IM]
     have e2 : (vs.extract off (off+m)).getD k undef=vs.getD (off+k) undef:=by
      simp only [Array.getD_eq_getD_getElem?,Array.getElem?_extract];rw [if_pos (by omega)]
     rw [e1,e2]; exact NA _ (by omega)
 case slice t x lo hi mx =>
  cases mx <;> simp only [reduceCtorEq] at hc
  cases h1 : C5 P t <;> cases h2 : cx x <;> cases h3 : oF lo <;> cases h4 : oF hi <;> simp [h1,h2,h3,h4] at hc
  ·rename_i x' lo' Fg
   cases hu : P.underlying t <;> simp [hu] at hc
   rename_i q
   cases q <;> simp at hc
   subst hc;refine .val (pv hW hk fun p r he hp=>?_);simp only [Kb] at he
   cases hv : val σ x' with
   | none=>simp [hv,Ki,NF,bQ] at he
   | some v=>rw [hv] at he; exact Vi hu (Ar hE h2 hv) (JX hE h3) (JX hE h4) he hp
  rename_i q x' lo' Fg
  obtain ⟨e,ti⟩:=q
  split at hc
  ·cases hc;simp only [E1] at hk
   cases hv : val σ x' with
   | none=>rw [hv] at hk; exact hk.elim
   | some v=>rw [hv] at hk; exact .val (ZE hW h1 (Ar hE h2 hv) (JX hE h3) (JX hE h4) hk)
  cases hc;refine .val (pv hW hk fun p r he hp=>?_);simp only [Kb] at he
  cases hv : val σ x' with
  | none=>simp [hv,Ki,NF,bQ] at he
  | some v=>rw [hv] at he; exact Yy h1 (Ar hE h2 hv) (JX hE h3) (JX hE h4) he hp
 case indexAddr t x ix =>
  cases h1 : C5 P t <;> cases h2 : cx x <;> cases h3 : cx ix <;> simp [h1,h2,h3] at hc
  rename_i q x' i'
  obtain ⟨e,ti⟩:=q;subst hc;refine .val (pv hW hk fun p r he hp=>?_);simp only [Kb] at he
  cases hv : val σ x' with
  | none=>simp [hv,Hl] at he
  | some v =>
   cases FX : val σ i' with
   | none=>cases v <;> simp [hv,FX,Hl] at he
   | some v2=>rw [hv,FX] at he; exact QQ h1 (Ar hE h2 hv) (Ar hE h3 FX) he hp
 case lookup t m k ok =>
  cases hu : P.underlying t with
  | none=>simp [hu] at hc
  | some d =>
   cases d <;> simp only [hu,reduceCtorEq] at hc
   rename_i kt et
   cases h1 : cx m <;> cases h2 : cx k <;> simp only [h1,h2,reduceCtorEq] at hc
   rename_i m' k'
   have key : ∀ (s : Nat) (z : AV),Nz P s kt→zeroOf P et=some z→i=.aS s ok z m' k' →
     Fits P g B w K ((do pure (.value (← Instr.lookup t (a.eval m) (a.eval k) ok)) : Sem Next).run P w):=by
    intro s z hd hz hi;subst hi;simp only [E1] at hk
    cases CJ : val σ m' with
    | none=>simp [CJ,Z0] at hk
    | some v1 =>
     cases FX : val σ k' with
     | none=>cases v1 <;> simp [CJ,FX,Z0] at hk
     | some v2 =>
      obtain ⟨u,q1,q2⟩:=Rz (P:=P) hW hu hd hz CJ FX (Ar hE h1 CJ) (Ar hE h2 FX) ok hk;exact .val ⟨u,w,q1,q2⟩
   cases aT : P.underlying kt with
   | none=>simp [aT] at hc
   | some dk =>
    cases hz : zeroOf P et with
    | none=>cases dk <;> simp [aT,hz] at hc
    | some z =>
     cases dk <;> simp only [aT,hz,reduceCtorEq,Option.some.injEq] at hc
     ·exact key 0 z ⟨_,aT,.inl rfl⟩ hz hc.symm
     ·exact key 1 z ⟨_,aT,.inl rfl⟩ hz hc.symm
     ·split at hc
      ·exact key 2 z ⟨_,aT,.inr ⟨rfl,_,rfl,‹_›⟩⟩ hz (by simpa using hc.symm)
      ·cases hc
 case mapUpdate t m k x =>
  cases hu : P.underlying t with
  | none=>simp [hu] at hc
  | some d =>
   cases d <;> simp only [hu,reduceCtorEq] at hc
   rename_i kt et
   cases h1 : cx m <;> cases h2 : cx k <;> cases h3 : cx x <;> simp only [h1,h2,h3,reduceCtorEq] at hc
   rename_i m' k' x'
   have key : ∀ (s : Nat),Nz P s kt→i=.hZ s m' k' x' →
     Fits P g B w K ((do Instr.mapUpdate t (a.eval m) (a.eval k) (a.eval x); pure .skip : Sem Next).run P w):=by
    intro s hd hi;subst hi;simp only [E1] at hk
    cases CJ : val σ m' with
    | none=>simp [CJ,j6] at hk
    | some v1 =>
     cases FX : val σ k' with
     | none=>cases v1 <;> simp [CJ,FX,j6] at hk
     | some v2 =>
      cases iq : val σ x' with
      | none=>cases v1 <;> simp [CJ,FX,iq,j6] at hk
      | some v3=>exact .unit (SA (P:=P) hW hu hd CJ FX iq (Ar hE h1 CJ) (Ar hE h2 FX) (Ar hE h3 iq) hk)
   cases aT : P.underlying kt with
   | none=>simp [aT] at hc
   | some dk =>
    cases dk <;> simp only [aT,reduceCtorEq,Option.some.injEq] at hc
    ·exact key 0 ⟨_,aT,.inl rfl⟩ hc.symm
    ·exact key 1 ⟨_,aT,.inl rfl⟩ hc.symm
    ·split at hc
     ·exact key 2 ⟨_,aT,.inr ⟨rfl,_,rfl,‹_›⟩⟩ (by simpa using hc.symm)
     ·cases hc
 case extract x ix =>
  cases hx : cx x with
  | none=>simp [hx] at hc
  | some x' =>
   simp [hx] at hc; subst hc;refine .val (pv hW hk fun p r he hp=>?_);simp only [Kb] at he
   cases hv : val σ x' with
   | none=>simp [hv,Yj] at he
   | some v =>
    have hr:=Ar hE hx hv;rw [hv] at he
    generalize a.eval x=ux at hr ⊢
    cases hr <;> try (simp [Yj] at he; done)
    rename_i cs vs hs NA
    simp only [Yj,Option.some.injEq,Prod.mk.injEq] at he
    obtain ⟨rfl,rfl⟩:=he
    have D3 : ix<vs.size:=by omega
    exact ⟨vs.getD ix undef,by simp [Instr.extract,D3,Array.getD],NA _ hp⟩
 case call c =>
  obtain ⟨callee,args,argTypes⟩:=c
  have V2 : (args.toList.map a.eval).toArray=args.map a.eval:=by apply Array.ext'; simp
  cases callee with
  | value f =>
   simp only at hc
   cases h1 : cx f <;> cases h2 : cF args.toList <;> simp [h1,h2] at hc
   rename_i f' xs
   have Qe : ∀ (fid : FuncId) (ca : List AV) (as : List AV) (K' : Ap),val σ f'=some (.fn (.func fid) ca)→DB σ xs=some as→BG P B fid (as++ca) H K' →
     Fits P g B w K' ((do let d ← resolve a.eval { callee:=.value f,args:=args,argTypes:=argTypes } o.type; Go.invoke d.target d.args : Sem Next).run P w):=by
    intro fid ca as K' hvf rH Fq
    have gS:=Ar hE h1 hvf
    have jJ:=Jg hE h2 rH;rw [V2] at jJ
    obtain ⟨cv,T1,Sw⟩ : ∃ cv,a.eval f=.func (.func fid) #[] cv∧Fm g ca cv:=by
     generalize a.eval f=uf at gS
     cases gS
     rename_i cv IK Im
     exact ⟨cv,rfl,IK,Im⟩
    have:=Qv hW (jJ.append Sw) Fq;simp only [resolve,T1,Deferred.ofValue,Sem.run_bind,Sem.run_pure,Result.andThen_ok,Go.invoke,Array.empty_append];exact this
   have Uy : ∀ (ov : Option AV) (oas : Option (List AV)) (K' : Ap),Kx P B ov oas K' H→∃ fid ca as,ov=some (.fn (.func fid) ca)∧oas=some as∧BG P B fid (as++ca) H K':=by
    intro ov oas K' hh;unfold Kx at hh
    split at hh
    ·exact ⟨_,_,_,rfl,rfl,hh⟩
    ·exact hh.elim
   split at hc
   ·cases hc;simp only [E1] at hk
    obtain ⟨r,hr,hk⟩:=hk;unfold Se at hr
    split at hr
    ·rename_i fid ca as CJ FX
     refine Qe fid ca as K ?_ ?_ ?_
     ·assumption
     ·assumption
     ·exact hr.use hk
    ·exact hr.elim
   ·split at hc
    ·cases hc;simp only [E1] at hk
     obtain ⟨fid,ca,as,e1,e2,Fq⟩:=Uy _ _ _ hk;exact Qe fid ca as K e1 e2 (Fq.mono fun _ _ h=>h.2)
    ·split at hc
     ·cases hc;simp only [E1] at hk
      obtain ⟨fid,ca,as,e1,e2,Fq⟩:=Uy _ _ _ hk;exact Qe fid ca as K e1 e2 (Fq.mono fun _ _ h=>h.2)
     cases hc;simp only [E1] at hk
     obtain ⟨fid,ca,as,e1,e2,Fq⟩:=Uy _ _ _ hk;exact Qe fid ca as K e1 e2 Fq
  | invoke x name =>
   simp only at hc
   cases h1 : cx x <;> cases h2 : cF args.toList <;> simp [h1,h2] at hc
   rename_i x' xs
   subst hc;simp only [E1] at hk;unfold kF at hk
   split at hk
   ·rename_i t v as CJ FX
    obtain ⟨fid,hm,Fq⟩:=hk
    have gS:=Ar hE h1 CJ
    have jJ:=Jg hE h2 FX;rw [V2] at jJ
    obtain ⟨wv,T1,hwv⟩ : ∃ wv,a.eval x=.iface t wv∧Ad g v wv:=by
     generalize a.eval x=ux at gS
     cases gS;exact ⟨_,rfl,by assumption⟩
    have Il : Fm g [v] #[wv]:=⟨rfl,fun i hi=>by
     have : i=0:=by simp at hi; omega
     subst this; exact hwv⟩
    have:=Qv hW (Il.append jJ) Fq
    have hex : (#[Value.iface t wv]++args.map a.eval).extract 1 (#[Value.iface t wv]++args.map a.eval).size=args.map a.eval:=by
     apply Array.ext'; simp [List.take_of_length_le]
    have h0 : (#[Value.iface t wv]++args.map a.eval)[0]? = some (Value.iface t wv):=by rw [Array.getElem?_append_left (by simp)]; rfl
    simp only [resolve,T1,Sem.run_bind,Sem.run_pure,Result.andThen_ok,Go.invoke,h0,hex,callMethod,run_program,hm wv w];exact this
   ·exact hk.elim
  | builtin b =>
   cases b <;> simp only [reduceCtorEq] at hc
   case len =>
    split at hc
    ·rename_i x t ha II
     have Md : args=#[x]:=by apply Array.ext'; simpa using ha
     have QV : argTypes=#[t]:=by apply Array.ext'; simpa using II
     subst Md QV
     cases hu : P.underlying t with
     | none=>simp [hu] at hc
     | some d =>
      cases d <;> simp only [hu,reduceCtorEq] at hc
      case string =>
       cases hx : cx x with
       | none=>simp [hx] at hc
       | some x' =>
        simp [hx] at hc; subst hc
        obtain ⟨p,r,he,hp,hk⟩:=DU hk;simp only [Kb] at he
        cases hv : val σ x' with
        | none=>simp [hv,UC] at he
        | some v =>
         have hr:=Ar hE hx hv;rw [hv] at he
         cases v <;> simp only [UC,reduceCtorEq,Option.some.injEq,Prod.mk.injEq] at he
         rename_i l
         obtain ⟨-,rfl⟩:=he
         have T1 : a.eval x=.string ⟨l.toArray⟩:=by
          generalize a.eval x=ux at hr
          cases hr; rfl
         have Io : ((do let d ← resolve a.eval { callee:=.builtin .len,args:=#[x],argTypes:=#[t] } o.type; Go.invoke d.target d.args : Sem Next)).run P w =
           .ok (.value (.int .i64 l.length)) w:=by
          have CW : (⟨l.toArray⟩ : ByteArray).size=l.length:=by show l.toArray.size=_; simp
          simp [resolve,Go.invoke,builtin,Builtin.len_,run_underlying hu,T1,goInt,CW]
         rw [Io];exact .same hW (.int _ _) hk
      case map kt et =>
       cases hx : cx x with
       | none=>simp [hx] at hc
       | some x' =>
        simp [hx] at hc; subst hc;simp only [E1] at hk
        cases hv : val σ x' with
        | none=>rw [hv] at hk; exact hk.elim
        | some v =>
         have hr:=Ar hE hx hv;rw [hv] at hk
         cases v <;> try exact hk.elim
         rename_i id
         simp only [tE] at hk
         cases ho : H.get id with
         | none=>rw [ho] at hk; exact hk.elim
         | some ob =>
          rw [ho] at hk
          cases ob with
          | cells _ _ _=>exact hk.elim
          | map ks vs =>
           obtain ⟨pl,hp,Fh⟩:=hW.ob _ _ ho
           obtain ⟨b,T1,hb⟩ : ∃ b,a.eval x=.map (some b)∧g.io id=some (.mp b):=by
            generalize a.eval x=ux at hr
            cases hr; exact ⟨_,rfl,‹_›⟩
           obtain rfl : Place.mp b=pl:=by rw [hb] at hp; exact Option.some.inj hp
           obtain ⟨-,-,es,clk,hbk,CW,-⟩:=Fh
           have Io : ((do let d ← resolve a.eval { callee:=.builtin .len,args:=#[x],argTypes:=#[t] } o.type; Go.invoke d.target d.args : Sem Next)).run P w =
             .ok (.value (.int .i64 ks.length)) w:=by
            simp [resolve,Go.invoke,builtin,Builtin.len_,run_underlying hu,T1,goInt,EG hbk,CW]
           rw [Io];exact .same hW (.int _ _) hk
      case slice e =>
       cases hx : cx x with
       | none=>simp [hx] at hc
       | some x' =>
        simp [hx] at hc; subst hc
        obtain ⟨p,r,he,hp,hk⟩:=DU hk;simp only [Kb] at he
        cases hv : val σ x' with
        | none=>simp [hv,FF] at he
        | some v =>
         have hr:=Ar hE hx hv;rw [hv] at he
         obtain ⟨ad,n,cap,T1,hn⟩ : ∃ ad n cap,a.eval x=.slice ad n cap∧r=.int .i64 n:=by
          generalize a.eval x=ux at hr
          cases hr <;> simp only [FF,reduceCtorEq,Option.some.injEq,Prod.mk.injEq] at he
          all_goals (obtain ⟨-,rfl⟩:=he; exact ⟨_,_,_,rfl,rfl⟩)
         subst hn
         have Io : ((do let d ← resolve a.eval { callee:=.builtin .len,args:=#[x],argTypes:=#[t] } o.type; Go.invoke d.target d.args : Sem Next)).run P w =
           .ok (.value (.int .i64 n)) w:=by
          simp [resolve,Go.invoke,builtin,Builtin.len_,run_underlying hu,T1,goInt]
         rw [Io];exact .same hW (.int _ _) hk
    ·cases hc
   case clear =>
    split at hc
    ·rename_i x t ha II
     have Md : args=#[x]:=by apply Array.ext'; simpa using ha
     have QV : argTypes=#[t]:=by apply Array.ext'; simpa using II
     subst Md QV
     cases h1 : C5 P t with
     | none=>simp [h1] at hc
     | some e =>
      simp only [h1] at hc
      cases h2 : cx x <;> cases h3 : C8 P e.1 <;> simp [h2,h3] at hc
      subst hc;simp only [E1] at hk
      rename_i x' z
      cases hv : val σ x' with
      | none=>rw [hv] at hk; exact hk.elim
      | some v =>
       rw [hv] at hk
       obtain ⟨w',q1,q2⟩:=ZA (P:=P) (ty:=o.type) hW h1 h3 (Ar hE h2 hv) hk;simp only [resolve,Sem.run_bind,Sem.run_pure,Result.andThen_ok,Go.invoke,builtin,List.map_toArray,List.map_cons,List.map_nil,q1];exact q2
    ·cases hc
   case append =>
    split at hc
    ·rename_i s x t t' ha II
     have Md : args=#[s,x]:=by apply Array.ext'; simpa using ha
     have QV : argTypes=#[t,t']:=by apply Array.ext'; simpa using II
     subst Md QV
     cases h1 : C5 P t with
     | none=>simp [h1] at hc
     | some e =>
      obtain ⟨hu,hi,hs⟩:=Co h1;simp only [h1,hu,Option.elim_some] at hc
      cases h2 : cx s <;> cases h3 : cx x <;> cases h4 : C8 P e.1 <;> simp [h2,h3,h4] at hc
      rename_i s' x' z
      obtain ⟨⟨rfl,hb⟩,rfl⟩:=hc;simp only [E1] at hk
      cases CJ : val σ s' with
      | none=>simp [CJ,Ds] at hk
      | some v1 =>
       cases FX : val σ x' with
       | none =>
        exfalso
        cases v1 <;> simp only [CJ,FX,Ds] at hk
        ·simp [DD,TU] at hk
        ·simp [DD,cA] at hk
        ·rename_i id n
         cases hg : H.get id with
         | none=>simp [hg,Gf] at hk
         | some ob=>cases ob <;> simp [hg,DD,Gf] at hk
       | some v2 =>
        obtain ⟨v,w',q1,q2⟩:=SY (P:=P) (ty:=o.type) hW h1 h4 hb CJ FX (Ar hE h2 CJ) (Ar hE h3 FX) hk;simp only [resolve,Sem.run_bind,Sem.run_pure,Result.andThen_ok,Go.invoke,builtin,List.map_toArray,List.map_cons,List.map_nil,q1];exact q2
    ·cases hc
   case max =>
    split at hc
    ·rename_i x y ha
     have Md : args=#[x,y]:=by apply Array.ext'; simpa using ha
     subst Md
     cases h2 : cx x <;> cases h3 : cx y <;> simp [h2,h3] at hc
     rename_i x' y'
     subst hc
     obtain ⟨p,r,he,hp,hk⟩:=DU hk;simp only [Kb] at he
     cases CJ : val σ x' with
     | none=>simp [CJ,lK] at he
     | some v1 =>
      cases FX : val σ y' with
      | none=>cases v1 <;> simp [CJ,FX,lK] at he
      | some v2 =>
       have r1:=Ar hE h2 CJ
       have r2:=Ar hE h3 FX;rw [CJ,FX] at he
       cases v1 <;> cases v2 <;> simp only [lK,reduceCtorEq,Option.some.injEq,Prod.mk.injEq] at he
       rename_i k1 n1 k2 n2
       obtain ⟨rfl,rfl⟩:=he;subst hp
       have e1 : a.eval x=.int k1 n1:=by
        generalize a.eval x=ux at r1
        cases r1; rfl
       have e2 : a.eval y=.int k1 n2:=by
        generalize a.eval y=uy at r2
        cases r2; rfl
       simp [resolve,Go.invoke,builtin,Builtin.max_,Builtin.max2,e1,e2];exact .same hW (.int _ _) (by simpa using hk)
    ·cases hc
   case min =>
    split at hc
    ·rename_i x y ha
     have Md : args=#[x,y]:=by apply Array.ext'; simpa using ha
     subst Md
     cases h2 : cx x <;> cases h3 : cx y <;> simp [h2,h3] at hc
     rename_i x' y'
     subst hc
     obtain ⟨p,r,he,hp,hk⟩:=DU hk;simp only [Kb] at he
     cases CJ : val σ x' with
     | none=>simp [CJ,lK] at he
     | some v1 =>
      cases FX : val σ y' with
      | none=>cases v1 <;> simp [CJ,FX,lK] at he
      | some v2 =>
       have r1:=Ar hE h2 CJ
       have r2:=Ar hE h3 FX;rw [CJ,FX] at he
       cases v1 <;> cases v2 <;> simp only [lK,reduceCtorEq,Option.some.injEq,Prod.mk.injEq] at he
       rename_i k1 n1 k2 n2
       obtain ⟨rfl,rfl⟩:=he;subst hp
       have e1 : a.eval x=.int k1 n1:=by
        generalize a.eval x=ux at r1
        cases r1; rfl
       have e2 : a.eval y=.int k1 n2:=by
        generalize a.eval y=uy at r2
        cases r2; rfl
       simp [resolve,Go.invoke,builtin,Builtin.min_,Builtin.min2,e1,e2];exact .same hW (.int _ _) (by simpa using hk)
    ·cases hc
end
end Go.AW
namespace Go.AW
open Go.RowKit
inductive Rl where
 | fin (l : List Cx)
 | br (l : List Cx) (ts : Rl)
 | nil
 | alt (h : Cx) (t ts : Rl)
 deriving Inhabited
inductive SC where
 | skip
 | Mi (ops : List Cx)
 | two (pre l l' : List Cx)
 | jG (t : Rl)
 | seq (a b : SC)
 | cond (x : X) (a b : SC)
 | block (id : Nat) (c : SC)
 | loop (l : List Nat) (c : SC)
 | exit (id : Nat)
 | ret
 | XN (c : SC)
 | BA (l : List Nat) (c : SC)
 | wk (c : SC)
 | fz (t : Nat) (c : SC)
 | cut (l : List Nat) (a b : SC)
 deriving Inhabited
def SC.strip : SC→SC
 | .seq a b=>.seq a.strip b.strip
 | .cut _ a b=>.seq a.strip b.strip
 | .cond x a b=>.cond x a.strip b.strip
 | .block id c=>.block id c.strip
 | .loop _ c=>.loop [] c.strip
 | .BA _ c=>c.strip
 | .fz _ c=>c.strip
 | .wk c=>c.strip
 | .XN c=>.XN c.strip
 | c=>c
inductive ve where
 | norm
 | exit (id : Nat)
 | ret
abbrev AQ:=ve→Env→AA→Prop
def QN (F : Env→AA→Prop) (Q : AQ) : AQ
 | .norm,σ,H=>F σ H
 | e,σ,H=>Q e σ H
def QR (id : Nat) (Q : AQ) : AQ
 | .exit i,σ,H=>if i=id then Q .norm σ H else Q (.exit i) σ H
 | e,σ,H=>Q e σ H
def Wk (σ : Env) (H : AA) (σ' : Env) (H' : AA) : Prop :=
 ∀ g B w tm,Ao g B H w→Cc g σ tm→∃ g',g.le g'∧Ao g' B H' w∧Cc g' σ' tm
def mY (l : List Nat) (I : Nat→Env→AA→Prop) (n : Nat) (Q : AQ) : AQ
 | .norm,σ,H=>∃ m σ' H',m<n∧I m σ' H'∧Wk (Env.BA l σ) H σ' H'
 | e,σ,H=>Q e σ H
def mT (l : List Nat) (F : AQ→Env→AA→Prop) (Q : AQ) (σ : Env) (H : AA) : Prop :=
 ∃ (I : Nat→Env→AA→Prop) (n : Nat) (σ0 : Env) (H0 : AA),I n σ0 H0∧Wk σ H σ0 H0∧∀ n σ H,I n σ H→F (mY l I n Q) σ H
def PD (o : Option AV) (A C : Env→AA→Prop) (σ : Env) (H : AA) : Prop :=
 match o with
 | some (.bool b)=>(b=true→At A σ H)∧(b=false→At C σ H)
 | _=>False
def Gb (F : Env→AA→Prop) (σ : Env) (H : AA) : Prop:=∃ σ' H',Wk σ H σ' H'∧F σ' H'
def zS (l : List Nat) (M : Env→AA→Prop) (Q : AQ) : AQ
 | .norm,σ,H=>Gb M (Env.BA l σ) H
 | e,σ,H=>Q e σ H
def xm (l : List Nat) (F : AQ→Env→AA→Prop) (G : Env→AA→Prop) (Q : AQ) (σ : Env) (H : AA) : Prop :=
 ∃ M : Env→AA→Prop,F (zS l M Q) σ H∧∀ σ' H',M σ' H'→G σ' H'
def Xz (t id n : Nat) (F : Env→AA→Prop) (σ : Env) (H : AA) : Option AF→Prop
 | some (.cells sz cs _)=>(cs.length=n*sz∧0<sz∧∀ c,c∈cs→c.one=true)∧F (σ.put t (.sl (chunk sz n cs))) (H.set id (.cells sz cs cs.length))
 | _=>False
def fO (t : Nat) (F : Env→AA→Prop) (σ : Env) (H : AA) : Option AV→Prop
 | some (.buf id n)=>Xz t id n F σ H (H.get id)
 | some .A1=>F (σ.put t (.sl [])) H
 | _=>F σ H
def NY (P : Program) (B : Nat) : Rl→(Env→AA→Prop)→Env→AA→Prop
 | .fin l,F,σ,H=>CF P B l F σ H
 | .br l ts,F,σ,H=>CF P B l (NY P B ts F) σ H
 | .nil,_,_,_=>True
 | .alt h t ts,F,σ,H=>CF P B [h] (NY P B t F) σ H∧NY P B ts F σ H
def FN (P : Program) (B : Nat) : SC→AQ→Env→AA→Prop
 | .skip,Q,σ,H=>Q .norm σ H
 | .Mi ops,Q,σ,H=>CF P B ops (Q .norm) σ H
 | .two p l l',Q,σ,H=>CF P B p (fun σ H=>CF P B l (Q .norm) σ H∧CF P B l' (Q .norm) σ H) σ H
 | .jG t,Q,σ,H=>NY P B t (Q .norm) σ H
 | .seq a b,Q,σ,H=>FN P B a (QN (FN P B b Q) Q) σ H
 | .cond x a b,Q,σ,H=>PD (val σ x) (FN P B a Q) (FN P B b Q) σ H
 | .block id c,Q,σ,H=>FN P B c (QR id Q) σ H
 | .loop l c,Q,σ,H=>mT l (FN P B c) Q (Env.BA l σ) H
 | .exit id,Q,σ,H=>Q (.exit id) σ H
 | .ret,Q,σ,H=>Q .ret σ H
 | .XN c,Q,σ,H=>FN P B c Q σ H
 | .BA l c,Q,σ,H=>FN P B c Q (Env.BA l σ) H
 | .wk c,Q,σ,H=>Gb (FN P B c Q) σ H
 | .cut l a b,Q,σ,H=>xm l (FN P B a) (FN P B b Q) Q σ H
 | .fz t c,Q,σ,H=>fO t (FN P B c Q) σ H (σ.get t)
abbrev Hints:=List (Nat × List Nat × List Nat)
def JL : Option Cx→Option (List Cx)→Option (List Cx)
 | some a,some r=>some (a::r)
 | _,_=>none
def Bj (P : Program) (N : Nat) (ops : Array Oper) (hs : List Nat) : List Nat→Option (List Cx)
 | []=>some []
 | i::r=>match ops[i]? with
  | some o=>JL (EB P N ops (hs.getD i 0) o) (Bj P N ops hs r)
  | none=>none
def qi (f : SC→SC→SC) : Option SC→Option SC→Option SC
 | some a,some b=>some (f a b)
 | _,_=>none
section
variable {P : Program} {B : Nat}
def GP (F : Env→AA→Prop) (g : Gh) (B : Nat) (w0 : World) (N : Nat) (df : List Deferred) (a : Act) (w : World) : Prop :=
 ∃ g' σ' H',g.le g'∧F σ' H'∧Ao g' B H' w∧Cc g' σ' a.tmps∧Below B w0 w∧a.tmps.size=N∧a.defers=df
def Ih (Q : AQ) (g : Gh) (B : Nat) (w0 : World) (N : Nat) (df : List Deferred) : Exit→Act→World→Prop
 | .normal=>GP (Q .norm) g B w0 N df
 | .exit id=>GP (Q (.exit id)) g B w0 N df
 | .ret=>GP (Q .ret) g B w0 N df
 | _=>fun _ _=>False
theorem GP.from {F : Env→AA→Prop} {g g1 : Gh} {w0 w1 : World} {N : Nat} {df : List Deferred} {a : Act} {w : World} (hg : g.le g1) (hb : Below B w0 w1) (h : GP F g1 B w1 N df a w) : GP F g B w0 N df a w:=by
 obtain ⟨g',σ',H',h1,h2,h3,h4,h5,h6⟩:=h;exact ⟨g',σ',H',hg.trans h1,h2,h3,h4,hb.trans h5,h6⟩
theorem Ih.from {Q : AQ} {g g1 : Gh} {w0 w1 : World} {N : Nat} {df : List Deferred} {e : Exit} {a : Act} {w : World} (hg : g.le g1) (hb : Below B w0 w1) (h : Ih Q g1 B w1 N df e a w) : Ih Q g B w0 N df e a w:=by
 cases e <;> first | exact GP.from hg hb h | exact h
theorem DM (a : Act) (d : Option Nat) (v : Value) : (a.put d v).tmps.size=a.tmps.size:=by
 cases d <;> simp [Act.put]
theorem put_defers (a : Act) (d : Option Nat) (v : Value) : (a.put d v).defers=a.defers:=by
 cases d <;> rfl
theorem R7 {g : Gh} {w : World} {K : Ap} {o : Oper} {a : Act} {next : Act→World→Prop} {Q : Exit→Act→World→Prop} {r : Result Next} (h : Fits P g B w K r)
  (hn : ∀ v w',Dj g B w K v w'→next (a.put o.dst v) w') : o.upon P a next Q r:=by
 cases r with
 | halt h' w'=>exact h.elim
 | ok n w' =>
  cases n <;> first | exact h.elim | skip
  ·exact hn _ _ h
  ·exact hn _ _ h
  ·obtain ⟨rfl,hc⟩:=h;exact hc.mono fun e w'' ⟨v,he,hf⟩=>by subst he; exact hn _ _ hf
theorem G5 {N : Nat} {ops : Array Oper} {hs : List Nat} {df : List Deferred} : ∀ (l : List Nat) (sops : List Cx),Bj P N ops hs l=some sops →
  ∀ (F : Env→AA→Prop) (g : Gh) (H : AA) (w : World) (σ : Env) (a : Act) (Q : Exit→Act→World→Prop),Ao g B H w→Cc g σ a.tmps→a.tmps.size=N→a.defers=df →
   CF P B sops F σ H→(∀ a' w',GP F g B w N df a' w'→Q .normal a' w')→wpOps P ops Q l a w
 | [],sops,hc=>by
  intro F g H w σ a Q hW hE hN hd hk hq
  cases hc;exact hq _ _ ⟨g,σ,H,.refl g,hk,hW,hE,.refl B w,hN,hd⟩
 | i::r,sops,hc=>by
  intro F g H w σ a Q hW hE hN hd hk hq;unfold Bj at hc
  cases ho : ops[i]? with
  | none=>simp [ho] at hc
  | some o =>
   simp only [ho] at hc
   cases RG : EB P N ops (hs.getD i 0) o with
   | none=>simp only [RG,JL,reduceCtorEq] at hc
   | some so =>
    cases Sw : Bj P N ops hs r with
    | none=>simp only [RG,Sw,JL,reduceCtorEq] at hc
    | some sr =>
     simp only [RG,Sw,JL,Option.some.injEq] at hc;subst hc;unfold EB at RG
     cases Km : E0 P (hs.getD i 0) o.op with
     | none=>simp only [Km,reduceCtorEq] at RG
     | some ins =>
      cases hg : Ei ops o.guard with
      | none=>simp only [Km,hg,reduceCtorEq] at RG
      | some gd =>
       simp only [Km,hg] at RG
       split at RG
       ·rename_i Zy
        cases RG
        have ih:=G5 (df:=df) r sr Sw
        have iU : E1 P B (DP o.dst (CF P B sr F) σ) σ H ins→o.wp P a w (wpOps P ops Q r) Q:=by
         intro Qa
         have hf:=U6 (a:=a) Km hW hE Qa;refine R7 hf fun v w' hfv=>?_
         obtain ⟨g',rv,H',h1,h2,h3,h4,h5⟩:=hfv
         cases Mc : o.dst with
         | none =>
          rw [Mc] at h2;exact ih _ _ _ _ _ _ _ h4 (hE.mono h1) hN hd h2 fun a' w'' hp=>hq _ _ (hp.from h1 h5)
         | some d =>
          rw [Mc] at h2 Zy;simp only [Ns,Bool.and_eq_true,decide_eq_true_eq] at Zy
          have D3 : d<a.tmps.size:=by rw [hN]; exact Zy.1
          refine ih _ _ _ _ _ (a.put (some d) v) _ h4 ((hE.mono h1).put D3 h3) (by rw [DM]; exact hN) hd h2 fun a' w'' hp=>hq _ _ (hp.from h1 h5)
        have RO : CF P B sr F (Hr o.dst σ) H→wpOps P ops Q r (a.put o.dst undef) w:=by
         intro Qa
         cases Mc : o.dst with
         | none=>rw [Mc] at Qa; exact ih _ _ _ _ _ _ _ hW hE hN hd Qa hq
         | some d =>
          rw [Mc] at Qa;rw [Mc] at Zy;simp only [Ns,Bool.and_eq_true,decide_eq_true_eq] at Zy
          have D3 : d<a.tmps.size:=by rw [hN]; exact Zy.1
          exact ih _ _ _ _ _ (a.put (some d) undef) _ hW (hE.put D3 (.CK [] #[] rfl (fun i hi=>by simp at hi))) (by rw [DM]; exact hN) hd Qa hq
        simp only [wpOps,ho]
        cases Su : o.guard with
        | none =>
         rw [Su] at hg
         simp [Ei] at hg;subst hg;simp only [CF,FZ] at hk;simp only [Region.wanted,Su,if_true];exact .inl (iU hk)
        | some jb =>
         obtain ⟨j,b⟩:=jb;rw [Su] at hg;simp only [Ei] at hg
         cases hj : (ops[j]?).bind (·.dst) with
         | none=>simp [hj] at hg
         | some t =>
          simp only [hj,Option.some.injEq] at hg;subst hg;simp only [CF] at hk
          cases Cn : σ.get t with
          | none=>simp [Cn,iE] at hk
          | some tv =>
           obtain ⟨D3,Mg⟩:=hE t tv Cn;rw [Cn] at hk
           by_cases nN : ∃ cs,tv=.CK cs
           ·obtain ⟨cs,rfl⟩:=nN;simp only [iE,At,bg] at hk
            have hy : yielded ops a.tmps j=none:=by
             unfold yielded;rw [hj]
             have e:=getD_some D3
             generalize a.tmps.getD t undef=u at Mg e
             cases Mg
             simp [e]
            simp only [Region.wanted,Su,hy];exact RO hk
           cases tv <;> try (simp [iE] at hk; done)
           rotate_left
           ·exact absurd ⟨_,rfl⟩ nN
           rename_i c
           simp only [iE,At,FZ,bg] at hk
           have hy : yielded ops a.tmps j=some c:=by
            unfold yielded;rw [hj]
            have : a.tmps[t]? = some (.bool c):=by
             have e:=getD_some D3;rw [e]
             generalize a.tmps.getD t undef=u at Mg
             cases Mg; rfl
            simp [this]
           simp only [Region.wanted,Su,hy]
           by_cases hcb : c=b
           ·subst hcb;simp only [beq_self_eq_true,if_true];exact .inl (iU (hk.1 rfl))
           ·have Bq : (some c == some b)=false:=by simpa using hcb
            rw [Bq];simp only [Bool.false_eq_true,if_false];exact RO (hk.2 (by cases c <;> cases b <;> simp_all))
       ·cases RG
end
end Go.AW
namespace Go.AW
open Go.RowKit
def cls : Ins→Nat
 | .ld .. | .jD .. | .aS .. | .Sy .. | .mB ..=>1
 | .st .. | .Sx .. | .T4 .. | .lX .. | .app .. | .l7 .. | .nV | .hZ .. | .call .. | .Lr .. | .Lj .. | .inv .. | .jE .. | .nH .. | .sD ..=>2
 | _=>0
def keeps : Ins→Bool
 | .Sx .. | .T4 .. | .lX .. | .l7 .. | .nV | .Lr ..=>true
 | _=>false
def mO (z : Nat) : Ins→Bool
 | .app s ..=>s != z
 | .Lj y ..=>y != z
 | i=>keeps i
def qg : Ins→Option Nat
 | .jD z ..=>some z
 | _=>none
def kp (i i' : Ins) : Bool:=keeps i' || (match qg i with | some z=>mO z i' | none=>false)
def Rc : X→List Nat
 | .t n=>[n]
 | .c _=>[]
def Vy : List X→List Nat
 | []=>[]
 | x::r=>Rc x++Vy r
def cL : List (Nat × Nat × X)→List Nat
 | []=>[]
 | (_,_,x)::r=>Rc x++cL r
def nf : Option X→List Nat
 | some x=>Rc x
 | none=>[]
def Gz : Ins→List Nat
 | .mv a | .nq _ a | .nt a | .conv _ a | .len a | .Zu a | .Sy a | .nO _ _ a | .vV _ a | .nI a | .prt _ _ a | .ext a _ | .nS _ a | .aE _ a | .vD a | .ld _ a | .jD _ _ a | .T4 _ a | .jE _ a | .nH _ a | .sD _ a=>Rc a
 | .nG _ a lo hi | .mB _ a lo hi=>Rc a++(nf lo++nf hi)
 | .pick a b c=>Rc a++(Rc b++Rc c)
 | .ar _ _ a b | .bq _ a b | .aq _ _ a b | .idx _ a b | .mx _ a b | .st _ a b | .app _ _ a b | .l7 _ _ a b | .aS _ _ _ a b=>Rc a++Rc b
 | .sL _ ps=>cL ps
 | .rQ _ l | .Zr _ l | .Sx _ l=>Vy l
 | .N9 f l | .call f l | .Lr f l | .Lj _ f l=>Rc f++Vy l
 | .hZ _ a b c=>Rc a++(Rc b++Rc c)
 | .inv a _ l=>Rc a++Vy l
 | .lX _ | .nV | .emp=>[]
def looks (s : Cx) : List Nat:=(match s.g with | some (t,_)=>[t] | none=>[])++Gz s.i
section
variable {P : Program} {B : Nat} {σ σ' : Env} {H : AA} {K : Ap}
theorem val_congr {x : X} (h : ∀ t,t∈Rc x→σ.get t=σ'.get t) : val σ x=val σ' x:=by
 cases x with
 | t n=>exact h n (by simp [Rc])
 | c v=>rfl
theorem DA : ∀ {l : List X},(∀ t,t∈Vy l→σ.get t=σ'.get t)→DB σ l=DB σ' l
 | [],_=>rfl
 | x::r,h=>by
  simp only [DB];rw [val_congr fun t ht=>h t (by simp [Vy,ht]),DA fun t ht=>h t (by simp [Vy,ht])]
theorem Qk : ∀ {l : List (Nat × Nat × X)} {cs : List AV},(∀ t,t∈cL l→σ.get t=σ'.get t)→J4 σ l cs=J4 σ' l cs
 | [],_,_=>rfl
 | (o,n,x)::r,cs,h=>by
  simp only [J4];rw [val_congr fun t ht=>h t (by simp [cL,ht])]
  have : J4 σ r=J4 σ' r:=funext fun cs=>Qk fun t ht=>h t (by simp [cL,ht]);rw [this]
theorem Ya {i : Ins} (h : ∀ t,t∈Gz i→σ.get t=σ'.get t) : E1 P B K σ H i=E1 P B K σ' H i:=by
 cases i <;> simp only [E1,Kb]
 case mv a=>rw [val_congr h]
 case pick a b c =>
  rw [val_congr fun t ht=>h t (by simp [Gz,ht]),val_congr (x:=b) fun t ht=>h t (by simp [Gz,ht]),val_congr (x:=c) fun t ht=>h t (by simp [Gz,ht])]
 case ar o k a b=>rw [val_congr fun t ht=>h t (by simp [Gz,ht]),val_congr (x:=b) fun t ht=>h t (by simp [Gz,ht])]
 case bq o a b=>rw [val_congr fun t ht=>h t (by simp [Gz,ht]),val_congr (x:=b) fun t ht=>h t (by simp [Gz,ht])]
 case nq o a=>rw [val_congr h]
 case aq o n a b=>rw [val_congr fun t ht=>h t (by simp [Gz,ht]),val_congr (x:=b) fun t ht=>h t (by simp [Gz,ht])]
 case nt a=>rw [val_congr h]
 case conv k a=>rw [val_congr h]
 case len a=>rw [val_congr h]
 case Zu a=>rw [val_congr h]
 case Sy a=>rw [val_congr h]
 case idx n a b=>rw [val_congr fun t ht=>h t (by simp [Gz,ht]),val_congr (x:=b) fun t ht=>h t (by simp [Gz,ht])]
 case nO o n a=>rw [val_congr h]
 case vV n a=>rw [val_congr h]
 case nI a=>rw [val_congr h]
 case sL z ps=>rw [Qk h]
 case prt o n a=>rw [val_congr h]
 case ext a n=>rw [val_congr h]
 case nG n a lo hi =>
  have ho : ∀ (o : Option X),(∀ t,t∈nf o→σ.get t=σ'.get t)→o.map (val σ)=o.map (val σ'):=fun o q=>by
   cases o with
   | none=>rfl
   | some x=>exact congrArg some (val_congr q)
  rw [val_congr (x:=a) fun t ht=>h t (by simp [Gz,ht]),ho lo fun t ht=>h t (by simp [Gz,ht]),ho hi fun t ht=>h t (by simp [Gz,ht])]
 case mB n a lo hi =>
  have ho : ∀ (o : Option X),(∀ t,t∈nf o→σ.get t=σ'.get t)→o.map (val σ)=o.map (val σ'):=fun o q=>by
   cases o with
   | none=>rfl
   | some x=>exact congrArg some (val_congr q)
  rw [val_congr (x:=a) fun t ht=>h t (by simp [Gz,ht]),ho lo fun t ht=>h t (by simp [Gz,ht]),ho hi fun t ht=>h t (by simp [Gz,ht])]
 case sD z a=>rw [val_congr h]
 case rQ f l=>rw [DA h]
 case nS t a=>rw [val_congr h]
 case Zr n l=>rw [DA h]
 case aE n a=>rw [val_congr h]
 case N9 f l=>rw [val_congr fun t ht=>h t (by simp [Gz,ht]),DA fun t ht=>h t (by simp [Gz,ht])]
 case mx o a b=>rw [val_congr fun t ht=>h t (by simp [Gz,ht]),val_congr (x:=b) fun t ht=>h t (by simp [Gz,ht])]
 case vD a=>rw [val_congr h]
 case ld n a=>rw [val_congr h]
 case jD z n a=>rw [val_congr h]
 case st n a b=>rw [val_congr fun t ht=>h t (by simp [Gz,ht]),val_congr (x:=b) fun t ht=>h t (by simp [Gz,ht])]
 case Sx n l=>rw [DA h]
 case T4 n a=>rw [val_congr h]
 case app s b x y=>rw [val_congr fun t ht=>h t (by simp [Gz,ht]),val_congr (x:=y) fun t ht=>h t (by simp [Gz,ht])]
 case l7 s z x y=>rw [val_congr fun t ht=>h t (by simp [Gz,ht]),val_congr (x:=y) fun t ht=>h t (by simp [Gz,ht])]
 case aS s o z x y=>rw [val_congr fun t ht=>h t (by simp [Gz,ht]),val_congr (x:=y) fun t ht=>h t (by simp [Gz,ht])]
 case hZ s a b c =>
  rw [val_congr fun t ht=>h t (by simp [Gz,ht]),val_congr (x:=b) fun t ht=>h t (by simp [Gz,ht]),val_congr (x:=c) fun t ht=>h t (by simp [Gz,ht])]
 case call f l=>rw [val_congr fun t ht=>h t (by simp [Gz,ht]),DA fun t ht=>h t (by simp [Gz,ht])]
 case Lr f l=>rw [val_congr fun t ht=>h t (by simp [Gz,ht]),DA fun t ht=>h t (by simp [Gz,ht])]
 case Lj z f l=>rw [val_congr fun t ht=>h t (by simp [Gz,ht]),DA fun t ht=>h t (by simp [Gz,ht])]
 case inv a n l=>rw [val_congr fun t ht=>h t (by simp [Gz,ht]),DA fun t ht=>h t (by simp [Gz,ht])]
 case jE b a=>rw [val_congr h]
 case nH b a=>rw [val_congr h]
theorem det {i : Ins} (hc : cls i<2) (h : E1 P B K σ H i) : ∃ r,E1 P B (fun r' H'=>r'=r∧H'=H) σ H i∧K r H:=by
 have pv : ∀ (e : PV),pW e K H→∃ r,pW e (fun r' H'=>r'=r∧H'=H) H∧K r H:=by
  intro e he
  obtain ⟨p,r,rfl,hp,hk⟩:=DU he;exact ⟨r,⟨hp,rfl,rfl⟩,hk⟩
 cases i <;> simp only [cls] at hc <;> try omega
 case ld n x =>
  simp only [E1] at h ⊢
  cases hv : val σ x with
  | none=>rw [hv] at h; unfold VV at h ⊢; exact pv _ h
  | some v =>
   rw [hv] at h
   cases v <;> try (unfold VV at h ⊢; exact pv _ h)
   rename_i id off
   simp only [VV] at h ⊢
   cases ho : H.get id with
   | none=>rw [ho] at h; cases n <;> exact h.elim
   | some o =>
    rw [ho] at h
    cases o with
    | map _ _=>cases n <;> exact h.elim
    | cells sz cs f=>cases n <;> exact ⟨_,⟨h.1,rfl,rfl⟩,h.2⟩
 case jD z n x =>
  simp only [E1] at h ⊢
  cases hv : val σ x with
  | none=>rw [hv] at h; exact h.elim
  | some v =>
   rw [hv] at h
   cases v <;> try exact h.elim
   rename_i id off
   simp only [ZO] at h ⊢
   obtain ⟨⟨cs,f,ho⟩,h⟩:=h;rw [ho] at h ⊢
   cases n <;> exact ⟨_,⟨⟨cs,f,rfl⟩,h.1,rfl,rfl⟩,h.2⟩
 case aS s ok z m k =>
  simp only [E1] at h ⊢
  cases hm : val σ m with
  | none=>rw [hm] at h; exact h.elim
  | some mv =>
   cases hk : val σ k with
   | none=>rw [hm,hk] at h; cases mv <;> exact h.elim
   | some kv =>
    rw [hm,hk] at h
    cases mv <;> try exact h.elim
    ·exact ⟨_,⟨h.1,rfl,rfl⟩,h.2⟩
    ·rename_i id
     simp only [Z0] at h ⊢
     cases ho : H.get id with
     | none=>rw [ho] at h; exact h.elim
     | some o =>
      rw [ho] at h
      cases o with
      | cells _ _ _=>exact h.elim
      | map _ _=>exact ⟨_,⟨h.1,rfl,rfl⟩,h.2⟩
 case Sy x =>
  simp only [E1] at h ⊢
  cases hm : val σ x with
  | none=>rw [hm] at h; exact h.elim
  | some mv =>
   rw [hm] at h
   cases mv <;> try exact h.elim
   rename_i id
   simp only [tE] at h ⊢
   cases ho : H.get id with
   | none=>rw [ho] at h; exact h.elim
   | some o =>
    rw [ho] at h
    cases o with
    | cells _ _ _=>exact h.elim
    | map _ _=>exact ⟨_,⟨rfl,rfl⟩,h⟩
 case mB z x lo hi =>
  simp only [E1] at h ⊢
  cases hm : val σ x with
  | none=>rw [hm] at h; exact h.elim
  | some mv =>
   rw [hm] at h
   cases mv <;> try exact h.elim
   rename_i id n
   simp only [WS] at h ⊢
   cases ho : H.get id with
   | none=>rw [ho] at h; exact h.elim
   | some o =>
    rw [ho] at h
    cases o with
    | map _ _=>exact h.elim
    | cells _ _ _ =>
     obtain ⟨r,h1,h2⟩:=pv _ h.2;exact ⟨r,⟨h.1,h1⟩,h2⟩
 case N9 f l =>
  obtain ⟨r,h1,h2⟩:=h;exact ⟨r,⟨r,h1,rfl,rfl⟩,h2⟩
 case emp=>exact pv (some (True,.FI)) h
 all_goals exact pv _ h
theorem AA.sub.QH {H H' : AA} (h : H.sub H') (z : Nat) : H.QH z H':=fun i cs f e=>h i _ e
def Kp (i : Ins) (H H' : AA) : Prop:=(keeps i=true→H.sub H')∧∀ z,mO z i=true→H.QH z H'
theorem UN {i : Ins} (h : E1 P B K σ H i) : E1 P B (fun r H'=>Kp i H H'∧K r H') σ H i:=by
 by_cases hk : keeps i=true
 ·have hq : ∀ (i : Ins),keeps i=true→E1 P B K σ H i→∀ (K' : Ap),(∀ r H',H.sub H'→K r H'→K' r H')→E1 P B K' σ H i:=by
   intro i hk h K' hK
   have nb : ∀ n sz cs,Eo n sz cs K H→Eo n sz cs K' H:=fun n sz cs h id hn=>hK _ _ (AA.CE _ hn (.refl H)) (h id hn)
   have nr : ∀ sz cs,HH sz cs K H→HH sz cs K' H:=fun sz cs h id hn=>hK _ _ (AA.CE _ hn (.refl H)) (h id hn)
   cases i <;> simp only [keeps,Bool.false_eq_true] at hk
   case Sx n l =>
    simp only [E1] at h ⊢
    cases hv : DB σ l with
    | none=>rw [hv] at h; exact h.elim
    | some as=>rw [hv] at h; exact ⟨h.1,nb _ _ _ h.2⟩
   case T4 n x =>
    simp only [E1] at h ⊢
    cases hv : val σ x with
    | none=>rw [hv] at h; exact h.elim
    | some a=>rw [hv] at h; exact ⟨h.1,nr _ _ h.2⟩
   case lX z=>exact ⟨h.1,nr _ _ h.2⟩
   case l7 s z l c =>
    simp only [E1] at h ⊢
    cases h1 : val σ l with
    | none=>rw [h1] at h; exact h.elim
    | some a =>
     cases h2 : val σ c with
     | none=>rw [h1,h2] at h; cases a <;> exact h.elim
     | some b =>
      rw [h1,h2] at h
      cases a <;> cases b <;> first | exact h.elim | exact ⟨h.1,nb _ _ _ h.2⟩
   case nV=>exact fun id hn=>hK _ _ (AA.CE _ hn (.refl H)) (h id hn)
   case Lr f l =>
    simp only [E1] at h ⊢
    generalize val σ f=a at h ⊢
    generalize DB σ l=b at h ⊢
    rcases a with _ | a
    ·exact h.elim
    ·cases a <;> try exact h.elim
     rename_i fn ca
     cases fn <;> try exact h.elim
     rcases b with _ | b
     ·exact h.elim
     ·exact BG.mono (show BG P B _ (b++ca) H _ from h) fun r H' q=>⟨q.1,hK r H' q.1 q.2⟩
  exact hq i hk h _ fun r H' hs JP=>⟨⟨fun _=>hs,fun z _=>hs.QH z⟩,JP⟩
 ·have triv : (∀ z,mO z i=false)→∀ H',Kp i H H':=fun hz H'=>⟨fun e=>absurd e hk,fun z e=>by rw [hz z] at e; cases e⟩
  have gen : (∀ z,mO z i=false)→E1 P B (fun r H'=>Kp i H H'∧K r H') σ H i:=fun hz=>by
   have : (fun r H'=>Kp i H H'∧K r H')=K:=funext fun r=>funext fun H'=>propext ⟨fun q=>q.2,fun q=>⟨triv hz H',q⟩⟩;rw [this]; exact h
  have other : (∀ z,mO z i=keeps i)→E1 P B (fun r H'=>Kp i H H'∧K r H') σ H i:=fun e=>gen fun z=>by rw [e z]; simpa using hk
  cases i <;> try exact other fun z=>rfl
  case app s b x y =>
   simp only [E1] at h ⊢
   have jw : ∀ {id : Nat} {o : AF},H.get id=none→Kp (.app s b x y) H (H.set id o):=fun hn=>⟨fun e=>by simp [keeps] at e,fun z _=>(AA.CE _ hn (.refl H)).QH z⟩
   generalize val σ x=va at h ⊢
   generalize val σ y=xv at h ⊢
   rcases va with _ | va
   ·exact h.elim
   cases va <;> try exact h.elim
   case A1 =>
    simp only [Ds] at h ⊢
    cases F3 : DD s xv H with
    | none=>rw [F3] at h; exact h.elim
    | some q =>
     obtain ⟨p,m,new⟩:=q;rw [F3] at h;exact ⟨h.1,fun id hn=>⟨jw hn,h.2 id hn⟩⟩
   case FI =>
    simp only [Ds] at h ⊢
    cases F3 : DD s xv H with
    | none=>rw [F3] at h; exact h.elim
    | some q =>
     obtain ⟨p,m,new⟩:=q;rw [F3] at h;exact ⟨h.1,fun id hn=>⟨jw hn,h.2 id hn⟩⟩
   case buf id n =>
    simp only [Ds] at h ⊢
    cases hg : H.get id with
    | none=>rw [hg] at h; simp [Gf] at h
    | some o =>
     cases o with
     | map ks vs=>rw [hg] at h; simp [Gf] at h
     | cells sz' cs f =>
      rw [hg] at h
      cases F3 : DD s xv H with
      | none=>rw [F3] at h; simp [Gf] at h
      | some q =>
       obtain ⟨p,m,new⟩:=q;rw [F3] at h;simp only [Gf] at h ⊢;refine ⟨h.1,fun Ca hn=>⟨⟨fun e=>by simp [keeps] at e,fun z hz j cs' f' e=>?_⟩,h.2 Ca hn⟩⟩
       have CW:=h.1.1;simp only [mO,bne_iff_ne,ne_eq] at hz
       have h1 : j≠id:=by
        rintro rfl; rw [hg] at e; cases e; exact hz CW.symm
       have h2 : j≠Ca:=by
        rintro rfl; rw [hn] at e; cases e
       rw [AA.B1 _ _ h2,AA.CA _ h1]; exact e
  case Lj y f l =>
   simp only [E1] at h ⊢
   generalize val σ f=a at h ⊢
   generalize DB σ l=b at h ⊢
   rcases a with _ | a
   ·exact h.elim
   ·cases a <;> try exact h.elim
    rename_i fn ca
    cases fn <;> try exact h.elim
    rcases b with _ | b
    ·exact h.elim
    ·exact BG.mono (show BG P B _ (b++ca) H _ from h) fun r H' q=>⟨q.1,⟨fun e=>by simp [keeps] at e,fun z hz=>q.1 z (by simp only [mO,bne_iff_ne,ne_eq] at hz; exact fun e=>hz e.symm)⟩,q.2⟩
theorem bK {i : Ins} (hc : cls i=0) {r : AV} {H H' : AA} (h : E1 P B (fun r' H''=>r'=r∧H''=H) σ H i) : E1 P B (fun r' H''=>r'=r∧H''=H') σ H' i:=by
 have pv : ∀ (e : PV),pW e (fun r' H''=>r'=r∧H''=H) H→pW e (fun r' H''=>r'=r∧H''=H') H':=by
  intro e he
  obtain ⟨p,r',rfl,hp,hk,-⟩:=DU he;exact ⟨hp,hk,rfl⟩
 cases i <;> simp only [cls] at hc <;> try omega
 case N9 f l =>
  obtain ⟨r',h1,h2,-⟩:=h;exact ⟨r',h1,h2,rfl⟩
 case emp=>exact pv (some (True,.FI)) h
 all_goals exact pv _ h
theorem dX {i : Ins} (hc : cls i<2) {r : AV} {H H' : AA} (hs : H.sub H') (h : E1 P B (fun r' H''=>r'=r∧H''=H) σ H i) : E1 P B (fun r' H''=>r'=r∧H''=H') σ H' i:=by
 by_cases h0 : cls i=0
 ·exact bK h0 h
 ·have pv : ∀ (e : PV),pW e (fun r' H''=>r'=r∧H''=H) H→pW e (fun r' H''=>r'=r∧H''=H') H':=by
   intro e he
   obtain ⟨p,r',rfl,hp,hk,-⟩:=DU he;exact ⟨hp,hk,rfl⟩
  cases i <;> simp only [cls] at hc h0 <;> try (first | omega | exact absurd trivial h0)
  case ld n x =>
   simp only [E1] at h ⊢
   cases hv : val σ x with
   | none=>rw [hv] at h; unfold VV at h ⊢; exact pv _ h
   | some v =>
    rw [hv] at h
    cases v <;> try (unfold VV at h ⊢; exact pv _ h)
    rename_i id off
    simp only [VV] at h ⊢
    cases ho : H.get id with
    | none=>rw [ho] at h; cases n <;> exact h.elim
    | some o =>
     rw [ho] at h;rw [hs _ _ ho]
     cases o with
     | map _ _=>cases n <;> exact h.elim
     | cells sz cs f=>cases n <;> exact ⟨h.1,h.2.1,rfl⟩
  case jD z n x =>
   simp only [E1] at h ⊢
   cases hv : val σ x with
   | none=>rw [hv] at h; exact h.elim
   | some v =>
    rw [hv] at h
    cases v <;> try exact h.elim
    rename_i id off
    simp only [ZO] at h ⊢
    obtain ⟨⟨cs,f,ho⟩,h⟩:=h;rw [ho] at h;rw [hs _ _ ho]
    cases n <;> exact ⟨⟨cs,f,rfl⟩,h.1,h.2.1,rfl⟩
  case aS s ok z m k =>
   simp only [E1] at h ⊢
   cases hm : val σ m with
   | none=>rw [hm] at h; exact h.elim
   | some mv =>
    cases hk : val σ k with
    | none=>rw [hm,hk] at h; cases mv <;> exact h.elim
    | some kv =>
     rw [hm,hk] at h
     cases mv <;> try exact h.elim
     ·exact ⟨h.1,h.2.1,rfl⟩
     ·rename_i id
      simp only [Z0] at h ⊢
      cases ho : H.get id with
      | none=>rw [ho] at h; exact h.elim
      | some o =>
       rw [ho] at h;rw [hs _ _ ho]
       cases o with
       | cells _ _ _=>exact h.elim
       | map _ _=>exact ⟨h.1,h.2.1,rfl⟩
  case mB z x lo hi =>
   simp only [E1] at h ⊢
   cases hm : val σ x with
   | none=>rw [hm] at h; exact h.elim
   | some mv =>
    rw [hm] at h
    cases mv <;> try exact h.elim
    rename_i id n
    simp only [WS] at h ⊢
    cases ho : H.get id with
    | none=>rw [ho] at h; exact h.elim
    | some o =>
     rw [ho] at h;rw [hs _ _ ho]
     cases o with
     | map _ _=>exact h.elim
     | cells _ _ _=>exact ⟨h.1,pv _ h.2⟩
  case Sy x =>
   simp only [E1] at h ⊢
   cases hm : val σ x with
   | none=>rw [hm] at h; exact h.elim
   | some mv =>
    rw [hm] at h
    cases mv <;> try exact h.elim
    rename_i id
    simp only [tE] at h ⊢
    cases ho : H.get id with
    | none=>rw [ho] at h; exact h.elim
    | some o =>
     rw [ho] at h;rw [hs _ _ ho]
     cases o with
     | cells _ _ _=>exact h.elim
     | map _ _=>exact ⟨h.1,rfl⟩
theorem yO {i : Ins} {z : Nat} (hz : qg i=some z) {r : AV} {H H' : AA} (hs : H.QH z H') (h : E1 P B (fun r' H''=>r'=r∧H''=H) σ H i) : E1 P B (fun r' H''=>r'=r∧H''=H') σ H' i:=by
 cases i <;> simp only [qg,reduceCtorEq] at hz
 rename_i z' n x
 cases hz;simp only [E1] at h ⊢
 cases hv : val σ x with
 | none=>rw [hv] at h; exact h.elim
 | some v =>
  rw [hv] at h
  cases v <;> try exact h.elim
  rename_i id off
  simp only [ZO] at h ⊢
  obtain ⟨⟨cs,f,ho⟩,h⟩:=h;rw [ho] at h;rw [hs _ _ _ ho]
  cases n <;> exact ⟨⟨cs,f,rfl⟩,h.1,h.2.1,rfl⟩
theorem oS {i i' : Ins} (hc : cls i<2) (hk : kp i i'=true) {r : AV} {H H' : AA} (hs : Kp i' H H') (h : E1 P B (fun r' H''=>r'=r∧H''=H) σ H i) : E1 P B (fun r' H''=>r'=r∧H''=H') σ H' i:=by
 simp only [kp,Bool.or_eq_true] at hk
 rcases hk with hk | hk
 ·exact dX hc (hs.1 hk) h
 ·cases hz : qg i with
  | none=>rw [hz] at hk; cases hk
  | some z=>rw [hz] at hk; exact yO hz (hs.2 z hk) h
end
def Cp (ops : Array Oper) (i : Nat) : List Nat :=
 match ops[i]? with
 | some o=>(o.after.toList.filter (Region.binds .any ·)).map (·.on)
 | none=>[]
def WZ (ops : Array Oper) : Nat→Nat→List (List Nat)→List (List Nat)
 | 0,_,acc=>acc
 | n+1,i,acc=>WZ ops n (i+1) (acc++[((Cp ops i).flatMap fun j=>j::acc.getD j []).eraseDups])
def Uc (ops : Array Oper) : List Nat→List Nat→Bool
 | _,[]=>true
 | done,i::r=>(Cp ops i).all (done.contains ·) && Uc ops (i::done) r
def iK (s : Cx) : List Nat:=match s.d with | some d=>[d] | none=>[]
def KI (s s' : Cx) : Bool :=
 cls s.i == 2 || (cls s.i == 1 && (cls s'.i == 2 && !kp s.i s'.i)) || (iK s).any ((looks s').contains ·) || (iK s').any ((looks s).contains ·)
def MK (cl : List (List Nat)) (i : Nat) (s : Cx) (j : Nat) (s' : Cx) : Bool :=
 (i != j) && !((iK s).any ((iK s').contains ·)) && (!KI s s' || (cl.getD j []).contains i)
def Xk (cl : List (List Nat)) : List Nat→List Cx→Bool
 | i::r,s::rs=>((r.zip rs).all fun x=>MK cl i s x.1 x.2) && Xk cl r rs
 | _,_=>true
def Re (ops : Array Oper) (sops : List Cx) (perm : List Nat) : Bool :=
 perm.length == ops.size && perm.all (fun i=>decide (i<ops.size)) && (List.range ops.size).all (perm.contains ·) && Uc ops [] perm && Xk (WZ ops ops.size 0 []) perm sops
end Go.AW
namespace Go.AW
open Go.RowKit
def Fj (D : Array Bool) (i : Nat) : Prop:=D.getD i true=true
def Down (ops : Array Oper) (D : Array Bool) : Prop:=∀ i,i<ops.size→Fj D i→∀ j,j∈Cp ops i→Fj D j
theorem G6 {ops : Array Oper} {D : Array Bool} (hs : D.size=ops.size) {i : Nat} : i∈Region.ready .any ops D↔i<ops.size∧¬ Fj D i∧∀ j,j∈Cp ops i→D.getD j false=true:=by
 simp only [Region.ready,List.mem_filter,List.mem_range,Bool.and_eq_true,Bool.not_eq_true',Fj]
 constructor
 ·rintro ⟨h1,h2,h3⟩;refine ⟨h1,by simp [h2],fun j hj=>?_⟩;unfold Cp at hj
  cases ho : ops[i]? with
  | none=>simp [ho] at hj
  | some o =>
   simp only [ho,List.mem_map,List.mem_filter] at hj
   obtain ⟨e,⟨iV,iZ⟩,rfl⟩:=hj;simp only [ho,Option.map_some,Option.getD_some,Array.all_eq_true_iff_forall_mem] at h3
   have:=h3 e (by simpa using iV);rw [iZ] at this
   simpa using this
 ·rintro ⟨h1,h2,h3⟩;refine ⟨h1,by simpa using h2, ?_⟩
  have ho : ops[i]? = some ops[i]:=by simp [h1]
  simp only [ho,Option.map_some,Option.getD_some,Array.all_eq_true_iff_forall_mem]
  intro e he
  cases hb : Region.binds .any e with
  | false=>simp
  | true =>
   have:=h3 e.on (by
    unfold Cp;rw [ho];simp only [List.mem_map,List.mem_filter];exact ⟨e,⟨by simpa using he,hb⟩,rfl⟩)
   simpa using this
theorem GN {ops : Array Oper} {D : Array Bool} (hd : Down ops D) : ∀ (n i : Nat) (acc : List (List Nat)),acc.length=i →
  (∀ k,k<i→∀ j,j∈acc.getD k []→(∀ e,e∈Cp ops k→Fj D e)→Fj D j) →
  i+n≤ops.size→∀ k,k<i+n→∀ j,j∈(WZ ops n i acc).getD k []→(∀ e,e∈Cp ops k→Fj D e)→Fj D j
 | 0,i,acc,hl,l5,_,k,hk,j,hj,he=>l5 k (by omega) j hj he
 | n+1,i,acc,hl,l5,hn,k,hk,j,hj,he=>by
  refine GN hd n (i+1) _ (by simp [hl]) ?_ (by omega) k (by omega) j hj he
  intro k' JP j' V4 se;rw [gE] at V4
  by_cases sQ : k'=i
  ·subst sQ;rw [List.getElem?_append_right (by omega)] at V4;simp only [hl,Nat.sub_self,List.getElem?_cons_zero,Option.getD_some,List.mem_eraseDups,List.mem_flatMap,List.mem_cons] at V4
   obtain ⟨e,h1,h2⟩:=V4
   have hle:=se e h1
   rcases h2 with rfl | h2
   ·exact hle
   ·have D3 : e<k':=by
     rcases Nat.lt_or_ge e k' with h | h
     ·exact h
     ·rw [gE,List.getElem?_eq_none (by omega)] at h2
      simp at h2
    exact l5 e D3 j' h2 fun e' iZ=>hd e (by omega) hle e' iZ
  ·rw [List.getElem?_append_left (by omega),← gE] at V4;exact l5 k' (by omega) j' V4 se
section
variable {P : Program} {B N : Nat} {ops : Array Oper} {hs : List Nat}
def Of (P : Program) (N : Nat) (ops : Array Oper) (hs : List Nat) (i : Nat) (s : Cx) : Prop:=∃ o,ops[i]? = some o∧EB P N ops (hs.getD i 0) o=some s
theorem IE : ∀ {l : List Nat} {sops : List Cx},Bj P N ops hs l=some sops→sops.length=l.length∧∀ v,v<l.length→Of P N ops hs (l.getD v 0) (sops.getD v default)
 | [],sops,h=>by cases h; simp
 | i::r,sops,h=>by
  unfold Bj at h
  cases ho : ops[i]? with
  | none=>simp [ho] at h
  | some o =>
   simp only [ho] at h
   cases RG : EB P N ops (hs.getD i 0) o with
   | none=>simp only [RG,JL,reduceCtorEq] at h
   | some so =>
    cases Sw : Bj P N ops hs r with
    | none=>simp only [RG,Sw,JL,reduceCtorEq] at h
    | some sr =>
     simp only [RG,Sw,JL,Option.some.injEq] at h;subst h
     obtain ⟨h1,h2⟩:=IE Sw;refine ⟨by simp [h1],fun v hv=>?_⟩
     cases v with
     | zero=>exact ⟨o,ho,RG⟩
     | succ v=>simpa using h2 v (by simpa using hv)
theorem Of.dst {i : Nat} {s : Cx} (h : Of P N ops hs i s) : ∃ o,ops[i]? = some o∧o.dst=s.d∧E0 P (hs.getD i 0) o.op=some s.i∧Ei ops o.guard=some s.g∧Ns N s.i s.d=true:=by
 obtain ⟨o,ho,hc⟩:=h;unfold EB at hc
 cases Km : E0 P (hs.getD i 0) o.op with
 | none=>simp only [Km,reduceCtorEq] at hc
 | some ins =>
  cases hg : Ei ops o.guard with
  | none=>simp only [Km,hg,reduceCtorEq] at hc
  | some gd =>
   simp only [Km,hg] at hc
   split at hc
   ·rename_i hd; cases hc; exact ⟨o,ho,rfl,Km,hg,hd⟩
   ·cases hc
theorem GM {i : Nat} {s : Cx} (Ju : Of P N ops hs i s) {σ : Env} {H : AA} {g : Gh} {w : World} {a : Act} {Q : Exit→Act→World→Prop} {next : Act→World→Prop} {K : Ap}
  (hW : Ao g B H w) (hE : Cc g (Env.BA (looks s) σ) a.tmps)
  (hk : match s.g with | none=>E1 P B K σ H s.i | some (t,b)=>∃ q,σ.get t=some q∧(q=.bool b∨WL b q)∧(q=.bool b→E1 P B K σ H s.i))
  (Io : ∀ v w',Dj g B w K v w'→(match s.g with | none=>True | some (t,b)=>σ.get t=some (.bool b))→next (a.put s.d v) w')
  (RO : ∀ t b,s.g=some (t,b)→(∃ q,σ.get t=some q∧WL b q)→next (a.put s.d undef) w) : wpOp P ops Q i next a w:=by
 obtain ⟨o,ho,hd,Km,hg,Zn⟩:=Ju.dst;unfold wpOp;simp only [ho]
 have nM : ∀ t,t∈looks s→(Env.BA (looks s) σ).get t=σ.get t:=by
  intro t ht
  generalize looks s=l at ht
  induction l with
  | nil=>simp at ht
  | cons x r ih =>
   simp only [Env.BA,Env.get]
   split
   ·rename_i e; rw [e]
   ·rename_i e
    rcases List.mem_cons.1 ht with h | h
    ·exact absurd h e
    ·exact ih h
 have fx : ∀ K',E1 P B K' σ H s.i=E1 P B K' (Env.BA (looks s) σ) H s.i:=fun K'=>Ya fun t ht=>(nM t (by unfold looks; exact List.mem_append_right _ ht)).symm
 have iU : E1 P B K σ H s.i→(match s.g with | none=>True | some (t,b)=>σ.get t=some (.bool b))→o.wp P a w next Q:=by
  intro Qa vF;rw [fx] at Qa
  have hf:=U6 (a:=a) Km hW hE Qa;refine R7 hf fun v w' hfv=>?_;rw [hd];exact Io v w' hfv vF
 cases Su : o.guard with
 | none =>
  rw [Su] at hg
  simp [Ei] at hg;rw [← hg] at hk iU;simp only [Region.wanted,Su,if_true];exact .inl (iU hk trivial)
 | some jb =>
  obtain ⟨j,b⟩:=jb;rw [Su] at hg;simp only [Ei] at hg
  cases hj : (ops[j]?).bind (·.dst) with
  | none=>simp [hj] at hg
  | some t =>
   simp only [hj,Option.some.injEq] at hg;rw [← hg] at hk iU
   obtain ⟨q,RJ,vU,Mb⟩:=hk
   have ht : t∈looks s:=by unfold looks; rw [← hg]; simp
   obtain ⟨D3,Mg⟩:=hE t q (by rw [nM t ht]; exact RJ)
   have Cn : a.tmps[t]? = some (a.tmps.getD t undef):=getD_some D3;simp only [Region.wanted,Su]
   rcases vU with rfl | gJ
   ·have hy : yielded ops a.tmps j=some b:=by
     unfold yielded;rw [hj]
     generalize a.tmps.getD t undef=u at Mg Cn
     cases Mg
     simp [Cn]
    rw [hy];simp only [beq_self_eq_true,if_true];exact .inl (iU (Mb rfl) RJ)
   ·have hy : (yielded ops a.tmps j == some b)=false:=by
     unfold yielded;rw [hj]
     generalize a.tmps.getD t undef=u at Mg Cn
     rcases gJ with rfl | ⟨cs,rfl⟩ <;> cases Mg <;> simp [Cn]
    rw [hy];simp only [Bool.false_eq_true,if_false];rw [hd];exact RO t b hg.symm ⟨q,RJ,gJ⟩
end
end Go.AW
namespace Go.AW
open Go.RowKit
structure Iu (P : Program) (N : Nat) (ops : Array Oper) (hs : List Nat) (n : Nat) (p : Nat→Nat) (s : Nat→Cx) (ex : Nat→Bool) : Prop where
 size : ops.size=n
 lt : ∀ u,u<n→p u<n
 inj : ∀ u u',u<n→u'<n→p u=p u'→u=u'
 rG : ∀ i,i<n→∃ u,u<n∧p u=i
 of : ∀ u,u<n→Of P N ops hs (p u) (s u)
 topo : ∀ u,u<n→∀ j,j∈Cp ops (p u)→∃ u',u'<u∧p u'=j
 gG : ∀ u u',u<u'→u'<n→∀ d,(s u).d=some d→(s u').d≠some d
 kc : ∀ u,u<n→ex u=true→cls (s u).i=2
 KI : ∀ u u',u<u'→u'<n→ex u=false→KI (s u) (s u')=true→∀ D,Down ops D→(∀ e,e∈Cp ops (p u')→Fj D e)→Fj D (p u)
section
variable {P : Program} {B N : Nat} {ops : Array Oper} {hs : List Nat} {n : Nat} {p : Nat→Nat} {s : Nat→Cx} {ex : Nat→Bool} {kx : Nat} {F : Env→AA→Prop} {σ0 : Env}
def mK (P : Program) (B : Nat) (s : Cx) (σu σ : Env) (H : AA) (r : AV) : Prop:=E1 P B (fun r' H'=>r'=r∧H'=H) σu H s.i∧∀ d,s.d=some d→σ.get d=some r
def jS (P : Program) (B : Nat) (s : Nat→Cx) (σ0 : Env) (u : Nat) (σ : Env) (H : AA) : Prop :=
 ∃ σu : Env,(∀ t,t∈looks (s u)→(∀ u',u'<u→(s u').d=some t→σu.get t=σ.get t)∧((∀ u',u'<u→(s u').d≠some t)→σu.get t=σ0.get t)) ∧
  match (s u).g with
  | none=>∃ r,mK P B (s u) σu σ H r
  | some (t,b)=>(σu.get t=some (.bool b)∧∃ r,mK P B (s u) σu σ H r)∨((∃ q,σu.get t=some q∧WL b q)∧∀ d,(s u).d=some d→σ.get d=some nv)
structure Inv (P : Program) (B N : Nat) (ops : Array Oper) (n : Nat) (p : Nat→Nat) (s : Nat→Cx) (ss : List Cx) (F : Env→AA→Prop) (σ0 : Env)
  (D : Array Bool) (v : Nat) (σ : Env) (g : Gh) (H : AA) (w : World) (a : Act) : Prop where
 dsz : D.size=ops.size
 down : Down ops D
 vle : v≤n
 pre : ∀ u,u<n→Fj D (p u)→u<v
 wr : ∀ u,u<v→cls (s u).i=2→Fj D (p u)
 Kn : ∀ t x,σ0.get t=some x→(∀ u,u<n→(s u).d=some t→¬ Fj D (p u))→t<a.tmps.size∧Ad g x (a.tmps.getD t undef)
 new : ∀ u,u<v→Fj D (p u)→∀ t,(s u).d=some t→∀ x,σ.get t=some x→t<a.tmps.size∧Ad g x (a.tmps.getD t undef)
 pend : ∀ u,u<v→¬ Fj D (p u)→jS P B s σ0 u σ H
 same : ∀ t,(∀ u,u<v→(s u).d≠some t)→σ.get t=σ0.get t
 go : CF P B (ss.drop v) F σ H
 rel : Ao g B H w
 size : a.tmps.size=N
theorem Qm {ss : List Cx} {u : Nat} {x : Cx} (h : ss[u]? = some x) : ss.drop u=x::ss.drop (u+1):=by
 obtain ⟨hu,rfl⟩:=List.getElem?_eq_some_iff.mp h;exact List.drop_eq_getElem_cons hu
def DG (d : Option Nat) (σ : Env) (r : Option AV) : Env :=
 match d with
 | some d=>(d,r)::σ
 | none=>σ
theorem IG {d : Option Nat} {σ : Env} {r : Option AV} {t : Nat} (h : d≠some t) : (DG d σ r).get t=σ.get t:=by
 cases d with
 | none=>rfl
 | some d =>
  have : t≠d:=by rintro rfl; exact h rfl
  simp [DG,Env.get,this]
theorem Hw {d : Nat} {σ : Env} {r : Option AV} : (DG (some d) σ r).get d=r:=by simp [DG,Env.get]
theorem Qz {so : Cx} {rest : List Cx} {σ : Env} {H : AA} (h : CF P B (so::rest) F σ H) :
  match so.g with
  | none=>E1 P B (DP so.d (CF P B rest F) σ) σ H so.i
  | some (t,b)=>∃ q,σ.get t=some q∧(q=.bool b∨WL b q)∧(q=.bool b→E1 P B (DP so.d (CF P B rest F) σ) σ H so.i)∧(WL b q→CF P B rest F (Hr so.d σ) H):=by
 obtain ⟨d,gd,i⟩:=so
 cases gd with
 | none=>exact h
 | some tb =>
  obtain ⟨t,b⟩:=tb;simp only [CF] at h;unfold iE at h
  split at h
  ·rename_i c hc
   refine ⟨_,hc, ?_,fun e=>h.1 (by cases e; rfl),fun e=>h.2 (by rcases e with e | ⟨cs,e⟩ <;> cases e; rfl)⟩
   by_cases e : c=b
   ·exact .inl (by rw [e])
   ·exact .inr (.inl (by cases c <;> cases b <;> simp_all))
  ·rename_i cs hc
   exact ⟨_,hc,.inr (.inr ⟨cs,rfl⟩),fun e=>(by cases e),fun _=>h⟩
  ·exact h.elim
theorem G3 {d : Option Nat} {σ : Env} {r : AV} {H : AA} {G : Env→AA→Prop} (h : DP d G σ r H) : G (DG d σ (some r)) H:=by
 cases d <;> exact h
theorem La (d : Option Nat) (σ : Env) : Hr d σ=DG d σ (some nv):=by cases d <;> rfl
theorem cU (g : Gh) : Ad g nv undef:=.CK [] #[] rfl (fun i hi=>by simp at hi)
theorem advance {ss : List Cx} (pl : Iu P N ops hs n p s ex) (lim : Nat) (rW : lim≤n) (hle : lim<n→cls (s lim).i=2) (Hf : ∀ u,u<lim→ss[u]? = some (s u)) {D : Array Bool} {g : Gh} {H : AA} {w : World} {a : Act} :
  ∀ (m v : Nat) (σ : Env),n - v=m→v≤lim→Inv P B N ops n p s ss F σ0 D v σ g H w a→∃ v' σ',Inv P B N ops n p s ss F σ0 D v' σ' g H w a∧v≤v'∧v'≤lim∧(v'<n→cls (s v').i=2)
 | 0,v,σ,hm,Wz,I=>⟨v,σ,I,Nat.le_refl _,Wz,fun h=>by omega⟩
 | m+1,v,σ,hm,Wz,I=>by
  have hv : v<n:=by omega
  by_cases hc : cls (s v).i=2
  ·exact ⟨v,σ,I,Nat.le_refl _,Wz,fun _=>hc⟩
  ·have iW : cls (s v).i<2:=by
    have : cls (s v).i≤2:=by
     generalize (s v).i=i
     cases i <;> simp [cls]
    omega
   have hvl' : v<lim:=by
    rcases Nat.lt_or_ge v lim with h | h
    ·exact h
    ·have e : v=lim:=by omega
     subst e;exact absurd (hle hv) hc
   have gX:=Qm (Hf v hvl')
   have Px:=I.go;rw [gX] at Px
   have Ls:=Qz Px
   have hnv : ¬ Fj D (p v):=fun h=>by have:=I.pre v hv h; omega
   have key : ∃ ro : Option AV,CF P B (ss.drop (v+1)) F (DG (s v).d σ ro) H ∧
     (match (s v).g with
     | none=>∃ r,ro=some r∧E1 P B (fun r' H'=>r'=r∧H'=H) σ H (s v).i
     | some (t,b)=>(σ.get t=some (.bool b)∧∃ r,ro=some r∧E1 P B (fun r' H'=>r'=r∧H'=H) σ H (s v).i)∨((∃ q,σ.get t=some q∧WL b q)∧ro=some nv)):=by
    cases hg : (s v).g with
    | none =>
     rw [hg] at Ls
     obtain ⟨r,h1,h2⟩:=det iW Ls;exact ⟨some r,G3 h2,r,rfl,h1⟩
    | some tb =>
     obtain ⟨t,b⟩:=tb;rw [hg] at Ls
     obtain ⟨q,e1,e0,e2,e3⟩:=Ls
     rcases e0 with rfl | gJ
     ·obtain ⟨r,h1,h2⟩:=det iW (e2 rfl);exact ⟨some r,G3 h2,.inl ⟨e1,r,rfl,h1⟩⟩
     ·exact ⟨some nv,by rw [← La]; exact e3 gJ,.inr ⟨⟨q,e1,gJ⟩,rfl⟩⟩
   obtain ⟨ro,k1,k2⟩:=key
   have Bq : ∀ u,u<v→∀ t,(s u).d=some t→(DG (s v).d σ ro).get t=σ.get t:=fun u hu t ht=>IG (pl.gG u v hu hv t ht)
   suffices hI : Inv P B N ops n p s ss F σ0 D (v+1) (DG (s v).d σ ro) g H w a by
    obtain ⟨v',σ',I',h1,h2,h3⟩:=advance pl lim rW hle Hf m (v+1) _ (by omega) (by omega) hI;exact ⟨v',σ',I',by omega,h2,h3⟩
   refine ⟨I.dsz,I.down,hv,fun u hu h=>by have:=I.pre u hu h; omega, ?_,I.Kn, ?_, ?_, ?_,k1,I.rel,I.size⟩
   ·intro u hu h2
    by_cases e : u=v
    ·subst e; omega
    ·exact I.wr u (by omega) h2
   ·intro u hu hl t ht x hx
    by_cases e : u=v
    ·subst e; exact absurd hl hnv
    ·rw [Bq u (by omega) t ht] at hx;exact I.new u (by omega) hl t ht x hx
   ·intro u hu hl
    by_cases e : u=v
    ·subst e;refine ⟨σ,fun t ht=>⟨fun u' Lv Mc=>(Bq u' Lv t Mc).symm,fun Ev=>I.same t Ev⟩, ?_⟩
     cases hg : (s u).g with
     | none =>
      rw [hg] at k2
      obtain ⟨r,rfl,h1⟩:=k2;exact ⟨r,h1,fun d hd=>by rw [hd]; exact Hw⟩
     | some tb =>
      obtain ⟨t,b⟩:=tb;rw [hg] at k2
      rcases k2 with ⟨h1,r,rfl,h2⟩ | ⟨h1,rfl⟩
      ·exact .inl ⟨h1,r,h2,fun d hd=>by rw [hd]; exact Hw⟩
      ·exact .inr ⟨h1,fun d hd=>by rw [hd]; exact Hw⟩
    ·have Lv : u<v:=by omega
     obtain ⟨σu,q1,q2⟩:=I.pend u Lv hl;refine ⟨σu,fun t ht=>⟨fun u' hu'' Mc=>by rw [Bq u' (by omega) t Mc]; exact (q1 t ht).1 u' hu'' Mc,(q1 t ht).2⟩, ?_⟩
     cases hg : (s u).g with
     | none =>
      rw [hg] at q2
      obtain ⟨r,h1,h2⟩:=q2;exact ⟨r,h1,fun d hd=>by rw [Bq u Lv d hd]; exact h2 d hd⟩
     | some tb =>
      obtain ⟨t,b⟩:=tb;rw [hg] at q2
      rcases q2 with ⟨h1,r,h2,h3⟩ | ⟨h1,h2⟩
      ·exact .inl ⟨h1,r,h2,fun d hd=>by rw [Bq u Lv d hd]; exact h3 d hd⟩
      ·exact .inr ⟨h1,fun d hd=>by rw [Bq u Lv d hd]; exact h2 d hd⟩
   ·intro t Ev;rw [IG (Ev v (by omega))];exact I.same t fun u hu=>Ev u (by omega)
theorem Dq {D : Array Bool} {i j : Nat} (hi : i<D.size) : Fj (D.setIfInBounds i true) j↔j=i∨Fj D j:=by
 unfold Fj;simp only [Array.getD_eq_getD_getElem?,Array.getElem?_setIfInBounds]
 by_cases h : i=j
 ·subst h; simp [hi]
 ·simp [h,Ne.symm h]
theorem TZ {D : Array Bool} {i : Nat} (hd : Down ops D) (hi : i<D.size) (he : ∀ j,j∈Cp ops i→Fj D j) : Down ops (D.setIfInBounds i true):=by
 intro k hk hl j hj;rw [Dq hi] at hl ⊢
 rcases hl with rfl | hl
 ·exact .inr (he j hj)
 ·exact .inr (hd k hk hl j hj)
theorem dD {s s' : Cx} {d : Nat} (hd : s.d=some d) (hl : d∈looks s') : KI s s'=true:=by
 simp [KI,iK,hd,hl]
theorem dK {s s' : Cx} {d : Nat} (hd : s'.d=some d) (hl : d∈looks s) : KI s s'=true:=by
 simp [KI,iK,hd,hl]
theorem M1 {ss : List Cx} (pl : Iu P N ops hs n p s ex) {D : Array Bool} {v : Nat} {σ σu : Env} {g : Gh} {H : AA} {w : World} {a : Act} (I : Inv P B N ops n p s ss F σ0 D v σ g H w a) {u : Nat} (hu : u<n) (Zv : u≤v)
  (K8 : ¬ Fj D (p u)) (E5 : ∀ e,e∈Cp ops (p u)→Fj D e)
  (nL : ∀ t,t∈looks (s u)→(∀ u',u'<u→(s u').d=some t→σu.get t=σ.get t)∧((∀ u',u'<u→(s u').d≠some t)→σu.get t=σ0.get t)) :
  Cc g (Env.BA (looks (s u)) σu) a.tmps:=by
 intro t x hx
 have ht : t∈looks (s u):=by
  generalize looks (s u)=l at hx
  induction l with
  | nil=>simp [Env.BA,Env.get] at hx
  | cons y r ih =>
   simp only [Env.BA,Env.get] at hx
   split at hx
   ·rename_i e; rw [e]; simp
   ·exact List.mem_cons_of_mem _ (ih hx)
 have IZ:=Env.Tc _ _ _ _ hx
 by_cases hw : ∃ u',u'<u∧(s u').d=some t
 ·obtain ⟨u',h1,h2⟩:=hw
  have hl : Fj D (p u'):=by
   cases hx : ex u' with
   | true=>exact I.wr u' (by omega) (pl.kc u' (by omega) hx)
   | false=>exact pl.KI u' u h1 hu hx (dD h2 ht) D I.down E5
  rw [(nL t ht).1 u' h1 h2] at IZ;exact I.new u' (by omega) hl t h2 x IZ
 ·have Ev : ∀ u',u'<u→(s u').d≠some t:=fun u' h1 h2=>hw ⟨u',h1,h2⟩;rw [(nL t ht).2 Ev] at IZ;refine I.Kn t x IZ fun u'' h1 h2 hl=>?_
  rcases Nat.lt_trichotomy u'' u with h | h | h
  ·exact Ev u'' h h2
  ·subst h; exact K8 hl
  ·cases hx : ex u with
   | true=>exact K8 (I.wr u (by have:=I.pre u'' h1 hl; omega) (pl.kc u hu hx))
   | false=>exact K8 (pl.KI u u'' h h1 hx (dK h2 ht) D I.down (I.down (p u'') (by rw [pl.size]; exact pl.lt u'' h1) hl))
theorem PN {ss : List Cx} (pl : Iu P N ops hs n p s ex) {D : Array Bool} {v : Nat} {σ : Env} {g g' : Gh} {H : AA} {w w' : World} {a : Act} (I : Inv P B N ops n p s ss F σ0 D v σ g H w a) {u : Nat} (hu : u<n) (Zv : u<v)
  (K8 : ¬ Fj D (p u)) (E5 : ∀ e,e∈Cp ops (p u)→Fj D e) (x : Value) (hg : g.le g') (hW : Ao g' B H w')
  (hx : ∀ d,(s u).d=some d→∀ r,σ.get d=some r→Ad g' r x) : Inv P B N ops n p s ss F σ0 (D.setIfInBounds (p u) true) v σ g' H w' (a.put (s u).d x):=by
 have CW : p u<D.size:=by rw [I.dsz,pl.size]; exact pl.lt u hu
 have QU : ∀ t,(s u).d≠some t→(a.put (s u).d x).tmps.getD t undef=a.tmps.getD t undef:=by
  intro t ht
  cases hd : (s u).d with
  | none=>rfl
  | some d =>
   have : d≠t:=by rintro rfl; exact ht hd
   simp only [Act.put,Array.getD_eq_getD_getElem?];rw [Array.getElem?_setIfInBounds_ne this]
 refine ⟨by simp [I.dsz],TZ I.down CW E5,I.vle, ?_, ?_, ?_, ?_, ?_,I.same,I.go,hW,by rw [DM]; exact I.size⟩
 ·intro u' h1 h2;rw [Dq CW] at h2
  rcases h2 with h2 | h2
  ·rw [pl.inj u' u h1 hu h2]; exact Zv
  ·exact I.pre u' h1 h2
 ·intro u' h1 h2;rw [Dq CW]; exact .inr (I.wr u' h1 h2)
 ·intro t y hy Ev
  have Bq : (s u).d≠some t:=fun e=>Ev u hu e (by rw [Dq CW]; exact .inl rfl)
  obtain ⟨q1,q2⟩:=I.Kn t y hy fun u' h1 h2 h3=>Ev u' h1 h2 (by rw [Dq CW]; exact .inr h3);rw [DM,QU t Bq];exact ⟨q1,q2.mono hg⟩
 ·intro u' h1 h2 t ht y hy;rw [Dq CW] at h2
  by_cases e : u'=u
  ·subst e
   have FJ:=(pl.of u' hu).dst
   obtain ⟨o,ho,hd,Km,IJ,Zn⟩:=FJ;rw [ht] at Zn;simp only [Ns,Bool.and_eq_true,decide_eq_true_eq] at Zn
   have D3 : t<a.tmps.size:=by rw [I.size]; exact Zn.1
   refine ⟨by rw [DM]; exact D3, ?_⟩
   have : (a.put (s u').d x).tmps.getD t undef=x:=by
    rw [ht]; simp [Act.put,Array.getD_eq_getD_getElem?,D3]
   rw [this];exact hx t ht y hy
  ·rcases h2 with h2 | h2
   ·exact absurd (pl.inj u' u (by have:=I.vle; omega) hu h2) e
   ·have Bq : (s u).d≠some t:=by
     intro e2
     have hu'n : u'<n:=by have:=I.vle; omega
     rcases Nat.lt_trichotomy u' u with h | h | h
     ·exact pl.gG u' u h hu t ht e2
     ·exact e h
     ·exact pl.gG u u' h hu'n t e2 ht
    obtain ⟨q1,q2⟩:=I.new u' h1 h2 t ht y hy;rw [DM,QU t Bq];exact ⟨q1,q2.mono hg⟩
 ·intro u' h1 h2;rw [Dq CW] at h2;exact I.pend u' h1 fun h=>h2 (.inr h)
theorem MM {ss : List Cx} (pl : Iu P N ops hs n p s ex) {D : Array Bool} {v : Nat} {σ : Env} {g g' : Gh} {H H' : AA} {w w' : World} {a : Act} (I : Inv P B N ops n p s ss F σ0 D v σ g H w a) (hv : v<n)
  (hc : cls (s v).i=2) (K8 : ¬ Fj D (p v)) (E5 : ∀ e,e∈Cp ops (p v)→Fj D e) (x : Value) (ro : Option AV) (hg : g.le g') (hW : Ao g' B H' w')
  (hx : ∀ r,ro=some r→Ad g' r x) (XA : Kp (s v).i H H') (Px : CF P B (ss.drop (v+1)) F (DG (s v).d σ ro) H') :
  Inv P B N ops n p s ss F σ0 (D.setIfInBounds (p v) true) (v+1) (DG (s v).d σ ro) g' H' w' (a.put (s v).d x):=by
 have CW : p v<D.size:=by rw [I.dsz,pl.size]; exact pl.lt v hv
 have QU : ∀ t,(s v).d≠some t→(a.put (s v).d x).tmps.getD t undef=a.tmps.getD t undef:=by
  intro t ht
  cases hd : (s v).d with
  | none=>rfl
  | some d =>
   have : d≠t:=by rintro rfl; exact ht hd
   simp only [Act.put,Array.getD_eq_getD_getElem?];rw [Array.getElem?_setIfInBounds_ne this]
 have Bq : ∀ u,u<v→∀ t,(s u).d=some t→(DG (s v).d σ ro).get t=σ.get t:=fun u hu t ht=>IG (pl.gG u v hu hv t ht);refine ⟨by simp [I.dsz],TZ I.down CW E5,hv, ?_, ?_, ?_, ?_, ?_, ?_,Px,hW,by rw [DM]; exact I.size⟩
 ·intro u' h1 h2;rw [Dq CW] at h2
  rcases h2 with h2 | h2
  ·rw [pl.inj u' v h1 hv h2]; omega
  ·have:=I.pre u' h1 h2; omega
 ·intro u' h1 h2;rw [Dq CW]
  by_cases e : u'=v
  ·subst e; exact .inl rfl
  ·exact .inr (I.wr u' (by omega) h2)
 ·intro t y hy Ev
  have hne' : (s v).d≠some t:=fun e=>Ev v hv e (by rw [Dq CW]; exact .inl rfl)
  obtain ⟨q1,q2⟩:=I.Kn t y hy fun u' h1 h2 h3=>Ev u' h1 h2 (by rw [Dq CW]; exact .inr h3);rw [DM,QU t hne'];exact ⟨q1,q2.mono hg⟩
 ·intro u' h1 h2 t ht y hy;rw [Dq CW] at h2
  by_cases e : u'=v
  ·subst e
   obtain ⟨o,ho,hd,Km,IJ,Zn⟩:=(pl.of u' hv).dst;rw [ht] at Zn;simp only [Ns,Bool.and_eq_true,decide_eq_true_eq] at Zn
   have D3 : t<a.tmps.size:=by rw [I.size]; exact Zn.1
   refine ⟨by rw [DM]; exact D3, ?_⟩
   have : (a.put (s u').d x).tmps.getD t undef=x:=by
    rw [ht]; simp [Act.put,Array.getD_eq_getD_getElem?,D3]
   rw [this];rw [ht,Hw] at hy;exact hx y hy
  ·have hu'v : u'<v:=by omega
   rcases h2 with h2 | h2
   ·exact absurd (pl.inj u' v (by omega) hv h2) e
   ·rw [Bq u' hu'v t ht] at hy
    obtain ⟨q1,q2⟩:=I.new u' hu'v h2 t ht y hy;rw [DM,QU t (pl.gG u' v hu'v hv t ht)];exact ⟨q1,q2.mono hg⟩
 ·intro u' h1 h2;rw [Dq CW] at h2
  have hne2 : u'≠v:=by rintro rfl; exact h2 (.inl rfl)
  have hu'v : u'<v:=by omega
  have rA : ¬ Fj D (p u'):=fun h=>h2 (.inr h)
  have nT : ∀ {σ' : Env} {r : AV},E1 P B (fun r' H''=>r'=r∧H''=H) σ' H (s u').i→E1 P B (fun r' H''=>r'=r∧H''=H') σ' H' (s u').i:=by
   intro σ' r h1
   have h3 : cls (s u').i≤2:=by
    generalize (s u').i=i
    cases i <;> simp [cls]
   have h4 : cls (s u').i≠2:=fun h=>rA (I.wr u' hu'v h)
   by_cases h5 : cls (s u').i=1
   ·have fW : kp (s u').i (s v).i=true:=by
     cases hk : kp (s u').i (s v).i with
     | true=>rfl
     | false =>
      refine absurd (pl.KI u' v hu'v hv ?_ (by simp [KI,h5,hc,hk]) D I.down E5) rA
      cases hx : ex u' with
      | false=>rfl
      | true=>exact absurd (pl.kc u' (by omega) hx) h4
    exact oS (by omega) fW XA h1
   ·exact bK (by omega) h1
  obtain ⟨σu,q1,q2⟩:=I.pend u' hu'v rA;refine ⟨σu,fun t ht=>⟨fun u'' hu'' Mc=>by rw [Bq u'' (by omega) t Mc]; exact (q1 t ht).1 u'' hu'' Mc,(q1 t ht).2⟩, ?_⟩
  cases IJ : (s u').g with
  | none =>
   rw [IJ] at q2
   obtain ⟨r,h1,h2⟩:=q2;exact ⟨r,nT h1,fun d hd=>by rw [Bq u' hu'v d hd]; exact h2 d hd⟩
  | some tb =>
   obtain ⟨t,b⟩:=tb;rw [IJ] at q2
   rcases q2 with ⟨h1,r,h2,h3⟩ | ⟨h1,h2⟩
   ·exact .inl ⟨h1,r,nT h2,fun d hd=>by rw [Bq u' hu'v d hd]; exact h3 d hd⟩
   ·exact .inr ⟨h1,fun d hd=>by rw [Bq u' hu'v d hd]; exact h2 d hd⟩
 ·intro t Ev;rw [IG (Ev v (by omega))];exact I.same t fun u hu=>Ev u (by omega)
theorem Sl {ss : List Cx} (pl : Iu P N ops hs n p s ex) (hJ : ss.length=n) {D : Array Bool} {v : Nat} {σ : Env} {g : Gh} {H : AA} {w : World} {a : Act} (I : Inv P B N ops n p s ss F σ0 D v σ g H w a)
  (Aj : ∀ i,i<n→Fj D i) : F σ H∧Ao g B H w∧Cc g σ a.tmps:=by
 have qU : v=n:=by
  rcases Nat.lt_or_ge v n with h | h
  ·have:=I.pre v h (Aj _ (pl.lt v h)); omega
  ·have:=I.vle; omega
 subst qU
 have Px:=I.go;rw [List.drop_eq_nil_of_le (by omega)] at Px;refine ⟨Px,I.rel,fun t x hx=>?_⟩
 by_cases hw : ∃ u,u<v∧(s u).d=some t
 ·obtain ⟨u,h1,h2⟩:=hw;exact I.new u h1 (Aj _ (pl.lt u h1)) t h2 x hx
 ·have Ev : ∀ u,u<v→(s u).d≠some t:=fun u h1 h2=>hw ⟨u,h1,h2⟩;rw [I.same t Ev] at hx;exact I.Kn t x hx fun u h1 h2=>absurd h2 (Ev u h1)
theorem HG (pl : Iu P N ops hs n p s ex) {D : Array Bool} (hd : D.size=ops.size) (h : Region.ready .any ops D=[]) : ∀ u,u<n→Fj D (p u):=by
 intro u
 induction u using Nat.strongRecOn with
 | _ u ih =>
  intro hu;refine Classical.byContradiction fun K8=>?_
  have : p u∈Region.ready .any ops D:=by
   rw [G6 hd];refine ⟨by rw [pl.size]; exact pl.lt u hu,K8,fun j hj=>?_⟩
   obtain ⟨u',h1,rfl⟩:=pl.topo u hu j hj
   have hl:=ih u' h1 (by omega)
   have D3 : p u'<D.size:=by rw [hd,pl.size]; exact pl.lt u' (by omega)
   unfold Fj at hl;simp only [Array.getD_eq_getD_getElem?] at hl ⊢
   simpa [D3] using hl
  rw [h] at this; cases this
theorem count_set {D : Array Bool} {i : Nat} (hi : i<D.size) (hf : D.getD i true=false) : (D.setIfInBounds i true).toList.count false+1=D.toList.count false:=by
 have D3 : i<D.toList.length:=by simpa using hi
 have hg : D.toList[i]=false:=by simpa [Array.getD,hi] using hf
 rw [Array.toList_setIfInBounds,List.count_set D3]
 have : 0<D.toList.count false:=List.count_pos_iff.2 (by rw [← hg]; simp);rw [hg];simp only [beq_self_eq_true,if_true,show (true == false)=false from rfl,Bool.false_eq_true,if_false];omega
theorem Rr {ss : List Cx} (pl : Iu P N ops hs n p s ex) {Q : Exit→Act→World→Prop} {fuel : Nat} {D : Array Bool} {v : Nat} {σ : Env} {g : Gh} {H : AA} {w : World} {a : Act}
  (I : Inv P B N ops n p s ss F σ0 D v σ g H w a) {u : Nat} (hu : u<n) (Zv : u<v) (K8 : ¬ Fj D (p u)) (E5 : ∀ e,e∈Cp ops (p u)→Fj D e)
  (fin : ∀ x g' w',g.le g'→Ao g' B H w'→Below B w w'→(∀ d,(s u).d=some d→∀ r,σ.get d=some r→Ad g' r x) →
      wpAny P .any ops Q fuel (D.setIfInBounds (p u) true) (a.put (s u).d x) w') : wpOp P ops Q (p u) (wpAny P .any ops Q fuel (D.setIfInBounds (p u) true)) a w:=by
 have gz:=I.pend u Zv K8
 obtain ⟨σu,q1,q2⟩:=gz
 have hE:=M1 pl I hu (by omega) K8 E5 q1
 cases IJ : (s u).g with
 | none =>
  rw [IJ] at q2
  obtain ⟨r,h1,h2⟩:=q2;refine GM (K:=fun r' H'=>r'=r∧H'=H) (pl.of u hu) I.rel hE (by rw [IJ]; exact h1) ?_ (fun t b e=>by rw [IJ] at e; cases e)
  rintro x w' ⟨g',r',H',a1,⟨rfl,rfl⟩,a3,a4,a5⟩ -;exact fin x g' w' a1 a4 a5 fun d Mc r2 BZ=>by rw [h2 d Mc] at BZ; cases BZ; exact a3
 | some tb =>
  obtain ⟨t,b⟩:=tb;rw [IJ] at q2
  rcases q2 with ⟨h1,r,h2,h3⟩ | ⟨h1,h2⟩
  ·refine GM (K:=fun r' H'=>r'=r∧H'=H) (pl.of u hu) I.rel hE (by rw [IJ]; exact ⟨_,h1,.inl rfl,fun _=>h2⟩) ?_ ?_
   ·rintro x w' ⟨g',r',H',a1,⟨rfl,rfl⟩,a3,a4,a5⟩ -;exact fin x g' w' a1 a4 a5 fun d Mc r2 BZ=>by rw [h3 d Mc] at BZ; cases BZ; exact a3
   ·intro t' b' e Bq;rw [IJ] at e; cases e
    obtain ⟨q,RJ,Mb⟩:=Bq;rw [h1] at RJ; cases RJ
    rcases Mb with Mb | ⟨cs,Mb⟩
    ·cases b <;> cases Mb
    ·cases Mb
  ·refine GM (K:=fun _ _=>True) (pl.of u hu) I.rel hE (by rw [IJ]; obtain ⟨q,q1,q2⟩:=h1; exact ⟨q,q1,.inr q2,fun e=>by subst e; rcases q2 with q2 | ⟨cs,q2⟩ <;> cases b <;> cases q2⟩) ?_ ?_
   ·intro x w' _ vF;rw [IJ] at vF;simp only at vF
    obtain ⟨q,q1,q2⟩:=h1;rw [q1] at vF; cases vF
    rcases q2 with q2 | ⟨cs,q2⟩ <;> cases b <;> cases q2
   ·intro t' b' e Bq;exact fin undef g w (.refl g) I.rel (.refl B w) fun d Mc r2 BZ=>by rw [h2 d Mc] at BZ; cases BZ; exact cU g
theorem Up {ss : List Cx} (pl : Iu P N ops hs n p s ex) {Q : Exit→Act→World→Prop} {fuel : Nat} {D : Array Bool} {u : Nat} {σ : Env} {g : Gh} {H : AA} {w : World} {a : Act}
  (I : Inv P B N ops n p s ss F σ0 D u σ g H w a) (hu : u<n) (vP : ss[u]? = some (s u)) (K8 : ¬ Fj D (p u)) (E5 : ∀ e,e∈Cp ops (p u)→Fj D e)
  (fin : ∀ x ro g' H' w',g.le g'→Ao g' B H' w'→Below B w w'→(∀ r,ro=some r→Ad g' r x)→Kp (s u).i H H'→CF P B (ss.drop (u+1)) F (DG (s u).d σ ro) H' →
      wpAny P .any ops Q fuel (D.setIfInBounds (p u) true) (a.put (s u).d x) w') : wpOp P ops Q (p u) (wpAny P .any ops Q fuel (D.setIfInBounds (p u) true)) a w:=by
 have gX:=Qm vP
 have Px:=I.go;rw [gX] at Px
 have Ls:=Qz Px
 have hE : Cc g (Env.BA (looks (s u)) σ) a.tmps:=M1 pl I hu (Nat.le_refl _) K8 E5 fun t ht=>⟨fun _ _ _=>rfl,fun Ev=>I.same t Ev⟩
 cases IJ : (s u).g with
 | none =>
  rw [IJ] at Ls;refine GM (K:=fun r' H'=>Kp (s u).i H H'∧DP (s u).d (CF P B (ss.drop (u+1)) F) σ r' H') (pl.of u hu) I.rel hE (by rw [IJ]; exact UN Ls) ?_ (fun t b e=>by rw [IJ] at e; cases e)
  rintro x w' ⟨g',r',H',a1,a2,a3,a4,a5⟩ -;exact fin x (some r') g' H' w' a1 a4 a5 (fun r hr=>by cases hr; exact a3) a2.1 (G3 a2.2)
 | some tb =>
  obtain ⟨t,b⟩:=tb;rw [IJ] at Ls
  obtain ⟨q,e1,e0,e2,e3⟩:=Ls
  have RO : ∀ t' b',(s u).g=some (t',b')→(∃ q,σ.get t'=some q∧WL b' q)→wpAny P .any ops Q fuel (D.setIfInBounds (p u) true) (a.put (s u).d undef) w:=by
   intro t' b' e Bq;rw [IJ] at e; cases e
   obtain ⟨q',RJ,Mb⟩:=Bq;rw [e1] at RJ; cases RJ;exact fin undef (some nv) g H w (.refl g) I.rel (.refl B w) (fun r hr=>by cases hr; exact cU g) ⟨fun _=>.refl H,fun z _=>(AA.sub.refl H).QH z⟩ (by rw [← La]; exact e3 Mb)
  refine GM (K:=fun r' H'=>Kp (s u).i H H'∧DP (s u).d (CF P B (ss.drop (u+1)) F) σ r' H') (pl.of u hu) I.rel hE (by rw [IJ]; exact ⟨q,e1,e0,fun h=>UN (e2 h)⟩) ?_ RO
  rintro x w' ⟨g',r',H',a1,a2,a3,a4,a5⟩ -;exact fin x (some r') g' H' w' a1 a4 a5 (fun r hr=>by cases hr; exact a3) a2.1 (G3 a2.2)
theorem WT {D : Array Bool} {l : List Nat} (sC : ∀ j,j∈l→D.getD j false=true) : ∀ e,e∈l→Fj D e:=by
 intro e he
 have:=sC e he;unfold Fj;simp only [Array.getD_eq_getD_getElem?] at this ⊢
 cases hx : D[e]? with
 | none=>simp
 | some b=>simpa [hx] using this
theorem Lx {D : Array Bool} {i fuel : Nat} (CW : i<D.size) (K8 : ¬ Fj D i) (hc : D.toList.count false=fuel+1) : (D.setIfInBounds i true).toList.count false=fuel:=by
 have hf : D.getD i true=false:=by
  cases hx : D.getD i true with
  | true=>exact absurd hx K8
  | false=>rfl
 have:=count_set CW hf;omega
theorem Rm {D : Array Bool} (hd : D.size=n) (hc : D.toList.count false=0) : ∀ i,i<n→Fj D i:=by
 intro i hi
 have D3 : i<D.size:=by omega
 unfold Fj
 have gf : false ∉ D.toList:=List.count_eq_zero.1 hc
 cases Kq : D.getD i true with
 | true=>rfl
 | false =>
  exfalso
  apply gf
  have : D[i]=false:=by simpa [Array.getD,D3] using Kq
  rw [← this]; simp
theorem Jk {ss : List Cx} (pl : Iu P N ops hs n p s ex) (hJ : ss.length=n) (Hf : ∀ u,u<n→ss[u]? = some (s u)) {g0 : Gh} {w0 : World} {df : List Deferred} {Q : Exit→Act→World→Prop}
  (hq : ∀ a' w',GP F g0 B w0 N df a' w'→Q .normal a' w') : ∀ (fuel : Nat) (D : Array Bool) (v : Nat) (σ : Env) (g : Gh) (H : AA) (w : World) (a : Act),D.toList.count false=fuel →
   Inv P B N ops n p s ss F σ0 D v σ g H w a→(v<n→cls (s v).i=2)→(∀ u,v≤u→u<n→ex u=false)→g0.le g→Below B w0 w→a.defers=df→wpAny P .any ops Q fuel D a w
 | 0,D,v,σ,g,H,w,a,hc,I,hv,jF,hg,hb,hd=>by
  have Aj:=Rm (I.dsz.trans pl.size) hc
  obtain ⟨e1,e2,e3⟩:=Sl pl hJ I Aj;refine ⟨?_,hq a w ⟨g,σ,H,hg,e1,e2,e3,hb,I.size,hd⟩⟩
  cases hr : Region.ready .any ops D with
  | nil=>rfl
  | cons i r =>
   have : i∈Region.ready .any ops D:=by rw [hr]; simp
   rw [G6 I.dsz] at this;exact absurd (Aj i (by rw [← pl.size]; exact this.1)) this.2.1
 | fuel+1,D,v,σ,g,H,w,a,hc,I,hv,jF,hg,hb,hd=>by
  refine ⟨fun hr=>?_,fun i hi=>?_⟩
  ·have iy:=HG pl I.dsz hr
   have Aj : ∀ i,i<n→Fj D i:=fun i hi=>by
    obtain ⟨u,h1,rfl⟩:=pl.rG i hi;exact iy u h1
   obtain ⟨e1,e2,e3⟩:=Sl pl hJ I Aj;exact hq a w ⟨g,σ,H,hg,e1,e2,e3,hb,I.size,hd⟩
  ·rw [G6 I.dsz] at hi
   obtain ⟨XI,K8,sC⟩:=hi
   obtain ⟨u,hu,rfl⟩:=pl.rG i (by rw [← pl.size]; exact XI)
   have E5:=WT sC
   have VA:=Lx (by rw [I.dsz]; exact XI) K8 hc
   by_cases Zv : u<v
   ·refine Rr pl I hu Zv K8 E5 fun x g' w' h1 h2 h3 h4=>?_;exact Jk pl hJ Hf hq fuel _ v σ g' H w' _ VA (PN pl I hu Zv K8 E5 x h1 h2 h4) hv jF (hg.trans h1) (hb.trans h3) (by rw [put_defers]; exact hd)
   ·have qU : v<n:=by omega
    have huv' : u=v:=by
     refine Classical.byContradiction fun Bq=>?_
     have:=pl.KI v u (by omega) hu (jF v (Nat.le_refl _) qU) (by simp [KI,hv qU]) D I.down E5
     have:=I.pre v qU this;omega
    subst huv';refine Up pl I hu (Hf u hu) K8 E5 fun x ro g' H' w' h1 h2 h3 h4 XA h5=>?_
    have I':=MM pl I qU (hv qU) K8 E5 x ro h1 h2 h4 XA h5
    obtain ⟨v',σ',I'',hle,-,T8⟩:=advance pl n (Nat.le_refl _) (fun h=>absurd h (Nat.lt_irrefl _)) Hf _ (u+1) _ rfl (by omega) I';exact Jk pl hJ Hf hq fuel _ v' σ' g' H' w' _ VA I'' T8 (fun u h1 h2=>jF u (by omega) h2) (hg.trans h1) (hb.trans h3) (by rw [put_defers]; exact hd)
theorem jS.congr {s2 : Nat→Cx} {u : Nat} {σ : Env} {H : AA} (h : ∀ u',u'≤u→s2 u'=s u') (q : jS P B s σ0 u σ H) : jS P B s2 σ0 u σ H:=by
 obtain ⟨σu,q1,q2⟩:=q;refine ⟨σu,fun t ht=>?_, ?_⟩
 ·rw [h u (Nat.le_refl _)] at ht;refine ⟨fun u' Lv hd=>(q1 t ht).1 u' Lv (by rw [← h u' (by omega)]; exact hd),fun Ev=>(q1 t ht).2 fun u' Lv=>by rw [← h u' (by omega)]; exact Ev u' Lv⟩
 ·rw [h u (Nat.le_refl _)]; exact q2
theorem Inv.move {p2 : Nat→Nat} {s2 : Nat→Cx} {ex2 : Nat→Bool} (pl : Iu P N ops hs n p s ex) (pl2 : Iu P N ops hs n p2 s2 ex2) (XE : ∀ u,u<kx→p2 u=p u∧s2 u=s u) {ss ss2 : List Cx} {F2 : Env→AA→Prop} {D : Array Bool} {σ : Env} {g : Gh} {H : AA} {w : World} {a : Act} (hk : kx<n)
  (I : Inv P B N ops n p s ss F σ0 D kx σ g H w a) (Px : CF P B (ss2.drop kx) F2 σ H) : Inv P B N ops n p2 s2 ss2 F2 σ0 D kx σ g H w a:=by
 refine ⟨I.dsz,I.down,I.vle,fun u hu hl=>?_,fun u hu hc=>?_,fun t x hx Ev=>?_,fun u hu=>?_,fun u hu hl=>?_,fun t Ev=>?_,Px,I.rel,I.size⟩
 ·obtain ⟨u1,h1,e⟩:=pl.rG (p2 u) (pl2.lt u hu)
  have h2:=I.pre u1 h1 (by rw [e]; exact hl)
  have h3:=(XE u1 h2).1
  have:=pl2.inj u u1 hu h1 (by rw [h3,e]);omega
 ·rw [(XE u hu).2] at hc;rw [(XE u hu).1]; exact I.wr u hu hc
 ·refine I.Kn t x hx fun u hu hd hl=>?_
  have h2:=I.pre u hu hl;exact Ev u hu (by rw [(XE u h2).2]; exact hd) (by rw [(XE u h2).1]; exact hl)
 ·rw [(XE u hu).1,(XE u hu).2]; exact I.new u hu
 ·rw [(XE u hu).1] at hl;exact (I.pend u hu hl).congr fun u' Lv=>(XE u' (by omega)).2
 ·exact I.same t fun u hu=>by rw [← (XE u hu).2]; exact Ev u hu
end
end Go.AW
namespace Go.AW
open Go.RowKit
section
variable {P : Program} {B N : Nat} {ops : Array Oper} {hs : List Nat}
theorem Iy : ∀ (r done : List Nat),Uc ops done r=true→∀ u,u<r.length→∀ j,j∈Cp ops (r.getD u 0)→j∈done∨∃ u',u'<u∧r.getD u' 0=j
 | [],_,_,u,hu,_,_=>by simp at hu
 | i::r,done,h,u,hu,j,hj=>by
  simp only [Uc,Bool.and_eq_true,List.all_eq_true] at h
  cases u with
  | zero =>
   have:=h.1 j hj;exact .inl (by simpa using this)
  | succ u =>
   rcases Iy r (i::done) h.2 u (by simpa using hu) j (by simpa using hj) with h1 | ⟨u',h1,h2⟩
   ·rcases List.mem_cons.1 h1 with rfl | h1
    ·exact .inr ⟨0,by omega,by simp⟩
    ·exact .inl h1
   ·exact .inr ⟨u'+1,by omega,by simpa using h2⟩
theorem Mw {cl : List (List Nat)} : ∀ (p : List Nat) (s : List Cx),Xk cl p s=true→p.length=s.length→∀ u u',u<u'→u'<p.length →
  MK cl (p.getD u 0) (s.getD u default) (p.getD u' 0) (s.getD u' default)=true
 | [],_,_,_,u,u',_,h=>by simp at h
 | _::_,[],_,hl,_,_,_,_=>by simp at hl
 | i::p,x::s,h,hl,u,u',h1,h2=>by
  simp only [Xk,Bool.and_eq_true,List.all_eq_true] at h
  have n0 : p.length=s.length:=by simpa using hl
  cases u' with
  | zero=>omega
  | succ u' =>
   have h2' : u'<p.length:=by simpa using h2
   cases u with
   | zero =>
    have hz : (p.zip s)[u']? = some (p.getD u' 0,s.getD u' default):=by
     rw [List.getElem?_zip_eq_some]
     simp [gE,h2',show u'<s.length by omega]
    have:=h.1 (p.getD u' 0,s.getD u' default) (List.mem_of_getElem? hz)
    simpa using this
   | succ u =>
    have:=Mw p s h.2 n0 u u' (by omega) h2'
    simpa using this
theorem kN {perm : List Nat} {ss : List Cx} (hc : Bj P N ops hs perm=some ss) (hk : Re ops ss perm=true) :
  Iu P N ops hs ops.size (fun u=>perm.getD u 0) (fun u=>ss.getD u default) (fun _=>false)∧ss.length=ops.size:=by
 simp only [Re,Bool.and_eq_true,beq_iff_eq,List.all_eq_true,decide_eq_true_eq] at hk
 obtain ⟨⟨⟨⟨h1,h2⟩,h3⟩,h4⟩,h5⟩:=hk
 obtain ⟨c1,c2⟩:=IE hc
 have YI:=Mw perm ss h5 (by omega)
 have CH : ∀ u,u<ops.size→perm.getD u 0∈perm:=fun u hu=>by
  rw [gE,List.getElem?_eq_getElem (by omega)]
  simp
 refine ⟨⟨rfl,fun u hu=>h2 _ (CH u hu), ?_, ?_,fun u hu=>c2 u (by omega), ?_, ?_,fun _ _ h=>(by cases h), ?_⟩,by omega⟩
 ·intro u u' hu Lv he
  rcases Nat.lt_trichotomy u u' with h | h | h
  ·have:=YI u u' h (by omega);simp only [MK,Bool.and_eq_true,bne_iff_ne] at this;exact absurd he this.1.1
  ·exact h
  ·have:=YI u' u h (by omega);simp only [MK,Bool.and_eq_true,bne_iff_ne] at this;exact absurd he.symm this.1.1
 ·intro i hi
  have:=h3 i (by simpa using hi)
  have hm : i∈perm:=by simpa using this
  obtain ⟨u,hu,rfl⟩:=List.getElem_of_mem hm;exact ⟨u,by omega,by simp [gE,hu]⟩
 ·intro u hu j hj
  rcases Iy perm [] h4 u (by omega) j hj with h | h
  ·simp at h
  ·exact h
 ·intro u u' h Lv d hd Mc
  have:=YI u u' h (by omega);simp only [MK,Bool.and_eq_true] at this
  have h6:=this.1.2;simp only [iK,hd,Mc] at h6
  simp at h6
 ·intro u u' h Lv _ hn D jr E5
  have:=YI u u' h (by omega);simp only [MK,Bool.and_eq_true] at this
  have h6:=this.2;rw [hn] at h6;simp only [Bool.not_true,Bool.false_or,List.contains_iff_mem] at h6;exact GN jr ops.size 0 [] rfl (fun k hk=>by omega) (by omega) _ (by rw [Nat.zero_add]; exact h2 _ (CH u' Lv)) _ h6 E5
end
end Go.AW
namespace Go.AW
open Go.RowKit
inductive IT where
 | fin (l : List Nat)
 | br (l : List Nat) (ts : IT)
 | nil
 | alt (h : Nat) (t ts : IT)
def IT.ot (f : Nat→Cx) : IT→Rl
 | .fin l=>.fin (l.map f)
 | .br l ts=>.br (l.map f) (ts.ot f)
 | .nil=>.nil
 | .alt h t ts=>.alt (f h) (t.ot f) (ts.ot f)
def IT.first : IT→List Nat
 | .fin l=>l
 | .br l ts=>l++ts.first
 | .nil=>[]
 | .alt h t _=>h::t.first
def IT.XP : IT→List Nat
 | .alt h _ ts=>h::ts.XP
 | _=>[]
def IT.node : IT→Bool
 | .fin _=>true
 | .br _ _=>true
 | _=>false
def IT.Nv : IT→Bool
 | .alt ..=>true
 | _=>false
def prT (cl : List (List Nat)) (f : Nat→Cx) (p : List Nat) (m u u' : Nat) : Bool :=
 (p.getD u 0 != p.getD u' 0) && !((iK (f (p.getD u 0))).any ((iK (f (p.getD u' 0))).contains ·)) &&
  ((decide (u<m) && cls (f (p.getD u 0)).i == 2) || !KI (f (p.getD u 0)) (f (p.getD u' 0)) || (cl.getD (p.getD u' 0) []).contains (p.getD u 0))
def SG (ops : Array Oper) (f : Nat→Cx) (p : List Nat) (m : Nat) : Bool :=
 p.length == ops.size && p.all (fun i=>decide (i<ops.size)) && (List.range ops.size).all (p.contains ·) && Uc ops [] p &&
  (List.range ops.size).all fun u'=>(List.range u').all fun u=>prT (WZ ops ops.size 0 []) f p m u u'
def dI (ops : Array Oper) (q hs : List Nat) : Bool :=
 (List.range ops.size).all fun i=>q.contains i || hs.contains i || ((WZ ops ops.size 0 []).getD i []).any (hs.contains ·)
def Hz (ops : Array Oper) (f : Nat→Cx) : List Nat→IT→Bool
 | q,.fin l=>SG ops f (q++l) q.length
 | q,.br l ts=>l.all (fun i=>decide (cls (f i).i<2)) && ts.Nv && dI ops (q++l) ts.XP && Hz ops f (q++l) ts
 | _,.nil=>true
 | q,.alt h t ts=>cls (f h).i == 2 && t.node && Hz ops f (q++[h]) t && Hz ops f q ts
def WX (P : Program) (N : Nat) (ops : Array Oper) (hs : List Nat) (i : Nat) : Cx :=
 match ops[i]? with
 | some o=>(EB P N ops (hs.getD i 0) o).getD default
 | none=>default
def mkT (ops : Array Oper) (f : Nat→Cx) (pm : List Nat) : Nat→List Nat→IT
 | 0,_=>.fin []
 | k+1,q =>
  let rest:=pm.filter fun i=>!q.contains i
  if SG ops f (q++rest) q.length then .fin rest
  else
   let l:=rest.takeWhile fun i=>decide (cls (f i).i<2)
   .br l (((rest.drop l.length).filter fun h=>cls (f h).i == 2 && (Cp ops h).all (fun j=>(q++l).contains j)).foldr (fun h ts=>.alt h (mkT ops f pm k (q++l++[h])) ts) .nil)
def yK (f : Nat→Cx) : IT→SC
 | .fin l=>.Mi (l.map f)
 | .br l (.alt h (.fin r) (.alt h' (.fin r') .nil))=>.two (l.map f) (f h::r.map f) (f h'::r'.map f)
 | t=>.jG (t.ot f)
def dN (P : Program) (N : Nat) (ops : Array Oper) (hs : List Nat) (perm : List Nat) : Option IT :=
 if (List.range ops.size).all (fun i=>(ops[i]?.bind fun o=>EB P N ops (hs.getD i 0) o).isSome) && P.follows .mixedOrders then
  let t:=mkT ops (WX P N ops hs) (if perm.isEmpty then List.range ops.size else perm) 5 []
  if t.node && Hz ops (WX P N ops hs) [] t then some t else none
 else none
section
variable {P : Program} {B N : Nat} {ops : Array Oper} {hs : List Nat} {f : Nat→Cx}
abbrev pT (p : List Nat) : Nat→Nat:=fun u=>p.getD u 0
abbrev sT (f : Nat→Cx) (p : List Nat) : Nat→Cx:=fun u=>f (p.getD u 0)
theorem Ji (Ju : ∀ i,i<ops.size→Of P N ops hs i (f i)) {p : List Nat} {m : Nat} (h : SG ops f p m=true) :
  Iu P N ops hs ops.size (pT p) (sT f p) (fun u=>decide (u<m) && cls (f (p.getD u 0)).i == 2)∧p.length=ops.size:=by
 simp only [SG,Bool.and_eq_true,beq_iff_eq,List.all_eq_true,decide_eq_true_eq,List.mem_range] at h
 obtain ⟨⟨⟨⟨h1,h2⟩,h3⟩,h4⟩,h5⟩:=h
 have CH : ∀ u,u<ops.size→p.getD u 0∈p:=fun u hu=>by
  rw [gE,List.getElem?_eq_getElem (by omega)]; simp
 have hp : ∀ u u',u<u'→u'<ops.size→p.getD u 0≠p.getD u' 0∧(∀ d,(f (p.getD u 0)).d=some d→(f (p.getD u' 0)).d≠some d) ∧
   ((decide (u<m) && cls (f (p.getD u 0)).i == 2)=false→KI (f (p.getD u 0)) (f (p.getD u' 0))=true→p.getD u 0∈(WZ ops ops.size 0 []).getD (p.getD u' 0) []):=fun u u' hu Lv=>by
  have:=h5 u' Lv u hu;rw [prT,Bool.and_eq_true,Bool.and_eq_true,bne_iff_ne,Bool.not_eq_true',Bool.or_eq_true,Bool.or_eq_true,Bool.not_eq_true',List.contains_iff_mem] at this
  obtain ⟨⟨a,b⟩,c⟩:=this;refine ⟨a,fun d hd Mc=>?_,fun hx hn=>?_⟩
  ·simp only [iK,hd,Mc] at b
   simp at b
  ·rcases c with (c | c) | c
   ·rw [hx] at c; cases c
   ·rw [hn] at c; cases c
   ·exact c
 refine ⟨⟨rfl,fun u hu=>h2 _ (CH u hu),fun u u' hu Lv he=>?_,fun i hi=>?_,fun u hu=>Ju _ (h2 _ (CH u hu)),fun u hu j hj=>?_,fun u u' h Lv d hd=>(hp u u' h Lv).2.1 d hd,fun u hu e=>?_,fun u u' h Lv hx hn D jr E5=>?_⟩,h1⟩
 ·rcases Nat.lt_trichotomy u u' with h | h | h
  ·exact absurd he (hp u u' h (by omega)).1
  ·exact h
  ·exact absurd he.symm (hp u' u h (by omega)).1
 ·have hm : i∈p:=by simpa using h3 i hi
  obtain ⟨u,hu,rfl⟩:=List.getElem_of_mem hm;exact ⟨u,by omega,by simp [gE,hu]⟩
 ·rcases Iy p [] h4 u (by omega) j hj with h | h
  ·simp at h
  ·exact h
 ·rw [Bool.and_eq_true,beq_iff_eq] at e; exact e.2
 ·exact GN jr ops.size 0 [] rfl (fun k hk=>by omega) (by omega) _ (by rw [Nat.zero_add]; exact h2 _ (CH u' Lv)) _ ((hp u u' h Lv).2.2 hx hn) E5
theorem FB (Ju : ∀ i,i<ops.size→Of P N ops hs i (f i)) : ∀ (t : IT) (q : List Nat),Hz ops f q t=true→(t.node=true∨t.Nv=true) →
  (∃ ex,Iu P N ops hs ops.size (pT (q++t.first)) (sT f (q++t.first)) ex)∧(q++t.first).length=ops.size
 | .fin l,q,h,_=>⟨⟨_,(Ji Ju h).1⟩,(Ji Ju h).2⟩
 | .br l ts,q,h,_=>by
  simp only [Hz,Bool.and_eq_true] at h
  have:=FB Ju ts (q++l) h.2 (.inr h.1.1.2);rw [List.append_assoc] at this;exact this
 | .nil,q,h,hn=>by rcases hn with hn | hn <;> cases hn
 | .alt h t ts,q,hc,_=>by
  simp only [Hz,Bool.and_eq_true] at hc
  have:=FB Ju t (q++[h]) hc.1.2 (.inl hc.1.1.2);rw [List.append_assoc] at this;exact this
theorem XU {F : Env→AA→Prop} {σ : Env} {H : AA} {i : Nat} : ∀ (ts : IT) (q : List Nat),Hz ops f q ts=true→i∈ts.XP→NY P B (ts.ot f) F σ H →
  ∃ t,t.node=true∧Hz ops f (q++[i]) t=true∧cls (f i).i=2∧CF P B [f i] (NY P B (t.ot f) F) σ H
 | .fin l,q,_,h,_=>by cases h
 | .br l ts,q,_,h,_=>by cases h
 | .nil,q,_,h,_=>by cases h
 | .alt h t ts,q,hc,hi,ho=>by
  simp only [Hz,Bool.and_eq_true,beq_iff_eq] at hc
  rcases List.mem_cons.mp hi with rfl | hi
  ·exact ⟨t,hc.1.1.2,hc.1.2,hc.1.1.1,ho.1⟩
  ·exact XU ts q hc.2 hi ho.2
theorem Tb {i : Nat} : ∀ (ts : IT) (q : List Nat),Hz ops f q ts=true→i∈ts.XP→∃ t,t.node=true∧Hz ops f (q++[i]) t=true
 | .fin l,q,_,h=>by cases h
 | .br l ts,q,_,h=>by cases h
 | .nil,q,_,h=>by cases h
 | .alt h t ts,q,hc,hi=>by
  simp only [Hz,Bool.and_eq_true,beq_iff_eq] at hc
  rcases List.mem_cons.mp hi with rfl | hi
  ·exact ⟨t,hc.1.1.2,hc.1.2⟩
  ·exact Tb ts q hc.2 hi
theorem HB {a b : List Nat} {u : Nat} (h : u<a.length) : (a++b).getD u 0=a.getD u 0:=by
 rw [gE,List.getElem?_append_left h,← gE]
theorem SS {a b : List Nat} {i : Nat} : (a++i::b).getD a.length 0=i:=by simp [gE]
theorem OX {a b : List Nat} {k : Nat} (h : a.length=k) : ((a++b).map f).drop k=b.map f:=by
 rw [List.map_append]; exact List.drop_left' (by simpa using h)
theorem SU {p : List Nat} {a b : List Nat} (h : p=a++b) {u : Nat} (hu : u<a.length) : (a.map f)[u]? = some (f (p.getD u 0)):=by
 rw [h,HB hu,List.getElem?_map,gE,List.getElem?_eq_getElem hu]; rfl
theorem Inv.re {n : Nat} {p : Nat→Nat} {s : Nat→Cx} {ss ss2 : List Cx} {F F2 : Env→AA→Prop} {σ0 : Env} {D : Array Bool} {v : Nat} {σ : Env} {g : Gh} {H : AA} {w : World} {a : Act}
  (I : Inv P B N ops n p s ss F σ0 D v σ g H w a) (Px : CF P B (ss2.drop v) F2 σ H) : Inv P B N ops n p s ss2 F2 σ0 D v σ g H w a :=
 ⟨I.dsz,I.down,I.vle,I.pre,I.wr,I.Kn,I.new,I.pend,I.same,Px,I.rel,I.size⟩
theorem MN (Ju : ∀ i,i<ops.size→Of P N ops hs i (f i)) {F : Env→AA→Prop} {σ0 : Env} {g0 : Gh} {w0 : World} {df : List Deferred} {Q : Exit→Act→World→Prop}
  (hq : ∀ a' w',GP F g0 B w0 N df a' w'→Q .normal a' w') : ∀ (fuel : Nat) (q l : List Nat) (ts : IT) (D : Array Bool) (σ : Env) (g : Gh) (H : AA) (w : World) (a : Act),D.toList.count false=fuel →
   Hz ops f q (.br l ts)=true →
   Inv P B N ops ops.size (pT ((q++l)++ts.first)) (sT f ((q++l)++ts.first)) ((q++l).map f) (NY P B (ts.ot f) F) σ0 D (q++l).length σ g H w a→g0.le g→Below B w0 w→a.defers=df→wpAny P .any ops Q fuel D a w
 | fuel,q,l,ts,D,σ,g,H,w,a,hc,Pr,I,hg,hb,hd=>by
  have RK:=Pr;simp only [Hz,Bool.and_eq_true] at Pr
  obtain ⟨⟨⟨hl,nZ⟩,F4⟩,gZ⟩:=Pr
  obtain ⟨⟨ex,pl⟩,hlen⟩:=FB Ju ts (q++l) gZ (.inr nZ)
  have hk : (q++l).length<ops.size:=by
   cases ts <;> simp only [IT.Nv,Bool.false_eq_true] at nZ
   simp only [IT.first,List.length_append,List.length_cons] at hlen ⊢;omega
  have hkc : ¬ Fj D (pT ((q++l)++ts.first) (q++l).length):=fun h=>by
   have:=I.pre _ hk h; omega
  cases fuel with
  | zero=>exact absurd (Rm (I.dsz.trans pl.size) hc _ (pl.lt _ hk)) hkc
  | succ fuel =>
   refine ⟨fun hr=>absurd (HG pl I.dsz hr _ hk) hkc,fun i hi=>?_⟩;rw [G6 I.dsz] at hi
   obtain ⟨XI,K8,sC⟩:=hi
   obtain ⟨u,hu,rfl⟩:=pl.rG i (by rw [← pl.size]; exact XI)
   have E5:=WT sC
   have VA:=Lx (by rw [I.dsz]; exact XI) K8 hc
   by_cases Zv : u<(q++l).length
   ·refine Rr pl I hu Zv K8 E5 fun x g' w' e1 e2 e3 e4=>?_;exact MN Ju hq fuel q l ts _ σ g' H w' _ VA RK (PN pl I hu Zv K8 E5 x e1 e2 e4) (hg.trans e1) (hb.trans e3) (by rw [put_defers]; exact hd)
   ·have qS : pT ((q++l)++ts.first) u ∉ q++l:=fun hm=>by
     obtain ⟨u1,h1,e⟩:=List.getElem_of_mem hm
     have h2 : pT ((q++l)++ts.first) u1=pT ((q++l)++ts.first) u:=by
      show ((q++l)++ts.first).getD u1 0=_
      rw [HB h1,gE,List.getElem?_eq_getElem h1]; exact e
     have:=pl.inj u1 u (by omega) hu h2;omega
    have Im:=F4;simp only [dI,List.all_eq_true,List.mem_range,Bool.or_eq_true,List.contains_iff_mem,List.any_eq_true] at Im
    have Px:=I.go;rw [List.drop_eq_nil_of_le (by simp)] at Px
    replace Px : NY P B (ts.ot f) F σ H:=Px
    rcases Im _ XI with (EI | EI) | ⟨j,hj1,aO⟩
    ·exact absurd EI qS
    ·generalize hiu : pT ((q++l)++ts.first) u=i at *
     obtain ⟨t,Pg,RN,gk,hgo2⟩:=XU ts (q++l) gZ EI Px
     have key : ∀ {p2 : List Nat} {ex2 : Nat→Bool} (_ : p2=((q++l)++[i])++t.first) (pl2 : Iu P N ops hs ops.size (pT p2) (sT f p2) ex2)
       (fin : ∀ (x : Value) (σ' : Env) (g' : Gh) (H' : AA) (w' : World),g.le g'→Below B w w'→Inv P B N ops ops.size (pT p2) (sT f p2) (((q++l)++[i]).map f) (NY P B (t.ot f) F) σ0 (D.setIfInBounds i true) ((q++l).length+1) σ' g' H' w' (a.put (f i).d x) →
        wpAny P .any ops Q fuel (D.setIfInBounds i true) (a.put (f i).d x) w'),wpOp P ops Q i (wpAny P .any ops Q fuel (D.setIfInBounds i true)) a w:=by
      intro p2 ex2 Fi pl2 fin
      have jg : p2=(q++l)++(i::t.first):=by rw [Fi,List.append_assoc]; rfl
      have XE : ∀ u,u<(q++l).length→pT p2 u=pT ((q++l)++ts.first) u∧sT f p2 u=sT f ((q++l)++ts.first) u:=fun u hu=>by
       have : p2.getD u 0=((q++l)++ts.first).getD u 0:=by rw [jg,HB hu,HB hu]
       exact ⟨this,congrArg f this⟩
      have QY : pT p2 (q++l).length=i:=by show p2.getD _ 0=i; rw [jg,SS]
      have nF : sT f p2 (q++l).length=f i:=congrArg f QY
      have I2 : Inv P B N ops ops.size (pT p2) (sT f p2) (((q++l)++[i]).map f) (NY P B (t.ot f) F) σ0 D (q++l).length σ g H w a :=
       I.move (ex2:=ex2) pl pl2 XE hk (by rw [OX rfl]; exact hgo2)
      have KF : (((q++l)++[i]).map f)[(q++l).length]? = some (sT f p2 (q++l).length):=by rw [nF]; simp
      have hw:=Up (Q:=Q) (fuel:=fuel) pl2 I2 hk KF (by rw [QY]; exact K8) (by rw [QY]; exact E5) fun x ro g' H' w' e1 e2 e3 e4 XA h5=>by
       have I3:=MM pl2 I2 hk (by rw [nF]; exact gk) (by rw [QY]; exact K8) (by rw [QY]; exact E5) x ro e1 e2 e4 XA h5;rw [nF,QY] at I3 ⊢;exact fin x _ g' H' w' e1 e3 I3
      rw [QY] at hw;exact hw
     cases t with
     | nil=>cases Pg
     | alt _ _ _=>cases Pg
     | fin l' =>
      obtain ⟨pl2,Ps⟩:=Ji Ju (p:=((q++l)++[i])++l') (m:=((q++l)++[i]).length) RN;refine key rfl pl2 fun x σ' g' H' w' e1 e3 I3=>?_
      have I4 : Inv P B N ops ops.size _ _ ((((q++l)++[i])++l').map f) F σ0 _ _ _ _ _ _ _:=I3.re (F2:=F) (by
       have:=I3.go;rw [List.drop_eq_nil_of_le (by simp only [List.length_map,List.length_append,List.length_cons,List.length_nil]; omega)] at this;rw [OX (by simp only [List.length_append,List.length_cons,List.length_nil])]; exact this)
      have Hf : ∀ u,u<ops.size→((((q++l)++[i])++l').map f)[u]? = some (sT f (((q++l)++[i])++l') u):=fun u hu=>SU (b:=[]) (by simp) (by omega)
      obtain ⟨v',σ2,I5,hle,-,T8⟩:=advance pl2 ops.size (Nat.le_refl _) (fun h=>absurd h (Nat.lt_irrefl _)) Hf _ _ _ rfl (by omega) I4;exact Jk pl2 (by rw [List.length_map]; exact Ps) Hf hq fuel _ v' σ2 g' H' w' _ VA I5 T8 (fun u h1 h2=>by rw [Bool.and_eq_false_iff]; exact .inl (decide_eq_false (by simp only [List.length_append,List.length_cons,List.length_nil] at hle ⊢; omega))) (hg.trans e1) (hb.trans e3) (by rw [put_defers]; exact hd)
     | br l' ts' =>
      obtain ⟨⟨ex2,pl2⟩,Ps⟩:=FB Ju (.br l' ts') ((q++l)++[i]) RN (.inl rfl)
      have gh:=RN;simp only [Hz,Bool.and_eq_true,List.all_eq_true,decide_eq_true_eq] at gh
      have ir : ((q++l)++[i])++(IT.br l' ts').first=(((q++l)++[i])++l')++ts'.first:=by simp only [IT.first,List.append_assoc]
      refine key rfl pl2 fun x σ' g' H' w' e1 e3 I3=>?_
      have I4 : Inv P B N ops ops.size _ _ ((((q++l)++[i])++l').map f) (NY P B (ts'.ot f) F) σ0 _ _ _ _ _ _ _:=I3.re (F2:=NY P B (ts'.ot f) F) (by
       have:=I3.go;rw [List.drop_eq_nil_of_le (by simp only [List.length_map,List.length_append,List.length_cons,List.length_nil]; omega)] at this;rw [OX (by simp only [List.length_append,List.length_cons,List.length_nil])]; exact this)
      have rW : (((q++l)++[i])++l').length<ops.size:=by
       have h1:=gh.1.1.2
       cases ts' <;> simp only [IT.Nv,Bool.false_eq_true] at h1
       rw [ir] at Ps;simp only [IT.first,List.length_append,List.length_cons] at Ps ⊢;omega
      have Hf : ∀ u,u<(((q++l)++[i])++l').length→((((q++l)++[i])++l').map f)[u]? = some (sT f (((q++l)++[i])++(IT.br l' ts').first) u):=fun u hu=>SU ir hu
      have rE : (((q++l)++[i])++l').length<ops.size→cls (sT f (((q++l)++[i])++(IT.br l' ts').first) (((q++l)++[i])++l').length).i=2:=fun _=>by
       have h1:=gh.1.1.2
       have h2:=gh.2
       cases ts' <;> simp only [IT.Nv,Bool.false_eq_true] at h1
       simp only [Hz,Bool.and_eq_true,beq_iff_eq] at h2
       show cls (f ((((q++l)++[i])++(IT.br l' _).first).getD _ 0)).i=2
       rw [ir];simp only [IT.first];rw [SS];exact h2.1.1.1
      obtain ⟨v',σ2,I5,hle,hle3,T8⟩:=advance pl2 (((q++l)++[i])++l').length (by omega) rE Hf _ _ _ rfl (by simp only [List.length_map,List.length_append,List.length_cons,List.length_nil]; omega) I4
      have jm : v'=(((q++l)++[i])++l').length:=by
       refine Classical.byContradiction fun Bq=>?_
       have h2:=T8 (by omega)
       have h3 : (((q++l)++[i])++(IT.br l' ts').first).getD v' 0∈l':=by
        rw [ir,HB (by omega),gE,List.getElem?_append_right (by simp only [List.length_append,List.length_cons,List.length_nil] at hle ⊢; omega)];rw [List.getElem?_eq_getElem (by simp only [List.length_append,List.length_cons,List.length_nil] at hle hle3 Bq ⊢; omega)]
        simp
       have h4:=gh.1.1.1 _ h3
       have h5 : cls (f ((((q++l)++[i])++(IT.br l' ts').first).getD v' 0)).i=2:=h2;omega
      subst jm;rw [ir] at I5;exact MN Ju hq fuel ((q++l)++[i]) l' ts' _ σ2 g' H' w' _ VA RN I5 (hg.trans e1) (hb.trans e3) (by rw [put_defers]; exact hd)
    ·exfalso
     have hlj:=GN I.down ops.size 0 [] rfl (fun k hk=>by omega) (by omega) _ (by rw [Nat.zero_add]; exact XI) _ hj1 E5
     obtain ⟨t,Pg,RN⟩:=Tb ts (q++l) gZ aO
     obtain ⟨⟨ex2,pl2⟩,Ps⟩:=FB Ju t ((q++l)++[j]) RN (.inl Pg)
     have Fi : ((q++l)++[j])++t.first=(q++l)++(j::t.first):=by rw [List.append_assoc]; rfl
     rw [Fi] at pl2
     have jA : pT ((q++l)++(j::t.first)) (q++l).length=j:=by show List.getD _ _ 0=j; rw [SS]
     have hjn : j<ops.size:=by rw [← jA]; exact pl2.lt _ hk
     obtain ⟨u1,h1,e1⟩:=pl.rG j hjn
     have h2:=I.pre u1 h1 (by rw [e1]; exact hlj)
     have h3 : pT ((q++l)++(j::t.first)) u1=j:=by
      rw [← e1]
      show List.getD _ _ 0=List.getD _ _ 0
      rw [HB h2,HB h2]
     have:=pl2.inj u1 (q++l).length h1 hk (by rw [h3,jA]);omega
theorem Xo (s : Cx) (r : List Cx) (F : Env→AA→Prop) : CF P B (s::r) F=CF P B [s] (CF P B r F):=by
 obtain ⟨d,g,i⟩:=s
 cases g <;> rfl
theorem kM {Q : AQ} {σ : Env} {H : AA} : ∀ {t : IT},FN P B (yK f t) Q σ H→NY P B (t.ot f) (Q .norm) σ H:=by
 intro t h;unfold yK at h
 split at h
 ·exact h
 ·rename_i l h1 r h2 r'
  have e : (fun (σ : Env) (H : AA)=>CF P B (f h1::r.map f) (Q .norm) σ H∧CF P B (f h2::r'.map f) (Q .norm) σ H)=NY P B ((IT.alt h1 (.fin r) (.alt h2 (.fin r') .nil)).ot f) (Q .norm):=by
   funext σ H
   show (_∧_)=(_∧_∧True)
   rw [and_true,Xo,Xo (f h2)]; rfl
  have h : CF P B (l.map f) (fun σ H=>CF P B (f h1::r.map f) (Q .norm) σ H∧CF P B (f h2::r'.map f) (Q .norm) σ H) σ H:=h;rw [e] at h;exact h
 ·exact h
theorem UP {perm : List Nat} {df : List Deferred} {t : IT} (hc : dN P N ops hs perm=some t)
  (F : Env→AA→Prop) (g : Gh) (H : AA) (w : World) (σ : Env) (a : Act) (Q : Exit→Act→World→Prop) (hW : Ao g B H w) (hE : Cc g σ a.tmps) (hN : a.tmps.size=N) (hd : a.defers=df)
  (hk : NY P B (t.ot (WX P N ops hs)) F σ H) (hq : ∀ a' w',GP F g B w N df a' w'→Q .normal a' w') (id : Nat) : (Code.region id ops true).wp P Q a w:=by
 unfold dN at hc;dsimp only at hc
 generalize (if perm.isEmpty then List.range ops.size else perm)=pm at hc
 split at hc
 ·rename_i Aj
  rw [Bool.and_eq_true] at Aj
  obtain ⟨Aj,sS⟩:=Aj;simp only [List.all_eq_true,List.mem_range,Option.isSome_iff_exists] at Aj
  split at hc
  ·rename_i Pr
   simp only [Option.some.injEq] at hc;rw [hc,Bool.and_eq_true] at Pr
   obtain ⟨Pg,RK⟩:=Pr;clear hc
   have Ju : ∀ i,i<ops.size→Of P N ops hs i (WX P N ops hs i):=fun i hi=>by
    obtain ⟨s,Hf⟩:=Aj i hi
    cases ho : ops[i]? with
    | none=>rw [ho] at Hf; cases Hf
    | some o =>
     rw [ho] at Hf;refine ⟨o,ho, ?_⟩
     have V1 : EB P N ops (hs.getD i 0) o=some s:=Hf;rw [WX,ho];simp only [V1,Option.getD_some]
   generalize WX P N ops hs=f at *;refine wp_region_any sS ?_
   have hD : ∀ i,i<ops.size→¬ Fj (Array.replicate ops.size false) i:=by
    intro i hi h
    simp [Fj,Array.getD,hi] at h
   have I0 : ∀ {p : List Nat} {ex : Nat→Bool} {ss : List Cx} {F : Env→AA→Prop},Iu P N ops hs ops.size (pT p) (sT f p) ex→CF P B ss F σ H→Inv P B N ops ops.size (pT p) (sT f p) ss F σ (Array.replicate ops.size false) 0 σ g H { w with drawn:=w.drawn+1 } a :=
    fun pl hk=>⟨by simp,fun i hi h=>absurd h (hD i hi),Nat.zero_le _,fun u hu h=>absurd h (hD _ (pl.lt u hu)),fun u hu=>by omega,fun t x hx _=>hE t x hx,fun u hu=>by omega,fun u hu=>by omega,
     fun t _=>rfl,hk,hW.drew,hN⟩
   cases t with
   | nil=>cases Pg
   | alt _ _ _=>cases Pg
   | fin l =>
    obtain ⟨pl,hlen⟩:=Ji Ju (p:=[]++l) (m:=0) RK
    have Hf : ∀ u,u<ops.size→(([]++l).map f)[u]? = some (sT f ([]++l) u):=fun u hu=>SU (b:=[]) (by simp) (by omega)
    obtain ⟨v',σ',I',-,-,T8⟩:=advance pl ops.size (Nat.le_refl _) (fun h=>absurd h (Nat.lt_irrefl _)) Hf _ 0 σ rfl (Nat.zero_le _) (I0 pl hk);exact Jk pl (by rw [List.length_map]; exact hlen) Hf hq ops.size _ v' σ' g H _ a (by simp) I' T8 (fun u h1 h2=>by rw [Bool.and_eq_false_iff]; exact .inl (decide_eq_false (by omega))) (.refl g) ((Below.refl B w).drew) hd
   | br l ts =>
    have Pr:=RK;simp only [Hz,Bool.and_eq_true,List.all_eq_true,decide_eq_true_eq] at Pr
    obtain ⟨⟨⟨hl,nZ⟩,F4⟩,gZ⟩:=Pr
    obtain ⟨⟨ex,pl⟩,hlen⟩:=FB Ju (.br l ts) [] RK (.inl rfl)
    have hp : []++(IT.br l ts).first=([]++l)++ts.first:=rfl;rw [hp] at pl hlen
    have I : Inv P B N ops ops.size (pT (([]++l)++ts.first)) (sT f (([]++l)++ts.first)) (([]++l).map f) (NY P B (ts.ot f) F) σ (Array.replicate ops.size false) 0 σ g H { w with drawn:=w.drawn+1 } a:=I0 pl hk
    have rW : ([]++l).length<ops.size:=by
     cases ts <;> simp only [IT.Nv,Bool.false_eq_true] at nZ
     simp only [IT.first,List.length_append,List.length_cons] at hlen ⊢;omega
    have rE : ([]++l).length<ops.size→cls (sT f (([]++l)++ts.first) ([]++l).length).i=2:=fun _=>by
     cases ts <;> simp only [IT.Nv,Bool.false_eq_true] at nZ
     simp only [Hz,Bool.and_eq_true,beq_iff_eq] at gZ
     show cls (f (List.getD _ _ 0)).i=2
     simp only [IT.first];rw [SS];exact gZ.1.1.1
    obtain ⟨v',σ',I',-,hle,T8⟩:=advance pl ([]++l).length (by omega) rE (fun u hu=>SU rfl hu) _ 0 σ rfl (Nat.zero_le _) I
    have jm : v'=([]++l).length:=by
     refine Classical.byContradiction fun Bq=>?_
     have h2:=T8 (by omega)
     have h3 : (([]++l)++ts.first).getD v' 0∈l:=by
      rw [HB (by omega),gE,List.getElem?_eq_getElem (by omega)]
      simp
     have h4:=hl _ h3
     have h5 : cls (f ((([]++l)++ts.first).getD v' 0)).i=2:=h2;omega
    subst jm;exact MN Ju hq ops.size [] l ts _ σ' g H _ a (by simp) RK I' (.refl g) ((Below.refl B w).drew) hd
  ·cases hc
 ·cases hc
end
end Go.AW
namespace Go.AW
open Go.RowKit
def qK (P : Program) (N : Nat) (ops : Array Oper) (draw : Bool) (vs pm : List Nat) : Option SC :=
 if draw then (dN P N ops vs pm).map (yK (WX P N ops vs)) else (Bj P N ops vs (List.range ops.size)).map .Mi
def SC.lD : SC→Bool
 | .Mi _=>true
 | .two _ _ _=>true
 | .jG _=>true
 | _=>false
theorem pV (f : Nat→Cx) (t : IT) : (yK f t).lD=true:=by unfold yK; split <;> rfl
theorem oU {P : Program} {N : Nat} {ops : Array Oper} {d : Bool} {vs pm : List Nat} {s : SC} (h : qK P N ops d vs pm=some s) : s.lD=true:=by
 cases d <;> simp only [qK,Bool.false_eq_true,if_false,if_true,Option.map_eq_some_iff] at h <;> obtain ⟨t,_,rfl⟩:=h
 ·rfl
 ·exact pV _ t
theorem JE {P : Program} {N : Nat} {ops : Array Oper} {d : Bool} {vs pm : List Nat} {s : SC} (h : qK P N ops d vs pm=some s) (h1 : s.lD=false) : False:=by
 rw [oU h] at h1; cases h1
theorem O8 {P : Program} {B N : Nat} {ops : Array Oper} {d : Bool} {vs pm : List Nat} {s : SC} (h : qK P N ops d vs pm=some s) (Q : AQ) (g : Gh) (H : AA) (w : World) (σ : Env) (a : Act) {df : List Deferred} (hW : Ao g B H w) (hE : Cc g σ a.tmps) (hN : a.tmps.size=N) (hd : a.defers=df)
  (hk : FN P B s Q σ H) (id : Nat) : (Code.region id ops d).wp P (Ih Q g B w N df) a w:=by
 cases d <;> simp only [qK,Bool.false_eq_true,if_false,if_true,Option.map_eq_some_iff] at h <;> obtain ⟨t,h,rfl⟩:=h
 ·exact wp_region (G5 _ _ h (Q .norm) g H w σ a _ hW hE hN hd hk fun a' w' hp=>hp)
 ·exact UP h (Q .norm) g H w σ a _ hW hE hN hd (kM hk) (fun a' w' hp=>hp) id
def B6 (P : Program) (N : Nat) (hs : Hints) : Code→Option SC
 | .skip=>some .skip
 | .region id ops draw =>
  qK P N ops draw ((hs.lookup id).elim [] (·.2)) ((hs.lookup id).elim [] (·.1))
 | .seq a b=>qi .seq (B6 P N hs a) (B6 P N hs b)
 | .cond c a b=>match cx c with
  | some x=>qi (.cond x) (B6 P N hs a) (B6 P N hs b)
  | none=>none
 | .block id c=>(B6 P N hs c).map (.block id)
 | .loop c=>(B6 P N hs c).map (.loop [])
 | .exit id=>some (.exit id)
 | .scope c=>(B6 P N hs c).map .XN
 | .label _=>some .skip
 | .ret=>some .ret
 | _=>none
theorem CI {f : SC→SC→SC} {a b : Option SC} {s : SC} (h : qi f a b=some s) : ∃ x y,a=some x∧b=some y∧s=f x y:=by
 cases a <;> cases b <;> simp [qi] at h
 exact ⟨_,_,rfl,rfl,h.symm⟩
section
variable {P : Program} {B : Nat}
theorem UH {c : Code} {Q : Exit→Act→World→Prop} (I : Nat→Act→World→Prop) {n : Nat} {a : Act} {w : World} (h₀ : I n a w)
  (round : ∀ n a w,I n a w→c.wp P (Exit.then (fun a' w'=>∃ m,m<n∧I m a' w') Q) a w) : (Code.loop c).wp P Q a w:=by
 intro b k cs
 have key : ∀ n a w,I n a w →
   ∃ e a' w',Q e a' w'∧Arrives P (lone (b.at a (.code c::.inLoop c::k)) cs w) b k cs e a' w':=by
  intro n
  induction n using Nat.strongRecOn with
  | _ n ih =>
   intro a w hI
   obtain ⟨e,a₁,w₁,hq,V0⟩:=round n a w hI b (.inLoop c::k) cs
   cases e with
   | normal =>
    obtain ⟨m,D3,hI₁⟩:=hq
    obtain ⟨e₂,a₂,w₂,hq₂,gg⟩:=ih m D3 a₁ w₁ hI₁;exact ⟨e₂,a₂,w₂,hq₂,.of_steps (Steps.trans V0 (.one step_inLoop)) gg⟩
   | exit id=>exact ⟨_,a₁,w₁,hq,.pass (x:=.inLoop c) rfl (fun _ _=>.inl (by simp)) V0⟩
   | goto l=>exact ⟨_,a₁,w₁,hq,.pass (x:=.inLoop c) rfl (fun _ _=>.inl (by simp)) V0⟩
   | ret=>exact ⟨_,a₁,w₁,hq,.pass (x:=.inLoop c) rfl (fun _ _=>.inl (by simp)) V0⟩
   | panic ch=>exact ⟨_,a₁,w₁,hq,.pass (x:=.inLoop c) rfl (fun _ _=>.inl (by simp)) V0⟩
   | outgrown=>exact ⟨_,a₁,w₁,hq,.pass (x:=.inLoop c) rfl (fun _ _=>.inl (by simp)) V0⟩
 obtain ⟨e,a',w',hq,V0⟩:=key n a w h₀;exact ⟨e,a',w',hq,.of_steps (.one step_loop) V0⟩
theorem fB {N : Nat} {hs : Hints} {c : Code} (h : B6 P N hs c=some .skip) : c=.skip∨∃ l,c=.label l:=by
 cases c <;> simp only [B6,reduceCtorEq] at h <;> first | exact .inl rfl | exact .inr ⟨_,rfl⟩ | skip
 all_goals exfalso
 ·exact JE h rfl
 ·obtain ⟨_,_,_,_,h⟩:=CI h; cases h
 ·split at h
  ·obtain ⟨_,_,_,_,h⟩:=CI h; cases h
  ·cases h
 ·rw [Option.map_eq_some_iff] at h; obtain ⟨_,_,h⟩:=h; cases h
 ·rw [Option.map_eq_some_iff] at h; obtain ⟨_,_,h⟩:=h; cases h
 ·cases h
 ·rw [Option.map_eq_some_iff] at h; obtain ⟨_,_,h⟩:=h; cases h
 ·cases h
theorem Wp {N : Nat} {hs : Hints} {c : Code} {s : SC} (h : B6 P N hs c=some s) (hr : s.lD=true) : ∃ id ops d,c=.region id ops d∧qK P N ops d ((hs.lookup id).elim [] (·.2)) ((hs.lookup id).elim [] (·.1))=some s:=by
 cases c <;> simp only [B6,reduceCtorEq] at h
 case region id ops d=>exact ⟨id,ops,d,rfl,h⟩
 all_goals exfalso
 all_goals first
  | (obtain ⟨_,_,_,_,h⟩:=CI h; subst h; cases hr)
  | (rw [Option.map_eq_some_iff] at h; obtain ⟨_,_,h⟩:=h; subst h; cases hr)
  | (split at h <;> first | (obtain ⟨_,_,_,_,h⟩:=CI h; subst h; cases hr) | cases h)
  | (cases h; cases hr)
theorem Xc {N : Nat} {hs : Hints} {c : Code} {x y : SC} (h : B6 P N hs c=some (.seq x y)) : ∃ a b,c=.seq a b∧B6 P N hs a=some x∧B6 P N hs b=some y:=by
 cases c <;> simp only [B6,reduceCtorEq] at h
 ·cases h
 ·exfalso; exact JE h rfl
 ·obtain ⟨_,_,h1,h2,h⟩:=CI h; cases h; exact ⟨_,_,rfl,h1,h2⟩
 all_goals exfalso
 ·split at h
  ·obtain ⟨_,_,_,_,h⟩:=CI h; cases h
  ·cases h
 ·rw [Option.map_eq_some_iff] at h; obtain ⟨_,_,h⟩:=h; cases h
 ·rw [Option.map_eq_some_iff] at h; obtain ⟨_,_,h⟩:=h; cases h
 ·cases h
 ·rw [Option.map_eq_some_iff] at h; obtain ⟨_,_,h⟩:=h; cases h
 ·cases h
 ·cases h
theorem cI {N : Nat} {hs : Hints} {c : Code} {z : X} {x y : SC} (h : B6 P N hs c=some (.cond z x y)) :
  ∃ o a b,c=.cond o a b∧cx o=some z∧B6 P N hs a=some x∧B6 P N hs b=some y:=by
 cases c <;> simp only [B6,reduceCtorEq] at h
 ·cases h
 ·exfalso; exact JE h rfl
 ·exfalso; obtain ⟨_,_,h1,h2,h⟩:=CI h; cases h
 ·split at h
  ·rename_i hz; obtain ⟨_,_,h1,h2,h⟩:=CI h; cases h; exact ⟨_,_,_,rfl,hz,h1,h2⟩
  ·cases h
 all_goals exfalso
 ·rw [Option.map_eq_some_iff] at h; obtain ⟨_,_,h⟩:=h; cases h
 ·rw [Option.map_eq_some_iff] at h; obtain ⟨_,_,h⟩:=h; cases h
 ·cases h
 ·rw [Option.map_eq_some_iff] at h; obtain ⟨_,_,h⟩:=h; cases h
 ·cases h
 ·cases h
theorem Yo {N : Nat} {hs : Hints} {c : Code} {id : Nat} {x : SC} (h : B6 P N hs c=some (.block id x)) : ∃ a,c=.block id a∧B6 P N hs a=some x:=by
 cases c <;> simp only [B6,reduceCtorEq] at h
 ·cases h
 ·exfalso; exact JE h rfl
 ·exfalso; obtain ⟨_,_,h1,h2,h⟩:=CI h; cases h
 ·exfalso
  split at h
  ·obtain ⟨_,_,_,_,h⟩:=CI h; cases h
  ·cases h
 ·rw [Option.map_eq_some_iff] at h; obtain ⟨_,h1,h⟩:=h; cases h; exact ⟨_,rfl,h1⟩
 all_goals exfalso
 ·rw [Option.map_eq_some_iff] at h; obtain ⟨_,_,h⟩:=h; cases h
 ·cases h
 ·rw [Option.map_eq_some_iff] at h; obtain ⟨_,_,h⟩:=h; cases h
 ·cases h
 ·cases h
theorem bA {N : Nat} {hs : Hints} {c : Code} {x : SC} (h : B6 P N hs c=some (.loop [] x)) : ∃ a,c=.loop a∧B6 P N hs a=some x:=by
 cases c <;> simp only [B6,reduceCtorEq] at h
 ·cases h
 ·exfalso; exact JE h rfl
 ·exfalso; obtain ⟨_,_,h1,h2,h⟩:=CI h; cases h
 ·exfalso
  split at h
  ·obtain ⟨_,_,_,_,h⟩:=CI h; cases h
  ·cases h
 ·exfalso; rw [Option.map_eq_some_iff] at h; obtain ⟨_,_,h⟩:=h; cases h
 ·rw [Option.map_eq_some_iff] at h; obtain ⟨_,h1,h⟩:=h; cases h; exact ⟨_,rfl,h1⟩
 all_goals exfalso
 ·cases h
 ·rw [Option.map_eq_some_iff] at h; obtain ⟨_,_,h⟩:=h; cases h
 ·cases h
 ·cases h
theorem cE {N : Nat} {hs : Hints} {c : Code} {id : Nat} (h : B6 P N hs c=some (.exit id)) : c=.exit id:=by
 cases c <;> simp only [B6,reduceCtorEq] at h
 ·cases h
 ·exfalso; exact JE h rfl
 ·exfalso; obtain ⟨_,_,h1,h2,h⟩:=CI h; cases h
 ·exfalso
  split at h
  ·obtain ⟨_,_,_,_,h⟩:=CI h; cases h
  ·cases h
 ·exfalso; rw [Option.map_eq_some_iff] at h; obtain ⟨_,_,h⟩:=h; cases h
 ·exfalso; rw [Option.map_eq_some_iff] at h; obtain ⟨_,_,h⟩:=h; cases h
 ·cases h; rfl
 ·exfalso; rw [Option.map_eq_some_iff] at h; obtain ⟨_,_,h⟩:=h; cases h
 ·cases h
 ·cases h
theorem kY {N : Nat} {hs : Hints} {c : Code} (h : B6 P N hs c=some .ret) : c=.ret:=by
 cases c <;> simp only [B6,reduceCtorEq] at h
 ·cases h
 ·exfalso; exact JE h rfl
 ·exfalso; obtain ⟨_,_,h1,h2,h⟩:=CI h; cases h
 ·exfalso
  split at h
  ·obtain ⟨_,_,_,_,h⟩:=CI h; cases h
  ·cases h
 ·exfalso; rw [Option.map_eq_some_iff] at h; obtain ⟨_,_,h⟩:=h; cases h
 ·exfalso; rw [Option.map_eq_some_iff] at h; obtain ⟨_,_,h⟩:=h; cases h
 ·cases h
 ·exfalso; rw [Option.map_eq_some_iff] at h; obtain ⟨_,_,h⟩:=h; cases h
 ·cases h
 ·rfl
theorem lJ {N : Nat} {hs : Hints} {c : Code} {x : SC} (h : B6 P N hs c=some (.XN x)) : ∃ a,c=.scope a∧B6 P N hs a=some x:=by
 cases c <;> simp only [B6,reduceCtorEq] at h
 ·cases h
 ·exfalso; exact JE h rfl
 ·exfalso; obtain ⟨_,_,h1,h2,h⟩:=CI h; cases h
 ·exfalso
  split at h
  ·obtain ⟨_,_,_,_,h⟩:=CI h; cases h
  ·cases h
 ·exfalso; rw [Option.map_eq_some_iff] at h; obtain ⟨_,_,h⟩:=h; cases h
 ·exfalso; rw [Option.map_eq_some_iff] at h; obtain ⟨_,_,h⟩:=h; cases h
 ·cases h
 ·rw [Option.map_eq_some_iff] at h; obtain ⟨_,h1,h⟩:=h; cases h; exact ⟨_,rfl,h1⟩
 ·cases h
 ·cases h
theorem L2 (sz : Nat) : ∀ (n : Nat) (cs : List AV),(chunk sz n cs).length=n
 | 0,_=>rfl
 | n+1,cs=>by simp [chunk,L2 sz n]
theorem AV.cells_one {c : AV} (h : c.one=true) : c.cells=[c]:=by
 cases c <;> first | rfl | (simp [AV.one] at h)
theorem Gy {sz : Nat} (hz : 0<sz) : ∀ (n : Nat) (cs : List AV) (i : Nat),i<n→n*sz≤cs.length→(∀ c,c∈cs→c.one=true) →
  ((chunk sz n cs).getD i nv).cells.length=sz∧∀ j,j<sz→((chunk sz n cs).getD i nv).cells.getD j nv=cs.getD (i*sz+j) nv
 | 0,_,i,hi,_,_=>by omega
 | n+1,cs,i,hi,hl,ho=>by
  have n0 : n*sz+sz≤cs.length:=by rw [Nat.add_mul] at hl; omega
  cases i with
  | zero =>
   simp only [chunk,List.getD_cons_zero]
   by_cases h1 : sz=1
   ·subst h1;rw [if_pos rfl]
    cases cs with
    | nil=>simp at n0
    | cons c cs =>
     simp only [List.headD_cons];rw [AV.cells_one (ho c (by simp))];refine ⟨rfl,fun j hj=>?_⟩
     have ie : j=0:=by omega
     subst ie; rfl
   ·rw [if_neg h1];simp only [AV.cells,Nat.zero_mul,Nat.zero_add];refine ⟨by simp; omega,fun j hj=>?_⟩
    simp [gE,hj]
  | succ i =>
   simp only [chunk,List.getD_cons_succ]
   obtain ⟨h1,h2⟩:=Gy hz n (cs.drop sz) i (by omega) (by simp; omega) (fun c hc=>ho c (List.mem_of_mem_drop hc));refine ⟨h1,fun j hj=>?_⟩;rw [h2 j hj];simp only [gE,List.getElem?_drop];rw [show sz+(i*sz+j)=(i+1)*sz+j by rw [Nat.add_mul]; omega]
theorem dO {t : Nat} {F : Env→AA→Prop} {σ : Env} {H : AA} (h : fO t F σ H (σ.get t)) : ∃ σ' H',Wk σ H σ' H'∧F σ' H':=by
 cases hg : σ.get t with
 | none=>rw [hg] at h; exact ⟨σ,H,fun g B w tm a b=>⟨g,.refl g,a,b⟩,h⟩
 | some v =>
  rw [hg] at h
  by_cases hn : v=.A1
  ·subst hn;refine ⟨_,H,fun g B w tm a b=>⟨g,.refl g,a,fun s x e=>?_⟩,h⟩;simp only [Env.put,Env.get] at e
   split at e
   ·rename_i hs; cases e; subst hs
    obtain ⟨q1,q2⟩:=b s _ hg;refine ⟨q1, ?_⟩
    generalize tm.getD s undef=u at q2
    cases q2; exact .slnil none 0
   ·exact b s x e
  ·by_cases hb : ∃ id n,v=.buf id n
   ·obtain ⟨id,n,rfl⟩:=hb;simp only [fO] at h
    cases ho : H.get id with
    | none=>simp [ho,Xz] at h
    | some o =>
     cases o with
     | map _ _=>simp [ho,Xz] at h
     | cells sz cs f =>
      simp only [ho,Xz] at h
      obtain ⟨⟨h1,hz,V5⟩,h3⟩:=h;refine ⟨_,_,fun g B w tm hW hE=>?_,h3⟩
      have h2 : ∀ i,i<n→((chunk sz n cs).getD i nv).cells.length=sz:=fun i hi=>(Gy hz n cs i hi (by omega) V5).1
      obtain ⟨q1,q2⟩:=hE t _ hg
      generalize hu : tm.getD t undef=u at q2
      cases q2 with
      | DX _ D4 =>
       obtain ⟨p,hp,hr⟩:=hW.ob id _ ho;rw [D4] at hp; cases hp;simp only [Ai] at hr
       obtain ⟨rfl,rfl⟩:=hr;refine ⟨g,.refl g,hW.sub ?_,fun s x e=>?_⟩
       ·intro k o e
        by_cases hk : k=id
        ·subst hk; simp at e; subst e; exact ho
        ·rwa [AA.B1 _ _ hk] at e
       ·simp only [Env.put,Env.get] at e
        split at e
        ·rename_i hs; cases e; subst hs
         refine ⟨q1, ?_⟩;rw [hu]; exact .slnil none 0
        ·exact hE s x e
      | buf _ _ b cap D4 =>
       obtain ⟨c,g',r1,r2,r3,r4,r5,r6⟩:=hW.ZJ id b cap sz cs f ho D4
       obtain ⟨_,_,_,_,_,tp,IK,Ma,_⟩:=hW.obj D4 ho;refine ⟨g',r1,r2,fun s x e=>?_⟩;simp only [Env.put,Env.get] at e
       split at e
       ·rename_i hs; cases e; subst hs
        refine ⟨q1, ?_⟩;rw [hu]
        have hlen:=L2 sz n cs
        have key : Ad g' (.sl (chunk sz n cs)) (.slice (some ⟨b,0,none⟩) (chunk sz n cs).length cap):=by
         refine .sl _ b 0 sz cap (fun k=>c.getD k undef) ?_ ?_ ?_ ?_ ?_
         ·rw [hlen]
          have : n*1≤n*sz:=Nat.mul_le_mul_left _ hz;omega
         ·rw [hlen]
          have q : n*sz≤cap*sz:=by rw [← IK,← h1]; exact Ma
          exact Nat.le_of_mul_le_mul_right q hz
         ·intro i hi; rw [hlen] at hi; exact h2 i hi
         ·intro i j hi hj;rw [hlen] at hi
          have D3 : i*sz+j<cs.length:=by
           rw [h1]
           have : (i+1)*sz≤n*sz:=Nat.mul_le_mul_right _ hi;rw [Nat.add_mul] at this; omega
          rw [Nat.zero_add]; exact r5 _ D3
         ·intro i j hi hj;rw [hlen] at hi
          have D3 : i*sz+j<cs.length:=by
           rw [h1]
           have : (i+1)*sz≤n*sz:=Nat.mul_le_mul_right _ hi;rw [Nat.add_mul] at this; omega
          rw [(Gy hz n cs i hi (by omega) V5).2 j hj];exact r6 _ D3
        rw [hlen] at key; exact key
       ·obtain ⟨z1,z2⟩:=hE s x e; exact ⟨z1,z2.mono r1⟩
   ·refine ⟨σ,H,fun g B w tm a b=>⟨g,.refl g,a,b⟩, ?_⟩;unfold fO at h
    split at h
    ·rename_i heq; cases heq; exact absurd ⟨_,_,rfl⟩ hb
    ·rename_i heq; cases heq; exact absurd rfl hn
    ·exact h
theorem OE {N : Nat} {hs : Hints} {df : List Deferred} {x y : Code} {A : Env→AA→Prop} {Q : AQ} {g : Gh} {w : World} {a : Act}
  (h1 : x.wp P (Ih (QN A Q) g B w N df) a w)
  (h2 : ∀ g' σ' H' w' a',Ao g' B H' w'→Cc g' σ' a'.tmps→a'.tmps.size=N→a'.defers=df→A σ' H'→y.wp P (Ih Q g' B w' N df) a' w') :
  (Code.seq x y).wp P (Ih Q g B w N df) a w:=by
 refine wp_seq (wp_mono h1 fun e a' w' hp=>?_)
 cases e with
 | normal =>
  obtain ⟨g',σ',H',q1,q2,q3,q4,q5,q6,q7⟩:=hp;exact wp_mono (h2 g' σ' H' w' a' q3 q4 q6 q7 q2) fun e2 a2 w2 Fi=>Fi.from q1 q5
 | exit id=>exact hp
 | ret=>exact hp
 | goto l=>exact hp.elim
 | panic ch=>exact hp.elim
 | outgrown=>exact hp.elim
theorem HM {N : Nat} {hs : Hints} {df : List Deferred} : ∀ (s : SC) (c : Code),B6 P N hs c=some s.strip →
  ∀ (Q : AQ) (g : Gh) (H : AA) (w : World) (σ : Env) (a : Act),Ao g B H w→Cc g σ a.tmps→a.tmps.size=N→a.defers=df →
   FN P B s Q σ H→c.wp P (Ih Q g B w N df) a w:=by
 intro s
 induction s with
 | skip =>
  intro c hc Q g H w σ a hW hE hN hd hk
  rcases fB hc with rfl | ⟨_,rfl⟩
  ·exact wp_skip ⟨g,σ,H,.refl g,hk,hW,hE,.refl B w,hN,hd⟩
  ·exact wp_label ⟨g,σ,H,.refl g,hk,hW,hE,.refl B w,hN,hd⟩
 | Mi l =>
  intro c hc Q g H w σ a hW hE hN hd hk
  obtain ⟨id,ops,d,rfl,h⟩:=Wp hc rfl;exact O8 h Q g H w σ a hW hE hN hd hk id
 | two p l l' =>
  intro c hc Q g H w σ a hW hE hN hd hk
  obtain ⟨id,ops,d,rfl,h⟩:=Wp hc rfl;exact O8 h Q g H w σ a hW hE hN hd hk id
 | jG t =>
  intro c hc Q g H w σ a hW hE hN hd hk
  obtain ⟨id,ops,d,rfl,h⟩:=Wp hc rfl;exact O8 h Q g H w σ a hW hE hN hd hk id
 | seq x y ihx ihy =>
  intro c hc Q g H w σ a hW hE hN hd hk
  obtain ⟨c1,c2,rfl,h1,h2⟩:=Xc hc;exact OE (hs:=hs) (ihx c1 h1 _ g H w σ a hW hE hN hd hk) fun g' σ' H' w' a' p1 p2 p3 p4 p5=>ihy c2 h2 Q g' H' w' σ' a' p1 p2 p3 p4 p5
 | fz t x ih =>
  intro c hc Q g H w σ a hW hE hN hd hk;simp only [FN] at hk
  obtain ⟨σ1,H1,aC,hM⟩:=dO hk
  obtain ⟨g1,r1,r2,r3⟩:=aC g B w a.tmps hW hE;exact wp_mono (ih c hc Q g1 H1 w σ1 a r2 r3 hN hd hM) fun e2 a2 w2 Fi=>Fi.from r1 (.refl B w)
 | cut l x y ihx ihy =>
  intro c hc Q g H w σ a hW hE hN hd hk
  obtain ⟨c1,c2,rfl,h1,h2⟩:=Xc hc
  obtain ⟨M,k1,k2⟩:=hk
  have hx:=ihx c1 h1 _ g H w σ a hW hE hN hd k1;refine OE (hs:=hs) (A:=fun σ H=>Gb M (Env.BA l σ) H) (wp_mono hx fun e a' w' hp=>?_) fun g' σ' H' w' a' p1 p2 p3 p4 p5=>?_
  ·cases e <;> exact hp
  ·obtain ⟨σ1,H1,aC,hM⟩:=p5
   obtain ⟨g1,r1,r2,r3⟩:=aC g' B w' a'.tmps p1 (p2.BA l);exact wp_mono (ihy c2 h2 Q g1 H1 w' σ1 a' r2 r3 p3 p4 (k2 _ _ hM)) fun e2 a2 w2 Fi=>Fi.from r1 (.refl B w')
 | cond z x y ihx ihy =>
  intro c hc Q g H w σ a hW hE hN hd hk
  obtain ⟨o,c1,c2,rfl,hz,h1,h2⟩:=cI hc;simp only [FN] at hk
  cases hv : val σ z with
  | none=>simp [hv,PD] at hk
  | some v =>
   have hr:=Ar hE hz hv;rw [hv] at hk
   cases v <;> try (simp [PD] at hk; done)
   rename_i b
   have hb : a.eval o=.bool b:=by
    generalize a.eval o=u at hr
    cases hr; rfl
   simp only [PD,At] at hk;refine wp_cond_split hb (fun ht=>?_) (fun hf=>?_)
   ·exact ihx c1 h1 Q g H w σ a hW hE hN hd (hk.1 ht)
   ·exact ihy c2 h2 Q g H w σ a hW hE hN hd (hk.2 hf)
 | block id x ih =>
  intro c hc Q g H w σ a hW hE hN hd hk
  obtain ⟨c1,rfl,h1⟩:=Yo hc;refine wp_block (wp_mono (ih c1 h1 _ g H w σ a hW hE hN hd hk) fun e a' w' hp=>?_)
  cases e with
  | normal=>exact hp
  | exit Ca =>
   simp only [Exit.inBlock];simp only [Ih,GP,QR] at hp
   by_cases h : Ca=id
   ·rw [if_pos h]; simp only [h,if_true] at hp; exact hp
   ·rw [if_neg h]; simp only [h,if_false] at hp; exact hp
  | ret=>exact hp
  | goto l=>exact hp.elim
  | panic ch=>exact hp.elim
  | outgrown=>exact hp.elim
 | loop l x ih =>
  intro c hc Q g H w σ a hW hE hN hd hk
  obtain ⟨c1,rfl,h1⟩:=bA hc
  obtain ⟨I,n,σ0,H0,k1,k2,k3⟩:=hk
  obtain ⟨g0,r1,r2,r3⟩:=k2 g B w a.tmps hW (hE.BA l);refine UH (fun n a' w'=>GP (I n) g B w N df a' w') (n:=n) ⟨g0,σ0,H0,r1,k1,r2,r3,.refl B w,hN,hd⟩ ?_
  intro n a' w' ⟨g',σ',H',q1,q2,q3,q4,q5,q6,q7⟩;refine wp_mono (ih c1 h1 _ g' H' w' σ' a' q3 q4 q6 q7 (k3 n σ' H' q2)) fun e a2 w2 hp=>?_
  cases e with
  | normal =>
   obtain ⟨g2,σ2,H2,p1,⟨m,σ3,H3,hm,hI,aC⟩,p3,p4,p5,p6,p7⟩:=hp
   obtain ⟨g3,s1,s2,s3⟩:=aC g2 B w2 a2.tmps p3 (p4.BA l);exact ⟨m,hm,g3,σ3,H3,q1.trans (p1.trans s1),hI,s2,s3,q5.trans p5,p6,p7⟩
  | exit Ca=>exact Ih.from (e:=.exit Ca) q1 q5 hp
  | ret=>exact Ih.from (e:=.ret) q1 q5 hp
  | goto l=>exact hp.elim
  | panic ch=>exact hp.elim
  | outgrown=>exact hp.elim
 | exit id =>
  intro c hc Q g H w σ a hW hE hN hd hk
  have:=cE hc; subst this;exact wp_exit ⟨g,σ,H,.refl g,hk,hW,hE,.refl B w,hN,hd⟩
 | ret =>
  intro c hc Q g H w σ a hW hE hN hd hk
  have:=kY hc; subst this;exact wp_ret ⟨g,σ,H,.refl g,hk,hW,hE,.refl B w,hN,hd⟩
 | XN x ih =>
  intro c hc Q g H w σ a hW hE hN hd hk
  obtain ⟨c1,rfl,h1⟩:=lJ hc;refine wp_scope_straight (wp_mono (ih c1 h1 Q g H w σ a hW hE hN hd hk) fun e a2 w2 hp=>?_)
  cases e <;> exact hp
 | BA l x ih =>
  intro c hc Q g H w σ a hW hE hN hd hk;exact ih c hc Q g H w _ a hW (hE.BA l) hN hd hk
 | wk x ih =>
  intro c hc Q g H w σ a hW hE hN hd hk
  obtain ⟨σ1,H1,aC,hM⟩:=hk
  obtain ⟨g1,r1,r2,r3⟩:=aC g B w a.tmps hW hE;exact wp_mono (ih c hc Q g1 H1 w σ1 a r2 r3 hN hd hM) fun e2 a2 w2 Fi=>Fi.from r1 (.refl B w)
inductive RV where
 | tmp (t : Nat)
 | cell (t : Nat) (n : Option Nat)
def P8 (P : Program) : ResultVar→Option RV
 | .tmp t=>some (.tmp t)
 | .cell t ty=>(Gq P ty).map (.cell t)
def EV (P : Program) : List ResultVar→Option (List RV)
 | []=>some []
 | r::rs=>match P8 P r,EV P rs with
  | some a,some b=>some (a::b)
  | _,_=>none
def aI (n : Option Nat) : Option AV→AA→Option AV
 | some (.ref id off),H=>match H.get id,n with
  | some (.cells _ cs _),none=>if off<cs.length then some (cs.getD off nv) else none
  | some (.cells _ cs _),some n=>if off+n≤cs.length then some (.agg ((cs.drop off).take n)) else none
  | _,_=>none
 | some (.ptr cs),_=>match n with
  | none=>match cs with
   | c::_=>some c
   | []=>none
  | some n=>if cs.length=n then some (.agg cs) else none
 | _,_=>none
def u9 (σ : Env) (H : AA) : RV→Option AV
 | .tmp t=>σ.get t
 | .cell t n=>aI n (σ.get t) H
def MV (σ : Env) (H : AA) : List RV→Option (List AV)
 | []=>some []
 | r::rs=>My (u9 σ H r) (MV σ H rs)
def MF : Option (List AV)→Ap→AA→Prop
 | some [v],K,H=>K v H
 | some vs,K,H=>K (.CK vs) H
 | none,_,_=>False
def Ig (K : Ap) : Ap:=fun v H=>∃ H',AA.sub H' H∧K v H'
def QD (rs : List RV) (K : Ap) : AQ
 | .norm,σ,H=>MF (MV σ H rs) (Ig K) H
 | .ret,σ,H=>MF (MV σ H rs) (Ig K) H
 | _,_,_=>False
def GS : Nat→List AV→Env
 | _,[]=>[]
 | k,a::r=>(k,some a)::GS (k+1) r
theorem ME : ∀ (as : List AV) (k t : Nat) (v : AV),(GS k as).get t=some v→k≤t∧t<k+as.length∧v=as.getD (t - k) nv
 | [],k,t,v,h=>by simp [GS,Env.get] at h
 | a::r,k,t,v,h=>by
  simp only [GS,Env.get] at h
  split at h
  ·rename_i e; cases h; subst e; simp
  ·obtain ⟨h1,h2,h3⟩:=ME r (k+1) t v h
   have e1 : t - k=(t - (k+1))+1:=by omega
   exact ⟨by omega,by simp; omega,by rw [e1]; simpa using h3⟩
theorem o7 {g : Gh} {H : AA} {w : World} {σ : Env} {a : Act} (hW : Ao g B H w) (hE : Cc g σ a.tmps) {r : ResultVar} {rv : RV} (hr : P8 P r=some rv) {v : AV} (hv : u9 σ H rv=some v) :
  ∃ u,(match r with
   | .tmp t=>pure (a.tmps.getD t undef)
   | .cell ad t=>do loadVar t (← asAddr (a.tmps.getD ad undef)) : Sem Value).run P w=.ok u w∧Ad g v u:=by
 cases r with
 | tmp t =>
  cases hr;exact ⟨_,rfl,(hE t v hv).2⟩
 | cell t ty =>
  simp only [P8,Option.map_eq_some_iff] at hr
  obtain ⟨n,hn,rfl⟩:=hr;simp only [u9] at hv
  cases hg : σ.get t with
  | none=>cases n <;> simp [hg,aI] at hv
  | some av =>
   obtain ⟨h1,h2⟩:=hE t av hg;rw [hg] at hv
   cases av <;> try (cases n <;> simp [aI] at hv; done)
   case ptr cs =>
    have hl : ∃ p r,Zh n (some (.ptr cs))=some (p,r)∧p∧r=v:=by
     cases n with
     | none =>
      cases cs with
      | nil=>simp [aI] at hv
      | cons c cs=>simp [aI] at hv; exact ⟨True,c,rfl,trivial,hv⟩
     | some n =>
      simp only [aI] at hv
      split at hv
      ·rename_i hlen; cases hv; exact ⟨_,_,rfl,hlen,rfl⟩
      ·cases hv
    obtain ⟨p,r,e1,e2,rfl⟩:=hl
    obtain ⟨u,q1,q2⟩:=KH (P:=P) hW hn h2 e1 e2;refine ⟨u, ?_,q2⟩
    obtain ⟨b,o,T1⟩ : ∃ b o,a.tmps.getD t undef=.pointer (some ⟨b,o,none⟩):=by
     generalize a.tmps.getD t undef=uv at h2
     cases h2; exact ⟨_,_,rfl⟩
    show ((do loadVar ty (← asAddr (a.tmps.getD t undef))) : Sem Value).run P w=_
    rw [T1] at q1 ⊢
    simpa [asAddr,Instr.loadAt,Instr.sureAddr] using q1
   case ref id off =>
    have hl : M6 (H.get id) n off (fun r H'=>r=v∧H'=H) H:=by
     simp only [aI] at hv
     cases ho : H.get id with
     | none=>simp [ho] at hv
     | some o =>
      cases o with
      | map _ _=>cases n <;> simp [ho] at hv
      | cells sz cs f =>
       cases n with
       | none=>simp only [ho] at hv; split at hv <;> simp_all [M6]
       | some n=>simp only [ho] at hv; split at hv <;> simp_all [M6]
    obtain ⟨u,q1,q2⟩:=OQ (P:=P) hW hn h2 hl
    obtain ⟨g',r,H',p1,⟨rfl,rfl⟩,p3,p4,p5⟩:=q2
    have fV : Ad g r u:=by
     have Ia : M6 (H'.get id) n off (fun r' H''=>r'=r∧H''=H') H':=hl
     generalize hk0 : a.tmps.getD t undef=uv at h2 q1
     cases h2
     rename_i b cap D4
     cases ho : H'.get id with
     | none=>simp [ho,M6] at Ia
     | some o =>
      cases o with
      | map _ _=>cases n <;> simp [ho,M6] at Ia
      | cells sz cs f =>
       obtain ⟨c,el,h5,_,_,_,h6,h7,h8⟩:=hW.obj D4 ho
       cases n with
       | none =>
        simp only [ho,M6] at Ia
        obtain ⟨z1,z2,-⟩:=Ia
        have hc : w.cell? ⟨b,off,none⟩=some (c.getD off undef):=by rw [cell_of_row w b off c el _ h5]; exact getD_some (by omega)
        simp only [Instr.loadAt,Instr.sureAddr,loadVar,Sem.run_bind,Sem.run_pure,Result.andThen_ok,Ft hn] at q1;simp only [Bool.false_eq_true,if_false,run_load,hc,Result.ok.injEq,and_true] at q1;rw [← q1,← z2]; exact h8 off z1
       | some n =>
        simp only [ho,M6] at Ia
        obtain ⟨z1,z2,-⟩:=Ia
        obtain ⟨y1,i,y2,y3⟩:=JR (w:=w) hn
        have QW:=run_loadCells (P:=P) w ⟨b,off,none⟩ n (fun j=>c.getD (off+j) undef) (fun j hj=>by
         rw [Addr.add_lit,cell_of_row w b (off+j) c el _ h5]; exact getD_some (by omega))
        simp only [Instr.loadAt,Instr.sureAddr,loadVar,Sem.run_bind,Sem.run_pure,Result.andThen_ok,y1,if_true,sizeOf,typeInfo,run_program,y2,y3] at q1;simp only [QW,Result.andThen_ok,Sem.run_pure',Sem.run_pure,Result.ok.injEq,and_true] at q1;rw [← q1,← z2];refine .agg _ _ (by simp; omega) fun j hj=>?_
        have V4 : j<n:=by simp at hj; omega
        have e1 : ((cs.drop off).take n).getD j nv=cs.getD (off+j) nv:=by simp [gE,V4]
        have e2 : (((List.range n).map fun j=>c.getD (off+j) undef).toArray).getD j undef=c.getD (off+j) undef:=by simp [Array.getD,V4]
        rw [e1,e2];exact h8 _ (by omega)
    refine ⟨u, ?_,fV⟩
    obtain ⟨b,o,T1⟩ : ∃ b o,a.tmps.getD t undef=.pointer (some ⟨b,o,none⟩):=by
     generalize a.tmps.getD t undef=uv at h2
     cases h2; exact ⟨_,_,rfl⟩
    show ((do loadVar ty (← asAddr (a.tmps.getD t undef))) : Sem Value).run P w=_
    rw [T1] at q1 ⊢
    simpa [asAddr,Instr.loadAt,Instr.sureAddr] using q1
theorem Ro {g : Gh} {H : AA} {w : World} {σ : Env} {a : Act} (hW : Ao g B H w) (hE : Cc g σ a.tmps) : ∀ {rs : List ResultVar} {rvs : List RV} {vs : List AV},EV P rs=some rvs →
  MV σ H rvs=some vs→∃ us : List Value,(rs.mapM fun r=>(match r with
   | .tmp t=>pure (a.tmps.getD t undef)
   | .cell ad t=>do loadVar t (← asAddr (a.tmps.getD ad undef)) : Sem Value)).run P w=.ok us w∧us.length=vs.length∧∀ i,i<vs.length→Ad g (vs.getD i nv) (us.getD i undef)
 | [],rvs,vs,h,hv=>by
  cases h; cases hv;exact ⟨[],by simp,rfl,by simp⟩
 | r::rs,rvs,vs,h,hv=>by
  unfold EV at h
  split at h
  ·rename_i x y h1 h2
   cases h
   obtain ⟨v,vs',q1,q2,rfl⟩:=GK hv
   obtain ⟨u,p1,p2⟩:=o7 (P:=P) hW hE h1 q1
   obtain ⟨us,p3,p4,p5⟩:=Ro hW hE h2 q2;refine ⟨u::us, ?_,by simp [p4],fun i hi=>?_⟩
   ·simp only [List.mapM_cons,Sem.run_bind,p1,Result.andThen_ok,p3,Sem.run_pure]
   ·cases i with
    | zero=>exact p2
    | succ i=>simpa using p5 i (by simpa using hi)
  ·cases h
theorem BG.pM {f : FuncId} {fn : Func} {c : Code} {s : SC} {hs : Hints} {rvs : List RV} (hf : P.funcs[f]? = some fn) (hb : fn.body = some c) (hn : (fn.name == "runtime.NumGoroutine") = false)
  (hc : B6 P fn.ntmps hs c=some s.strip) (hr : EV P fn.results.toList=some rvs) {args : List AV} (VB : args.length≤fn.ntmps) {H : AA} {K : Ap}
  (hk : FN P B s (QD rvs K) (GS 0 args) H) : BG P B f args H K:=by
 refine ⟨⟨fn,hf,by simp [hb],hn⟩,fun g w vs hW hv=>?_⟩;refine calls_of_wp hf hb ?_
 have CW : (vs++Array.replicate (fn.ntmps - vs.size) undef).size=fn.ntmps:=by simp [hv.1]; omega
 have hE : Cc g (GS 0 args) (vs++Array.replicate (fn.ntmps - vs.size) undef):=by
  intro t v ht
  obtain ⟨h1,h2,h3⟩:=ME args 0 t v ht;simp only [Nat.zero_add,Nat.sub_zero] at h2 h3;refine ⟨by rw [CW]; omega, ?_⟩
  have : (vs++Array.replicate (fn.ntmps - vs.size) undef).getD t undef=vs.getD t undef:=by
   simp only [Array.getD_eq_getD_getElem?];rw [Array.getElem?_append_left (by rw [hv.1]; exact h2)]
  rw [this,h3];exact hv.2 t h2
 have hwp:=HM (df:=[]) s c hc (QD rvs K) g H w (GS 0 args) { tmps:=vs++Array.replicate (fn.ntmps - vs.size) undef,defers:=[] } hW hE CW rfl hk
 have Qe : ∀ (e : ve) σ' H' g' (a' : Act) w',QD rvs K e σ' H'→g.le g'→Ao g' B H' w'→Cc g' σ' a'.tmps→Below B w w'→∃ v,(results fn a'.tmps).run P w'=.ok v w'∧Dj g B w K v w':=by
  intro e σ' H' g' a' w' hq hle qQ hE' gO
  have NT : MF (MV σ' H' rvs) (Ig K) H':=by cases e <;> first | exact hq | exact hq.elim
  cases NA : MV σ' H' rvs with
  | none=>simp [NA,MF] at NT
  | some avs =>
   rw [NA] at NT
   obtain ⟨us,p1,p2,p3⟩:=Ro (P:=P) qQ hE' hr NA
   have Io : (results fn a'.tmps).run P w'=.ok (if h : us.toArray.size=1 then us.toArray[0] else .tuple us.toArray) w':=by
    unfold results;rw [Array.mapM_eq_mapM_toList]
    have p1' : ((fn.results.toList.mapM fun r=>(match r with
     | .tmp t=>pure (a'.tmps.getD t undef)
     | .cell ad t=>do loadVar t (← asAddr (a'.tmps.getD ad undef)) : Sem Value)) : Sem (List Value)).run P w'=.ok us w':=p1
    simp only [Sem.run_bind,Sem.run_map];refine Eq.trans (congrArg (fun r=>Result.andThen (Result.andThen r _) _) p1') ?_
    rfl
   refine ⟨_,Io, ?_⟩
   by_cases Il : avs.length=1
   ·obtain ⟨v,rfl⟩:=List.length_eq_one_iff.1 Il;simp only [MF] at NT
    obtain ⟨H2,V1,IM⟩:=NT
    obtain ⟨u,rfl⟩:=List.length_eq_one_iff.1 (p2.trans rfl);refine ⟨g',v,H2,hle,IM, ?_,qQ.sub V1,gO⟩
    simpa using p3 0 (by simp)
   ·have Mb : Ig K (.CK avs) H':=by
     cases avs with
     | nil=>exact NT
     | cons v1 r=>cases r with
      | nil=>exact absurd rfl Il
      | cons v2 r=>exact NT
    obtain ⟨H2,V1,IM⟩:=Mb
    have Bq : ¬ us.toArray.size=1:=by simp; omega
    refine ⟨g',.CK avs,H2,hle,IM, ?_,qQ.sub V1,gO⟩;rw [dif_neg Bq];exact .CK avs us.toArray (by simp [p2]) fun i hi=>by simpa using p3 i hi
 refine wp_mono hwp fun e a' w' hp=>?_
 cases e with
 | normal =>
  obtain ⟨g',σ',H',q1,q2,q3,q4,q5,q6,q7⟩:=hp
  obtain ⟨v,r1,r2⟩:=Qe .norm σ' H' g' a' w' q2 q1 q3 q4 q5;exact ⟨q7,v,r1,v,rfl,r2⟩
 | ret =>
  obtain ⟨g',σ',H',q1,q2,q3,q4,q5,q6,q7⟩:=hp
  obtain ⟨v,r1,r2⟩:=Qe .ret σ' H' g' a' w' q2 q1 q3 q4 q5;exact ⟨q7,v,r1,v,rfl,r2⟩
 | exit id =>
  obtain ⟨g',σ',H',q1,q2,_⟩:=hp;exact q2.elim
 | goto l=>exact hp.elim
 | panic ch=>exact hp.elim
 | outgrown=>exact hp.elim
end
end Go.AW
namespace Go.AW
section
variable {P : Program} {B : Nat} {Q : AQ} {F : Env→AA→Prop} {σ : Env} {H : AA} {d : Option Nat}
@[go_sem] theorem zF : FN P B .skip Q σ H=Q .norm σ H:=rfl
@[go_sem] theorem ng (t : Rl) : FN P B (.jG t) Q σ H=NY P B t (Q .norm) σ H:=rfl
@[go_sem] theorem pw (l : List Cx) (F : Env→AA→Prop) : NY P B (.fin l) F σ H=CF P B l F σ H:=rfl
@[go_sem] theorem otW_br (l : List Cx) (ts : Rl) (F : Env→AA→Prop) : NY P B (.br l ts) F σ H=CF P B l (NY P B ts F) σ H:=rfl
@[go_sem] theorem rb (F : Env→AA→Prop) : NY P B .nil F σ H=True:=rfl
@[go_sem] theorem mc (h : Cx) (t ts : Rl) (F : Env→AA→Prop) : NY P B (.alt h t ts) F σ H=(CF P B [h] (NY P B t F) σ H∧NY P B ts F σ H):=rfl
@[go_sem] theorem nw (p l l' : List Cx) : FN P B (.two p l l') Q σ H=CF P B p (fun σ H=>CF P B l (Q .norm) σ H∧CF P B l' (Q .norm) σ H) σ H:=rfl
@[go_sem] theorem nh (l : List Cx) : FN P B (.Mi l) Q σ H=CF P B l (Q .norm) σ H:=rfl
@[go_sem] theorem oe (a b : SC) : FN P B (.seq a b) Q σ H=FN P B a (QN (FN P B b Q) Q) σ H:=rfl
@[go_sem] theorem yV (x : X) (a b : SC) : FN P B (.cond x a b) Q σ H=PD (val σ x) (FN P B a Q) (FN P B b Q) σ H:=rfl
@[go_sem] theorem tH (id : Nat) (c : SC) : FN P B (.block id c) Q σ H=FN P B c (QR id Q) σ H:=rfl
@[go_sem] theorem xS (id : Nat) : FN P B (.exit id) Q σ H=Q (.exit id) σ H:=rfl
@[go_sem] theorem pq (c : SC) : FN P B (.XN c) Q σ H=FN P B c Q σ H:=rfl
@[go_sem] theorem pa : FN P B .ret Q σ H=Q .ret σ H:=rfl
@[go_sem] theorem xE (l : List Nat) (c : SC) : FN P B (.BA l c) Q σ H=FN P B c Q (Env.BA l σ) H:=rfl
@[go_sem] theorem yn (t : Nat) (c : SC) : FN P B (.fz t c) Q σ H=fO t (FN P B c Q) σ H (σ.get t):=rfl
@[go_sem] theorem uR : QN F Q .norm σ H=F σ H:=rfl
@[go_sem] theorem pY : QN F Q .norm=F:=rfl
@[go_sem] theorem uI (i : Nat) : QN F Q (.exit i) σ H=Q (.exit i) σ H:=rfl
@[go_sem] theorem dt : QN F Q .ret σ H=Q .ret σ H:=rfl
@[go_sem] theorem tA (i : Nat) : QR i Q .norm σ H=Q .norm σ H:=rfl
@[go_sem] theorem oQ (i : Nat) : QR i Q .norm=Q .norm:=rfl
@[go_sem] theorem tN (i j : Nat) : QR j Q (.exit i) σ H=(match Nat.beq i j with | true=>Q .norm σ H | false=>Q (.exit i) σ H):=by
 show (if i=j then Q .norm σ H else Q (.exit i) σ H)=_
 by_cases h : i=j
 ·subst h; simp
 ·rw [if_neg h,show Nat.beq i j=false from Bool.eq_false_iff.mpr fun e=>h (Nat.eq_of_beq_eq_true e)]
@[go_sem] theorem xG (i : Nat) : QR i Q .ret σ H=Q .ret σ H:=rfl
@[go_sem] theorem zW (l : List Nat) (I : Nat→Env→AA→Prop) (n : Nat) : mY l I n Q .norm σ H=∃ m σ' H',m<n∧I m σ' H'∧Wk (Env.BA l σ) H σ' H':=rfl
@[go_sem] theorem yF (l : List Nat) (I : Nat→Env→AA→Prop) (n i : Nat) : mY l I n Q (.exit i) σ H=Q (.exit i) σ H:=rfl
@[go_sem] theorem na (l : List Nat) (I : Nat→Env→AA→Prop) (n : Nat) : mY l I n Q .ret σ H=Q .ret σ H:=rfl
@[go_sem] theorem xC (l : List Nat) (M : Env→AA→Prop) : zS l M Q .norm σ H=Gb M (Env.BA l σ) H:=rfl
@[go_sem] theorem fc (l : List Nat) (M : Env→AA→Prop) (i : Nat) : zS l M Q (.exit i) σ H=Q (.exit i) σ H:=rfl
@[go_sem] theorem mm (l : List Nat) (M : Env→AA→Prop) : zS l M Q .ret σ H=Q .ret σ H:=rfl
@[go_sem] theorem yD (rs : List RV) (K : Ap) : QD rs K .ret σ H=MF (MV σ H rs) (Ig K) H:=rfl
@[go_sem] theorem tU (rs : List RV) (K : Ap) : QD rs K .norm σ H=MF (MV σ H rs) (Ig K) H:=rfl
@[go_sem] theorem wS : MV σ H []=some []:=rfl
@[go_sem] theorem vB (r : RV) (rs : List RV) : MV σ H (r::rs)=My (u9 σ H r) (MV σ H rs):=rfl
@[go_sem] theorem qf (t : Nat) : u9 σ H (.tmp t)=σ.get t:=rfl
@[go_sem] theorem aw (t : Nat) (n : Option Nat) : u9 σ H (.cell t n)=aI n (σ.get t) H:=rfl
@[go_sem] theorem xZ (v : AV) (K : Ap) : MF (some [v]) K H=K v H:=rfl
@[go_sem] theorem uO (K : Ap) : MF (some []) K H=K (.CK []) H:=rfl
@[go_sem] theorem yB (u v : AV) (r : List AV) (K : Ap) : MF (some (u::v::r)) K H=K (.CK (u::v::r)) H:=rfl
@[go_sem] theorem get_nil (t : Nat) : Env.get [] t=none:=rfl
@[go_sem] theorem Hb (s : Nat) (v : Option AV) (r : Env) (t : Nat) : Env.get ((s,v)::r) t=(match Nat.beq t s with | true=>v | false=>Env.get r t):=by
 rw [Env.Hb]
 by_cases h : t=s
 ·subst h; simp
 ·rw [if_neg h,show Nat.beq t s=false from Bool.eq_false_iff.mpr fun e=>h (Nat.eq_of_beq_eq_true e)]
@[go_sem] theorem ae : Env.BA [] σ=[]:=rfl
@[go_sem] theorem tR (t : Nat) (r : List Nat) : Env.BA (t::r) σ=(t,σ.get t)::Env.BA r σ:=rfl
@[go_sem] theorem put_eq (t : Nat) (v : AV) : Env.put σ t v=(t,some v)::σ:=rfl
@[go_sem] theorem tV (t : Nat) : Env.forget σ t=(t,none)::σ:=rfl
@[go_sem] theorem lF (t : Nat) : Hr (some t) σ=(t,some nv)::σ:=rfl
@[go_sem] theorem lg (b : Bool) (cs : List AV) (A C : Env→AA→Prop) : iE (some (.CK cs)) b A C σ H=C σ H:=rfl
@[go_sem] theorem kL : Hr none σ=σ:=rfl
@[go_sem] theorem tT (k : Nat) : GS k []=[]:=rfl
@[go_sem] theorem qI (k : Nat) (a : AV) (r : List AV) : GS k (a::r)=(k,some a)::GS (k+1) r:=rfl
@[go_sem] theorem val_t (n : Nat) : val σ (.t n)=σ.get n:=rfl
@[go_sem] theorem val_c (v : AV) : val σ (.c v)=some v:=rfl
@[go_sem] theorem wI : DB σ []=some []:=rfl
@[go_sem] theorem u0 (x : X) (r : List X) : DB σ (x::r)=My (val σ x) (DB σ r):=rfl
@[go_sem] theorem fh (a : AV) (r : List AV) : My (some a) (some r)=some (a::r):=rfl
@[go_sem] theorem cp : CF P B [] F σ H=F σ H:=rfl
@[go_sem] theorem yQ (i : Ins) (r : List Cx) : CF P B (⟨d,none,i⟩::r) F σ H=FZ P B d i (CF P B r F) σ H:=rfl
@[go_sem] theorem opsW_g (t : Nat) (b : Bool) (i : Ins) (r : List Cx) :
  CF P B (⟨d,some (t,b),i⟩::r) F σ H=iE (σ.get t) b (FZ P B d i (CF P B r F)) (bg d (CF P B r F)) σ H:=rfl
@[go_sem] theorem yi : bg d F σ H=F (Hr d σ) H:=rfl
structure Br (c : Bool) (p q : Prop) : Prop where
 t : c=true→p
 f : c=false→q
structure Bn (c : Bool) (p q : Prop) : Prop where
 f : c=false→p
 t : c=true→q
@[go_sem] theorem Br_t (A C : Env→AA→Prop) : Br true (At A σ H) (At C σ H)=A σ H:=propext ⟨fun h=>h.t rfl,fun h=>⟨fun _=>h,fun e=>by cases e⟩⟩
@[go_sem] theorem Br_f (A C : Env→AA→Prop) : Br false (At A σ H) (At C σ H)=C σ H:=propext ⟨fun h=>h.f rfl,fun h=>⟨fun e=>(by cases e),fun _=>h⟩⟩
@[go_sem] theorem Bn_t (A C : Env→AA→Prop) : Bn true (At A σ H) (At C σ H)=C σ H:=propext ⟨fun h=>h.t rfl,fun h=>⟨fun e=>(by cases e),fun _=>h⟩⟩
@[go_sem] theorem Bn_f (A C : Env→AA→Prop) : Bn false (At A σ H) (At C σ H)=A σ H:=propext ⟨fun h=>h.f rfl,fun h=>⟨fun _=>h,fun e=>by cases e⟩⟩
@[go_sem] theorem uh (c : Bool) (A C : Env→AA→Prop) : iE (some (.bool c)) true A C σ H=Br c (At A σ H) (At C σ H):=propext ⟨fun h=>⟨h.1,h.2⟩,fun h=>⟨h.t,h.f⟩⟩
@[go_sem] theorem yq (c : Bool) (A C : Env→AA→Prop) : iE (some (.bool c)) false A C σ H=Bn c (At A σ H) (At C σ H):=propext ⟨fun h=>⟨h.1,h.2⟩,fun h=>⟨h.f,h.t⟩⟩
@[go_sem] theorem xx (c : Bool) (A C : Env→AA→Prop) : PD (some (.bool c)) A C σ H=Br c (At A σ H) (At C σ H):=propext ⟨fun h=>⟨h.1,h.2⟩,fun h=>⟨h.t,h.f⟩⟩
def pE (d : Option Nat) (F : Env→AA→Prop) (σ : Env) (H : AA) (e : PV) : Prop:=pW e (DP d F σ) H
@[go_sem] theorem uF (t : Nat) (v : AV) : DP (some t) F σ v H=F ((t,some v)::σ) H:=rfl
@[go_sem] theorem sZ (v : AV) : DP none F σ v H=F σ H:=rfl
@[go_sem] theorem oj (p : Prop) (r : AV) : pE d F σ H (some (p,r))=(p∧DP d F σ r H):=rfl
attribute [go_sem] true_and
@[go_sem] theorem uo (x : X) : FZ P B d (.mv x) F σ H=pE d F σ H (Wm (val σ x)):=rfl
@[go_sem] theorem ah (c a b : X) : FZ P B d (.pick c a b) F σ H=pE d F σ H (Mk (val σ c) (val σ a) (val σ b)):=rfl
@[go_sem] theorem xc (op : BinOp) (k : IntKind) (x y : X) : FZ P B d (.ar op k x y) F σ H=pE d F σ H (Hs op k (val σ x) (val σ y)):=rfl
@[go_sem] theorem uk (n : Bool) (x y : X) : FZ P B d (.bq n x y) F σ H=pE d F σ H (jV n (val σ x) (val σ y)):=rfl
@[go_sem] theorem zl (n : Bool) (x : X) : FZ P B d (.nq n x) F σ H=pE d F σ H (kO n (val σ x)):=rfl
@[go_sem] theorem xp (n : Bool) (m : Nat) (x y : X) : FZ P B d (.aq n m x y) F σ H=pE d F σ H (iJ n m (val σ x) (val σ y)):=rfl
@[go_sem] theorem zh (x : X) : FZ P B d (.nt x) F σ H=pE d F σ H (tX (val σ x)):=rfl
@[go_sem] theorem dv (k : IntKind) (x : X) : FZ P B d (.conv k x) F σ H=pE d F σ H (R6 k (val σ x)):=rfl
@[go_sem] theorem lx (x : X) : FZ P B d (.len x) F σ H=pE d F σ H (FF (val σ x)):=rfl
@[go_sem] theorem cz (x : X) : FZ P B d (.Zu x) F σ H=pE d F σ H (UC (val σ x)):=rfl
@[go_sem] theorem fe (x : X) : FZ P B d (.Sy x) F σ H=tE (val σ x) (DP d F σ) H:=rfl
@[go_sem] theorem yG (id : Nat) (K : Ap) : tE (some (.GX id)) K H=lm1 (H.get id) K H:=rfl
@[go_sem] theorem oz (ks vs : List AV) (K : Ap) : lm1 (some (.map ks vs)) K H=K (.int .i64 ks.length) H:=rfl
@[go_sem] theorem nc (s : Nat) (x : X) (lo hi : Option X) : FZ P B d (.mB s x lo hi) F σ H=WS s (val σ x) (lo.map (val σ)) (hi.map (val σ)) (DP d F σ) H:=rfl
@[go_sem] theorem z8 (s id n : Nat) (lo hi : Option (Option AV)) (K : Ap) : WS s (some (.buf id n)) lo hi K H=wW s n (Jr s id n lo hi) (H.get id) K H:=rfl
@[go_sem] theorem lq (s id n : Nat) (k : IntKind) (a : Int) : Jr s id n (some (some (.int k a))) none=some (0≤a∧a.toNat<n,.sub id (a.toNat*s) (n - a.toNat)):=rfl
@[go_sem] theorem mr (s id n : Nat) (k : IntKind) (b : Int) : Jr s id n none (some (some (.int k b)))=some (0≤b∧b.toNat≤n∧0<n,.buf id b.toNat):=rfl
@[go_sem] theorem rj (z : List AV) (x : X) : FZ P B d (.sD z x) F σ H=Yl z (val σ x) (DP d F σ) H:=rfl
@[go_sem] theorem zM (z : List AV) (id off n : Nat) (K : Ap) : Yl z (some (.sub id off n)) K H=(0<n∧Oa (H.get id) id off (n*z.length) (rep n z) K H):=rfl
@[go_sem] theorem wF (i o n : Nat) : FF (some (.sub i o n))=some (True,.int .i64 n):=rfl
@[go_sem] theorem bx (n id o m : Nat) (k : IntKind) (i : Int) : Hl n (some (.sub id o m)) (some (.int k i))=some (0≤i∧i.toNat<m,.ref id (o+i.toNat*n)):=rfl
@[go_sem] theorem kq (n : Nat) (x i : X) : FZ P B d (.idx n x i) F σ H=pE d F σ H (Hl n (val σ x) (val σ i)):=rfl
@[go_sem] theorem nn (o n : Nat) (x : X) : FZ P B d (.nO o n x) F σ H=pE d F σ H (Tg o n (val σ x)):=rfl
@[go_sem] theorem qv (n : Option Nat) (x : X) : FZ P B d (.vV n x) F σ H=pE d F σ H (Zh n (val σ x)):=rfl
@[go_sem] theorem qm (x : X) : FZ P B d (.nI x) F σ H=pE d F σ H (Wo (val σ x)):=rfl
@[go_sem] theorem pj (z : List AV) (ps : List (Nat × Nat × X)) : FZ P B d (.sL z ps) F σ H=pE d F σ H (ZG (J4 σ ps z)):=rfl
@[go_sem] theorem oi (o : Nat) (n : Option Nat) (x : X) : FZ P B d (.prt o n x) F σ H=pE d F σ H (Ug o n (val σ x)):=rfl
@[go_sem] theorem oq (x : X) (i : Nat) : FZ P B d (.ext x i) F σ H=pE d F σ H (Yj i (val σ x)):=rfl
@[go_sem] theorem qp (f : Fn) (l : List X) : FZ P B d (.rQ f l) F σ H=pE d F σ H (fG f (DB σ l)):=rfl
@[go_sem] theorem rh (t : TypeId) (x : X) : FZ P B d (.nS t x) F σ H=pE d F σ H (eZ t (val σ x)):=rfl
@[go_sem] theorem bf (n : Nat) (l : List X) : FZ P B d (.Zr n l) F σ H=pE d F σ H (eB n (DB σ l)):=rfl
@[go_sem] theorem uB (o n id : Nat) (cs : List AV) : Tg o n (some (.GY cs id))=some (True,if o+n≤cs.length then .ptr ((cs.drop o).take n) else .ref id o):=rfl
@[go_sem] theorem tS (id : Nat) (cs : List AV) : Wo (some (.GY cs id))=some (True,.GY cs id):=rfl
@[go_sem] theorem mh : FZ P B d .emp F σ H=pE d F σ H (some (True,.FI)):=rfl
@[go_sem] theorem pd : FF (some .FI)=some (True,.int .i64 0):=rfl
@[go_sem] theorem aa (n : Nat) (x : X) : FZ P B d (.aE n x) F σ H=pE d F σ H (fF n (val σ x)):=rfl
@[go_sem] theorem xu (b : Bool) (x y : X) : FZ P B d (.mx b x y) F σ H=pE d F σ H (lK b (val σ x) (val σ y)):=rfl
@[go_sem] theorem oy (x : X) : FZ P B d (.vD x) F σ H=pE d F σ H (RU (val σ x)):=rfl
@[go_sem] theorem wJ (v : AV) : Wm (some v)=some (True,v):=rfl
@[go_sem] theorem qh (a b : Option AV) : Mk (some (.bool true)) a b=Wm a:=rfl
@[go_sem] theorem mw (a b : Option AV) : Mk (some (.bool false)) a b=Wm b:=rfl
@[go_sem] theorem nu (k : IntKind) (a b : Int) : Hs .add k (some (.int k a)) (some (.int k b))=some (True,.int k (k.wrap (a+b))):=by simp [Hs,Tn]
@[go_sem] theorem aj (k : IntKind) (a b : List UInt8) : Hs .add k (some (.str a)) (some (.str b))=some (a.length+b.length≤AK,.str (a++b)):=rfl
@[go_sem] theorem x4 (k : IntKind) (a b : List UInt8) : Hs .eql k (some (.str a)) (some (.str b))=some (True,.bool (decide (a=b))):=rfl
@[go_sem] theorem yR (k : IntKind) (a b : List UInt8) : Hs .neq k (some (.str a)) (some (.str b))=some (True,.bool (!decide (a=b))):=rfl
@[go_sem] theorem cb (l : List UInt8) (k : IntKind) (a : Int) : Ki 0 (some (.str l)) (some (some (.int k a))) none=some (0≤a∧a≤l.length,.str (l.drop a.toNat)):=rfl
@[go_sem] theorem mf (k : IntKind) (a b : Int) : Hs .sub k (some (.int k a)) (some (.int k b))=some (True,.int k (k.wrap (a - b))):=by simp [Hs,Tn]
@[go_sem] theorem kr (k : IntKind) (a b : Int) : Hs .mul k (some (.int k a)) (some (.int k b))=some (True,.int k (k.wrap (a*b))):=by simp [Hs,Tn]
@[go_sem] theorem qw (k : IntKind) (a b : Int) : Hs .quo k (some (.int k a)) (some (.int k b))=some (b≠0,.int k (k.wrap (a.tdiv b))):=by simp [Hs,Tn]
@[go_sem] theorem qa (k : IntKind) (a b : Int) : Hs .rem k (some (.int k a)) (some (.int k b))=some (b≠0,.int k (a.tmod b)):=by simp [Hs,Tn]
@[go_sem] theorem lj (k : IntKind) (a b : Int) : Hs .eql k (some (.int k a)) (some (.int k b))=some (True,.bool (decide (a=b))):=by simp [Hs,Tn]
@[go_sem] theorem lp (k : IntKind) (a b : Int) : Hs .neq k (some (.int k a)) (some (.int k b))=some (True,.bool (!decide (a=b))):=by simp [Hs,Tn]
@[go_sem] theorem qs (k : IntKind) (a b : Int) : Hs .lss k (some (.int k a)) (some (.int k b))=some (True,.bool (decide (a<b))):=by simp [Hs,Tn]
@[go_sem] theorem kn (k : IntKind) (a b : Int) : Hs .leq k (some (.int k a)) (some (.int k b))=some (True,.bool (decide (a≤b))):=by simp [Hs,Tn]
@[go_sem] theorem qd (k : IntKind) (a b : Int) : Hs .gtr k (some (.int k a)) (some (.int k b))=some (True,.bool (decide (b<a))):=by simp [Hs,Tn]
@[go_sem] theorem pe (k : IntKind) (a b : Int) : Hs .geq k (some (.int k a)) (some (.int k b))=some (True,.bool (decide (b≤a))):=by simp [Hs,Tn]
@[go_sem] theorem ku (k : IntKind) (a b : Int) : Hs .and k (some (.int k a)) (some (.int k b))=some (True,.int k (k.wrap (BitVec.ofInt k.bits a &&& BitVec.ofInt k.bits b).toNat)):=by simp [Hs,Tn]
@[go_sem] theorem pg (k k' : IntKind) (a b : Int) : Hs .shr k (some (.int k a)) (some (.int k' b))=some (0≤b,.int k (a.fdiv (2 ^ min b.toNat k.bits))):=by simp [Hs,Tn,aY]
@[go_sem] theorem map_n {α β : Type} (f : α→β) : Option.map f none=none:=rfl
@[go_sem] theorem map_s {α β : Type} (f : α→β) (a : α) : Option.map f (some a)=some (f a):=rfl
@[go_sem] theorem vk (n a b : Bool) : jV n (some (.bool a)) (some (.bool b))=some (True,.bool (n ^^ (a == b))):=rfl
@[go_sem] theorem qb (n : Bool) : kO n (some .Gk)=some (True,.bool (!n)):=rfl
@[go_sem] theorem lh (n : Bool) (cs : List AV) : kO n (some (.ptr cs))=some (True,.bool n):=rfl
@[go_sem] theorem qn (n : Bool) (i o : Nat) : kO n (some (.ref i o))=some (True,.bool n):=rfl
@[go_sem] theorem ntE_b (a : Bool) : tX (some (.bool a))=some (True,.bool (!a)):=rfl
@[go_sem] theorem tJ (k k' : IntKind) (a : Int) : R6 k (some (.int k' a))=some (True,.int k (k.wrap a)):=rfl
@[go_sem] theorem lr (es : List AV) : FF (some (.sl es))=some (True,.int .i64 es.length):=rfl
@[go_sem] theorem dg (i n : Nat) : FF (some (.buf i n))=some (True,.int .i64 n):=rfl
@[go_sem] theorem wV (n : Nat) : FF (some (.V7 n))=some (True,.int .i64 n):=rfl
@[go_sem] theorem xQ : FF (some .A1)=some (True,.int .i64 0):=rfl
@[go_sem] theorem tD (l : List UInt8) : UC (some (.str l))=some (True,.int .i64 l.length):=rfl
@[go_sem] theorem px (n : Nat) (es : List AV) (k : IntKind) (i : Int) :
  Hl n (some (.sl es)) (some (.int k i))=some (0≤i∧i.toNat<es.length∧(es.getD i.toNat nv).cells.length=n,.ptr (es.getD i.toNat nv).cells):=rfl
@[go_sem] theorem cj (n id m : Nat) (k : IntKind) (i : Int) : Hl n (some (.buf id m)) (some (.int k i))=some (0≤i∧i.toNat<m,.ref id (i.toNat*n)):=rfl
@[go_sem] theorem dj (o n : Nat) (cs : List AV) : Tg o n (some (.ptr cs))=some (o+n≤cs.length,.ptr ((cs.drop o).take n)):=rfl
@[go_sem] theorem bw (o n id off : Nat) : Tg o n (some (.ref id off))=some (True,.ref id (off+o)):=rfl
@[go_sem] theorem ldE_1 (c : AV) (cs : List AV) : Zh none (some (.ptr (c::cs)))=some (True,c):=rfl
@[go_sem] theorem ldE_n (n : Nat) (cs : List AV) : Zh (some n) (some (.ptr cs))=some (cs.length=n,.agg cs):=rfl
@[go_sem] theorem xA (cs : List AV) : Wo (some (.ptr cs))=some (True,.ptr cs):=rfl
@[go_sem] theorem zQ (i o : Nat) : Wo (some (.ref i o))=some (True,.ref i o):=rfl
@[go_sem] theorem yT (cs : List AV) : J4 σ [] cs=some (True,cs):=rfl
@[go_sem] theorem uH (o n : Nat) (x : X) (r : List (Nat × Nat × X)) (cs : List AV) : J4 σ ((o,n,x)::r) cs=eO n o (val σ x) cs (J4 σ r):=rfl
@[go_sem] theorem sW (n o : Nat) (a : AV) (cs : List AV) (G : List AV→Option (Prop × List AV)) : eO n o (some a) cs G=bU (a.cells.length=n∧o+n≤cs.length) (G (wr cs o a.cells)):=rfl
@[go_sem] theorem uV (p q : Prop) (r : List AV) : bU p (some (q,r))=some (p∧q,r):=rfl
@[go_sem] theorem uU (p : Prop) (r : List AV) : ZG (some (p,r))=some (p,.agg r):=rfl
@[go_sem] theorem Ht (cs : List AV) (o : Nat) : wr cs o []=cs:=rfl
@[go_sem] theorem Fw (cs : List AV) (o : Nat) (v : AV) (r : List AV) : wr cs o (v::r)=wr (cs.set o v) (o+1) r:=rfl
@[go_sem] theorem ui (o : Nat) (cs : List AV) : Ug o none (some (.agg cs))=some (o<cs.length,cs.getD o nv):=rfl
@[go_sem] theorem prtE_n (o n : Nat) (cs : List AV) : Ug o (some n) (some (.agg cs))=some (o+n≤cs.length,.agg ((cs.drop o).take n)):=rfl
@[go_sem] theorem dm (i : Nat) (vs : List AV) : Yj i (some (.CK vs))=some (i<vs.length,vs.getD i nv):=rfl
@[go_sem] theorem uZ (f : Fn) (l : List AV) : fG f (some l)=some (True,.fn f l):=rfl
@[go_sem] theorem tB (t : TypeId) (v : AV) : eZ t (some v)=some (True,.RM t v):=rfl
@[go_sem] theorem sY (n : Nat) (l : List AV) : eB n (some l)=some (Da n l∧l.length≤AK,.sl l):=rfl
@[go_sem] theorem tQ (n : Nat) (a : AV) : fF n (some a)=some (a.cells.length=n∧∀ c,c∈a.cells→c.one=true,.ptr a.cells):=rfl
@[go_sem] theorem yb (b : Bool) (k1 k2 : IntKind) (x y : Int) : lK b (some (.int k1 x)) (some (.int k2 y))=some (k1=k2,.int k1 (if b then (if y > x then y else x) else (if y<x then y else x))):=rfl
@[go_sem] theorem jO (es : List AV) : RU (some (.sl es))=some (∀ e,e∈es→e.isByte=true,.str (es.map AV.byte)):=rfl
@[go_sem] theorem yJ : RU (some .A1)=some (True,.str []):=rfl
@[go_sem] theorem vn (n : Bool) (m : Nat) (k1 k2 : IntKind) (a b c e : Int) : iJ n m (some (.agg [.int k1 a,.int k2 b])) (some (.agg [.int k1 c,.int k2 e])) =
  some (True,.bool (n ^^ (decide (a=c) && decide (b=e)))):=by
 simp only [iJ,yN,Bool.and_true,Option.some.injEq,Prod.mk.injEq,and_true,eq_iff_iff,iff_true];exact ⟨k1,k2,a,b,c,e,rfl,rfl⟩
@[go_sem] theorem qz (b : Bool) (x : X) : FZ P B d (.jE b x) F σ H=Vz b (val σ x) (DP d F σ) H:=rfl
@[go_sem] theorem ky (t : TypeId) (x : X) : FZ P B d (.nH t x) F σ H=Z5 P t (val σ x) (DP d F σ) H:=rfl
@[go_sem] theorem wT (t u : TypeId) (v : AV) (K : Ap) : Z5 P u (some (.RM t v)) K H=(oH P t u∧K (.CK [.RM t v,.bool true]) H):=rfl
@[go_sem] theorem qj (x : X) (n : String) (l : List X) : FZ P B d (.inv x n l) F σ H=kF P B n (val σ x) (DB σ l) (DP d F σ) H:=rfl
@[go_sem] theorem dc (n : String) (t : TypeId) (v : AV) (as : List AV) (K : Ap) : kF P B n (some (.RM t v)) (some as) K H=∃ f,pB P t n f∧BG P B f (v::as) H K:=rfl
@[go_sem] theorem opE_ld (n : Option Nat) (x : X) : FZ P B d (.ld n x) F σ H=VV n (val σ x) (DP d F σ) H:=rfl
@[go_sem] theorem eh (c : AV) (cs : List AV) (K : Ap) : VV none (some (.ptr (c::cs))) K H=K c H:=by simp [VV,Zh,pW]
@[go_sem] theorem wX (n : Nat) (cs : List AV) (K : Ap) : VV (some n) (some (.ptr cs)) K H=(cs.length=n∧K (.agg cs) H):=rfl
@[go_sem] theorem py (n : Option Nat) (id off : Nat) (K : Ap) : VV n (some (.ref id off)) K H=M6 (H.get id) n off K H:=rfl
@[go_sem] theorem Xm (sz f : Nat) (cs : List AV) (off : Nat) (K : Ap) : M6 (some (.cells sz cs f)) none off K H=(off<cs.length∧K (cs.getD off nv) H):=rfl
@[go_sem] theorem mV (sz f n : Nat) (cs : List AV) (off : Nat) (K : Ap) : M6 (some (.cells sz cs f)) (some n) off K H=(off+n≤cs.length∧K (.agg ((cs.drop off).take n)) H):=rfl
@[go_sem] theorem yr (n : Nat) (p v : X) : FZ P B d (.st n p v) F σ H=qL n (val σ p) (val σ v) (DP d F σ) H:=rfl
@[go_sem] theorem nz (n id off : Nat) (v : AV) (K : Ap) : qL n (some (.ref id off)) (some v) K H=Oa (H.get id) id off n v.cells K H:=rfl
@[go_sem] theorem Mv (sz f n id off : Nat) (cs vs : List AV) (K : Ap) : Oa (some (.cells sz cs f)) id off n vs K H =
  ((f≤off∧off+n≤cs.length∧vs.length=n∧∀ c,c∈vs→c.one=true)∧K nv (H.set id (.cells sz (wr cs off vs) f))):=rfl
@[go_sem] theorem fb (n : Nat) (l : List X) : FZ P B d (.Sx n l) F σ H=Qp n (DB σ l) (DP d F σ) H:=rfl
@[go_sem] theorem oD (n : Nat) (l : List AV) (K : Ap) : Qp n (some l) K H=((Da n l∧l.length≤AK)∧Eo l.length n (flat l) K H):=rfl
@[go_sem] theorem zG (n : Nat) (x : X) : FZ P B d (.T4 n x) F σ H=Th n (val σ x) (DP d F σ) H:=rfl
@[go_sem] theorem qG (n : Nat) (a : AV) (K : Ap) : Th n (some a) K H=((a.cells.length=n∧n≤AK)∧HH n a.cells K H):=rfl
@[go_sem] theorem kl (z : List AV) : FZ P B d (.lX z) F σ H=(z.length≤AK∧HH z.length z (DP d F σ) H):=rfl
@[go_sem] theorem mn (s b : Nat) (x y : X) : FZ P B d (.app s b x y) F σ H=Ds s (val σ x) (val σ y) (DP d F σ) H:=rfl
@[go_sem] theorem yW (s : Nat) (es : List AV) : DD s (some (.sl es)) H=some (Da s es,es.length,flat es):=rfl
@[go_sem] theorem uN (s : Nat) : DD s (some .A1) H=some (True,0,[]):=rfl
@[go_sem] theorem uC (s s' f id n m : Nat) (cs new : List AV) (p : Prop) (K : Ap) : Gf s (some (.cells s' cs f)) id n (some (p,m,new)) K H =
  ((s'=s∧cs.length=n*s∧n+m≤AK∧(n+m)*s≤AK∧p)∧∀ Ca,H.get Ca=none→K (.buf Ca (n+m)) ((H.del id).set Ca (.cells s (cs++new) f))):=rfl
@[go_sem] theorem tG (s m : Nat) (new : List AV) (p : Prop) (K : Ap) : TU s (some (p,m,new)) K H=((m≤AK∧m*s≤AK∧p)∧Eo m s new K H):=rfl
@[go_sem] theorem ns (s : Nat) (z : List AV) (l c : X) : FZ P B d (.l7 s z l c) F σ H=S9 s z (val σ l) (val σ c) (DP d F σ) H:=rfl
@[go_sem] theorem ql (s : Nat) (z : List AV) (k1 k2 : IntKind) (l c : Int) (K : Ap) : S9 s z (some (.int k1 l)) (some (.int k2 c)) K H =
  ((0≤l∧l≤c∧c.toNat≤AK∧l.toNat*s≤AK)∧Eo l.toNat s (rep l.toNat z) K H):=rfl
@[go_sem] theorem qk : FZ P B d .nV F σ H=WJ (DP d F σ) H:=rfl
@[go_sem] theorem pn (s : Nat) (ok : Bool) (z : AV) (m k : X) : FZ P B d (.aS s ok z m k) F σ H=Z0 s ok z (val σ m) (val σ k) (DP d F σ) H:=rfl
@[go_sem] theorem ba (s : Nat) (ok : Bool) (z k : AV) (ks vs : List AV) (K : Ap) : Z0 s ok z (some (.IH ks vs)) (some k) K H=(LU s k ks∧K (mS ok z (J5 k ks vs)) H):=rfl
@[go_sem] theorem zR (s : Nat) (ok : Bool) (z k : AV) (id : Nat) (K : Ap) : Z0 s ok z (some (.GX id)) (some k) K H=uE s ok z (H.get id) k K H:=rfl
@[go_sem] theorem pz (s : Nat) (ok : Bool) (z k : AV) (ks vs : List AV) (K : Ap) : uE s ok z (some (.map ks vs)) k K H=(LU s k ks∧K (mS ok z (J5 k ks vs)) H):=rfl
@[go_sem] theorem qy (s : Nat) (m k v : X) : FZ P B d (.hZ s m k v) F σ H=j6 s (val σ m) (val σ k) (val σ v) (DP d F σ) H:=rfl
@[go_sem] theorem ez (s : Nat) (id : Nat) (k x : AV) (K : Ap) : j6 s (some (.GX id)) (some k) (some x) K H=sV s (H.get id) id k x K H:=rfl
@[go_sem] theorem pc (s : Nat) (id : Nat) (k x : AV) (ks vs : List AV) (K : Ap) : sV s (some (.map ks vs)) id k x K H =
  (LU s k ks∧K nv (H.set id (.map (Ie k x ks vs).1 (Ie k x ks vs).2))):=rfl
@[go_sem] theorem xP (f : X) (l : List X) : FZ P B d (.call f l) F σ H=Kx P B (val σ f) (DB σ l) (DP d F σ) H:=rfl
@[go_sem] theorem dh (f : FuncId) (ca as : List AV) (K : Ap) : Kx P B (some (.fn (.func f) ca)) (some as) K H=BG P B f (as++ca) H K:=rfl
@[go_sem] theorem uQ (y : Nat) (f : X) (l : List X) : FZ P B d (.Lj y f l) F σ H=Kx P B (val σ f) (DB σ l) (fun r H'=>(∀ z,z≠y→H.QH z H')∧DP d F σ r H') H:=rfl
@[go_sem] theorem kk (z : Nat) (n : Option Nat) (x : X) : FZ P B d (.jD z n x) F σ H=ZO z n (val σ x) (DP d F σ) H:=rfl
@[go_sem] theorem wG (z : Nat) (n : Option Nat) (id off : Nat) (K : Ap) : ZO z n (some (.ref id off)) K H=((∃ cs f,H.get id=some (.cells z cs f))∧M6 (H.get id) n off K H):=rfl
@[go_sem] theorem uS (f : X) (l : List X) : FZ P B d (.Lr f l) F σ H=Kx P B (val σ f) (DB σ l) (fun r H'=>H.sub H'∧DP d F σ r H') H:=rfl
@[go_sem] theorem tP (f : X) (l : List X) : FZ P B d (.N9 f l) F σ H=∃ r,Se P B (val σ f) (DB σ l) r∧DP d F σ r H:=rfl
@[go_sem] theorem uP (f : FuncId) (ca as : List AV) (r : AV) : Se P B (some (.fn (.func f) ca)) (some as) r=JC P B f (as++ca) r:=rfl
@[go_sem] theorem xX (l : List AV) : l++[]=l:=by simp
@[go_sem] theorem tL (a : AV) (l r : List AV) : (a::l)++r=a::(l++r):=rfl
@[go_sem] theorem tI (l : List AV) : []++l=l:=rfl
@[go_sem] theorem qt (t id n : Nat) : fO t F σ H (some (.buf id n))=Xz t id n F σ H (H.get id):=rfl
@[go_sem] theorem mq (t : Nat) : fO t F σ H (some .A1)=F ((t,some (.sl []))::σ) H:=rfl
@[go_sem] theorem vm (t : Nat) (es : List AV) : fO t F σ H (some (.sl es))=F σ H:=rfl
theorem G0 : ∀ (n : Nat) (cs : List AV),cs.length=n→chunk 1 n cs=cs
 | 0,cs,h=>by simp [chunk,List.eq_nil_of_length_eq_zero h]
 | n+1,[],h=>by simp at h
 | n+1,c::cs,h=>by simp [chunk,G0 n cs (by simpa using h)]
@[go_sem] theorem lN (t id n f : Nat) (cs : List AV) : Xz t id n F σ H (some (.cells 1 cs f)) =
  ((cs.length=n∧∀ c,c∈cs→c.one=true)∧F ((t,some (.sl cs))::σ) (H.set id (.cells 1 cs cs.length))):=by
 simp only [Xz,Nat.mul_one];rw [eq_iff_iff]
 constructor
 ·rintro ⟨⟨h1,h2,h3⟩,h4⟩; rw [G0 _ _ h1] at h4; exact ⟨⟨h1,h3⟩,h4⟩
 ·rintro ⟨⟨h1,h3⟩,h4⟩; rw [← G0 _ _ h1] at h4; exact ⟨⟨h1,by omega,h3⟩,by rwa [G0 _ _ h1] at h4 ⊢⟩
@[go_sem] theorem fz1_n (t id n f sz : Nat) (cs : List AV) : Xz t id n F σ H (some (.cells (sz+2) cs f)) =
  ((cs.length=n*(sz+2)∧0<sz+2∧∀ c,c∈cs→c.one=true)∧F ((t,some (.sl (chunk (sz+2) n cs)))::σ) (H.set id (.cells (sz+2) cs cs.length))):=rfl
end
@[go_sem] theorem uL (k : IntKind) (n : Int) : (AV.int k n).cells=[.int k n]:=rfl
@[go_sem] theorem pH (b : Bool) : (AV.bool b).cells=[.bool b]:=rfl
@[go_sem] theorem vA (b : List UInt8) : (AV.str b).cells=[.str b]:=rfl
@[go_sem] theorem en (es : List AV) : (AV.sl es).cells=[.sl es]:=rfl
@[go_sem] theorem tC (i n : Nat) : (AV.buf i n).cells=[.buf i n]:=rfl
@[go_sem] theorem mH : AV.A1.cells=[.A1]:=rfl
@[go_sem] theorem uY (cs : List AV) : (AV.ptr cs).cells=[.ptr cs]:=rfl
@[go_sem] theorem tK (i o : Nat) : (AV.ref i o).cells=[.ref i o]:=rfl
@[go_sem] theorem s8 (cs : List AV) : (AV.agg cs).cells=cs:=rfl
@[go_sem] theorem zY : flat []=[]:=rfl
@[go_sem] theorem tZ (e : AV) (r : List AV) : flat (e::r)=e.cells++flat r:=rfl
@[go_sem] theorem wrap_i64 {x : Int} (h1 : -9223372036854775808≤x) (h2 : x≤9223372036854775807) : IntKind.i64.wrap x=x:=by
 rw [IntKind.wrap_i64]; omega
theorem A6 {H0 H : AA} {r v : AV} (h1 : v=r) (h2 : H0.sub H) : Ig (fun r' H'=>r'=r∧H'=H0) v H:=⟨H0,h2,h1,rfl⟩
theorem Wk.refl (σ : Env) (H : AA) : Wk σ H σ H:=fun g _ _ _ a b=>⟨g,.refl g,a,b⟩
theorem UF {P : Program} {B : Nat} {l : List Nat} {c : SC} {Q : AQ} {σ : Env} {H : AA} (I : Nat→Env→AA→Prop) (n : Nat) (h0 : I n (Env.BA l σ) H)
  (h : ∀ n σ H,I n σ H→FN P B c (mY l I n Q) σ H) : FN P B (.loop l c) Q σ H :=
 ⟨I,n,_,_,h0,.refl _ _,h⟩
end Go.AW
namespace Go.AW
def AV.Eb (a : AV) : Prop:=∃ g v,Ad g a v
theorem AV.Eb.zX {es : List AV} (h : AV.Eb (.sl es)) : es.length≤AK:=by
 obtain ⟨g,v,h⟩:=h
 cases h with
 | slnil a cap=>simp
 | sl _ b o sz cap vs hm _ _ _ _=>exact hm
theorem AV.Eb.kI {es : List AV} (h : AV.Eb (.sl es)) {i j : Nat} (hi : i<es.length) (hj : j<(es.getD i nv).cells.length) :
  AV.Eb ((es.getD i nv).cells.getD j nv):=by
 obtain ⟨g,v,h⟩:=h
 cases h with
 | slnil a cap=>simp at hi
 | sl _ b o sz cap vs hm QZ CW hf hv=>exact ⟨g,_,hv i j hi (by rw [← CW i hi]; exact hj)⟩
theorem AV.Eb.pO {es : List AV} (h : AV.Eb (.sl es)) {e : AV} (he : e∈es) (h1 : e.cells=[e]) : AV.Eb e:=by
 obtain ⟨i,hi,rfl⟩:=List.getElem_of_mem he
 have hg : es.getD i nv=es[i]:=by simp [gE,hi]
 have:=h.kI (i:=i) (j:=0) hi (by rw [hg,h1]; simp);rw [hg,h1] at this;exact this
theorem AV.Eb.agg {cs : List AV} (h : AV.Eb (.agg cs)) {c : AV} (hc : c∈cs) : AV.Eb c:=by
 obtain ⟨g,v,h⟩:=h
 obtain ⟨i,hi,rfl⟩:=List.getElem_of_mem hc
 have hg : cs.getD i nv=cs[i]:=by simp [gE,hi]
 cases h with
 | agg _ vs hs hv=>exact ⟨g,_,hg ▸ hv i hi⟩
theorem AV.Eb.ptr {cs : List AV} (h : AV.Eb (.ptr cs)) {c : AV} (hc : c∈cs) : AV.Eb c:=by
 obtain ⟨g,v,h⟩:=h
 obtain ⟨i,hi,rfl⟩:=List.getElem_of_mem hc
 have hg : cs.getD i nv=cs[i]:=by simp [gE,hi]
 cases h with
 | ptr _ b o vs hf hv=>exact ⟨g,_,hg ▸ hv i hi⟩
def UQ : List AV→Prop
 | []=>True
 | a::r=>a.Eb∧UQ r
theorem OG : ∀ {l : List AV},(∀ a,a∈l→a.Eb)→UQ l
 | [],_=>trivial
 | a::r,h=>⟨h a (by simp),OG fun b hb=>h b (by simp [hb])⟩
variable {P : Program} {B : Nat}
theorem BG.XR {f : FuncId} {fn : Func} {c : Code} {s : SC} {hs : Hints} {rvs : List RV} (hf : P.funcs[f]? = some fn) (hb : fn.body = some c) (hn : (fn.name == "runtime.NumGoroutine") = false)
  (hc : B6 P fn.ntmps hs c=some s.strip) (hr : EV P fn.results.toList=some rvs) {args : List AV} (VB : args.length≤fn.ntmps) {H : AA} {K : Ap}
  (hk : UQ args→FN P B s (QD rvs K) (GS 0 args) H) : BG P B f args H K:=by
 refine ⟨⟨fn,hf,by simp [hb],hn⟩,fun g w vs hW hv=>?_⟩
 have fU : ∀ a,a∈args→a.Eb:=by
  intro a ha
  obtain ⟨i,hi,rfl⟩:=List.getElem_of_mem ha
  have:=hv.2 i hi;rw [show args.getD i nv=args[i] by simp [gE,hi]] at this;exact ⟨g,_,this⟩
 exact (BG.pM hf hb hn hc hr VB (hk (OG fU))).2 g w vs hW hv
theorem BG.J7 {f : FuncId} {args : List AV} {H : AA} {K K' : Ap} (h : BG P B f args H K) (hk : ∀ r H,r.Eb→K r H→K' r H) : BG P B f args H K' :=
 ⟨h.1,fun g w vs hw hv=>(h.2 g w vs hw hv).mono fun _ _ ⟨v,e,g',r,H',a,b,c,d,k⟩=>⟨v,e,g',r,H',a,hk _ _ ⟨g',v,c⟩ b,c,d,k⟩⟩
theorem JC.go {f : FuncId} {args : List AV} {r : AV} {H : AA} {K : Ap} (h : JC P B f args r) (hk : r.Eb→K r H) : BG P B f args H K :=
 (h H).J7 fun _ _ hf ⟨a,b⟩=>by subst a; subst b; exact hk hf
end Go.AW
