/- Sound steps and walks over abstract values. -/
import Derived.Test.YtnpimpkmgmnhhaaGreatA1
import Derived.Orders
import Derived.Scope
set_option linter.unusedVariables false
set_option linter.unusedSimpArgs false
set_option linter.unusedSectionVars false
namespace Go.AW
open Go.RowKit
section
variable {P : Program} {g : Gh} {B : Nat} {H : Heap} {w : World}
def Fits (P : Program) (g : Gh) (B : Nat) (w : World) (K : Kont) : Result Next→Prop
 | .ok (.value v) w'=>FinV g B w K v w'
 | .ok .skip w'=>FinV g B w K undef w'
 | .ok (.enter f args) w'=>w'=w∧Calls P f args w fun e w''=>∃ v,e=.returned v∧FinV g B w K v w''
 | _=>False
theorem Fits.val {K : Kont} {s : Sem Value} (h : ∃ u w',s.run P w=.ok u w'∧FinV g B w K u w') : Fits P g B w K ((do pure (.value (← s)) : Sem Next).run P w):=by
 obtain ⟨u,w',h1,h2⟩:=h;simp only [Sem.run_bind,h1,Result.andThen_ok,Sem.run_pure];exact h2
theorem Fits.unit {K : Kont} {s : Sem Unit} (h : ∃ w',s.run P w=.ok () w'∧FinV g B w K undef w') : Fits P g B w K ((do s; pure .skip : Sem Next).run P w):=by
 obtain ⟨w',h1,h2⟩:=h;simp only [Sem.run_bind,h1,Result.andThen_ok,Sem.run_pure];exact h2
theorem pv {K : Kont} {e : PV} {s : Sem Value} (hW : WRel g B H w) (hk : pW e K H) (h : ∀ p r,e=some (p,r)→p→∃ u,s.run P w=.ok u w∧VRel g r u) :
  ∃ u w',s.run P w=.ok u w'∧FinV g B w K u w':=by
 obtain ⟨p,r,rfl,hp,hk⟩:=pW_some hk
 obtain ⟨u,h1,h2⟩:=h p r rfl hp;exact ⟨u,w,h1,.same hW h2 hk⟩
theorem VRels.append {as bs : List AV} {vs us : Array Value} (h : VRels g as vs) (k : VRels g bs us) : VRels g (as++bs) (vs++us):=by
 refine ⟨by simp [h.1,k.1],fun i hi=>?_⟩;rw [list_getD_append];simp only [Array.getD_eq_getD_getElem?]
 by_cases hi' : i<as.length
 ·rw [if_pos hi',Array.getElem?_append_left (by rw [h.1]; exact hi')]
  simpa [Array.getD_eq_getD_getElem?] using h.2 i hi'
 ·rw [if_neg hi',Array.getElem?_append_right (by rw [h.1]; omega),h.1]
  have:=k.2 (i - as.length) (by simp at hi; omega)
  simpa [Array.getD_eq_getD_getElem?] using this
theorem call_fits {f : FuncId} {as : List AV} {vs : Array Value} {K : Kont} (hW : WRel g B H w) (hv : VRels g as vs) (hk : CallH P B f as H K) : Fits P g B w K ((callFunc f vs).run P w):=by
 obtain ⟨⟨fn,h1,h2,h3⟩,hc⟩:=hk
 have : (callFunc f vs).run P w=.ok (.enter f vs) w:=by
  simp only [callFunc,Sem.run_bind,run_program,Result.andThen_ok,h1,h2,h3,Bool.false_eq_true,if_false,Sem.run_pure]
 rw [this];exact ⟨rfl,hc g w vs hW hv⟩
theorem const_nil {x : Operand} (h : isNilC x=true) (a : Act) : a.eval x=.pointer none:=by
 unfold isNilC at h
 split at h
 ·rfl
 ·cases h
theorem const_nils {x : Operand} (h : isNilS x=true) (a : Act) : a.eval x=.slice none 0 0:=by
 unfold isNilS at h
 split at h
 ·rfl
 ·cases h
theorem int_run {op : BinOp} {k : IntKind} {t : TypeId} {x y : Operand} {v1 v2 : AV} {u1 u2 : Value} (r1 : VRel g v1 u1) (r2 : VRel g v2 u2) {p : Prop} {r : AV}
  (he : arE op k (some v1) (some v2)=some (p,r)) (hp : p) : ∃ u,((do eqGuard op t x y u1 u2; binOp op t u1 u2) : Sem Value).run P w=.ok u w∧VRel g r u:=by
 cases r1 <;> try (simp [arE] at he; done)
 all_goals (cases r2 <;> try (simp [arE] at he; done))
 all_goals simp only [arE] at he
 rotate_left 1
 ·rename_i a b
  have hg : (eqGuard op t x y (.string ⟨a.toArray⟩) (.string ⟨b.toArray⟩)).run P w=.ok () w:=by cases op <;> simp [eqGuard]
  cases op <;> simp only [strI,reduceCtorEq,Option.some.injEq,Prod.mk.injEq] at he
  all_goals obtain ⟨rfl,rfl⟩:=he
  ·refine ⟨_,by simp only [Sem.run_bind,hg,Result.andThen_ok,binOp_string_add]; exact run_string_add_sum w _ _ (by simp only [maxL] at hp; simp [ByteArray.size]; omega), ?_⟩;rw [ByteArray.mk_append_mk]; exact .str _
  ·refine ⟨.bool (decide (a=b)), ?_,.bool _⟩
   simp [hg,binOp_string_eql,Bool.beq_eq_decide_eq]
  ·refine ⟨.bool (!decide (a=b)), ?_,.bool _⟩
   simp [hg,binOp_string_neq];rw [Bool.eq_iff_iff]; simp
 split at he
 ·rename_i hkk
  have hg : ∀ (a b : Int) (k k' : IntKind),(eqGuard op t x y (.int k a) (.int k' b)).run P w=.ok () w:=by
   intro a b k k'; cases op <;> simp [eqGuard]
  obtain ⟨rfl,h2⟩:=hkk
  rcases h2 with h2 | h2
  ·subst h2
   obtain ⟨u,q1,q2⟩:=arI_sound (P:=P) (g:=g) (w:=w) t he hp;exact ⟨u,by simp [hg,q1],q2⟩
  ·cases op <;> simp [isShr] at h2
   simp only [arI,Option.some.injEq,Prod.mk.injEq] at he
   obtain ⟨rfl,rfl⟩:=he;exact ⟨_,by simp only [Sem.run_bind,hg,Result.andThen_ok]; exact shr_any t hp,.int _ _⟩
 ·cases he
def eqop (neg : Bool) : BinOp:=if neg then .neq else .eql
theorem eql_bool_run {t : TypeId} (hu : P.underlying t=some .bool) (d : Nat) (b1 b2 : Bool) : (Op.equalIn (d+1) t (.bool b1) (.bool b2)).run P w=.ok (b1 == b2) w:=by
 simp [Op.equalIn,run_underlying hu]
theorem eql_nil_run {t e : TypeId} (hu : P.underlying t=some (.pointer e)) (d : Nat) (p : Option Addr) : (Op.equalIn (d+1) t (.pointer p) (.pointer none)).run P w=.ok p.isNone w:=by
 cases p <;> simp [Op.equalIn,run_underlying hu]
theorem nls_run {t e : TypeId} (hu : P.underlying t=some (.slice e)) (d : Nat) (p : Option Addr) (n c : Nat) : (Op.equalIn (d+1) t (.slice p n c) (.slice none 0 0)).run P w=.ok p.isNone w:=by
 cases p <;> simp [Op.equalIn,run_underlying hu]
theorem bool_run {neg : Bool} {t : TypeId} (hu : P.underlying t=some .bool) {x y : Operand} {v1 v2 : AV} {u1 u2 : Value} (r1 : VRel g v1 u1) (r2 : VRel g v2 u2) {p : Prop} {r : AV}
  (he : bqE neg (some v1) (some v2)=some (p,r)) : ∃ u,((do eqGuard (eqop neg) t x y u1 u2; binOp (eqop neg) t u1 u2) : Sem Value).run P w=.ok u w∧VRel g r u:=by
 cases r1 <;> try (simp [bqE] at he; done)
 cases r2 <;> try (simp [bqE] at he; done)
 rename_i b1 b2
 simp [bqE] at he
 obtain ⟨-,rfl⟩:=he;refine ⟨.bool (neg ^^ (b1 == b2)), ?_,.bool _⟩
 have hq : (Op.equal t (.bool b1) (.bool b2)).run P w=.ok (b1 == b2) w:=eql_bool_run hu 9999 b1 b2
 cases neg
 ·simp [eqop,eqGuard,binOp,hq]
 ·simp [eqop,eqGuard,binOp,hq]
theorem nil_run {neg : Bool} {t e : TypeId} (hu : P.underlying t=some (.pointer e)) {x y : Operand} {v1 : AV} {u1 : Value} (r1 : VRel g v1 u1) {p : Prop} {r : AV}
  (he : nqE neg (some v1)=some (p,r)) : ∃ u,((do eqGuard (eqop neg) t x y u1 (.pointer none); binOp (eqop neg) t u1 (.pointer none)) : Sem Value).run P w=.ok u w∧VRel g r u:=by
 have hq : ∀ (p : Option Addr),(Op.equal t (.pointer p) (.pointer none)).run P w=.ok p.isNone w:=eql_nil_run hu 9999
 cases r1 <;> try (simp [nqE] at he; done)
 all_goals (simp [nqE] at he; obtain ⟨-,rfl⟩:=he)
 all_goals (refine ⟨.bool _, ?_,.bool _⟩)
 all_goals (cases neg <;> simp [eqop,eqGuard,binOp,hq])
theorem struct_run {neg : Bool} {t : TypeId} {fs : Array Field} (hu : P.underlying t=some (.struct fs)) (h1 : allInts P 0 fs.toList=true) (h2 : P.stoodInHeld t=false)
  (h3 : P.eqGuardType P.depth t=false) (h4 : fs.size=2) {x y : Operand} {v1 v2 : AV} {u1 u2 : Value} (r1 : VRel g v1 u1) (r2 : VRel g v2 u2) {p : Prop} {r : AV}
  (he : aqE neg 2 (some v1) (some v2)=some (p,r)) (hp : p) : ∃ u,((do eqGuard (eqop neg) t x y u1 u2; binOp (eqop neg) t u1 u2) : Sem Value).run P w=.ok u w∧VRel g r u:=by
 cases r1 <;> try (simp [aqE] at he; done)
 cases r2 <;> try (simp [aqE] at he; done)
 rename_i as vs hs hvs bs us hs' hus
 simp only [aqE,Option.some.injEq,Prod.mk.injEq] at he
 obtain ⟨rfl,rfl⟩:=he
 obtain ⟨k1,k2,a1,a2,b1,b2,rfl,rfl⟩:=hp
 have e1 : vs=#[.int k1 a1,.int k2 a2]:=by
  have q0:=hvs 0 (by simp)
  have q1:=hvs 1 (by simp)
  obtain ⟨l⟩:=vs
  match l,hs with
  | [z0,z1],_=>simp at q0 q1; cases q0; cases q1; rfl
 have e2 : us=#[.int k1 b1,.int k2 b2]:=by
  have q0:=hus 0 (by simp)
  have q1:=hus 1 (by simp)
  obtain ⟨l⟩:=us
  match l,hs' with
  | [z0,z1],_=>simp at q0 q1; cases q0; cases q1; rfl
 subst e1 e2
 have hq:=eql2_run (P:=P) (w:=w) hu h1 h2 h4 k1 k2 a1 a2 b1 b2;refine ⟨.bool (neg ^^ (decide (a1=b1) && decide (a2=b2))), ?_,by rw [show aqL [.int k1 a1,.int k2 a2] [.int k1 b1,.int k2 b2]=(decide (a1=b1) && decide (a2=b2)) by simp [aqL]]; exact .bool _⟩
 cases neg
 ·simp [eqop,eqGuard,binOp,hq,h3]
 ·simp [eqop,eqGuard,binOp,hq,h3]
inductive OR (g : Gh) : Option (Option AV)→Option Value→Prop
 | no : OR g none none
 | unk (u : Value) : OR g (some none) (some u)
 | so (a : AV) (u : Value) (h : VRel g a u) : OR g (some (some a)) (some u)
theorem slc_core {es : List AV} {a : Option Addr} {n c sz : Nat} (hv : VRel g (.sl es) (.slice a n c)) (hk : okEls sz es) {l h : Nat} (h1 : l≤h) (h2 : h≤es.length) :
  VRel g (.sl ((es.take h).drop l)) (sliced a l h c sz):=by
 by_cases hl : l=h
 ·subst hl
  have : (es.take l).drop l=[]:=by simp
  rw [this];simp only [sliced,Nat.sub_self];exact .slnil _ _
 ·cases hv with
  | slnil _ _=>simp at h2; omega
  | sl _ b o sz' cap vs hm hcap hsz hf hv =>
   have hz : sz'=sz:=by
    rw [← hsz 0 (by omega)]
    have : es.getD 0 nv∈es:=by
     rw [List.getD_eq_getElem?_getD,List.getElem?_eq_getElem (by omega)]; exact List.getElem_mem _
    exact (hk _ this).1
   subst hz
   have hne : ¬ c=l:=by omega
   have hlen : ((es.take h).drop l).length=h - l:=by simp; omega
   have hget : ∀ i,i<h - l→((es.take h).drop l).getD i nv=es.getD (l+i) nv:=by
    intro i hi;simp only [List.getD_eq_getElem?_getD,List.getElem?_drop];rw [List.getElem?_take_of_lt (by omega)]
   have hmul : ∀ i j,(l+i)*sz'+j=l*sz'+(i*sz'+j):=by intro i j; rw [Nat.add_mul]; omega
   simp only [sliced,hne,if_false,Option.map,Addr.add_lit];rw [← hlen];refine .sl _ b (o+l*sz') sz' (c - l) (fun k=>vs (l*sz'+k)) (by omega) (by omega) (fun i hi=>?_) (fun i j hi hj=>?_) (fun i j hi hj=>?_)
   ·rw [hlen] at hi; rw [hget i hi]; exact hsz _ (by omega)
   ·rw [hlen] at hi
    have:=hf (l+i) j (by omega) hj;rw [hmul] at this;rw [Nat.add_assoc]; exact this
   ·rw [hlen] at hi
    have:=hv (l+i) j (by omega) hj;rw [hmul] at this;rw [hget i hi]; exact this
theorem slcS_sound {t : TypeId} (h : P.underlying t=some .string) {av : AV} {v : Value} (hv : VRel g av v) {lo hi : Option (Option AV)} {lo' hi' : Option Value} (hl : OR g lo lo') (hh : OR g hi hi')
  {p : Prop} {r : AV} (he : slcE 0 (some av) lo hi=some (p,r)) (hp : p) : ∃ u,(Instr.sliceAt t v lo' hi' none).run P w=.ok u w∧VRel g r u:=by
 rw [run_sliceAt_string w t _ _ _ _ h];rw [slcE,if_pos rfl] at he
 cases hv <;> cases hl <;> try (simp [slcS] at he; done)
 rename_i b u hb
 cases hb <;> cases hh <;> simp only [slcS,reduceCtorEq,Option.some.injEq,Prod.mk.injEq] at he
 obtain ⟨rfl,rfl⟩:=he
 rename_i l k n
 refine ⟨_,run_slice_string_l w t _ h _ _ hp.1 (by have:=hp.2; simpa [ByteArray.size] using this), ?_⟩
 have : (ByteArray.mk l.toArray).extract n.toNat (ByteArray.mk l.toArray).size=⟨(l.drop n.toNat).toArray⟩:=by
  rw [ByteArray.extract_mk]
  congr 1
  apply Array.ext'
  simp [ByteArray.size];rw [List.take_of_length_le (by simp)]
 rw [this]; exact .str _
theorem slc_sound {t : TypeId} {x : TypeId × TypeInfo} (h : elemOf' P t=some x) {av : AV} {v : Value} (hv : VRel g av v) {lo hi : Option (Option AV)} {lo' hi' : Option Value} (hl : OR g lo lo') (hh : OR g hi hi')
  {p : Prop} {r : AV} (he : slcE x.2.size (some av) lo hi=some (p,r)) (hp : p) : ∃ u,(Instr.sliceAt t v lo' hi' none).run P w=.ok u w∧VRel g r u:=by
 obtain ⟨h1,h2,h3⟩:=elemOf_some h;rw [slcE,if_neg h3] at he
 have he1 : P.elem t=x.1:=by simp [Program.elem,h1]
 have hu : P.underlying t=some (.slice (P.elem t)):=by rw [he1]; exact h1
 have hs : (sizeOf (P.elem t)).run P w=.ok x.2.size w:=by simp [he1,sizeOf,typeInfo,h2]
 have hsl : ∃ es,av=.sl es:=by
  cases hv <;> cases hl <;> simp [slcA] at he
  all_goals first | exact ⟨_,rfl⟩ | skip
 obtain ⟨es,rfl⟩:=hsl
 obtain ⟨a,n,c,rfl,hn,hc⟩ : ∃ a n c,v=.slice a n c∧n=es.length∧n≤c:=by
  cases hv with
  | slnil a c=>exact ⟨_,_,_,rfl,rfl,Nat.zero_le _⟩
  | sl _ b o sz cap vs hm hcap hsz hf hv=>exact ⟨_,_,_,rfl,rfl,hcap⟩
 rw [run_sliceAt_slice w t _ _ _ _ hu]
 cases hl with
 | unk u=>simp [slcA] at he
 | no =>
  cases hh with
  | unk u=>simp [slcA,slcB] at he
  | no =>
   simp only [slcA,slcB,slcL,Option.some.injEq,Prod.mk.injEq] at he
   obtain ⟨rfl,rfl⟩:=he;refine ⟨_,by rw [run_slice_all w t a n c hu,hs]; rfl, ?_⟩
   have:=slc_core (h:=es.length) (l:=0) hv hp.2 (by omega) (by omega);rw [hn]; simpa using this
  | so b u hb =>
   cases hb <;> simp only [slcA,slcB,slcL,Option.some.injEq,Prod.mk.injEq,reduceCtorEq] at he
   obtain ⟨rfl,rfl⟩:=he
   rename_i k b
   refine ⟨_,by rw [run_slice_h w t a n c hu k b (by omega) (by omega),hs]; rfl, ?_⟩;exact slc_core (h:=b.toNat) (l:=0) hv hp.2 (by omega) (by omega)
 | so b u hb =>
  cases hb <;> simp only [slcA,reduceCtorEq] at he
  rename_i k b
  cases hh with
  | unk u=>simp [slcB] at he
  | no =>
   simp only [slcB,slcL,Option.some.injEq,Prod.mk.injEq] at he
   obtain ⟨rfl,rfl⟩:=he;refine ⟨_,by rw [run_slice_l w t a n c hu k b (by omega) (by omega),hs]; rfl, ?_⟩
   have:=slc_core (h:=es.length) (l:=b.toNat) hv hp.2 (by omega) (by omega);rw [hn]; simpa using this
  | so d u hd =>
   cases hd <;> simp only [slcB,slcL,Option.some.injEq,Prod.mk.injEq,reduceCtorEq] at he
   obtain ⟨rfl,rfl⟩:=he
   rename_i k' d
   refine ⟨_,by rw [run_slice_lh w t a n c hu k k' b d (by omega) (by omega) (by omega),hs]; rfl, ?_⟩;exact slc_core (h:=d.toNat) (l:=b.toNat) hv hp.2 (by omega) (by omega)
theorem slb_sound (hW : WRel g B H w) {t : TypeId} {x : TypeId × TypeInfo} (h : elemOf' P t=some x) {av : AV} {v : Value} (hv : VRel g av v) {lo hi : Option (Option AV)} {lo' hi' : Option Value} (hl : OR g lo lo') (hh : OR g hi hi')
  {K : Kont} (hk : slbW x.2.size (some av) lo hi K H) : ∃ u w',(Instr.sliceAt t v lo' hi' none).run P w=.ok u w'∧FinV g B w K u w':=by
 obtain ⟨h1,h2,h3⟩:=elemOf_some h
 have he1 : P.elem t=x.1:=by simp [Program.elem,h1]
 have hu : P.underlying t=some (.slice (P.elem t)):=by rw [he1]; exact h1
 have hs : (sizeOf (P.elem t)).run P w=.ok x.2.size w:=by simp [he1,sizeOf,typeInfo,h2]
 obtain ⟨id,n,rfl⟩ : ∃ id n,av=.buf id n:=by
  cases av <;> try exact hk.elim
  exact ⟨_,_,rfl⟩
 simp only [slbW] at hk
 cases ho : H.get id with
 | none=>rw [ho] at hk; exact hk.elim
 | some o =>
  rw [ho] at hk
  cases o with
  | map _ _=>exact hk.elim
  | cells sz cs f =>
   obtain ⟨⟨rfl,hcs⟩,hk⟩:=hk
   obtain ⟨p,r,he,hp,hk⟩:=pW_some hk
   cases hv with
   | bufnil _ _ =>
    exfalso
    cases hl <;> cases hh <;> try (simp [slbP] at he; done)
    all_goals (rename_i a1 u1 hb1; cases hb1 <;> try (simp [slbP] at he; done))
    all_goals (simp only [slbP,Option.some.injEq,Prod.mk.injEq] at he; obtain ⟨rfl,rfl⟩:=he; omega)
   | buf _ _ b cap hio =>
    obtain ⟨c,el,k1,k2,k3,k4,k5,k6,k7⟩:=hW.obj hio ho
    have hnc : n≤cap:=Nat.le_of_mul_le_mul_right (by omega : n*x.2.size≤cap*x.2.size) (by omega);rw [run_sliceAt_slice w t _ _ _ _ hu]
    cases hl with
    | unk u=>simp [slbP] at he
    | no =>
     cases hh with
     | unk u=>simp [slbP] at he
     | no=>simp [slbP] at he
     | so b' u hb =>
      cases hb <;> try (simp [slbP] at he; done)
      rename_i k b'
      simp only [slbP,Option.some.injEq,Prod.mk.injEq] at he
      obtain ⟨rfl,rfl⟩:=he;refine ⟨_,_,by rw [run_slice_h w t _ n cap hu k b' (by omega) (by omega),hs]; rfl, ?_⟩;refine .same hW ?_ hk
      have hne : ¬ cap=0:=by omega
      simp only [sliced,hne,if_false,Option.map,Addr.add_lit,Nat.zero_mul,Nat.sub_zero,Nat.add_zero];exact .buf id _ b cap hio
    | so a u ha =>
     cases ha <;> try (cases hh <;> simp [slbP] at he; done)
     rename_i k a
     cases hh with
     | unk u=>simp [slbP] at he
     | so _ _ _=>simp [slbP] at he
     | no =>
      simp only [slbP,Option.some.injEq,Prod.mk.injEq] at he
      obtain ⟨rfl,rfl⟩:=he;refine ⟨_,_,by rw [run_slice_l w t _ n cap hu k a (by omega) (by omega),hs]; rfl, ?_⟩;refine .same hW ?_ hk
      have hne : ¬ cap=a.toNat:=by omega
      simp only [sliced,hne,if_false,Option.map,Addr.add_lit,Nat.zero_add];exact .sub id _ _ b cap _ hio
theorem sl3_sound (hW : WRel g B H w) {t : TypeId} {x : TypeId × TypeInfo} (h : elemOf' P t=some x) {av a1 a2 : AV} {v v1 v2 : Value} (hv : VRel g av v) (hv1 : VRel g a1 v1) (hv2 : VRel g a2 v2)
  {K : Kont} (hk : sl3W x.2.size (some av) (some a1) (some a2) K H) : ∃ u w',(Instr.sliceAt t v none (some v1) (some v2)).run P w=.ok u w'∧FinV g B w K u w':=by
 obtain ⟨h1,h2,h3⟩:=elemOf_some h
 have he1 : P.elem t=x.1:=by simp [Program.elem,h1]
 have hu : P.underlying t=some (.slice (P.elem t)):=by rw [he1]; exact h1
 have hs : (sizeOf (P.elem t)).run P w=.ok x.2.size w:=by simp [he1,sizeOf,typeInfo,h2]
 obtain ⟨id,n,rfl⟩ : ∃ id n,av=.buf id n:=by
  cases av <;> try exact hk.elim
  exact ⟨_,_,rfl⟩
 obtain ⟨ka,a,rfl⟩ : ∃ k n,a1=.int k n:=by
  cases a1 <;> try exact hk.elim
  exact ⟨_,_,rfl⟩
 obtain ⟨kb,b,rfl⟩ : ∃ k n,a2=.int k n:=by
  cases a2 <;> try exact hk.elim
  exact ⟨_,_,rfl⟩
 cases hv1; cases hv2;simp only [sl3W] at hk
 cases ho : H.get id with
 | none=>rw [ho] at hk; exact hk.elim
 | some o =>
  rw [ho] at hk
  cases o with
  | map _ _=>exact hk.elim
  | cells sz cs f =>
   obtain ⟨⟨rfl,hcs⟩,hk⟩:=hk;simp only [sl3P,pW] at hk
   obtain ⟨⟨rfl,rfl⟩,hk⟩:=hk;rw [run_sliceAt_slice w t _ _ _ _ hu]
   cases hv with
   | bufnil _ _ =>
    refine ⟨_,_,by rw [run_slice_hm w t _ 0 0 hu ka kb _ _ (by omega) (by omega) (by omega),hs]; rfl, ?_⟩;exact .same hW (.emsl _) hk
   | buf _ _ b cap hio =>
    obtain ⟨c,el,k1,k2,k3,k4,k5,k6,k7⟩:=hW.obj hio ho
    have hnc : n≤cap:=Nat.le_of_mul_le_mul_right (by omega : n*x.2.size≤cap*x.2.size) (by omega);refine ⟨_,_,by rw [run_slice_hm w t _ n cap hu ka kb _ _ (by omega) (by omega) (by omega),hs]; rfl, ?_⟩
    by_cases h0 : n=0
    ·subst h0;exact .same hW (.emsl _) hk
    ·rw [if_neg h0] at hk;refine .same hW ?_ hk;simp only [sliced,h0,if_false,Option.map,Addr.add_lit,Nat.zero_mul,Nat.sub_zero,Nat.add_zero,Int.toNat_natCast];exact .tbuf id _ b cap hio
theorem cxo_rel {σ : Env} {a : Act} (hE : ERel g σ a.tmps) {o : Option Operand} {x : Option X} (h : cxo o=some x) : OR g (x.map (val σ)) (o.map a.eval):=by
 cases o with
 | none=>simp [cxo] at h; subst h; exact .no
 | some o =>
  simp only [cxo] at h
  cases hx : cx o with
  | none=>simp [hx] at h
  | some y =>
   simp [hx] at h; subst h;simp only [Option.map]
   cases hv : val σ y with
   | none=>exact .unk _
   | some v=>exact .so _ _ (val_rel hE hx hv)
set_option maxHeartbeats 1000000 in
theorem op_sound {o : Oper} {h : Nat} {i : Ins} (hc : compileOp P h o.op=some i) {σ : Env} {a : Act} (hW : WRel g B H w) (hE : ERel g σ a.tmps) {K : Kont} (hk : opW P B K σ H i) :
  Fits P g B w K ((execOp a.eval o).run P w):=by
 cases ho : o.op <;> simp only [ho,compileOp] at hc <;> try (cases hc; done)
 all_goals simp only [execOp,ho]
 case move x =>
  cases hx : cx x with
  | none=>simp [hx] at hc
  | some x' =>
   simp [hx] at hc; subst hc
   obtain ⟨p,r,he,hp,hk⟩:=pW_some hk
   cases hv : val σ x' with
   | none=>simp [evP,hv,mvE] at he
   | some v =>
    simp [evP,hv,mvE] at he; obtain ⟨-,rfl⟩:=he;exact .same hW (val_rel hE hx hv) hk
 case assign x =>
  cases hx : cx x with
  | none=>simp [hx] at hc
  | some x' =>
   simp [hx] at hc; subst hc
   obtain ⟨p,r,he,hp,hk⟩:=pW_some hk
   cases hv : val σ x' with
   | none=>simp [evP,hv,mvE] at he
   | some v =>
    simp [evP,hv,mvE] at he; obtain ⟨-,rfl⟩:=he;exact .same hW (val_rel hE hx hv) hk
 case pick c x y =>
  cases hc1 : cx c <;> cases hx1 : cx x <;> cases hy1 : cx y <;> simp [hc1,hx1,hy1] at hc
  rename_i c' x' y'
  subst hc
  obtain ⟨p,r,he,hp,hk⟩:=pW_some hk;simp only [evP] at he
  cases hvc : val σ c' with
  | none=>simp [hvc,pickE] at he
  | some vc =>
   have hrc:=val_rel hE hc1 hvc
   generalize a.eval c=uc at hrc ⊢
   cases hrc <;> try (simp [hvc,pickE] at he; done)
   rename_i b
   cases b
   ·simp only [hvc,pickE] at he
    cases hv : val σ y' with
    | none=>simp [hv,mvE] at he
    | some v =>
     simp [hv,mvE] at he; obtain ⟨-,rfl⟩:=he;simp only [asBool,Sem.run_bind,Sem.run_pure,Result.andThen_ok,Bool.false_eq_true,if_false];exact .same hW (val_rel hE hy1 hv) hk
   ·simp only [hvc,pickE] at he
    cases hv : val σ x' with
    | none=>simp [hv,mvE] at he
    | some v =>
     simp [hv,mvE] at he; obtain ⟨-,rfl⟩:=he;simp only [asBool,Sem.run_bind,Sem.run_pure,Result.andThen_ok,if_true];exact .same hW (val_rel hE hx1 hv) hk
 case alloc t =>
  cases hz : zerosOf P t with
  | none=>simp [hz] at hc
  | some z =>
   simp [hz] at hc; subst hc
   obtain ⟨k1,k2⟩:=hk;exact .val (alloc_sound hW hz k1 k2)
 case box t x =>
  cases h1 : aggOf P t <;> cases h2 : P.info? t <;> cases h3 : cx x <;> simp [h1,h2,h3] at hc
  rename_i ao ti x'
  split at hc
  ·cases hc;simp only [opW] at hk
   cases hv : val σ x' with
   | none=>simp [hv,boxWW] at hk
   | some v=>exact .val (boxW_sound hW hv (val_rel hE h3 hv) hk)
  ·cases hc;refine .val ?_
   obtain ⟨p,r,he,hp,hk⟩:=pW_some hk;simp only [evP] at he
   cases hv : val σ x' with
   | none=>simp [hv,boxE] at he
   | some v =>
    simp only [hv,boxE,Option.some.injEq,Prod.mk.injEq] at he
    obtain ⟨rfl,rfl⟩:=he
    obtain ⟨u,w',r1,r2⟩:=boxP_sound (P:=P) hW (t:=t) (val_rel hE h3 hv);exact ⟨u,w',r1,r2.mono fun r H' ⟨a,b⟩=>by subst a; subst b; exact hk⟩
 case build t parts =>
  cases h1 : zerosOf P t <;> cases h2 : fieldsOf P t <;> cases h3 : partsOf P t parts.toList <;> simp only [h1,h2,h3,reduceCtorEq] at hc
  rename_i z fs ps
  split at hc
  ·rename_i hall
   cases hc;refine .val (pv hW hk fun p r he hp=>?_);exact build_sound hE h1 h2 h3 (fun f hf=>by rw [Array.all_eq_true_iff_forall_mem] at hall; exact hall f hf) he hp
  ·cases hc
 case buildSlice t n parts =>
  cases h1 : elemOf' P t with
  | none=>simp [h1] at hc
  | some e =>
   obtain ⟨hu,hi,hs⟩:=elemOf_some h1;simp only [h1,hu,Option.elim_some] at hc
   cases h2 : inOrder 0 parts.toList <;> cases h3 : zerosOf P e.1 <;> simp [h2,h3] at hc
   rename_i xs z
   obtain ⟨⟨hn,hmax⟩,hc⟩:=hc
   split at hc
   ·rename_i h0
    cases hc;refine .val ?_
    have hk : True∧K .emsl H:=hk
    have hk:=hk.2
    obtain ⟨-,rfl⟩:=h0
    obtain ⟨u,w',r1,r2⟩:=emp_sound (P:=P) hW hE h1 h3 h2 hn;exact ⟨u,w',r1,r2.mono fun r H' ⟨a,b⟩=>by subst a; subst b; exact hk⟩
   split at hc
   ·cases hc;refine .val ?_
    obtain ⟨p,r,he,hp,hk⟩:=pW_some hk;simp only [evP] at he
    cases hv : vals σ xs with
    | none=>simp [hv,litE] at he
    | some as =>
     simp only [hv,litE,Option.some.injEq,Prod.mk.injEq] at he
     obtain ⟨rfl,rfl⟩:=he
     obtain ⟨u,w',r1,r2⟩:=litP_sound (P:=P) hW hE h1 h3 h2 hn hmax hv hp.1 hp.2;exact ⟨u,w',r1,r2.mono fun r H' ⟨a,b⟩=>by subst a; subst b; exact hk⟩
   ·cases hc;exact .val (litW_sound hW hE h1 h3 h2 hn hmax hk)
 case load t x =>
  cases h1 : aggOf P t <;> cases h2 : cx x <;> simp [h1,h2] at hc
  rename_i n x'
  split at hc
  ·cases hc;refine .val (pv hW hk fun p r he hp=>?_);simp only [evP] at he
   cases hv : val σ x' with
   | none=>cases n <;> simp [hv,ldE] at he
   | some v=>rw [hv] at he; exact loadAt_ptr hW h1 (val_rel hE h2 hv) he hp
  ·split at hc
   ·cases hc;simp only [opW] at hk
    cases hv : val σ x' with
    | none=>rw [hv] at hk; exact hk.elim
    | some v =>
     have hr:=val_rel hE h2 hv;rw [hv] at hk
     cases v <;> try exact hk.elim
     obtain ⟨u,r1,r2⟩:=load_ref (P:=P) hW h1 hr hk.2;exact .val ⟨u,w,r1,r2⟩
   cases hc;simp only [opW] at hk
   cases hv : val σ x' with
   | none=>cases n <;> simp [hv,ldW,ldE,pW] at hk
   | some v =>
    have hr:=val_rel hE h2 hv;rw [hv] at hk
    by_cases hrf : ∃ id off,v=.ref id off
    ·obtain ⟨id,off,rfl⟩:=hrf;simp only [ldW] at hk
     obtain ⟨u,r1,r2⟩:=load_ref (P:=P) hW h1 hr hk;exact .val ⟨u,w,r1,r2⟩
    ·have hk' : pW (ldE n (some v)) K H:=by
      unfold ldW at hk
      split at hk
      ·rename_i id off heq; cases heq; exact absurd ⟨_,_,rfl⟩ hrf
      ·exact hk
     exact .val (pv hW hk' fun p r he hp=>loadAt_ptr hW h1 hr he hp)
 case store t p v =>
  cases h1 : P.info? t <;> cases h2 : cx p <;> cases h3 : cx v <;> simp [h1,h2,h3] at hc
  rename_i ti p' v'
  subst hc;simp only [opW] at hk
  cases hv1 : val σ p' with
  | none=>simp [hv1,stW] at hk
  | some pv' =>
   cases hv2 : val σ v' with
   | none=>cases pv' <;> simp [hv1,hv2,stW] at hk
   | some vv =>
    rw [hv1,hv2] at hk
    cases pv' <;> try (simp [stW] at hk; done)
    simp only [stW] at hk
    obtain ⟨w',r1,r2⟩:=store_ref (P:=P) hW h1 (val_rel hE h2 hv1) (val_rel hE h3 hv2) hk;exact .unit ⟨w',r1,r2⟩
 case nilCheck x =>
  cases hx : cx x with
  | none=>simp [hx] at hc
  | some x' =>
   simp [hx] at hc; subst hc
   obtain ⟨p,r,he,hp,hk⟩:=pW_some hk;simp only [evP] at he
   cases hv : val σ x' with
   | none=>simp [hv,nckE] at he
   | some v =>
    have hr:=val_rel hE hx hv
    generalize a.eval x=ux at hr ⊢
    cases hr <;> simp [hv,nckE] at he
    ·obtain ⟨-,rfl⟩:=he
     rename_i cs b o vs hf hv'
     exact .same hW (.ptr cs b o vs hf hv') hk
    ·obtain ⟨-,rfl⟩:=he
     rename_i id off b cap hio
     exact .same hW (.ref id off b cap hio) hk
    ·obtain ⟨-,rfl⟩:=he
     rename_i cs id b cap vs hio hf hv'
     exact .same hW (.dual cs id b cap vs hio hf hv') hk
 case binOp op t x y yt =>
  cases hu : P.underlying t with
  | none=>simp [hu] at hc
  | some d =>
   cases d <;> simp only [hu,reduceCtorEq] at hc
   case int k =>
    cases h1 : cx x <;> cases h2 : cx y <;> simp [h1,h2] at hc
    rename_i x' y'
    obtain ⟨hgood,rfl⟩:=hc;refine .val (pv hW hk fun p r he hp=>?_);simp only [evP] at he
    cases hv1 : val σ x' with
    | none=>simp [hv1,arE] at he
    | some v1 =>
     cases hv2 : val σ y' with
     | none=>cases v1 <;> simp [hv1,hv2,arE] at he
     | some v2 =>
      rw [hv1,hv2] at he;exact int_run (val_rel hE h1 hv1) (val_rel hE h2 hv2) he hp
   case string =>
    cases h1 : cx x <;> cases h2 : cx y <;> simp [h1,h2] at hc
    rename_i x' y'
    subst hc;refine .val (pv hW hk fun p r he hp=>?_);simp only [evP] at he
    cases hv1 : val σ x' with
    | none=>simp [hv1,arE] at he
    | some v1 =>
     cases hv2 : val σ y' with
     | none=>cases v1 <;> simp [hv1,hv2,arE] at he
     | some v2 =>
      rw [hv1,hv2] at he;exact int_run (val_rel hE h1 hv1) (val_rel hE h2 hv2) he hp
   case bool =>
    have key : ∀ (neg : Bool) x' y',cx x=some x'→cx y=some y'→i=.bq neg x' y'→op=eqop neg →
      Fits P g B w K ((do pure (.value (← (do eqGuard op t x y (a.eval x) (a.eval y); binOp op t (a.eval x) (a.eval y) : Sem Value))) : Sem Next).run P w):=by
     intro neg x' y' h1 h2 hi hop;subst hi;refine .val (pv hW hk fun p r he hp=>?_);simp only [evP] at he
     cases hv1 : val σ x' with
     | none=>simp [hv1,bqE] at he
     | some v1 =>
      cases hv2 : val σ y' with
      | none=>cases v1 <;> simp [hv1,hv2,bqE] at he
      | some v2 =>
       rw [hv1,hv2] at he;subst hop;exact bool_run hu (val_rel hE h1 hv1) (val_rel hE h2 hv2) he
    cases h1 : cx x <;> cases h2 : cx y <;> cases op <;> simp only [h1,h2,reduceCtorEq,Option.some.injEq] at hc
    ·exact key false _ _ h1 h2 hc.symm rfl
    ·exact key true _ _ h1 h2 hc.symm rfl
   case pointer e =>
    have key : ∀ (neg : Bool) x',cx x=some x'→isNilC y=true→i=.nq neg x'→op=eqop neg →
      Fits P g B w K ((do pure (.value (← (do eqGuard op t x y (a.eval x) (a.eval y); binOp op t (a.eval x) (a.eval y) : Sem Value))) : Sem Next).run P w):=by
     intro neg x' h1 h2 hi hop;subst hi
     have hy:=const_nil h2 a;refine .val (pv hW hk fun p r he hp=>?_);simp only [evP] at he
     cases hv1 : val σ x' with
     | none=>simp [hv1,nqE] at he
     | some v1 =>
      rw [hv1] at he;subst hop;rw [hy];exact nil_run hu (val_rel hE h1 hv1) he
    cases h1 : cx x <;> cases h2 : isNilC y <;> cases op <;> simp only [h1,h2,reduceCtorEq,Option.some.injEq] at hc
    ·exact key false _ h1 h2 hc.symm rfl
    ·exact key true _ h1 h2 hc.symm rfl
   case slice e =>
    have key : ∀ (neg : Bool) x',cx x=some x'→isNilS y=true→i=.nls neg x'→op=eqop neg →
      Fits P g B w K ((do pure (.value (← (do eqGuard op t x y (a.eval x) (a.eval y); binOp op t (a.eval x) (a.eval y) : Sem Value))) : Sem Next).run P w):=by
     intro neg x' h1 h2 hi hop;subst hi
     have hy:=const_nils h2 a;simp only [opW] at hk
     have hq : ∀ (p : Option Addr) (n c : Nat),(Op.equal t (.slice p n c) (.slice none 0 0)).run P w=.ok p.isNone w:=nls_run hu 9999
     have hrun : ∀ (p : Option Addr) (n c : Nat),a.eval x=.slice p n c→((do eqGuard op t x y (a.eval x) (a.eval y); binOp op t (a.eval x) (a.eval y) : Sem Value)).run P w=.ok (.bool (neg ^^ p.isNone)) w:=by
      intro p n c e;subst hop;rw [e,hy]
      cases neg <;> simp [eqop,eqGuard,binOp,hq]
     have fin : ∀ (p : Option Addr) (n c : Nat),a.eval x=.slice p n c→K (.bool (neg ^^ p.isNone)) H →
       Fits P g B w K ((do pure (.value (← (do eqGuard op t x y (a.eval x) (a.eval y); binOp op t (a.eval x) (a.eval y) : Sem Value))) : Sem Next).run P w):=by
      intro p n c e hkk;exact .val ⟨_,w,hrun p n c e,g,_,H,.refl g,hkk,.bool _,hW,.refl B w⟩
     cases hv : val σ x' with
     | none=>simp [hv,nlsW] at hk
     | some v =>
      have hr:=val_rel hE h1 hv;rw [hv] at hk
      have all : ∀ ux,a.eval x=ux→VRel g v ux→Fits P g B w K ((do pure (.value (← (do eqGuard op t x y (a.eval x) (a.eval y); binOp op t (a.eval x) (a.eval y) : Sem Value))) : Sem Next).run P w):=by
       intro ux hux hr
       cases hr <;> try (simp [nlsW] at hk; done)
       ·exact fin _ _ _ hux (by simpa [nlsW] using hk)
       ·exact fin _ _ _ hux ((hk : (([] : List AV)=[]→∀ b,K (.bool b) H)∧(([] : List AV)≠[]→K (.bool neg) H)).1 rfl _)
       ·refine fin _ _ _ hux ?_
        rename_i es b o sz cap vs hm _ hsz hf hv'
        have hk' : (es=[]→∀ b,K (.bool b) H)∧(es≠[]→K (.bool neg) H):=hk
        by_cases he : es=[]
        ·exact hk'.1 he _
        ·simpa using hk'.2 he
      exact all _ rfl hr
    cases h1 : cx x <;> cases h2 : isNilS y <;> cases op <;> simp only [h1,h2,reduceCtorEq,Option.some.injEq] at hc
    ·exact key false _ h1 h2 hc.symm rfl
    ·exact key true _ h1 h2 hc.symm rfl
   case struct fs =>
    have key : ∀ (neg : Bool) x' y',cx x=some x'→cx y=some y'→i=.aq neg fs.size x' y'→op=eqop neg →
      (allInts P 0 fs.toList && !P.stoodInHeld t && !P.eqGuardType P.depth t && fs.size == 2)=true →
      Fits P g B w K ((do pure (.value (← (do eqGuard op t x y (a.eval x) (a.eval y); binOp op t (a.eval x) (a.eval y) : Sem Value))) : Sem Next).run P w):=by
     intro neg x' y' h1 h2 hi hop hall;subst hi;simp only [Bool.and_eq_true,Bool.not_eq_true',beq_iff_eq] at hall
     obtain ⟨⟨⟨a1,a2⟩,a3⟩,a4⟩:=hall;refine .val (pv hW hk fun p r he hp=>?_);simp only [evP] at he
     cases hv1 : val σ x' with
     | none=>simp [hv1,aqE] at he
     | some v1 =>
      cases hv2 : val σ y' with
      | none=>cases v1 <;> simp [hv1,hv2,aqE] at he
      | some v2 =>
       rw [hv1,hv2,a4] at he;subst hop;exact struct_run hu a1 a2 a3 a4 (val_rel hE h1 hv1) (val_rel hE h2 hv2) he hp
    cases h1 : cx x <;> cases h2 : cx y <;> cases op <;> simp only [h1,h2,reduceCtorEq,Option.some.injEq] at hc
    ·split at hc
     ·rename_i hall; cases hc; exact key false _ _ h1 h2 rfl rfl hall
     ·cases hc
    ·split at hc
     ·rename_i hall; cases hc; exact key true _ _ h1 h2 rfl rfl hall
     ·cases hc
 case unOp op t x =>
  cases op <;> simp only [reduceCtorEq] at hc
  cases hx : cx x with
  | none=>simp [hx] at hc
  | some x' =>
   simp [hx] at hc; subst hc;refine .val (pv hW hk fun p r he hp=>?_);simp only [evP] at he
   cases hv : val σ x' with
   | none=>simp [hv,ntE] at he
   | some v =>
    have hr:=val_rel hE hx hv;rw [hv] at he
    generalize a.eval x=ux at hr ⊢
    cases hr <;> try (simp [ntE] at he; done)
    simp [ntE] at he; obtain ⟨-,rfl⟩:=he;exact ⟨_,by simp [Op.unary],.bool _⟩
 case convert s d x =>
  cases hs : P.underlying s <;> cases hd : P.underlying d <;> simp only [hs,hd,reduceCtorEq] at hc
  rename_i ds dd
  split at hc
  ·rename_i ks kd heq1 heq2
   cases heq1; cases heq2
   cases hx : cx x with
   | none=>simp [hx] at hc
   | some x' =>
    simp [hx] at hc; subst hc;refine .val (pv hW hk fun p r he hp=>?_);simp only [evP] at he
    cases hv : val σ x' with
    | none=>simp [hv,convE] at he
    | some v =>
     have hr:=val_rel hE hx hv;rw [hv] at he
     generalize a.eval x=ux at hr ⊢
     cases hr <;> try (simp [convE] at he; done)
     simp [convE] at he; obtain ⟨-,rfl⟩:=he;exact ⟨_,by simp [convert,run_underlying hs,run_underlying hd,Conv.intToInt],.int _ _⟩
  ·rename_i e heq1 heq2
   cases heq1; cases heq2
   split at hc
   ·rename_i hint
    have hu8 : P.underlying e=some (.int .u8):=by
     unfold intOf' at hint
     split at hint
     ·rename_i hk8; cases hint; exact hk8
     ·cases hint
    cases hx : cx x with
    | none=>simp [hx] at hc
    | some x' =>
     simp [hx] at hc; subst hc;refine .val (pv hW hk fun p r he hp=>?_);simp only [evP] at he
     cases hv : val σ x' with
     | none=>simp [hv,b2sE] at he
     | some v =>
      have hr:=val_rel hE hx hv;rw [hv] at he
      obtain ⟨u,q1,q2⟩:=bytes_sound (P:=P) hW hr he hp;refine ⟨u, ?_,q2⟩
      generalize a.eval x=ux at hr q1 ⊢
      cases hr <;> simp [b2sE] at he
      all_goals simp [convert,run_underlying hs,run_underlying hd,run_underlying hu8,q1]
   ·cases hc
  ·cases hc
 case makeInterface t x =>
  cases hu : P.underlying t with
  | none=>simp [hu] at hc
  | some d =>
   have hni : ∀ ms,d≠.interface ms:=by rintro ms rfl; simp [hu] at hc
   have hc' : (cx x).map (Ins.mki t)=some i:=by
    rw [hu] at hc
    cases d <;> first | exact hc | exact absurd rfl (hni _)
   cases hx : cx x with
   | none=>simp [hx] at hc'
   | some x' =>
    simp [hx] at hc'; subst hc';refine .val (pv hW hk fun p r he hp=>?_);simp only [evP] at he
    cases hv : val σ x' with
    | none=>simp [hv,mkiE] at he
    | some v =>
     simp [hv,mkiE] at he; obtain ⟨-,rfl⟩:=he;refine ⟨.iface t (a.eval x), ?_,.ifc t v _ (val_rel hE hx hv)⟩;simp only [Instr.makeInterface,Sem.run_bind,run_underlying hu,Result.andThen_ok]
     cases d <;> first | rfl | exact absurd rfl (hni _)
 case typeAssert x xT asserted ok =>
  cases ok <;> simp only [reduceCtorEq] at hc
  cases hx : cx x with
  | none=>simp [hx] at hc
  | some x' =>
   simp [hx] at hc; subst hc;simp only [opW] at hk
   cases hv : val σ x' with
   | none=>simp [hv,tasW] at hk
   | some v =>
    have hr:=val_rel hE hx hv;rw [hv] at hk
    generalize hux : a.eval x=ux at hr
    cases hr <;> try (simp [tasW] at hk; done)
    rename_i t v u h
    simp only [tasW] at hk;refine .val ⟨_,w,hk.1 u xT w,g,_,H,.refl g,hk.2,.tup _ _ rfl fun i hi=>?_,hW,.refl B w⟩;simp only [List.length_cons,List.length_nil] at hi
    obtain rfl | rfl : i=0∨i=1:=by omega
    ·exact .ifc t v u h
    ·exact .bool _
 case makeFunc f first ca =>
  split at hc
  ·rename_i hf
   have hfe : first=#[]:=Array.eq_empty_of_size_eq_zero hf;subst hfe
   cases hx : cxs ca.toList with
   | none=>simp [hx] at hc
   | some xs =>
    simp [hx] at hc; subst hc;refine .val (pv hW hk fun p r he hp=>?_);simp only [evP] at he
    cases hv : vals σ xs with
    | none=>simp [hv,mkfE] at he
    | some vs =>
     simp [hv,mkfE] at he; obtain ⟨-,rfl⟩:=he
     obtain ⟨q1,q2⟩:=vals_rels hE hx hv;refine ⟨.func f #[] (ca.map a.eval),by simp [Instr.makeFunc],.fn f vs _ ?_ ?_⟩
     ·simpa using q1
     ·intro j hj
      have:=q2 j hj;rw [show (List.map a.eval ca.toList).toArray=ca.map a.eval by apply Array.ext'; simp] at this;exact this
  ·cases hc
 case makeMap t r =>
  cases hu : P.underlying t with
  | none=>simp [hu] at hc
  | some d =>
   cases d <;> simp only [hu,reduceCtorEq] at hc
   cases r with
   | some x=>simp at hc
   | none =>
    simp at hc; subst hc
    obtain ⟨j,h1,h2⟩:=hW.fresh
    obtain ⟨k1,k2⟩:=hW.alloc_map j h1 0;exact .val ⟨.map (some w.heap.size),w.alloc (.map #[] 0),by simp [Instr.makeMap],_,_,_,k1,hk j h2,.mref j _ (Gh.io_addO _ _ _),k2,(Below.refl B w).alloc hW.base _⟩
 case makeSlice t l c =>
  cases h1 : elemOf' P t with
  | none=>simp [h1] at hc
  | some e =>
   obtain ⟨hu,hi,hs⟩:=elemOf_some h1;simp only [h1,hu,Option.elim_some] at hc
   cases h2 : cx l <;> cases h3 : cx c <;> cases h4 : zerosOf P e.1 <;> simp [h2,h3,h4] at hc
   rename_i l' c' z
   obtain ⟨hb,rfl⟩:=hc;simp only [opW] at hk
   cases hv1 : val σ l' with
   | none=>simp [hv1,mksW] at hk
   | some v1 =>
    cases hv2 : val σ c' with
    | none=>cases v1 <;> simp [hv1,hv2,mksW] at hk
    | some v2=>exact .val (mks_sound (P:=P) hW h1 h4 hb hv1 hv2 (val_rel hE h2 hv1) (val_rel hE h3 hv2) hk)
 case fieldAddr t x f =>
  cases h1 : fieldOf P t f <;> cases h2 : cx x <;> simp [h1,h2] at hc
  rename_i q x'
  obtain ⟨off,n,ao⟩:=q;subst hc;refine .val (pv hW hk fun p r he hp=>?_);simp only [evP] at he
  cases hv : val σ x' with
  | none=>simp [hv,fldE] at he
  | some v=>rw [hv] at he; exact fieldAt_sound h1 (val_rel hE h2 hv) he hp
 case field t x f =>
  cases h1 : fieldOf P t f <;> cases h2 : cx x <;> simp [h1,h2] at hc
  rename_i q x'
  obtain ⟨off,n,ao⟩:=q;subst hc
  obtain ⟨fs,fl,j,g1,g2,g3,g4,g5,g6,g7⟩:=fieldOf_some h1;refine .val (pv hW hk fun p r he hp=>?_);simp only [evP] at he
  cases hv : val σ x' with
  | none=>cases ao <;> simp [hv,prtE] at he
  | some v =>
   have hr:=val_rel hE h2 hv;rw [hv] at he
   generalize a.eval x=ux at hr ⊢
   cases hr <;> try (cases ao <;> simp [prtE] at he; done)
   rename_i cs vs hs hvs
   cases ao with
   | none =>
    simp only [prtE,Option.some.injEq,Prod.mk.injEq] at he
    obtain ⟨rfl,rfl⟩:=he
    have hlt : off<vs.size:=by omega
    exact ⟨vs.getD off undef,by simp [Instr.field,run_underlying g1,g2,asAgg,part,aggOf_scalar g7,g6,hlt,Array.getD],hvs _ hp⟩
   | some m =>
    simp only [prtE,Option.some.injEq,Prod.mk.injEq] at he
    obtain ⟨rfl,rfl⟩:=he
    obtain ⟨b1,ti,b2,b3⟩:=aggOf_agg (w:=w) g7;refine ⟨.agg (vs.extract off (off+m)),by simp [Instr.field,run_underlying g1,g2,asAgg,part,b1,g6,sizeOf,typeInfo,b2,b3],.agg _ _ ?_ ?_⟩
    ·simp; omega
    ·intro k hk'
     have hk2 : k<m:=by simp at hk'; omega
     have e1 : ((cs.drop off).take m).getD k nv=cs.getD (off+k) nv:=by simp [List.getD_eq_getElem?_getD,hk2]
     have e2 : (vs.extract off (off+m)).getD k undef=vs.getD (off+k) undef:=by
      simp only [Array.getD_eq_getD_getElem?,Array.getElem?_extract];rw [if_pos (by omega)]
     rw [e1,e2]; exact hvs _ (by omega)
 case slice t x lo hi mx =>
  cases mx with
  | some mx =>
   cases lo <;> cases hi <;> simp only [reduceCtorEq] at hc
   rename_i hi
   cases h1 : elemOf' P t <;> cases h2 : cx x <;> cases h3 : cx hi <;> cases h4 : cx mx <;> simp [h1,h2,h3,h4] at hc
   rename_i q x' hi' mx'
   subst hc;simp only [opW] at hk
   cases hv : val σ x' with
   | none=>rw [hv] at hk; exact hk.elim
   | some v =>
    cases hv1 : val σ hi' with
    | none=>rw [hv,hv1] at hk; cases v <;> exact hk.elim
    | some v1 =>
     cases hv2 : val σ mx' with
     | none=>rw [hv,hv1,hv2] at hk; cases v <;> first | exact hk.elim | (cases v1 <;> exact hk.elim)
     | some v2=>rw [hv,hv1,hv2] at hk; exact .val (sl3_sound hW h1 (val_rel hE h2 hv) (val_rel hE h3 hv1) (val_rel hE h4 hv2) hk)
  | none =>
  simp only [reduceCtorEq] at hc
  cases h1 : elemOf' P t <;> cases h2 : cx x <;> cases h3 : cxo lo <;> cases h4 : cxo hi <;> simp [h1,h2,h3,h4] at hc
  ·rename_i x' lo' hi'
   cases hu : P.underlying t <;> simp [hu] at hc
   rename_i q
   cases q <;> simp at hc
   subst hc;refine .val (pv hW hk fun p r he hp=>?_);simp only [evP] at he
   cases hv : val σ x' with
   | none=>simp [hv,slcE,slcA,slcS] at he
   | some v=>rw [hv] at he; exact slcS_sound hu (val_rel hE h2 hv) (cxo_rel hE h3) (cxo_rel hE h4) he hp
  rename_i q x' lo' hi'
  obtain ⟨e,ti⟩:=q
  split at hc
  ·cases hc;simp only [opW] at hk
   cases hv : val σ x' with
   | none=>rw [hv] at hk; exact hk.elim
   | some v=>rw [hv] at hk; exact .val (slb_sound hW h1 (val_rel hE h2 hv) (cxo_rel hE h3) (cxo_rel hE h4) hk)
  cases hc;refine .val (pv hW hk fun p r he hp=>?_);simp only [evP] at he
  cases hv : val σ x' with
  | none=>simp [hv,slcE,slcA,slcS] at he
  | some v=>rw [hv] at he; exact slc_sound h1 (val_rel hE h2 hv) (cxo_rel hE h3) (cxo_rel hE h4) he hp
 case indexAddr t x ix =>
  cases h1 : elemOf' P t <;> cases h2 : cx x <;> cases h3 : cx ix <;> simp [h1,h2,h3] at hc
  rename_i q x' i'
  obtain ⟨e,ti⟩:=q;subst hc;refine .val (pv hW hk fun p r he hp=>?_);simp only [evP] at he
  cases hv : val σ x' with
  | none=>simp [hv,idxE] at he
  | some v =>
   cases hv2 : val σ i' with
   | none=>cases v <;> simp [hv,hv2,idxE] at he
   | some v2=>rw [hv,hv2] at he; exact indexAt_sound h1 (val_rel hE h2 hv) (val_rel hE h3 hv2) he hp
 case lookup t m k ok =>
  cases hu : P.underlying t with
  | none=>simp [hu] at hc
  | some d =>
   cases d <;> simp only [hu,reduceCtorEq] at hc
   rename_i kt et
   cases h1 : cx m <;> cases h2 : cx k <;> simp only [h1,h2,reduceCtorEq] at hc
   rename_i m' k'
   have key : ∀ (s : Nat) (z : AV),keyOk P s kt→zeroOf P et=some z→i=.lkm s ok z m' k' →
     Fits P g B w K ((do pure (.value (← Instr.lookup t (a.eval m) (a.eval k) ok)) : Sem Next).run P w):=by
    intro s z hd hz hi;subst hi;simp only [opW] at hk
    cases hv1 : val σ m' with
    | none=>simp [hv1,lkW] at hk
    | some v1 =>
     cases hv2 : val σ k' with
     | none=>cases v1 <;> simp [hv1,hv2,lkW] at hk
     | some v2 =>
      obtain ⟨u,q1,q2⟩:=lookup_sound (P:=P) hW hu hd hz hv1 hv2 (val_rel hE h1 hv1) (val_rel hE h2 hv2) ok hk;exact .val ⟨u,w,q1,q2⟩
   cases hkt : P.underlying kt with
   | none=>simp [hkt] at hc
   | some dk =>
    cases hz : zeroOf P et with
    | none=>cases dk <;> simp [hkt,hz] at hc
    | some z =>
     cases dk <;> simp only [hkt,hz,reduceCtorEq,Option.some.injEq] at hc
     ·exact key 0 z ⟨_,hkt,.inl rfl⟩ hz hc.symm
     ·exact key 1 z ⟨_,hkt,.inl rfl⟩ hz hc.symm
     ·split at hc
      ·exact key 2 z ⟨_,hkt,.inr ⟨rfl,_,rfl,‹_›⟩⟩ hz (by simpa using hc.symm)
      ·cases hc
 case mapUpdate t m k x =>
  cases hu : P.underlying t with
  | none=>simp [hu] at hc
  | some d =>
   cases d <;> simp only [hu,reduceCtorEq] at hc
   rename_i kt et
   cases h1 : cx m <;> cases h2 : cx k <;> cases h3 : cx x <;> simp only [h1,h2,h3,reduceCtorEq] at hc
   rename_i m' k' x'
   have key : ∀ (s : Nat),keyOk P s kt→i=.upd s m' k' x' →
     Fits P g B w K ((do Instr.mapUpdate t (a.eval m) (a.eval k) (a.eval x); pure .skip : Sem Next).run P w):=by
    intro s hd hi;subst hi;simp only [opW] at hk
    cases hv1 : val σ m' with
    | none=>simp [hv1,upW] at hk
    | some v1 =>
     cases hv2 : val σ k' with
     | none=>cases v1 <;> simp [hv1,hv2,upW] at hk
     | some v2 =>
      cases hv3 : val σ x' with
      | none=>cases v1 <;> simp [hv1,hv2,hv3,upW] at hk
      | some v3=>exact .unit (update_sound (P:=P) hW hu hd hv1 hv2 hv3 (val_rel hE h1 hv1) (val_rel hE h2 hv2) (val_rel hE h3 hv3) hk)
   cases hkt : P.underlying kt with
   | none=>simp [hkt] at hc
   | some dk =>
    cases dk <;> simp only [hkt,reduceCtorEq,Option.some.injEq] at hc
    ·exact key 0 ⟨_,hkt,.inl rfl⟩ hc.symm
    ·exact key 1 ⟨_,hkt,.inl rfl⟩ hc.symm
    ·split at hc
     ·exact key 2 ⟨_,hkt,.inr ⟨rfl,_,rfl,‹_›⟩⟩ (by simpa using hc.symm)
     ·cases hc
 case extract x ix =>
  cases hx : cx x with
  | none=>simp [hx] at hc
  | some x' =>
   simp [hx] at hc; subst hc;refine .val (pv hW hk fun p r he hp=>?_);simp only [evP] at he
   cases hv : val σ x' with
   | none=>simp [hv,extE] at he
   | some v =>
    have hr:=val_rel hE hx hv;rw [hv] at he
    generalize a.eval x=ux at hr ⊢
    cases hr <;> try (simp [extE] at he; done)
    rename_i cs vs hs hvs
    simp only [extE,Option.some.injEq,Prod.mk.injEq] at he
    obtain ⟨rfl,rfl⟩:=he
    have hlt : ix<vs.size:=by omega
    exact ⟨vs.getD ix undef,by simp [Instr.extract,hlt,Array.getD],hvs _ hp⟩
 case call c =>
  obtain ⟨callee,args,argTypes⟩:=c
  have hmap : (args.toList.map a.eval).toArray=args.map a.eval:=by apply Array.ext'; simp
  cases callee with
  | value f =>
   simp only at hc
   cases h1 : cx f <;> cases h2 : cxs args.toList <;> simp [h1,h2] at hc
   rename_i f' xs
   have hres : ∀ (fid : FuncId) (ca : List AV) (as : List AV) (K' : Kont),val σ f'=some (.fn (.func fid) ca)→vals σ xs=some as→CallH P B fid (as++ca) H K' →
     Fits P g B w K' ((do let d ← resolve a.eval { callee:=.value f,args:=args,argTypes:=argTypes } o.type; Go.invoke d.target d.args : Sem Next).run P w):=by
    intro fid ca as K' hvf hvx hcall
    have hrf:=val_rel hE h1 hvf
    have hrx:=vals_rels hE h2 hvx;rw [hmap] at hrx
    obtain ⟨cv,hev,hcr⟩ : ∃ cv,a.eval f=.func (.func fid) #[] cv∧VRels g ca cv:=by
     generalize a.eval f=uf at hrf
     cases hrf
     rename_i cv hcs hcv
     exact ⟨cv,rfl,hcs,hcv⟩
    have:=call_fits hW (hrx.append hcr) hcall;simp only [resolve,hev,Deferred.ofValue,Sem.run_bind,Sem.run_pure,Result.andThen_ok,Go.invoke,Array.empty_append];exact this
   have hfn : ∀ (ov : Option AV) (oas : Option (List AV)) (K' : Kont),callW P B ov oas K' H→∃ fid ca as,ov=some (.fn (.func fid) ca)∧oas=some as∧CallH P B fid (as++ca) H K':=by
    intro ov oas K' hh;unfold callW at hh
    split at hh
    ·exact ⟨_,_,_,rfl,rfl,hh⟩
    ·exact hh.elim
   split at hc
   ·cases hc;simp only [opW] at hk
    obtain ⟨r,hr,hk⟩:=hk;unfold callPW at hr
    split at hr
    ·rename_i fid ca as hv1 hv2
     refine hres fid ca as K ?_ ?_ ?_
     ·assumption
     ·assumption
     ·exact hr.use hk
    ·exact hr.elim
   ·split at hc
    ·cases hc;simp only [opW] at hk
     obtain ⟨fid,ca,as,e1,e2,hcall⟩:=hfn _ _ _ hk;exact hres fid ca as K e1 e2 (hcall.mono fun _ _ h=>h.2)
    ·split at hc
     ·cases hc;simp only [opW] at hk
      obtain ⟨fid,ca,as,e1,e2,hcall⟩:=hfn _ _ _ hk;exact hres fid ca as K e1 e2 (hcall.mono fun _ _ h=>h.2)
     cases hc;simp only [opW] at hk
     obtain ⟨fid,ca,as,e1,e2,hcall⟩:=hfn _ _ _ hk;exact hres fid ca as K e1 e2 hcall
  | invoke x name =>
   simp only at hc
   cases h1 : cx x <;> cases h2 : cxs args.toList <;> simp [h1,h2] at hc
   rename_i x' xs
   subst hc;simp only [opW] at hk;unfold invW at hk
   split at hk
   ·rename_i t v as hv1 hv2
    obtain ⟨fid,hm,hcall⟩:=hk
    have hrf:=val_rel hE h1 hv1
    have hrx:=vals_rels hE h2 hv2;rw [hmap] at hrx
    obtain ⟨wv,hev,hwv⟩ : ∃ wv,a.eval x=.iface t wv∧VRel g v wv:=by
     generalize a.eval x=ux at hrf
     cases hrf;exact ⟨_,rfl,by assumption⟩
    have hone : VRels g [v] #[wv]:=⟨rfl,fun i hi=>by
     have : i=0:=by simp at hi; omega
     subst this; exact hwv⟩
    have:=call_fits hW (hone.append hrx) hcall
    have hex : (#[Value.iface t wv]++args.map a.eval).extract 1 (#[Value.iface t wv]++args.map a.eval).size=args.map a.eval:=by
     apply Array.ext'; simp [List.take_of_length_le]
    have h0 : (#[Value.iface t wv]++args.map a.eval)[0]? = some (Value.iface t wv):=by rw [Array.getElem?_append_left (by simp)]; rfl
    simp only [resolve,hev,Sem.run_bind,Sem.run_pure,Result.andThen_ok,Go.invoke,h0,hex,callMethod,run_program,hm wv w];exact this
   ·exact hk.elim
  | builtin b =>
   cases b <;> simp only [reduceCtorEq] at hc
   case len =>
    split at hc
    ·rename_i x t ha hat
     have ha' : args=#[x]:=by apply Array.ext'; simpa using ha
     have hat' : argTypes=#[t]:=by apply Array.ext'; simpa using hat
     subst ha' hat'
     cases hu : P.underlying t with
     | none=>simp [hu] at hc
     | some d =>
      cases d <;> simp only [hu,reduceCtorEq] at hc
      case string =>
       cases hx : cx x with
       | none=>simp [hx] at hc
       | some x' =>
        simp [hx] at hc; subst hc
        obtain ⟨p,r,he,hp,hk⟩:=pW_some hk;simp only [evP] at he
        cases hv : val σ x' with
        | none=>simp [hv,lenSE] at he
        | some v =>
         have hr:=val_rel hE hx hv;rw [hv] at he
         cases v <;> simp only [lenSE,reduceCtorEq,Option.some.injEq,Prod.mk.injEq] at he
         rename_i l
         obtain ⟨-,rfl⟩:=he
         have hev : a.eval x=.string ⟨l.toArray⟩:=by
          generalize a.eval x=ux at hr
          cases hr; rfl
         have hrun : ((do let d ← resolve a.eval { callee:=.builtin .len,args:=#[x],argTypes:=#[t] } o.type; Go.invoke d.target d.args : Sem Next)).run P w =
           .ok (.value (.int .i64 l.length)) w:=by
          have hsz : (⟨l.toArray⟩ : ByteArray).size=l.length:=by show l.toArray.size=_; simp
          simp [resolve,Go.invoke,builtin,Builtin.len_,run_underlying hu,hev,goInt,hsz]
         rw [hrun];exact .same hW (.int _ _) hk
      case map kt et =>
       cases hx : cx x with
       | none=>simp [hx] at hc
       | some x' =>
        simp [hx] at hc; subst hc;simp only [opW] at hk
        cases hv : val σ x' with
        | none=>rw [hv] at hk; exact hk.elim
        | some v =>
         have hr:=val_rel hE hx hv;rw [hv] at hk
         cases v <;> try exact hk.elim
         rename_i id
         simp only [lmW] at hk
         cases ho : H.get id with
         | none=>rw [ho] at hk; exact hk.elim
         | some ob =>
          rw [ho] at hk
          cases ob with
          | cells _ _ _=>exact hk.elim
          | map ks vs =>
           obtain ⟨pl,hp,hob⟩:=hW.ob _ _ ho
           obtain ⟨b,hev,hb⟩ : ∃ b,a.eval x=.map (some b)∧g.io id=some (.mp b):=by
            generalize a.eval x=ux at hr
            cases hr; exact ⟨_,rfl,‹_›⟩
           obtain rfl : Place.mp b=pl:=by rw [hb] at hp; exact Option.some.inj hp
           obtain ⟨-,-,es,clk,hbk,⟨hsz,-⟩,-⟩:=hob
           have hrun : ((do let d ← resolve a.eval { callee:=.builtin .len,args:=#[x],argTypes:=#[t] } o.type; Go.invoke d.target d.args : Sem Next)).run P w =
             .ok (.value (.int .i64 ks.length)) w:=by
            simp [resolve,Go.invoke,builtin,Builtin.len_,run_underlying hu,hev,goInt,run_getObj_map' hbk,hsz]
           rw [hrun];exact .same hW (.int _ _) hk
      case slice e =>
       cases hx : cx x with
       | none=>simp [hx] at hc
       | some x' =>
        simp [hx] at hc; subst hc
        obtain ⟨p,r,he,hp,hk⟩:=pW_some hk;simp only [evP] at he
        cases hv : val σ x' with
        | none=>simp [hv,lenE] at he
        | some v =>
         have hr:=val_rel hE hx hv;rw [hv] at he
         obtain ⟨ad,n,cap,hev,hn⟩ : ∃ ad n cap,a.eval x=.slice ad n cap∧r=.int .i64 n:=by
          generalize a.eval x=ux at hr
          cases hr <;> simp only [lenE,reduceCtorEq,Option.some.injEq,Prod.mk.injEq] at he
          all_goals (obtain ⟨-,rfl⟩:=he; exact ⟨_,_,_,rfl,rfl⟩)
         subst hn
         have hrun : ((do let d ← resolve a.eval { callee:=.builtin .len,args:=#[x],argTypes:=#[t] } o.type; Go.invoke d.target d.args : Sem Next)).run P w =
           .ok (.value (.int .i64 n)) w:=by
          simp [resolve,Go.invoke,builtin,Builtin.len_,run_underlying hu,hev,goInt]
         rw [hrun];exact .same hW (.int _ _) hk
    ·cases hc
   case clear =>
    split at hc
    ·rename_i x t ha hat
     have ha' : args=#[x]:=by apply Array.ext'; simpa using ha
     have hat' : argTypes=#[t]:=by apply Array.ext'; simpa using hat
     subst ha' hat'
     cases h1 : elemOf' P t with
     | none=>simp [h1] at hc
     | some e =>
      simp only [h1] at hc
      cases h2 : cx x <;> cases h3 : zerosOf P e.1 <;> simp [h2,h3] at hc
      subst hc;simp only [opW] at hk
      rename_i x' z
      cases hv : val σ x' with
      | none=>rw [hv] at hk; exact hk.elim
      | some v =>
       rw [hv] at hk
       obtain ⟨w',q1,q2⟩:=clr_sound (P:=P) (ty:=o.type) hW h1 h3 (val_rel hE h2 hv) hk;simp only [resolve,Sem.run_bind,Sem.run_pure,Result.andThen_ok,Go.invoke,builtin,List.map_toArray,List.map_cons,List.map_nil,q1];exact q2
    ·cases hc
   case copy =>
    split at hc
    ·rename_i x y t t' ha hat
     have ha' : args=#[x,y]:=by apply Array.ext'; simpa using ha
     have hat' : argTypes=#[t,t']:=by apply Array.ext'; simpa using hat
     subst ha' hat'
     cases h1 : elemOf' P t with
     | none=>simp [h1] at hc
     | some e =>
      simp only [h1] at hc
      cases h2 : cx x <;> cases h3 : cx y <;> simp [h2,h3] at hc
      rename_i x' y'
      obtain ⟨hsz,rfl⟩:=hc;simp only [opW] at hk
      cases hv1 : val σ x' with
      | none=>rw [hv1] at hk; exact hk.elim
      | some v1 =>
       cases hv2 : val σ y' with
       | none=>rw [hv1,hv2] at hk; cases v1 <;> exact hk.elim
       | some v2 =>
        rw [hv1,hv2] at hk
        obtain ⟨v,w',q1,q2⟩:=cpy_sound (P:=P) (ty:=o.type) (t':=t') hW h1 hsz (val_rel hE h2 hv1) (val_rel hE h3 hv2) hk;simp only [resolve,Sem.run_bind,Sem.run_pure,Result.andThen_ok,Go.invoke,builtin,List.map_toArray,List.map_cons,List.map_nil,q1];exact q2
    ·cases hc
   case append =>
    split at hc
    ·rename_i s x t t' ha hat
     have ha' : args=#[s,x]:=by apply Array.ext'; simpa using ha
     have hat' : argTypes=#[t,t']:=by apply Array.ext'; simpa using hat
     subst ha' hat'
     cases h1 : elemOf' P t with
     | none=>simp [h1] at hc
     | some e =>
      obtain ⟨hu,hi,hs⟩:=elemOf_some h1;simp only [h1,hu,Option.elim_some] at hc
      cases h2 : cx s <;> cases h3 : cx x <;> cases h4 : zerosOf P e.1 <;> simp [h2,h3,h4] at hc
      rename_i s' x' z
      obtain ⟨⟨rfl,hb⟩,rfl⟩:=hc;simp only [opW] at hk
      cases hv1 : val σ s' with
      | none=>simp [hv1,appW] at hk
      | some v1 =>
       cases hv2 : val σ x' with
       | none =>
        exfalso
        cases v1 <;> simp only [hv1,hv2,appW] at hk
        ·simp [srcOf,app1] at hk
        ·simp [srcOf,app0] at hk
        ·rename_i id n
         cases hg : H.get id with
         | none=>simp [hg,app2] at hk
         | some ob=>cases ob <;> simp [hg,srcOf,app2] at hk
        ·rename_i id n
         cases hg : H.get id with
         | none=>simp [hg,app3] at hk
         | some ob=>cases ob <;> simp [hg,srcOf,app3] at hk
       | some v2 =>
        obtain ⟨v,w',q1,q2⟩:=append_sound (P:=P) (ty:=o.type) hW h1 h4 hb hv1 hv2 (val_rel hE h2 hv1) (val_rel hE h3 hv2) hk;simp only [resolve,Sem.run_bind,Sem.run_pure,Result.andThen_ok,Go.invoke,builtin,List.map_toArray,List.map_cons,List.map_nil,q1];exact q2
    ·cases hc
   case max =>
    split at hc
    ·rename_i x y ha
     have ha' : args=#[x,y]:=by apply Array.ext'; simpa using ha
     subst ha'
     cases h2 : cx x <;> cases h3 : cx y <;> simp [h2,h3] at hc
     rename_i x' y'
     subst hc
     obtain ⟨p,r,he,hp,hk⟩:=pW_some hk;simp only [evP] at he
     cases hv1 : val σ x' with
     | none=>simp [hv1,mxE] at he
     | some v1 =>
      cases hv2 : val σ y' with
      | none=>cases v1 <;> simp [hv1,hv2,mxE] at he
      | some v2 =>
       have r1:=val_rel hE h2 hv1
       have r2:=val_rel hE h3 hv2;rw [hv1,hv2] at he
       cases v1 <;> cases v2 <;> simp only [mxE,reduceCtorEq,Option.some.injEq,Prod.mk.injEq] at he
       rename_i k1 n1 k2 n2
       obtain ⟨rfl,rfl⟩:=he;subst hp
       have e1 : a.eval x=.int k1 n1:=by
        generalize a.eval x=ux at r1
        cases r1; rfl
       have e2 : a.eval y=.int k1 n2:=by
        generalize a.eval y=uy at r2
        cases r2; rfl
       simp [resolve,Go.invoke,builtin,Builtin.max_,Builtin.max2,e1,e2];exact .same hW (.int _ _) (by simpa using hk)
    ·cases hc
   case min =>
    split at hc
    ·rename_i x y ha
     have ha' : args=#[x,y]:=by apply Array.ext'; simpa using ha
     subst ha'
     cases h2 : cx x <;> cases h3 : cx y <;> simp [h2,h3] at hc
     rename_i x' y'
     subst hc
     obtain ⟨p,r,he,hp,hk⟩:=pW_some hk;simp only [evP] at he
     cases hv1 : val σ x' with
     | none=>simp [hv1,mxE] at he
     | some v1 =>
      cases hv2 : val σ y' with
      | none=>cases v1 <;> simp [hv1,hv2,mxE] at he
      | some v2 =>
       have r1:=val_rel hE h2 hv1
       have r2:=val_rel hE h3 hv2;rw [hv1,hv2] at he
       cases v1 <;> cases v2 <;> simp only [mxE,reduceCtorEq,Option.some.injEq,Prod.mk.injEq] at he
       rename_i k1 n1 k2 n2
       obtain ⟨rfl,rfl⟩:=he;subst hp
       have e1 : a.eval x=.int k1 n1:=by
        generalize a.eval x=ux at r1
        cases r1; rfl
       have e2 : a.eval y=.int k1 n2:=by
        generalize a.eval y=uy at r2
        cases r2; rfl
       simp [resolve,Go.invoke,builtin,Builtin.min_,Builtin.min2,e1,e2];exact .same hW (.int _ _) (by simpa using hk)
    ·cases hc
end
end Go.AW
namespace Go.AW
open Go.RowKit
inductive OrdT where
 | fin (l : List SOp)
 | br (l : List SOp) (ts : OrdT)
 | nil
 | alt (h : SOp) (t ts : OrdT)
 deriving Inhabited
inductive SC where
 | skip
 | reg (ops : List SOp)
 | two (pre l l' : List SOp)
 | tre (t : OrdT)
 | seq (a b : SC)
 | cond (x : X) (a b : SC)
 | block (id : Nat) (c : SC)
 | loop (l : List Nat) (c : SC)
 | exit (id : Nat)
 | ret
 | scp (c : SC)
 | keep (l : List Nat) (c : SC)
 | wk (c : SC)
 | fz (t : Nat) (c : SC)
 | cut (l : List Nat) (a b : SC)
 deriving Inhabited
def SC.strip : SC→SC
 | .seq a b=>.seq a.strip b.strip
 | .cut _ a b=>.seq a.strip b.strip
 | .cond x a b=>.cond x a.strip b.strip
 | .block id c=>.block id c.strip
 | .loop _ c=>.loop [] c.strip
 | .keep _ c=>c.strip
 | .fz _ c=>c.strip
 | .wk c=>c.strip
 | .scp c=>.scp c.strip
 | c=>c
inductive AEx where
 | norm
 | exit (id : Nat)
 | ret
abbrev AQ:=AEx→Env→Heap→Prop
def seqQ (F : Env→Heap→Prop) (Q : AQ) : AQ
 | .norm,σ,H=>F σ H
 | e,σ,H=>Q e σ H
def blkQ (id : Nat) (Q : AQ) : AQ
 | .exit i,σ,H=>if i=id then Q .norm σ H else Q (.exit i) σ H
 | e,σ,H=>Q e σ H
def Wk (σ : Env) (H : Heap) (σ' : Env) (H' : Heap) : Prop :=
 ∀ g B w tm,WRel g B H w→ERel g σ tm→∃ g',g.le g'∧WRel g' B H' w∧ERel g' σ' tm
def lpQ (l : List Nat) (I : Nat→Env→Heap→Prop) (n : Nat) (Q : AQ) : AQ
 | .norm,σ,H=>∃ m σ' H',m<n∧I m σ' H'∧Wk (Env.keep l σ) H σ' H'
 | e,σ,H=>Q e σ H
def loopW (l : List Nat) (F : AQ→Env→Heap→Prop) (Q : AQ) (σ : Env) (H : Heap) : Prop :=
 ∃ (I : Nat→Env→Heap→Prop) (n : Nat) (σ0 : Env) (H0 : Heap),I n σ0 H0∧Wk σ H σ0 H0∧∀ n σ H,I n σ H→F (lpQ l I n Q) σ H
def cndW (o : Option AV) (A C : Env→Heap→Prop) (σ : Env) (H : Heap) : Prop :=
 match o with
 | some (.bool b)=>(b=true→At A σ H)∧(b=false→At C σ H)
 | _=>False
def wkW (F : Env→Heap→Prop) (σ : Env) (H : Heap) : Prop:=∃ σ' H',Wk σ H σ' H'∧F σ' H'
def ctQ (l : List Nat) (M : Env→Heap→Prop) (Q : AQ) : AQ
 | .norm,σ,H=>wkW M (Env.keep l σ) H
 | e,σ,H=>Q e σ H
def cutW (l : List Nat) (F : AQ→Env→Heap→Prop) (G : Env→Heap→Prop) (Q : AQ) (σ : Env) (H : Heap) : Prop :=
 ∃ M : Env→Heap→Prop,F (ctQ l M Q) σ H∧∀ σ' H',M σ' H'→G σ' H'
def fz1 (t id n : Nat) (F : Env→Heap→Prop) (σ : Env) (H : Heap) : Option MObj→Prop
 | some (.cells sz cs _)=>(cs.length=n*sz∧0<sz∧∀ c,c∈cs→c.one=true)∧F (σ.put t (.sl (chunk sz n cs))) (H.set id (.cells sz cs cs.length))
 | _=>False
def fzW (t : Nat) (F : Env→Heap→Prop) (σ : Env) (H : Heap) : Option AV→Prop
 | some (.buf id n)=>fz1 t id n F σ H (H.get id)
 | some .nilsl=>F (σ.put t (.sl [])) H
 | _=>F σ H
def otW (P : Program) (B : Nat) : OrdT→(Env→Heap→Prop)→Env→Heap→Prop
 | .fin l,F,σ,H=>opsW P B l F σ H
 | .br l ts,F,σ,H=>opsW P B l (otW P B ts F) σ H
 | .nil,_,_,_=>True
 | .alt h t ts,F,σ,H=>opsW P B [h] (otW P B t F) σ H∧otW P B ts F σ H
def awp (P : Program) (B : Nat) : SC→AQ→Env→Heap→Prop
 | .skip,Q,σ,H=>Q .norm σ H
 | .reg ops,Q,σ,H=>opsW P B ops (Q .norm) σ H
 | .two p l l',Q,σ,H=>opsW P B p (fun σ H=>opsW P B l (Q .norm) σ H∧opsW P B l' (Q .norm) σ H) σ H
 | .tre t,Q,σ,H=>otW P B t (Q .norm) σ H
 | .seq a b,Q,σ,H=>awp P B a (seqQ (awp P B b Q) Q) σ H
 | .cond x a b,Q,σ,H=>cndW (val σ x) (awp P B a Q) (awp P B b Q) σ H
 | .block id c,Q,σ,H=>awp P B c (blkQ id Q) σ H
 | .loop l c,Q,σ,H=>loopW l (awp P B c) Q (Env.keep l σ) H
 | .exit id,Q,σ,H=>Q (.exit id) σ H
 | .ret,Q,σ,H=>Q .ret σ H
 | .scp c,Q,σ,H=>awp P B c Q σ H
 | .keep l c,Q,σ,H=>awp P B c Q (Env.keep l σ) H
 | .wk c,Q,σ,H=>wkW (awp P B c Q) σ H
 | .cut l a b,Q,σ,H=>cutW l (awp P B a) (awp P B b Q) Q σ H
 | .fz t c,Q,σ,H=>fzW t (awp P B c Q) σ H (σ.get t)
abbrev Hints:=List (Nat × List Nat × List Nat)
def consS : Option SOp→Option (List SOp)→Option (List SOp)
 | some a,some r=>some (a::r)
 | _,_=>none
def compileIx (P : Program) (N : Nat) (ops : Array Oper) (hs : List Nat) : List Nat→Option (List SOp)
 | []=>some []
 | i::r=>match ops[i]? with
  | some o=>consS (compileO P N ops (hs.getD i 0) o) (compileIx P N ops hs r)
  | none=>none
def op2 (f : SC→SC→SC) : Option SC→Option SC→Option SC
 | some a,some b=>some (f a b)
 | _,_=>none
section
variable {P : Program} {B : Nat}
def PostA (F : Env→Heap→Prop) (g : Gh) (B : Nat) (w0 : World) (N : Nat) (df : List Deferred) (a : Act) (w : World) : Prop :=
 ∃ g' σ' H',g.le g'∧F σ' H'∧WRel g' B H' w∧ERel g' σ' a.tmps∧Below B w0 w∧a.tmps.size=N∧a.defers=df
def Post (Q : AQ) (g : Gh) (B : Nat) (w0 : World) (N : Nat) (df : List Deferred) : Exit→Act→World→Prop
 | .normal=>PostA (Q .norm) g B w0 N df
 | .exit id=>PostA (Q (.exit id)) g B w0 N df
 | .ret=>PostA (Q .ret) g B w0 N df
 | _=>fun _ _=>False
theorem PostA.from {F : Env→Heap→Prop} {g g1 : Gh} {w0 w1 : World} {N : Nat} {df : List Deferred} {a : Act} {w : World} (hg : g.le g1) (hb : Below B w0 w1) (h : PostA F g1 B w1 N df a w) : PostA F g B w0 N df a w:=by
 obtain ⟨g',σ',H',h1,h2,h3,h4,h5,h6⟩:=h;exact ⟨g',σ',H',hg.trans h1,h2,h3,h4,hb.trans h5,h6⟩
theorem Post.from {Q : AQ} {g g1 : Gh} {w0 w1 : World} {N : Nat} {df : List Deferred} {e : Exit} {a : Act} {w : World} (hg : g.le g1) (hb : Below B w0 w1) (h : Post Q g1 B w1 N df e a w) : Post Q g B w0 N df e a w:=by
 cases e <;> first | exact PostA.from hg hb h | exact h
theorem put_size (a : Act) (d : Option Nat) (v : Value) : (a.put d v).tmps.size=a.tmps.size:=by
 cases d <;> simp [Act.put]
theorem put_defers (a : Act) (d : Option Nat) (v : Value) : (a.put d v).defers=a.defers:=by
 cases d <;> rfl
theorem upon_fits {g : Gh} {w : World} {K : Kont} {o : Oper} {a : Act} {next : Act→World→Prop} {Q : Exit→Act→World→Prop} {r : Result Next} (h : Fits P g B w K r)
  (hn : ∀ v w',FinV g B w K v w'→next (a.put o.dst v) w') : o.upon P a next Q r:=by
 cases r with
 | halt h' w'=>exact h.elim
 | ok n w' =>
  cases n <;> first | exact h.elim | skip
  ·exact hn _ _ h
  ·exact hn _ _ h
  ·obtain ⟨rfl,hc⟩:=h;exact hc.mono fun e w'' ⟨v,he,hf⟩=>by subst he; exact hn _ _ hf
theorem ops_sound {N : Nat} {ops : Array Oper} {hs : List Nat} {df : List Deferred} : ∀ (l : List Nat) (sops : List SOp),compileIx P N ops hs l=some sops →
  ∀ (F : Env→Heap→Prop) (g : Gh) (H : Heap) (w : World) (σ : Env) (a : Act) (Q : Exit→Act→World→Prop),WRel g B H w→ERel g σ a.tmps→a.tmps.size=N→a.defers=df →
   opsW P B sops F σ H→(∀ a' w',PostA F g B w N df a' w'→Q .normal a' w')→wpOps P ops Q l a w
 | [],sops,hc=>by
  intro F g H w σ a Q hW hE hN hd hk hq
  cases hc;exact hq _ _ ⟨g,σ,H,.refl g,hk,hW,hE,.refl B w,hN,hd⟩
 | i::r,sops,hc=>by
  intro F g H w σ a Q hW hE hN hd hk hq;unfold compileIx at hc
  cases ho : ops[i]? with
  | none=>simp [ho] at hc
  | some o =>
   simp only [ho] at hc
   cases hco : compileO P N ops (hs.getD i 0) o with
   | none=>simp only [hco,consS,reduceCtorEq] at hc
   | some so =>
    cases hcr : compileIx P N ops hs r with
    | none=>simp only [hco,hcr,consS,reduceCtorEq] at hc
    | some sr =>
     simp only [hco,hcr,consS,Option.some.injEq] at hc;subst hc;unfold compileO at hco
     cases hop : compileOp P (hs.getD i 0) o.op with
     | none=>simp only [hop,reduceCtorEq] at hco
     | some ins =>
      cases hg : compileG ops o.guard with
      | none=>simp only [hop,hg,reduceCtorEq] at hco
      | some gd =>
       simp only [hop,hg] at hco
       split at hco
       ·rename_i hdst
        cases hco
        have ih:=ops_sound (df:=df) r sr hcr
        have hdo : opW P B (putK o.dst (opsW P B sr F) σ) σ H ins→o.wp P a w (wpOps P ops Q r) Q:=by
         intro hkk
         have hf:=op_sound (a:=a) hop hW hE hkk;refine upon_fits hf fun v w' hfv=>?_
         obtain ⟨g',rv,H',h1,h2,h3,h4,h5⟩:=hfv
         cases hd' : o.dst with
         | none =>
          rw [hd'] at h2;exact ih _ _ _ _ _ _ _ h4 (hE.mono h1) hN hd h2 fun a' w'' hp=>hq _ _ (hp.from h1 h5)
         | some d =>
          rw [hd'] at h2 hdst;simp only [dstOk,Bool.and_eq_true,decide_eq_true_eq] at hdst
          have hlt : d<a.tmps.size:=by rw [hN]; exact hdst.1
          refine ih _ _ _ _ _ (a.put (some d) v) _ h4 ((hE.mono h1).put hlt h3) (by rw [put_size]; exact hN) hd h2 fun a' w'' hp=>hq _ _ (hp.from h1 h5)
        have hskip : opsW P B sr F (forgetD o.dst σ) H→wpOps P ops Q r (a.put o.dst undef) w:=by
         intro hkk
         cases hd' : o.dst with
         | none=>rw [hd'] at hkk; exact ih _ _ _ _ _ _ _ hW hE hN hd hkk hq
         | some d =>
          rw [hd'] at hkk;rw [hd'] at hdst;simp only [dstOk,Bool.and_eq_true,decide_eq_true_eq] at hdst
          have hlt : d<a.tmps.size:=by rw [hN]; exact hdst.1
          exact ih _ _ _ _ _ (a.put (some d) undef) _ hW (hE.put hlt (.tup [] #[] rfl (fun i hi=>by simp at hi))) (by rw [put_size]; exact hN) hd hkk hq
        simp only [wpOps,ho]
        cases hgu : o.guard with
        | none =>
         rw [hgu] at hg
         simp [compileG] at hg;subst hg;simp only [opsW,opE] at hk;simp only [Region.wanted,hgu,if_true];exact .inl (hdo hk)
        | some jb =>
         obtain ⟨j,b⟩:=jb;rw [hgu] at hg;simp only [compileG] at hg
         cases hj : (ops[j]?).bind (·.dst) with
         | none=>simp [hj] at hg
         | some t =>
          simp only [hj,Option.some.injEq] at hg;subst hg;simp only [opsW] at hk
          cases hget : σ.get t with
          | none=>simp [hget,gdW] at hk
          | some tv =>
           obtain ⟨hlt,hrel⟩:=hE t tv hget;rw [hget] at hk
           by_cases htp : ∃ cs,tv=.tup cs
           ·obtain ⟨cs,rfl⟩:=htp;simp only [gdW,At,skE] at hk
            have hy : yielded ops a.tmps j=none:=by
             unfold yielded;rw [hj]
             have e:=getD_some hlt
             generalize a.tmps.getD t undef=u at hrel e
             cases hrel
             simp [e]
            simp only [Region.wanted,hgu,hy];exact hskip hk
           cases tv <;> try (simp [gdW] at hk; done)
           rotate_left
           ·exact absurd ⟨_,rfl⟩ htp
           rename_i c
           simp only [gdW,At,opE,skE] at hk
           have hy : yielded ops a.tmps j=some c:=by
            unfold yielded;rw [hj]
            have : a.tmps[t]? = some (.bool c):=by
             have e:=getD_some hlt;rw [e]
             generalize a.tmps.getD t undef=u at hrel
             cases hrel; rfl
            simp [this]
           simp only [Region.wanted,hgu,hy]
           by_cases hcb : c=b
           ·subst hcb;simp only [beq_self_eq_true,if_true];exact .inl (hdo (hk.1 rfl))
           ·have hne : (some c == some b)=false:=by simpa using hcb
            rw [hne];simp only [Bool.false_eq_true,if_false];exact hskip (hk.2 (by cases c <;> cases b <;> simp_all))
       ·cases hco
end
end Go.AW
namespace Go.AW
open Go.RowKit
def cls : Ins→Nat
 | .ld .. | .ldZ .. | .lkm .. | .lenM .. | .slb ..=>1
 | .st .. | .litW .. | .boxW .. | .alc .. | .app .. | .mks .. | .mkm | .upd .. | .call .. | .callQ .. | .callZ .. | .inv .. | .nls .. | .tas .. | .clr .. | .cpy .. | .sl3 ..=>2
 | _=>0
def keeps : Ins→Bool
 | .litW .. | .boxW .. | .alc .. | .mks .. | .mkm | .callQ ..=>true
 | _=>false
def kpz (z : Nat) : Ins→Bool
 | .app s ..=>s != z
 | .callZ y ..=>y != z
 | i=>keeps i
def zOf : Ins→Option Nat
 | .ldZ z ..=>some z
 | _=>none
def kp (i i' : Ins) : Bool:=keeps i' || (match zOf i with | some z=>kpz z i' | none=>false)
def rdX : X→List Nat
 | .t n=>[n]
 | .c _=>[]
def rdXs : List X→List Nat
 | []=>[]
 | x::r=>rdX x++rdXs r
def rdPs : List (Nat × Nat × X)→List Nat
 | []=>[]
 | (_,_,x)::r=>rdX x++rdPs r
def rdO : Option X→List Nat
 | some x=>rdX x
 | none=>[]
def rds : Ins→List Nat
 | .mv a | .nq _ a | .nt a | .conv _ a | .len a | .lenS a | .lenM a | .fld _ _ a | .ldP _ a | .nck a | .prt _ _ a | .ext a _ | .mki _ a | .boxP _ a | .b2s a | .ld _ a | .ldZ _ _ a | .boxW _ a | .nls _ a | .tas _ a | .clr _ a=>rdX a
 | .slc _ a lo hi | .slb _ a lo hi=>rdX a++(rdO lo++rdO hi)
 | .pick a b c=>rdX a++(rdX b++rdX c)
 | .ar _ _ a b | .bq _ a b | .aq _ _ a b | .idx _ a b | .mx _ a b | .st _ a b | .app _ _ a b | .cpy a b | .mks _ _ a b | .lkm _ _ _ a b=>rdX a++rdX b
 | .bld _ ps=>rdPs ps
 | .mkf _ l | .litP _ l | .litW _ l=>rdXs l
 | .callP f l | .call f l | .callQ f l | .callZ _ f l=>rdX f++rdXs l
 | .upd _ a b c | .sl3 _ a b c=>rdX a++(rdX b++rdX c)
 | .inv a _ l=>rdX a++rdXs l
 | .alc _ | .mkm | .emp=>[]
def looks (s : SOp) : List Nat:=(match s.g with | some (t,_)=>[t] | none=>[])++rds s.i
section
variable {P : Program} {B : Nat} {σ σ' : Env} {H : Heap} {K : Kont}
theorem val_congr {x : X} (h : ∀ t,t∈rdX x→σ.get t=σ'.get t) : val σ x=val σ' x:=by
 cases x with
 | t n=>exact h n (by simp [rdX])
 | c v=>rfl
theorem vals_congr : ∀ {l : List X},(∀ t,t∈rdXs l→σ.get t=σ'.get t)→vals σ l=vals σ' l
 | [],_=>rfl
 | x::r,h=>by
  simp only [vals];rw [val_congr fun t ht=>h t (by simp [rdXs,ht]),vals_congr fun t ht=>h t (by simp [rdXs,ht])]
theorem bld_congr : ∀ {l : List (Nat × Nat × X)} {cs : List AV},(∀ t,t∈rdPs l→σ.get t=σ'.get t)→bldL σ l cs=bldL σ' l cs
 | [],_,_=>rfl
 | (o,n,x)::r,cs,h=>by
  simp only [bldL];rw [val_congr fun t ht=>h t (by simp [rdPs,ht])]
  have : bldL σ r=bldL σ' r:=funext fun cs=>bld_congr fun t ht=>h t (by simp [rdPs,ht]);rw [this]
theorem opW_congr {i : Ins} (h : ∀ t,t∈rds i→σ.get t=σ'.get t) : opW P B K σ H i=opW P B K σ' H i:=by
 cases i <;> simp only [opW,evP]
 case mv a=>rw [val_congr h]
 case pick a b c =>
  rw [val_congr fun t ht=>h t (by simp [rds,ht]),val_congr (x:=b) fun t ht=>h t (by simp [rds,ht]),val_congr (x:=c) fun t ht=>h t (by simp [rds,ht])]
 case ar o k a b=>rw [val_congr fun t ht=>h t (by simp [rds,ht]),val_congr (x:=b) fun t ht=>h t (by simp [rds,ht])]
 case bq o a b=>rw [val_congr fun t ht=>h t (by simp [rds,ht]),val_congr (x:=b) fun t ht=>h t (by simp [rds,ht])]
 case nq o a=>rw [val_congr h]
 case aq o n a b=>rw [val_congr fun t ht=>h t (by simp [rds,ht]),val_congr (x:=b) fun t ht=>h t (by simp [rds,ht])]
 case nt a=>rw [val_congr h]
 case conv k a=>rw [val_congr h]
 case len a=>rw [val_congr h]
 case lenS a=>rw [val_congr h]
 case lenM a=>rw [val_congr h]
 case idx n a b=>rw [val_congr fun t ht=>h t (by simp [rds,ht]),val_congr (x:=b) fun t ht=>h t (by simp [rds,ht])]
 case fld o n a=>rw [val_congr h]
 case ldP n a=>rw [val_congr h]
 case nck a=>rw [val_congr h]
 case bld z ps=>rw [bld_congr h]
 case prt o n a=>rw [val_congr h]
 case ext a n=>rw [val_congr h]
 case slc n a lo hi =>
  have ho : ∀ (o : Option X),(∀ t,t∈rdO o→σ.get t=σ'.get t)→o.map (val σ)=o.map (val σ'):=fun o q=>by
   cases o with
   | none=>rfl
   | some x=>exact congrArg some (val_congr q)
  rw [val_congr (x:=a) fun t ht=>h t (by simp [rds,ht]),ho lo fun t ht=>h t (by simp [rds,ht]),ho hi fun t ht=>h t (by simp [rds,ht])]
 case slb n a lo hi =>
  have ho : ∀ (o : Option X),(∀ t,t∈rdO o→σ.get t=σ'.get t)→o.map (val σ)=o.map (val σ'):=fun o q=>by
   cases o with
   | none=>rfl
   | some x=>exact congrArg some (val_congr q)
  rw [val_congr (x:=a) fun t ht=>h t (by simp [rds,ht]),ho lo fun t ht=>h t (by simp [rds,ht]),ho hi fun t ht=>h t (by simp [rds,ht])]
 case clr z a=>rw [val_congr h]
 case sl3 s a b c=>rw [val_congr fun t ht=>h t (by simp [rds,ht]),val_congr (x:=b) fun t ht=>h t (by simp [rds,ht]),val_congr (x:=c) fun t ht=>h t (by simp [rds,ht])]
 case cpy x y=>rw [val_congr fun t ht=>h t (by simp [rds,ht]),val_congr (x:=y) fun t ht=>h t (by simp [rds,ht])]
 case mkf f l=>rw [vals_congr h]
 case mki t a=>rw [val_congr h]
 case litP n l=>rw [vals_congr h]
 case boxP n a=>rw [val_congr h]
 case callP f l=>rw [val_congr fun t ht=>h t (by simp [rds,ht]),vals_congr fun t ht=>h t (by simp [rds,ht])]
 case mx o a b=>rw [val_congr fun t ht=>h t (by simp [rds,ht]),val_congr (x:=b) fun t ht=>h t (by simp [rds,ht])]
 case b2s a=>rw [val_congr h]
 case ld n a=>rw [val_congr h]
 case ldZ z n a=>rw [val_congr h]
 case st n a b=>rw [val_congr fun t ht=>h t (by simp [rds,ht]),val_congr (x:=b) fun t ht=>h t (by simp [rds,ht])]
 case litW n l=>rw [vals_congr h]
 case boxW n a=>rw [val_congr h]
 case app s b x y=>rw [val_congr fun t ht=>h t (by simp [rds,ht]),val_congr (x:=y) fun t ht=>h t (by simp [rds,ht])]
 case mks s z x y=>rw [val_congr fun t ht=>h t (by simp [rds,ht]),val_congr (x:=y) fun t ht=>h t (by simp [rds,ht])]
 case lkm s o z x y=>rw [val_congr fun t ht=>h t (by simp [rds,ht]),val_congr (x:=y) fun t ht=>h t (by simp [rds,ht])]
 case upd s a b c =>
  rw [val_congr fun t ht=>h t (by simp [rds,ht]),val_congr (x:=b) fun t ht=>h t (by simp [rds,ht]),val_congr (x:=c) fun t ht=>h t (by simp [rds,ht])]
 case call f l=>rw [val_congr fun t ht=>h t (by simp [rds,ht]),vals_congr fun t ht=>h t (by simp [rds,ht])]
 case callQ f l=>rw [val_congr fun t ht=>h t (by simp [rds,ht]),vals_congr fun t ht=>h t (by simp [rds,ht])]
 case callZ z f l=>rw [val_congr fun t ht=>h t (by simp [rds,ht]),vals_congr fun t ht=>h t (by simp [rds,ht])]
 case inv a n l=>rw [val_congr fun t ht=>h t (by simp [rds,ht]),vals_congr fun t ht=>h t (by simp [rds,ht])]
 case nls b a=>rw [val_congr h]
 case tas b a=>rw [val_congr h]
theorem det {i : Ins} (hc : cls i<2) (h : opW P B K σ H i) : ∃ r,opW P B (fun r' H'=>r'=r∧H'=H) σ H i∧K r H:=by
 have pv : ∀ (e : PV),pW e K H→∃ r,pW e (fun r' H'=>r'=r∧H'=H) H∧K r H:=by
  intro e he
  obtain ⟨p,r,rfl,hp,hk⟩:=pW_some he;exact ⟨r,⟨hp,rfl,rfl⟩,hk⟩
 cases i <;> simp only [cls] at hc <;> try omega
 case ld n x =>
  simp only [opW] at h ⊢
  cases hv : val σ x with
  | none=>rw [hv] at h; unfold ldW at h ⊢; exact pv _ h
  | some v =>
   rw [hv] at h
   cases v <;> try (unfold ldW at h ⊢; exact pv _ h)
   rename_i id off
   simp only [ldW] at h ⊢
   cases ho : H.get id with
   | none=>rw [ho] at h; cases n <;> exact h.elim
   | some o =>
    rw [ho] at h
    cases o with
    | map _ _=>cases n <;> exact h.elim
    | cells sz cs f=>cases n <;> exact ⟨_,⟨h.1,rfl,rfl⟩,h.2⟩
 case ldZ z n x =>
  simp only [opW] at h ⊢
  cases hv : val σ x with
  | none=>rw [hv] at h; exact h.elim
  | some v =>
   rw [hv] at h
   cases v <;> try exact h.elim
   rename_i id off
   simp only [ldZW] at h ⊢
   obtain ⟨⟨cs,f,ho⟩,h⟩:=h;rw [ho] at h ⊢
   cases n <;> exact ⟨_,⟨⟨cs,f,rfl⟩,h.1,rfl,rfl⟩,h.2⟩
 case lkm s ok z m k =>
  simp only [opW] at h ⊢
  cases hm : val σ m with
  | none=>rw [hm] at h; exact h.elim
  | some mv =>
   cases hk : val σ k with
   | none=>rw [hm,hk] at h; cases mv <;> exact h.elim
   | some kv =>
    rw [hm,hk] at h
    cases mv <;> try exact h.elim
    ·exact ⟨_,⟨h.1,rfl,rfl⟩,h.2⟩
    ·rename_i id
     simp only [lkW] at h ⊢
     cases ho : H.get id with
     | none=>rw [ho] at h; exact h.elim
     | some o =>
      rw [ho] at h
      cases o with
      | cells _ _ _=>exact h.elim
      | map _ _=>exact ⟨_,⟨h.1,rfl,rfl⟩,h.2⟩
 case lenM x =>
  simp only [opW] at h ⊢
  cases hm : val σ x with
  | none=>rw [hm] at h; exact h.elim
  | some mv =>
   rw [hm] at h
   cases mv <;> try exact h.elim
   rename_i id
   simp only [lmW] at h ⊢
   cases ho : H.get id with
   | none=>rw [ho] at h; exact h.elim
   | some o =>
    rw [ho] at h
    cases o with
    | cells _ _ _=>exact h.elim
    | map _ _=>exact ⟨_,⟨rfl,rfl⟩,h⟩
 case slb z x lo hi =>
  simp only [opW] at h ⊢
  cases hm : val σ x with
  | none=>rw [hm] at h; exact h.elim
  | some mv =>
   rw [hm] at h
   cases mv <;> try exact h.elim
   rename_i id n
   simp only [slbW] at h ⊢
   cases ho : H.get id with
   | none=>rw [ho] at h; exact h.elim
   | some o =>
    rw [ho] at h
    cases o with
    | map _ _=>exact h.elim
    | cells _ _ _ =>
     obtain ⟨r,h1,h2⟩:=pv _ h.2;exact ⟨r,⟨h.1,h1⟩,h2⟩
 case callP f l =>
  obtain ⟨r,h1,h2⟩:=h;exact ⟨r,⟨r,h1,rfl,rfl⟩,h2⟩
 case emp=>exact pv (some (True,.emsl)) h
 all_goals exact pv _ h
theorem Heap.sub.subZ {H H' : Heap} (h : H.sub H') (z : Nat) : H.subZ z H':=fun i cs f e=>h i _ e
def Kp (i : Ins) (H H' : Heap) : Prop:=(keeps i=true→H.sub H')∧∀ z,kpz z i=true→H.subZ z H'
theorem keep_all {i : Ins} (h : opW P B K σ H i) : opW P B (fun r H'=>Kp i H H'∧K r H') σ H i:=by
 by_cases hk : keeps i=true
 ·have hq : ∀ (i : Ins),keeps i=true→opW P B K σ H i→∀ (K' : Kont),(∀ r H',H.sub H'→K r H'→K' r H')→opW P B K' σ H i:=by
   intro i hk h K' hK
   have nb : ∀ n sz cs,newBuf n sz cs K H→newBuf n sz cs K' H:=fun n sz cs h id hn=>hK _ _ (Heap.sub_set _ hn (.refl H)) (h id hn)
   have nr : ∀ sz cs,newRef sz cs K H→newRef sz cs K' H:=fun sz cs h id hn=>hK _ _ (Heap.sub_set _ hn (.refl H)) (h id hn)
   cases i <;> simp only [keeps,Bool.false_eq_true] at hk
   case litW n l =>
    simp only [opW] at h ⊢
    cases hv : vals σ l with
    | none=>rw [hv] at h; exact h.elim
    | some as=>rw [hv] at h; exact ⟨h.1,nb _ _ _ h.2⟩
   case boxW n x =>
    simp only [opW] at h ⊢
    cases hv : val σ x with
    | none=>rw [hv] at h; exact h.elim
    | some a=>rw [hv] at h; exact ⟨h.1,nr _ _ h.2⟩
   case alc z=>exact ⟨h.1,nr _ _ h.2⟩
   case mks s z l c =>
    simp only [opW] at h ⊢
    cases h1 : val σ l with
    | none=>rw [h1] at h; exact h.elim
    | some a =>
     cases h2 : val σ c with
     | none=>rw [h1,h2] at h; cases a <;> exact h.elim
     | some b =>
      rw [h1,h2] at h
      cases a <;> cases b <;> first | exact h.elim | exact ⟨h.1,nb _ _ _ h.2⟩
   case mkm=>exact fun id hn=>hK _ _ (Heap.sub_set _ hn (.refl H)) (h id hn)
   case callQ f l =>
    simp only [opW] at h ⊢
    generalize val σ f=a at h ⊢
    generalize vals σ l=b at h ⊢
    rcases a with _ | a
    ·exact h.elim
    ·cases a <;> try exact h.elim
     rename_i fn ca
     cases fn <;> try exact h.elim
     rcases b with _ | b
     ·exact h.elim
     ·exact CallH.mono (show CallH P B _ (b++ca) H _ from h) fun r H' q=>⟨q.1,hK r H' q.1 q.2⟩
  exact hq i hk h _ fun r H' hs hk'=>⟨⟨fun _=>hs,fun z _=>hs.subZ z⟩,hk'⟩
 ·have triv : (∀ z,kpz z i=false)→∀ H',Kp i H H':=fun hz H'=>⟨fun e=>absurd e hk,fun z e=>by rw [hz z] at e; cases e⟩
  have gen : (∀ z,kpz z i=false)→opW P B (fun r H'=>Kp i H H'∧K r H') σ H i:=fun hz=>by
   have : (fun r H'=>Kp i H H'∧K r H')=K:=funext fun r=>funext fun H'=>propext ⟨fun q=>q.2,fun q=>⟨triv hz H',q⟩⟩;rw [this]; exact h
  have other : (∀ z,kpz z i=keeps i)→opW P B (fun r H'=>Kp i H H'∧K r H') σ H i:=fun e=>gen fun z=>by rw [e z]; simpa using hk
  cases i <;> try exact other fun z=>rfl
  case app s b x y =>
   simp only [opW] at h ⊢
   have hnew : ∀ {id : Nat} {o : MObj},H.get id=none→Kp (.app s b x y) H (H.set id o):=fun hn=>⟨fun e=>by simp [keeps] at e,fun z _=>(Heap.sub_set _ hn (.refl H)).subZ z⟩
   generalize val σ x=va at h ⊢
   generalize val σ y=xv at h ⊢
   rcases va with _ | va
   ·exact h.elim
   cases va <;> try exact h.elim
   case nilsl =>
    simp only [appW] at h ⊢
    cases hsrc : srcOf s xv H with
    | none=>rw [hsrc] at h; exact h.elim
    | some q =>
     obtain ⟨p,m,new⟩:=q;rw [hsrc] at h;exact ⟨h.1,fun id hn=>⟨hnew hn,h.2 id hn⟩⟩
   case emsl =>
    simp only [appW] at h ⊢
    cases hsrc : srcOf s xv H with
    | none=>rw [hsrc] at h; exact h.elim
    | some q =>
     obtain ⟨p,m,new⟩:=q;rw [hsrc] at h;exact ⟨h.1,fun id hn=>⟨hnew hn,h.2 id hn⟩⟩
   case buf id n =>
    simp only [appW] at h ⊢
    cases hg : H.get id with
    | none=>rw [hg] at h; simp [app2] at h
    | some o =>
     cases o with
     | map ks vs=>rw [hg] at h; simp [app2] at h
     | cells sz' cs f =>
      rw [hg] at h
      cases hsrc : srcOf s xv H with
      | none=>rw [hsrc] at h; simp [app2] at h
      | some q =>
       obtain ⟨p,m,new⟩:=q;rw [hsrc] at h;simp only [app2] at h ⊢;refine ⟨h.1,fun id' hn=>⟨⟨fun e=>by simp [keeps] at e,fun z hz j cs' f' e=>?_⟩,h.2 id' hn⟩⟩
       have hsz:=h.1.1;simp only [kpz,bne_iff_ne,ne_eq] at hz
       have h1 : j≠id:=by
        rintro rfl; rw [hg] at e; cases e; exact hz hsz.symm
       have h2 : j≠id':=by
        rintro rfl; rw [hn] at e; cases e
       rw [Heap.get_set_ne _ _ h2,Heap.get_del_ne _ h1]; exact e
   case tbuf id n =>
    simp only [appW] at h ⊢
    cases hg : H.get id with
    | none=>rw [hg] at h; simp [app3] at h
    | some o =>
     cases o with
     | map ks vs=>rw [hg] at h; simp [app3] at h
     | cells sz' cs f =>
      rw [hg] at h
      cases hsrc : srcOf s xv H with
      | none=>rw [hsrc] at h; simp [app3] at h
      | some q =>
       obtain ⟨p,m,new⟩:=q;rw [hsrc] at h;simp only [app3] at h ⊢;exact ⟨h.1,fun id' hn=>⟨hnew hn,h.2 id' hn⟩⟩
  case callZ y f l =>
   simp only [opW] at h ⊢
   generalize val σ f=a at h ⊢
   generalize vals σ l=b at h ⊢
   rcases a with _ | a
   ·exact h.elim
   ·cases a <;> try exact h.elim
    rename_i fn ca
    cases fn <;> try exact h.elim
    rcases b with _ | b
    ·exact h.elim
    ·exact CallH.mono (show CallH P B _ (b++ca) H _ from h) fun r H' q=>⟨q.1,⟨fun e=>by simp [keeps] at e,fun z hz=>q.1 z (by simp only [kpz,bne_iff_ne,ne_eq] at hz; exact fun e=>hz e.symm)⟩,q.2⟩
theorem noHeap {i : Ins} (hc : cls i=0) {r : AV} {H H' : Heap} (h : opW P B (fun r' H''=>r'=r∧H''=H) σ H i) : opW P B (fun r' H''=>r'=r∧H''=H') σ H' i:=by
 have pv : ∀ (e : PV),pW e (fun r' H''=>r'=r∧H''=H) H→pW e (fun r' H''=>r'=r∧H''=H') H':=by
  intro e he
  obtain ⟨p,r',rfl,hp,hk,-⟩:=pW_some he;exact ⟨hp,hk,rfl⟩
 cases i <;> simp only [cls] at hc <;> try omega
 case callP f l =>
  obtain ⟨r',h1,h2,-⟩:=h;exact ⟨r',h1,h2,rfl⟩
 case emp=>exact pv (some (True,.emsl)) h
 all_goals exact pv _ h
theorem readKeep {i : Ins} (hc : cls i<2) {r : AV} {H H' : Heap} (hs : H.sub H') (h : opW P B (fun r' H''=>r'=r∧H''=H) σ H i) : opW P B (fun r' H''=>r'=r∧H''=H') σ H' i:=by
 by_cases h0 : cls i=0
 ·exact noHeap h0 h
 ·have pv : ∀ (e : PV),pW e (fun r' H''=>r'=r∧H''=H) H→pW e (fun r' H''=>r'=r∧H''=H') H':=by
   intro e he
   obtain ⟨p,r',rfl,hp,hk,-⟩:=pW_some he;exact ⟨hp,hk,rfl⟩
  cases i <;> simp only [cls] at hc h0 <;> try (first | omega | exact absurd trivial h0)
  case ld n x =>
   simp only [opW] at h ⊢
   cases hv : val σ x with
   | none=>rw [hv] at h; unfold ldW at h ⊢; exact pv _ h
   | some v =>
    rw [hv] at h
    cases v <;> try (unfold ldW at h ⊢; exact pv _ h)
    rename_i id off
    simp only [ldW] at h ⊢
    cases ho : H.get id with
    | none=>rw [ho] at h; cases n <;> exact h.elim
    | some o =>
     rw [ho] at h;rw [hs _ _ ho]
     cases o with
     | map _ _=>cases n <;> exact h.elim
     | cells sz cs f=>cases n <;> exact ⟨h.1,h.2.1,rfl⟩
  case ldZ z n x =>
   simp only [opW] at h ⊢
   cases hv : val σ x with
   | none=>rw [hv] at h; exact h.elim
   | some v =>
    rw [hv] at h
    cases v <;> try exact h.elim
    rename_i id off
    simp only [ldZW] at h ⊢
    obtain ⟨⟨cs,f,ho⟩,h⟩:=h;rw [ho] at h;rw [hs _ _ ho]
    cases n <;> exact ⟨⟨cs,f,rfl⟩,h.1,h.2.1,rfl⟩
  case lkm s ok z m k =>
   simp only [opW] at h ⊢
   cases hm : val σ m with
   | none=>rw [hm] at h; exact h.elim
   | some mv =>
    cases hk : val σ k with
    | none=>rw [hm,hk] at h; cases mv <;> exact h.elim
    | some kv =>
     rw [hm,hk] at h
     cases mv <;> try exact h.elim
     ·exact ⟨h.1,h.2.1,rfl⟩
     ·rename_i id
      simp only [lkW] at h ⊢
      cases ho : H.get id with
      | none=>rw [ho] at h; exact h.elim
      | some o =>
       rw [ho] at h;rw [hs _ _ ho]
       cases o with
       | cells _ _ _=>exact h.elim
       | map _ _=>exact ⟨h.1,h.2.1,rfl⟩
  case slb z x lo hi =>
   simp only [opW] at h ⊢
   cases hm : val σ x with
   | none=>rw [hm] at h; exact h.elim
   | some mv =>
    rw [hm] at h
    cases mv <;> try exact h.elim
    rename_i id n
    simp only [slbW] at h ⊢
    cases ho : H.get id with
    | none=>rw [ho] at h; exact h.elim
    | some o =>
     rw [ho] at h;rw [hs _ _ ho]
     cases o with
     | map _ _=>exact h.elim
     | cells _ _ _=>exact ⟨h.1,pv _ h.2⟩
  case lenM x =>
   simp only [opW] at h ⊢
   cases hm : val σ x with
   | none=>rw [hm] at h; exact h.elim
   | some mv =>
    rw [hm] at h
    cases mv <;> try exact h.elim
    rename_i id
    simp only [lmW] at h ⊢
    cases ho : H.get id with
    | none=>rw [ho] at h; exact h.elim
    | some o =>
     rw [ho] at h;rw [hs _ _ ho]
     cases o with
     | cells _ _ _=>exact h.elim
     | map _ _=>exact ⟨h.1,rfl⟩
theorem readZ {i : Ins} {z : Nat} (hz : zOf i=some z) {r : AV} {H H' : Heap} (hs : H.subZ z H') (h : opW P B (fun r' H''=>r'=r∧H''=H) σ H i) : opW P B (fun r' H''=>r'=r∧H''=H') σ H' i:=by
 cases i <;> simp only [zOf,reduceCtorEq] at hz
 rename_i z' n x
 cases hz;simp only [opW] at h ⊢
 cases hv : val σ x with
 | none=>rw [hv] at h; exact h.elim
 | some v =>
  rw [hv] at h
  cases v <;> try exact h.elim
  rename_i id off
  simp only [ldZW] at h ⊢
  obtain ⟨⟨cs,f,ho⟩,h⟩:=h;rw [ho] at h;rw [hs _ _ _ ho]
  cases n <;> exact ⟨⟨cs,f,rfl⟩,h.1,h.2.1,rfl⟩
theorem readKp {i i' : Ins} (hc : cls i<2) (hk : kp i i'=true) {r : AV} {H H' : Heap} (hs : Kp i' H H') (h : opW P B (fun r' H''=>r'=r∧H''=H) σ H i) : opW P B (fun r' H''=>r'=r∧H''=H') σ H' i:=by
 simp only [kp,Bool.or_eq_true] at hk
 rcases hk with hk | hk
 ·exact readKeep hc (hs.1 hk) h
 ·cases hz : zOf i with
  | none=>rw [hz] at hk; cases hk
  | some z=>rw [hz] at hk; exact readZ hz (hs.2 z hk) h
end
def edges (ops : Array Oper) (i : Nat) : List Nat :=
 match ops[i]? with
 | some o=>(o.after.toList.filter (Region.binds .any ·)).map (·.on)
 | none=>[]
def clos (ops : Array Oper) : Nat→Nat→List (List Nat)→List (List Nat)
 | 0,_,acc=>acc
 | n+1,i,acc=>clos ops n (i+1) (acc++[((edges ops i).flatMap fun j=>j::acc.getD j []).eraseDups])
def topoC (ops : Array Oper) : List Nat→List Nat→Bool
 | _,[]=>true
 | done,i::r=>(edges ops i).all (done.contains ·) && topoC ops (i::done) r
def dOf (s : SOp) : List Nat:=match s.d with | some d=>[d] | none=>[]
def need (s s' : SOp) : Bool :=
 cls s.i == 2 || (cls s.i == 1 && (cls s'.i == 2 && !kp s.i s'.i)) || (dOf s).any ((looks s').contains ·) || (dOf s').any ((looks s).contains ·)
end Go.AW
namespace Go.AW
open Go.RowKit
def Lst (D : Array Bool) (i : Nat) : Prop:=D.getD i true=true
def Down (ops : Array Oper) (D : Array Bool) : Prop:=∀ i,i<ops.size→Lst D i→∀ j,j∈edges ops i→Lst D j
theorem ready_iff {ops : Array Oper} {D : Array Bool} (hs : D.size=ops.size) {i : Nat} : i∈Region.ready .any ops D↔i<ops.size∧¬ Lst D i∧∀ j,j∈edges ops i→D.getD j false=true:=by
 simp only [Region.ready,List.mem_filter,List.mem_range,Bool.and_eq_true,Bool.not_eq_true',Lst]
 constructor
 ·rintro ⟨h1,h2,h3⟩;refine ⟨h1,by simp [h2],fun j hj=>?_⟩;unfold edges at hj
  cases ho : ops[i]? with
  | none=>simp [ho] at hj
  | some o =>
   simp only [ho,List.mem_map,List.mem_filter] at hj
   obtain ⟨e,⟨he1,he2⟩,rfl⟩:=hj;simp only [ho,Option.map_some,Option.getD_some,Array.all_eq_true_iff_forall_mem] at h3
   have:=h3 e (by simpa using he1);rw [he2] at this
   simpa using this
 ·rintro ⟨h1,h2,h3⟩;refine ⟨h1,by simpa using h2, ?_⟩
  have ho : ops[i]? = some ops[i]:=by simp [h1]
  simp only [ho,Option.map_some,Option.getD_some,Array.all_eq_true_iff_forall_mem]
  intro e he
  cases hb : Region.binds .any e with
  | false=>simp
  | true =>
   have:=h3 e.on (by
    unfold edges;rw [ho];simp only [List.mem_map,List.mem_filter];exact ⟨e,⟨by simpa using he,hb⟩,rfl⟩)
   simpa using this
theorem clos_sound {ops : Array Oper} {D : Array Bool} (hd : Down ops D) : ∀ (n i : Nat) (acc : List (List Nat)),acc.length=i →
  (∀ k,k<i→∀ j,j∈acc.getD k []→(∀ e,e∈edges ops k→Lst D e)→Lst D j) →
  i+n≤ops.size→∀ k,k<i+n→∀ j,j∈(clos ops n i acc).getD k []→(∀ e,e∈edges ops k→Lst D e)→Lst D j
 | 0,i,acc,hl,hacc,_,k,hk,j,hj,he=>hacc k (by omega) j hj he
 | n+1,i,acc,hl,hacc,hn,k,hk,j,hj,he=>by
  refine clos_sound hd n (i+1) _ (by simp [hl]) ?_ (by omega) k (by omega) j hj he
  intro k' hk' j' hj' he';rw [List.getD_eq_getElem?_getD] at hj'
  by_cases hki : k'=i
  ·subst hki;rw [List.getElem?_append_right (by omega)] at hj';simp only [hl,Nat.sub_self,List.getElem?_cons_zero,Option.getD_some,List.mem_eraseDups,List.mem_flatMap,List.mem_cons] at hj'
   obtain ⟨e,h1,h2⟩:=hj'
   have hle:=he' e h1
   rcases h2 with rfl | h2
   ·exact hle
   ·have hlt : e<k':=by
     rcases Nat.lt_or_ge e k' with h | h
     ·exact h
     ·rw [List.getD_eq_getElem?_getD,List.getElem?_eq_none (by omega)] at h2
      simp at h2
    exact hacc e hlt j' h2 fun e' he2=>hd e (by omega) hle e' he2
  ·rw [List.getElem?_append_left (by omega),← List.getD_eq_getElem?_getD] at hj';exact hacc k' (by omega) j' hj' he'
section
variable {P : Program} {B N : Nat} {ops : Array Oper} {hs : List Nat}
def Of (P : Program) (N : Nat) (ops : Array Oper) (hs : List Nat) (i : Nat) (s : SOp) : Prop:=∃ o,ops[i]? = some o∧compileO P N ops (hs.getD i 0) o=some s
theorem Of.dst {i : Nat} {s : SOp} (h : Of P N ops hs i s) : ∃ o,ops[i]? = some o∧o.dst=s.d∧compileOp P (hs.getD i 0) o.op=some s.i∧compileG ops o.guard=some s.g∧dstOk N s.i s.d=true:=by
 obtain ⟨o,ho,hc⟩:=h;unfold compileO at hc
 cases hop : compileOp P (hs.getD i 0) o.op with
 | none=>simp only [hop,reduceCtorEq] at hc
 | some ins =>
  cases hg : compileG ops o.guard with
  | none=>simp only [hop,hg,reduceCtorEq] at hc
  | some gd =>
   simp only [hop,hg] at hc
   split at hc
   ·rename_i hd; cases hc; exact ⟨o,ho,rfl,hop,hg,hd⟩
   ·cases hc
theorem step_sound {i : Nat} {s : SOp} (hof : Of P N ops hs i s) {σ : Env} {H : Heap} {g : Gh} {w : World} {a : Act} {Q : Exit→Act→World→Prop} {next : Act→World→Prop} {K : Kont}
  (hW : WRel g B H w) (hE : ERel g (Env.keep (looks s) σ) a.tmps)
  (hk : match s.g with | none=>opW P B K σ H s.i | some (t,b)=>∃ q,σ.get t=some q∧(q=.bool b∨offG b q)∧(q=.bool b→opW P B K σ H s.i))
  (hrun : ∀ v w',FinV g B w K v w'→(match s.g with | none=>True | some (t,b)=>σ.get t=some (.bool b))→next (a.put s.d v) w')
  (hskip : ∀ t b,s.g=some (t,b)→(∃ q,σ.get t=some q∧offG b q)→next (a.put s.d undef) w) : wpOp P ops Q i next a w:=by
 obtain ⟨o,ho,hd,hop,hg,hdk⟩:=hof.dst;unfold wpOp;simp only [ho]
 have hlook : ∀ t,t∈looks s→(Env.keep (looks s) σ).get t=σ.get t:=by
  intro t ht
  generalize looks s=l at ht
  induction l with
  | nil=>simp at ht
  | cons x r ih =>
   simp only [Env.keep,Env.get]
   split
   ·rename_i e; rw [e]
   ·rename_i e
    rcases List.mem_cons.1 ht with h | h
    ·exact absurd h e
    ·exact ih h
 have hcong : ∀ K',opW P B K' σ H s.i=opW P B K' (Env.keep (looks s) σ) H s.i:=fun K'=>opW_congr fun t ht=>(hlook t (by unfold looks; exact List.mem_append_right _ ht)).symm
 have hdo : opW P B K σ H s.i→(match s.g with | none=>True | some (t,b)=>σ.get t=some (.bool b))→o.wp P a w next Q:=by
  intro hkk hgg;rw [hcong] at hkk
  have hf:=op_sound (a:=a) hop hW hE hkk;refine upon_fits hf fun v w' hfv=>?_;rw [hd];exact hrun v w' hfv hgg
 cases hgu : o.guard with
 | none =>
  rw [hgu] at hg
  simp [compileG] at hg;rw [← hg] at hk hdo;simp only [Region.wanted,hgu,if_true];exact .inl (hdo hk trivial)
 | some jb =>
  obtain ⟨j,b⟩:=jb;rw [hgu] at hg;simp only [compileG] at hg
  cases hj : (ops[j]?).bind (·.dst) with
  | none=>simp [hj] at hg
  | some t =>
   simp only [hj,Option.some.injEq] at hg;rw [← hg] at hk hdo
   obtain ⟨q,hq1,hq0,hq2⟩:=hk
   have ht : t∈looks s:=by unfold looks; rw [← hg]; simp
   obtain ⟨hlt,hrel⟩:=hE t q (by rw [hlook t ht]; exact hq1)
   have hget : a.tmps[t]? = some (a.tmps.getD t undef):=getD_some hlt;simp only [Region.wanted,hgu]
   rcases hq0 with rfl | hoff
   ·have hy : yielded ops a.tmps j=some b:=by
     unfold yielded;rw [hj]
     generalize a.tmps.getD t undef=u at hrel hget
     cases hrel
     simp [hget]
    rw [hy];simp only [beq_self_eq_true,if_true];exact .inl (hdo (hq2 rfl) hq1)
   ·have hy : (yielded ops a.tmps j == some b)=false:=by
     unfold yielded;rw [hj]
     generalize a.tmps.getD t undef=u at hrel hget
     rcases hoff with rfl | ⟨cs,rfl⟩ <;> cases hrel <;> simp [hget]
    rw [hy];simp only [Bool.false_eq_true,if_false];rw [hd];exact hskip t b hg.symm ⟨q,hq1,hoff⟩
end
end Go.AW
namespace Go.AW
open Go.RowKit
structure Plan (P : Program) (N : Nat) (ops : Array Oper) (hs : List Nat) (n : Nat) (p : Nat→Nat) (s : Nat→SOp) (ex : Nat→Bool) : Prop where
 size : ops.size=n
 lt : ∀ u,u<n→p u<n
 inj : ∀ u u',u<n→u'<n→p u=p u'→u=u'
 sur : ∀ i,i<n→∃ u,u<n∧p u=i
 of : ∀ u,u<n→Of P N ops hs (p u) (s u)
 topo : ∀ u,u<n→∀ j,j∈edges ops (p u)→∃ u',u'<u∧p u'=j
 dist : ∀ u u',u<u'→u'<n→∀ d,(s u).d=some d→(s u').d≠some d
 kc : ∀ u,u<n→ex u=true→cls (s u).i=2
 need : ∀ u u',u<u'→u'<n→ex u=false→need (s u) (s u')=true→∀ D,Down ops D→(∀ e,e∈edges ops (p u')→Lst D e)→Lst D (p u)
section
variable {P : Program} {B N : Nat} {ops : Array Oper} {hs : List Nat} {n : Nat} {p : Nat→Nat} {s : Nat→SOp} {ex : Nat→Bool} {kx : Nat} {F : Env→Heap→Prop} {σ0 : Env}
def StepR (P : Program) (B : Nat) (s : SOp) (σu σ : Env) (H : Heap) (r : AV) : Prop:=opW P B (fun r' H'=>r'=r∧H'=H) σu H s.i∧∀ d,s.d=some d→σ.get d=some r
def Pend (P : Program) (B : Nat) (s : Nat→SOp) (σ0 : Env) (u : Nat) (σ : Env) (H : Heap) : Prop :=
 ∃ σu : Env,(∀ t,t∈looks (s u)→(∀ u',u'<u→(s u').d=some t→σu.get t=σ.get t)∧((∀ u',u'<u→(s u').d≠some t)→σu.get t=σ0.get t)) ∧
  match (s u).g with
  | none=>∃ r,StepR P B (s u) σu σ H r
  | some (t,b)=>(σu.get t=some (.bool b)∧∃ r,StepR P B (s u) σu σ H r)∨((∃ q,σu.get t=some q∧offG b q)∧∀ d,(s u).d=some d→σ.get d=some nv)
structure Inv (P : Program) (B N : Nat) (ops : Array Oper) (n : Nat) (p : Nat→Nat) (s : Nat→SOp) (ss : List SOp) (F : Env→Heap→Prop) (σ0 : Env)
  (D : Array Bool) (v : Nat) (σ : Env) (g : Gh) (H : Heap) (w : World) (a : Act) : Prop where
 dsz : D.size=ops.size
 down : Down ops D
 vle : v≤n
 pre : ∀ u,u<n→Lst D (p u)→u<v
 wr : ∀ u,u<v→cls (s u).i=2→Lst D (p u)
 old : ∀ t x,σ0.get t=some x→(∀ u,u<n→(s u).d=some t→¬ Lst D (p u))→t<a.tmps.size∧VRel g x (a.tmps.getD t undef)
 new : ∀ u,u<v→Lst D (p u)→∀ t,(s u).d=some t→∀ x,σ.get t=some x→t<a.tmps.size∧VRel g x (a.tmps.getD t undef)
 pend : ∀ u,u<v→¬ Lst D (p u)→Pend P B s σ0 u σ H
 same : ∀ t,(∀ u,u<v→(s u).d≠some t)→σ.get t=σ0.get t
 go : opsW P B (ss.drop v) F σ H
 rel : WRel g B H w
 size : a.tmps.size=N
theorem drop_some {ss : List SOp} {u : Nat} {x : SOp} (h : ss[u]? = some x) : ss.drop u=x::ss.drop (u+1):=by
 obtain ⟨hu,rfl⟩:=List.getElem?_eq_some_iff.mp h;exact List.drop_eq_getElem_cons hu
def stepEnv (d : Option Nat) (σ : Env) (r : Option AV) : Env :=
 match d with
 | some d=>(d,r)::σ
 | none=>σ
theorem stepEnv_ne {d : Option Nat} {σ : Env} {r : Option AV} {t : Nat} (h : d≠some t) : (stepEnv d σ r).get t=σ.get t:=by
 cases d with
 | none=>rfl
 | some d =>
  have : t≠d:=by rintro rfl; exact h rfl
  simp [stepEnv,Env.get,this]
theorem stepEnv_eq {d : Nat} {σ : Env} {r : Option AV} : (stepEnv (some d) σ r).get d=r:=by simp [stepEnv,Env.get]
theorem opsW_cons {so : SOp} {rest : List SOp} {σ : Env} {H : Heap} (h : opsW P B (so::rest) F σ H) :
  match so.g with
  | none=>opW P B (putK so.d (opsW P B rest F) σ) σ H so.i
  | some (t,b)=>∃ q,σ.get t=some q∧(q=.bool b∨offG b q)∧(q=.bool b→opW P B (putK so.d (opsW P B rest F) σ) σ H so.i)∧(offG b q→opsW P B rest F (forgetD so.d σ) H):=by
 obtain ⟨d,gd,i⟩:=so
 cases gd with
 | none=>exact h
 | some tb =>
  obtain ⟨t,b⟩:=tb;simp only [opsW] at h;unfold gdW at h
  split at h
  ·rename_i c hc
   refine ⟨_,hc, ?_,fun e=>h.1 (by cases e; rfl),fun e=>h.2 (by rcases e with e | ⟨cs,e⟩ <;> cases e; rfl)⟩
   by_cases e : c=b
   ·exact .inl (by rw [e])
   ·exact .inr (.inl (by cases c <;> cases b <;> simp_all))
  ·rename_i cs hc
   exact ⟨_,hc,.inr (.inr ⟨cs,rfl⟩),fun e=>(by cases e),fun _=>h⟩
  ·exact h.elim
theorem putK_step {d : Option Nat} {σ : Env} {r : AV} {H : Heap} {G : Env→Heap→Prop} (h : putK d G σ r H) : G (stepEnv d σ (some r)) H:=by
 cases d <;> exact h
theorem forgetD_step (d : Option Nat) (σ : Env) : forgetD d σ=stepEnv d σ (some nv):=by cases d <;> rfl
theorem nv_rel (g : Gh) : VRel g nv undef:=.tup [] #[] rfl (fun i hi=>by simp at hi)
theorem advance {ss : List SOp} (pl : Plan P N ops hs n p s ex) (lim : Nat) (hlim : lim≤n) (hle : lim<n→cls (s lim).i=2) (hs' : ∀ u,u<lim→ss[u]? = some (s u)) {D : Array Bool} {g : Gh} {H : Heap} {w : World} {a : Act} :
  ∀ (m v : Nat) (σ : Env),n - v=m→v≤lim→Inv P B N ops n p s ss F σ0 D v σ g H w a→∃ v' σ',Inv P B N ops n p s ss F σ0 D v' σ' g H w a∧v≤v'∧v'≤lim∧(v'<n→cls (s v').i=2)
 | 0,v,σ,hm,hvl,I=>⟨v,σ,I,Nat.le_refl _,hvl,fun h=>by omega⟩
 | m+1,v,σ,hm,hvl,I=>by
  have hv : v<n:=by omega
  by_cases hc : cls (s v).i=2
  ·exact ⟨v,σ,I,Nat.le_refl _,hvl,fun _=>hc⟩
  ·have hc' : cls (s v).i<2:=by
    have : cls (s v).i≤2:=by
     generalize (s v).i=i
     cases i <;> simp [cls]
    omega
   have hvl' : v<lim:=by
    rcases Nat.lt_or_ge v lim with h | h
    ·exact h
    ·have e : v=lim:=by omega
     subst e;exact absurd (hle hv) hc
   have hdrop:=drop_some (hs' v hvl')
   have hgo:=I.go;rw [hdrop] at hgo
   have hcase:=opsW_cons hgo
   have hnv : ¬ Lst D (p v):=fun h=>by have:=I.pre v hv h; omega
   have key : ∃ ro : Option AV,opsW P B (ss.drop (v+1)) F (stepEnv (s v).d σ ro) H ∧
     (match (s v).g with
     | none=>∃ r,ro=some r∧opW P B (fun r' H'=>r'=r∧H'=H) σ H (s v).i
     | some (t,b)=>(σ.get t=some (.bool b)∧∃ r,ro=some r∧opW P B (fun r' H'=>r'=r∧H'=H) σ H (s v).i)∨((∃ q,σ.get t=some q∧offG b q)∧ro=some nv)):=by
    cases hg : (s v).g with
    | none =>
     rw [hg] at hcase
     obtain ⟨r,h1,h2⟩:=det hc' hcase;exact ⟨some r,putK_step h2,r,rfl,h1⟩
    | some tb =>
     obtain ⟨t,b⟩:=tb;rw [hg] at hcase
     obtain ⟨q,e1,e0,e2,e3⟩:=hcase
     rcases e0 with rfl | hoff
     ·obtain ⟨r,h1,h2⟩:=det hc' (e2 rfl);exact ⟨some r,putK_step h2,.inl ⟨e1,r,rfl,h1⟩⟩
     ·exact ⟨some nv,by rw [← forgetD_step]; exact e3 hoff,.inr ⟨⟨q,e1,hoff⟩,rfl⟩⟩
   obtain ⟨ro,k1,k2⟩:=key
   have hne : ∀ u,u<v→∀ t,(s u).d=some t→(stepEnv (s v).d σ ro).get t=σ.get t:=fun u hu t ht=>stepEnv_ne (pl.dist u v hu hv t ht)
   suffices hI : Inv P B N ops n p s ss F σ0 D (v+1) (stepEnv (s v).d σ ro) g H w a by
    obtain ⟨v',σ',I',h1,h2,h3⟩:=advance pl lim hlim hle hs' m (v+1) _ (by omega) (by omega) hI;exact ⟨v',σ',I',by omega,h2,h3⟩
   refine ⟨I.dsz,I.down,hv,fun u hu h=>by have:=I.pre u hu h; omega, ?_,I.old, ?_, ?_, ?_,k1,I.rel,I.size⟩
   ·intro u hu h2
    by_cases e : u=v
    ·subst e; omega
    ·exact I.wr u (by omega) h2
   ·intro u hu hl t ht x hx
    by_cases e : u=v
    ·subst e; exact absurd hl hnv
    ·rw [hne u (by omega) t ht] at hx;exact I.new u (by omega) hl t ht x hx
   ·intro u hu hl
    by_cases e : u=v
    ·subst e;refine ⟨σ,fun t ht=>⟨fun u' hu' hd'=>(hne u' hu' t hd').symm,fun hno=>I.same t hno⟩, ?_⟩
     cases hg : (s u).g with
     | none =>
      rw [hg] at k2
      obtain ⟨r,rfl,h1⟩:=k2;exact ⟨r,h1,fun d hd=>by rw [hd]; exact stepEnv_eq⟩
     | some tb =>
      obtain ⟨t,b⟩:=tb;rw [hg] at k2
      rcases k2 with ⟨h1,r,rfl,h2⟩ | ⟨h1,rfl⟩
      ·exact .inl ⟨h1,r,h2,fun d hd=>by rw [hd]; exact stepEnv_eq⟩
      ·exact .inr ⟨h1,fun d hd=>by rw [hd]; exact stepEnv_eq⟩
    ·have hu' : u<v:=by omega
     obtain ⟨σu,q1,q2⟩:=I.pend u hu' hl;refine ⟨σu,fun t ht=>⟨fun u' hu'' hd'=>by rw [hne u' (by omega) t hd']; exact (q1 t ht).1 u' hu'' hd',(q1 t ht).2⟩, ?_⟩
     cases hg : (s u).g with
     | none =>
      rw [hg] at q2
      obtain ⟨r,h1,h2⟩:=q2;exact ⟨r,h1,fun d hd=>by rw [hne u hu' d hd]; exact h2 d hd⟩
     | some tb =>
      obtain ⟨t,b⟩:=tb;rw [hg] at q2
      rcases q2 with ⟨h1,r,h2,h3⟩ | ⟨h1,h2⟩
      ·exact .inl ⟨h1,r,h2,fun d hd=>by rw [hne u hu' d hd]; exact h3 d hd⟩
      ·exact .inr ⟨h1,fun d hd=>by rw [hne u hu' d hd]; exact h2 d hd⟩
   ·intro t hno;rw [stepEnv_ne (hno v (by omega))];exact I.same t fun u hu=>hno u (by omega)
theorem lst_set {D : Array Bool} {i j : Nat} (hi : i<D.size) : Lst (D.setIfInBounds i true) j↔j=i∨Lst D j:=by
 unfold Lst;simp only [Array.getD_eq_getD_getElem?,Array.getElem?_setIfInBounds]
 by_cases h : i=j
 ·subst h; simp [hi]
 ·simp [h,Ne.symm h]
theorem down_set {D : Array Bool} {i : Nat} (hd : Down ops D) (hi : i<D.size) (he : ∀ j,j∈edges ops i→Lst D j) : Down ops (D.setIfInBounds i true):=by
 intro k hk hl j hj;rw [lst_set hi] at hl ⊢
 rcases hl with rfl | hl
 ·exact .inr (he j hj)
 ·exact .inr (hd k hk hl j hj)
theorem need_dst {s s' : SOp} {d : Nat} (hd : s.d=some d) (hl : d∈looks s') : need s s'=true:=by
 simp [need,dOf,hd,hl]
theorem need_src {s s' : SOp} {d : Nat} (hd : s'.d=some d) (hl : d∈looks s) : need s s'=true:=by
 simp [need,dOf,hd,hl]
theorem erel_look {ss : List SOp} (pl : Plan P N ops hs n p s ex) {D : Array Bool} {v : Nat} {σ σu : Env} {g : Gh} {H : Heap} {w : World} {a : Act} (I : Inv P B N ops n p s ss F σ0 D v σ g H w a) {u : Nat} (hu : u<n) (huv : u≤v)
  (hnl : ¬ Lst D (p u)) (hrdy : ∀ e,e∈edges ops (p u)→Lst D e)
  (hview : ∀ t,t∈looks (s u)→(∀ u',u'<u→(s u').d=some t→σu.get t=σ.get t)∧((∀ u',u'<u→(s u').d≠some t)→σu.get t=σ0.get t)) :
  ERel g (Env.keep (looks (s u)) σu) a.tmps:=by
 intro t x hx
 have ht : t∈looks (s u):=by
  generalize looks (s u)=l at hx
  induction l with
  | nil=>simp [Env.keep,Env.get] at hx
  | cons y r ih =>
   simp only [Env.keep,Env.get] at hx
   split at hx
   ·rename_i e; rw [e]; simp
   ·exact List.mem_cons_of_mem _ (ih hx)
 have hx':=Env.get_keep _ _ _ _ hx
 by_cases hw : ∃ u',u'<u∧(s u').d=some t
 ·obtain ⟨u',h1,h2⟩:=hw
  have hl : Lst D (p u'):=by
   cases hx : ex u' with
   | true=>exact I.wr u' (by omega) (pl.kc u' (by omega) hx)
   | false=>exact pl.need u' u h1 hu hx (need_dst h2 ht) D I.down hrdy
  rw [(hview t ht).1 u' h1 h2] at hx';exact I.new u' (by omega) hl t h2 x hx'
 ·have hno : ∀ u',u'<u→(s u').d≠some t:=fun u' h1 h2=>hw ⟨u',h1,h2⟩;rw [(hview t ht).2 hno] at hx';refine I.old t x hx' fun u'' h1 h2 hl=>?_
  rcases Nat.lt_trichotomy u'' u with h | h | h
  ·exact hno u'' h h2
  ·subst h; exact hnl hl
  ·cases hx : ex u with
   | true=>exact hnl (I.wr u (by have:=I.pre u'' h1 hl; omega) (pl.kc u hu hx))
   | false=>exact hnl (pl.need u u'' h h1 hx (need_src h2 ht) D I.down (I.down (p u'') (by rw [pl.size]; exact pl.lt u'' h1) hl))
theorem inv_pend {ss : List SOp} (pl : Plan P N ops hs n p s ex) {D : Array Bool} {v : Nat} {σ : Env} {g g' : Gh} {H : Heap} {w w' : World} {a : Act} (I : Inv P B N ops n p s ss F σ0 D v σ g H w a) {u : Nat} (hu : u<n) (huv : u<v)
  (hnl : ¬ Lst D (p u)) (hrdy : ∀ e,e∈edges ops (p u)→Lst D e) (x : Value) (hg : g.le g') (hW : WRel g' B H w')
  (hx : ∀ d,(s u).d=some d→∀ r,σ.get d=some r→VRel g' r x) : Inv P B N ops n p s ss F σ0 (D.setIfInBounds (p u) true) v σ g' H w' (a.put (s u).d x):=by
 have hsz : p u<D.size:=by rw [I.dsz,pl.size]; exact pl.lt u hu
 have hput : ∀ t,(s u).d≠some t→(a.put (s u).d x).tmps.getD t undef=a.tmps.getD t undef:=by
  intro t ht
  cases hd : (s u).d with
  | none=>rfl
  | some d =>
   have : d≠t:=by rintro rfl; exact ht hd
   simp only [Act.put,Array.getD_eq_getD_getElem?];rw [Array.getElem?_setIfInBounds_ne this]
 refine ⟨by simp [I.dsz],down_set I.down hsz hrdy,I.vle, ?_, ?_, ?_, ?_, ?_,I.same,I.go,hW,by rw [put_size]; exact I.size⟩
 ·intro u' h1 h2;rw [lst_set hsz] at h2
  rcases h2 with h2 | h2
  ·rw [pl.inj u' u h1 hu h2]; exact huv
  ·exact I.pre u' h1 h2
 ·intro u' h1 h2;rw [lst_set hsz]; exact .inr (I.wr u' h1 h2)
 ·intro t y hy hno
  have hne : (s u).d≠some t:=fun e=>hno u hu e (by rw [lst_set hsz]; exact .inl rfl)
  obtain ⟨q1,q2⟩:=I.old t y hy fun u' h1 h2 h3=>hno u' h1 h2 (by rw [lst_set hsz]; exact .inr h3);rw [put_size,hput t hne];exact ⟨q1,q2.mono hg⟩
 ·intro u' h1 h2 t ht y hy;rw [lst_set hsz] at h2
  by_cases e : u'=u
  ·subst e
   have hok:=(pl.of u' hu).dst
   obtain ⟨o,ho,hd,hop,hgd,hdk⟩:=hok;rw [ht] at hdk;simp only [dstOk,Bool.and_eq_true,decide_eq_true_eq] at hdk
   have hlt : t<a.tmps.size:=by rw [I.size]; exact hdk.1
   refine ⟨by rw [put_size]; exact hlt, ?_⟩
   have : (a.put (s u').d x).tmps.getD t undef=x:=by
    rw [ht]; simp [Act.put,Array.getD_eq_getD_getElem?,hlt]
   rw [this];exact hx t ht y hy
  ·rcases h2 with h2 | h2
   ·exact absurd (pl.inj u' u (by have:=I.vle; omega) hu h2) e
   ·have hne : (s u).d≠some t:=by
     intro e2
     have hu'n : u'<n:=by have:=I.vle; omega
     rcases Nat.lt_trichotomy u' u with h | h | h
     ·exact pl.dist u' u h hu t ht e2
     ·exact e h
     ·exact pl.dist u u' h hu'n t e2 ht
    obtain ⟨q1,q2⟩:=I.new u' h1 h2 t ht y hy;rw [put_size,hput t hne];exact ⟨q1,q2.mono hg⟩
 ·intro u' h1 h2;rw [lst_set hsz] at h2;exact I.pend u' h1 fun h=>h2 (.inr h)
theorem inv_write {ss : List SOp} (pl : Plan P N ops hs n p s ex) {D : Array Bool} {v : Nat} {σ : Env} {g g' : Gh} {H H' : Heap} {w w' : World} {a : Act} (I : Inv P B N ops n p s ss F σ0 D v σ g H w a) (hv : v<n)
  (hc : cls (s v).i=2) (hnl : ¬ Lst D (p v)) (hrdy : ∀ e,e∈edges ops (p v)→Lst D e) (x : Value) (ro : Option AV) (hg : g.le g') (hW : WRel g' B H' w')
  (hx : ∀ r,ro=some r→VRel g' r x) (hkp : Kp (s v).i H H') (hgo : opsW P B (ss.drop (v+1)) F (stepEnv (s v).d σ ro) H') :
  Inv P B N ops n p s ss F σ0 (D.setIfInBounds (p v) true) (v+1) (stepEnv (s v).d σ ro) g' H' w' (a.put (s v).d x):=by
 have hsz : p v<D.size:=by rw [I.dsz,pl.size]; exact pl.lt v hv
 have hput : ∀ t,(s v).d≠some t→(a.put (s v).d x).tmps.getD t undef=a.tmps.getD t undef:=by
  intro t ht
  cases hd : (s v).d with
  | none=>rfl
  | some d =>
   have : d≠t:=by rintro rfl; exact ht hd
   simp only [Act.put,Array.getD_eq_getD_getElem?];rw [Array.getElem?_setIfInBounds_ne this]
 have hne : ∀ u,u<v→∀ t,(s u).d=some t→(stepEnv (s v).d σ ro).get t=σ.get t:=fun u hu t ht=>stepEnv_ne (pl.dist u v hu hv t ht);refine ⟨by simp [I.dsz],down_set I.down hsz hrdy,hv, ?_, ?_, ?_, ?_, ?_, ?_,hgo,hW,by rw [put_size]; exact I.size⟩
 ·intro u' h1 h2;rw [lst_set hsz] at h2
  rcases h2 with h2 | h2
  ·rw [pl.inj u' v h1 hv h2]; omega
  ·have:=I.pre u' h1 h2; omega
 ·intro u' h1 h2;rw [lst_set hsz]
  by_cases e : u'=v
  ·subst e; exact .inl rfl
  ·exact .inr (I.wr u' (by omega) h2)
 ·intro t y hy hno
  have hne' : (s v).d≠some t:=fun e=>hno v hv e (by rw [lst_set hsz]; exact .inl rfl)
  obtain ⟨q1,q2⟩:=I.old t y hy fun u' h1 h2 h3=>hno u' h1 h2 (by rw [lst_set hsz]; exact .inr h3);rw [put_size,hput t hne'];exact ⟨q1,q2.mono hg⟩
 ·intro u' h1 h2 t ht y hy;rw [lst_set hsz] at h2
  by_cases e : u'=v
  ·subst e
   obtain ⟨o,ho,hd,hop,hgd,hdk⟩:=(pl.of u' hv).dst;rw [ht] at hdk;simp only [dstOk,Bool.and_eq_true,decide_eq_true_eq] at hdk
   have hlt : t<a.tmps.size:=by rw [I.size]; exact hdk.1
   refine ⟨by rw [put_size]; exact hlt, ?_⟩
   have : (a.put (s u').d x).tmps.getD t undef=x:=by
    rw [ht]; simp [Act.put,Array.getD_eq_getD_getElem?,hlt]
   rw [this];rw [ht,stepEnv_eq] at hy;exact hx y hy
  ·have hu'v : u'<v:=by omega
   rcases h2 with h2 | h2
   ·exact absurd (pl.inj u' v (by omega) hv h2) e
   ·rw [hne u' hu'v t ht] at hy
    obtain ⟨q1,q2⟩:=I.new u' hu'v h2 t ht y hy;rw [put_size,hput t (pl.dist u' v hu'v hv t ht)];exact ⟨q1,q2.mono hg⟩
 ·intro u' h1 h2;rw [lst_set hsz] at h2
  have hne2 : u'≠v:=by rintro rfl; exact h2 (.inl rfl)
  have hu'v : u'<v:=by omega
  have hnl' : ¬ Lst D (p u'):=fun h=>h2 (.inr h)
  have hkeep : ∀ {σ' : Env} {r : AV},opW P B (fun r' H''=>r'=r∧H''=H) σ' H (s u').i→opW P B (fun r' H''=>r'=r∧H''=H') σ' H' (s u').i:=by
   intro σ' r h1
   have h3 : cls (s u').i≤2:=by
    generalize (s u').i=i
    cases i <;> simp [cls]
   have h4 : cls (s u').i≠2:=fun h=>hnl' (I.wr u' hu'v h)
   by_cases h5 : cls (s u').i=1
   ·have hkv : kp (s u').i (s v).i=true:=by
     cases hk : kp (s u').i (s v).i with
     | true=>rfl
     | false =>
      refine absurd (pl.need u' v hu'v hv ?_ (by simp [need,h5,hc,hk]) D I.down hrdy) hnl'
      cases hx : ex u' with
      | false=>rfl
      | true=>exact absurd (pl.kc u' (by omega) hx) h4
    exact readKp (by omega) hkv hkp h1
   ·exact noHeap (by omega) h1
  obtain ⟨σu,q1,q2⟩:=I.pend u' hu'v hnl';refine ⟨σu,fun t ht=>⟨fun u'' hu'' hd'=>by rw [hne u'' (by omega) t hd']; exact (q1 t ht).1 u'' hu'' hd',(q1 t ht).2⟩, ?_⟩
  cases hgd : (s u').g with
  | none =>
   rw [hgd] at q2
   obtain ⟨r,h1,h2⟩:=q2;exact ⟨r,hkeep h1,fun d hd=>by rw [hne u' hu'v d hd]; exact h2 d hd⟩
  | some tb =>
   obtain ⟨t,b⟩:=tb;rw [hgd] at q2
   rcases q2 with ⟨h1,r,h2,h3⟩ | ⟨h1,h2⟩
   ·exact .inl ⟨h1,r,hkeep h2,fun d hd=>by rw [hne u' hu'v d hd]; exact h3 d hd⟩
   ·exact .inr ⟨h1,fun d hd=>by rw [hne u' hu'v d hd]; exact h2 d hd⟩
 ·intro t hno;rw [stepEnv_ne (hno v (by omega))];exact I.same t fun u hu=>hno u (by omega)
theorem inv_end {ss : List SOp} (pl : Plan P N ops hs n p s ex) (hss : ss.length=n) {D : Array Bool} {v : Nat} {σ : Env} {g : Gh} {H : Heap} {w : World} {a : Act} (I : Inv P B N ops n p s ss F σ0 D v σ g H w a)
  (hall : ∀ i,i<n→Lst D i) : F σ H∧WRel g B H w∧ERel g σ a.tmps:=by
 have hvn : v=n:=by
  rcases Nat.lt_or_ge v n with h | h
  ·have:=I.pre v h (hall _ (pl.lt v h)); omega
  ·have:=I.vle; omega
 subst hvn
 have hgo:=I.go;rw [List.drop_eq_nil_of_le (by omega)] at hgo;refine ⟨hgo,I.rel,fun t x hx=>?_⟩
 by_cases hw : ∃ u,u<v∧(s u).d=some t
 ·obtain ⟨u,h1,h2⟩:=hw;exact I.new u h1 (hall _ (pl.lt u h1)) t h2 x hx
 ·have hno : ∀ u,u<v→(s u).d≠some t:=fun u h1 h2=>hw ⟨u,h1,h2⟩;rw [I.same t hno] at hx;exact I.old t x hx fun u h1 h2=>absurd h2 (hno u h1)
theorem ready_nil_all (pl : Plan P N ops hs n p s ex) {D : Array Bool} (hd : D.size=ops.size) (h : Region.ready .any ops D=[]) : ∀ u,u<n→Lst D (p u):=by
 intro u
 induction u using Nat.strongRecOn with
 | _ u ih =>
  intro hu;refine Classical.byContradiction fun hnl=>?_
  have : p u∈Region.ready .any ops D:=by
   rw [ready_iff hd];refine ⟨by rw [pl.size]; exact pl.lt u hu,hnl,fun j hj=>?_⟩
   obtain ⟨u',h1,rfl⟩:=pl.topo u hu j hj
   have hl:=ih u' h1 (by omega)
   have hlt : p u'<D.size:=by rw [hd,pl.size]; exact pl.lt u' (by omega)
   unfold Lst at hl;simp only [Array.getD_eq_getD_getElem?] at hl ⊢
   simpa [hlt] using hl
  rw [h] at this; cases this
theorem count_set {D : Array Bool} {i : Nat} (hi : i<D.size) (hf : D.getD i true=false) : (D.setIfInBounds i true).toList.count false+1=D.toList.count false:=by
 have hlt : i<D.toList.length:=by simpa using hi
 have hg : D.toList[i]=false:=by simpa [Array.getD,hi] using hf
 rw [Array.toList_setIfInBounds,List.count_set hlt]
 have : 0<D.toList.count false:=List.count_pos_iff.2 (by rw [← hg]; simp);rw [hg];simp only [beq_self_eq_true,if_true,show (true == false)=false from rfl,Bool.false_eq_true,if_false];omega
theorem at_pend {ss : List SOp} (pl : Plan P N ops hs n p s ex) {Q : Exit→Act→World→Prop} {fuel : Nat} {D : Array Bool} {v : Nat} {σ : Env} {g : Gh} {H : Heap} {w : World} {a : Act}
  (I : Inv P B N ops n p s ss F σ0 D v σ g H w a) {u : Nat} (hu : u<n) (huv : u<v) (hnl : ¬ Lst D (p u)) (hrdy : ∀ e,e∈edges ops (p u)→Lst D e)
  (fin : ∀ x g' w',g.le g'→WRel g' B H w'→Below B w w'→(∀ d,(s u).d=some d→∀ r,σ.get d=some r→VRel g' r x) →
      wpAny P .any ops Q fuel (D.setIfInBounds (p u) true) (a.put (s u).d x) w') : wpOp P ops Q (p u) (wpAny P .any ops Q fuel (D.setIfInBounds (p u) true)) a w:=by
 have hpend:=I.pend u huv hnl
 obtain ⟨σu,q1,q2⟩:=hpend
 have hE:=erel_look pl I hu (by omega) hnl hrdy q1
 cases hgd : (s u).g with
 | none =>
  rw [hgd] at q2
  obtain ⟨r,h1,h2⟩:=q2;refine step_sound (K:=fun r' H'=>r'=r∧H'=H) (pl.of u hu) I.rel hE (by rw [hgd]; exact h1) ?_ (fun t b e=>by rw [hgd] at e; cases e)
  rintro x w' ⟨g',r',H',a1,⟨rfl,rfl⟩,a3,a4,a5⟩ -;exact fin x g' w' a1 a4 a5 fun d hd' r2 hr2=>by rw [h2 d hd'] at hr2; cases hr2; exact a3
 | some tb =>
  obtain ⟨t,b⟩:=tb;rw [hgd] at q2
  rcases q2 with ⟨h1,r,h2,h3⟩ | ⟨h1,h2⟩
  ·refine step_sound (K:=fun r' H'=>r'=r∧H'=H) (pl.of u hu) I.rel hE (by rw [hgd]; exact ⟨_,h1,.inl rfl,fun _=>h2⟩) ?_ ?_
   ·rintro x w' ⟨g',r',H',a1,⟨rfl,rfl⟩,a3,a4,a5⟩ -;exact fin x g' w' a1 a4 a5 fun d hd' r2 hr2=>by rw [h3 d hd'] at hr2; cases hr2; exact a3
   ·intro t' b' e hne;rw [hgd] at e; cases e
    obtain ⟨q,hq1,hq2⟩:=hne;rw [h1] at hq1; cases hq1
    rcases hq2 with hq2 | ⟨cs,hq2⟩
    ·cases b <;> cases hq2
    ·cases hq2
  ·refine step_sound (K:=fun _ _=>True) (pl.of u hu) I.rel hE (by rw [hgd]; obtain ⟨q,q1,q2⟩:=h1; exact ⟨q,q1,.inr q2,fun e=>by subst e; rcases q2 with q2 | ⟨cs,q2⟩ <;> cases b <;> cases q2⟩) ?_ ?_
   ·intro x w' _ hgg;rw [hgd] at hgg;simp only at hgg
    obtain ⟨q,q1,q2⟩:=h1;rw [q1] at hgg; cases hgg
    rcases q2 with q2 | ⟨cs,q2⟩ <;> cases b <;> cases q2
   ·intro t' b' e hne;exact fin undef g w (.refl g) I.rel (.refl B w) fun d hd' r2 hr2=>by rw [h2 d hd'] at hr2; cases hr2; exact nv_rel g
theorem at_write {ss : List SOp} (pl : Plan P N ops hs n p s ex) {Q : Exit→Act→World→Prop} {fuel : Nat} {D : Array Bool} {u : Nat} {σ : Env} {g : Gh} {H : Heap} {w : World} {a : Act}
  (I : Inv P B N ops n p s ss F σ0 D u σ g H w a) (hu : u<n) (hsu : ss[u]? = some (s u)) (hnl : ¬ Lst D (p u)) (hrdy : ∀ e,e∈edges ops (p u)→Lst D e)
  (fin : ∀ x ro g' H' w',g.le g'→WRel g' B H' w'→Below B w w'→(∀ r,ro=some r→VRel g' r x)→Kp (s u).i H H'→opsW P B (ss.drop (u+1)) F (stepEnv (s u).d σ ro) H' →
      wpAny P .any ops Q fuel (D.setIfInBounds (p u) true) (a.put (s u).d x) w') : wpOp P ops Q (p u) (wpAny P .any ops Q fuel (D.setIfInBounds (p u) true)) a w:=by
 have hdrop:=drop_some hsu
 have hgo:=I.go;rw [hdrop] at hgo
 have hcase:=opsW_cons hgo
 have hE : ERel g (Env.keep (looks (s u)) σ) a.tmps:=erel_look pl I hu (Nat.le_refl _) hnl hrdy fun t ht=>⟨fun _ _ _=>rfl,fun hno=>I.same t hno⟩
 cases hgd : (s u).g with
 | none =>
  rw [hgd] at hcase;refine step_sound (K:=fun r' H'=>Kp (s u).i H H'∧putK (s u).d (opsW P B (ss.drop (u+1)) F) σ r' H') (pl.of u hu) I.rel hE (by rw [hgd]; exact keep_all hcase) ?_ (fun t b e=>by rw [hgd] at e; cases e)
  rintro x w' ⟨g',r',H',a1,a2,a3,a4,a5⟩ -;exact fin x (some r') g' H' w' a1 a4 a5 (fun r hr=>by cases hr; exact a3) a2.1 (putK_step a2.2)
 | some tb =>
  obtain ⟨t,b⟩:=tb;rw [hgd] at hcase
  obtain ⟨q,e1,e0,e2,e3⟩:=hcase
  have hskip : ∀ t' b',(s u).g=some (t',b')→(∃ q,σ.get t'=some q∧offG b' q)→wpAny P .any ops Q fuel (D.setIfInBounds (p u) true) (a.put (s u).d undef) w:=by
   intro t' b' e hne;rw [hgd] at e; cases e
   obtain ⟨q',hq1,hq2⟩:=hne;rw [e1] at hq1; cases hq1;exact fin undef (some nv) g H w (.refl g) I.rel (.refl B w) (fun r hr=>by cases hr; exact nv_rel g) ⟨fun _=>.refl H,fun z _=>(Heap.sub.refl H).subZ z⟩ (by rw [← forgetD_step]; exact e3 hq2)
  refine step_sound (K:=fun r' H'=>Kp (s u).i H H'∧putK (s u).d (opsW P B (ss.drop (u+1)) F) σ r' H') (pl.of u hu) I.rel hE (by rw [hgd]; exact ⟨q,e1,e0,fun h=>keep_all (e2 h)⟩) ?_ hskip
  rintro x w' ⟨g',r',H',a1,a2,a3,a4,a5⟩ -;exact fin x (some r') g' H' w' a1 a4 a5 (fun r hr=>by cases hr; exact a3) a2.1 (putK_step a2.2)
theorem lst_of {D : Array Bool} {l : List Nat} (hrd : ∀ j,j∈l→D.getD j false=true) : ∀ e,e∈l→Lst D e:=by
 intro e he
 have:=hrd e he;unfold Lst;simp only [Array.getD_eq_getD_getElem?] at this ⊢
 cases hx : D[e]? with
 | none=>simp
 | some b=>simpa [hx] using this
theorem count_put {D : Array Bool} {i fuel : Nat} (hsz : i<D.size) (hnl : ¬ Lst D i) (hc : D.toList.count false=fuel+1) : (D.setIfInBounds i true).toList.count false=fuel:=by
 have hf : D.getD i true=false:=by
  cases hx : D.getD i true with
  | true=>exact absurd hx hnl
  | false=>rfl
 have:=count_set hsz hf;omega
theorem lst_all {D : Array Bool} (hd : D.size=n) (hc : D.toList.count false=0) : ∀ i,i<n→Lst D i:=by
 intro i hi
 have hlt : i<D.size:=by omega
 unfold Lst
 have hnot : false ∉ D.toList:=List.count_eq_zero.1 hc
 cases hb' : D.getD i true with
 | true=>rfl
 | false =>
  exfalso
  apply hnot
  have : D[i]=false:=by simpa [Array.getD,hlt] using hb'
  rw [← this]; simp
theorem draw_main {ss : List SOp} (pl : Plan P N ops hs n p s ex) (hss : ss.length=n) (hs' : ∀ u,u<n→ss[u]? = some (s u)) {g0 : Gh} {w0 : World} {df : List Deferred} {Q : Exit→Act→World→Prop}
  (hq : ∀ a' w',PostA F g0 B w0 N df a' w'→Q .normal a' w') : ∀ (fuel : Nat) (D : Array Bool) (v : Nat) (σ : Env) (g : Gh) (H : Heap) (w : World) (a : Act),D.toList.count false=fuel →
   Inv P B N ops n p s ss F σ0 D v σ g H w a→(v<n→cls (s v).i=2)→(∀ u,v≤u→u<n→ex u=false)→g0.le g→Below B w0 w→a.defers=df→wpAny P .any ops Q fuel D a w
 | 0,D,v,σ,g,H,w,a,hc,I,hv,hkx,hg,hb,hd=>by
  have hall:=lst_all (I.dsz.trans pl.size) hc
  obtain ⟨e1,e2,e3⟩:=inv_end pl hss I hall;refine ⟨?_,hq a w ⟨g,σ,H,hg,e1,e2,e3,hb,I.size,hd⟩⟩
  cases hr : Region.ready .any ops D with
  | nil=>rfl
  | cons i r =>
   have : i∈Region.ready .any ops D:=by rw [hr]; simp
   rw [ready_iff I.dsz] at this;exact absurd (hall i (by rw [← pl.size]; exact this.1)) this.2.1
 | fuel+1,D,v,σ,g,H,w,a,hc,I,hv,hkx,hg,hb,hd=>by
  refine ⟨fun hr=>?_,fun i hi=>?_⟩
  ·have hall':=ready_nil_all pl I.dsz hr
   have hall : ∀ i,i<n→Lst D i:=fun i hi=>by
    obtain ⟨u,h1,rfl⟩:=pl.sur i hi;exact hall' u h1
   obtain ⟨e1,e2,e3⟩:=inv_end pl hss I hall;exact hq a w ⟨g,σ,H,hg,e1,e2,e3,hb,I.size,hd⟩
  ·rw [ready_iff I.dsz] at hi
   obtain ⟨hi1,hnl,hrd⟩:=hi
   obtain ⟨u,hu,rfl⟩:=pl.sur i (by rw [← pl.size]; exact hi1)
   have hrdy:=lst_of hrd
   have hcnt:=count_put (by rw [I.dsz]; exact hi1) hnl hc
   by_cases huv : u<v
   ·refine at_pend pl I hu huv hnl hrdy fun x g' w' h1 h2 h3 h4=>?_;exact draw_main pl hss hs' hq fuel _ v σ g' H w' _ hcnt (inv_pend pl I hu huv hnl hrdy x h1 h2 h4) hv hkx (hg.trans h1) (hb.trans h3) (by rw [put_defers]; exact hd)
   ·have hvn : v<n:=by omega
    have huv' : u=v:=by
     refine Classical.byContradiction fun hne=>?_
     have:=pl.need v u (by omega) hu (hkx v (Nat.le_refl _) hvn) (by simp [need,hv hvn]) D I.down hrdy
     have:=I.pre v hvn this;omega
    subst huv';refine at_write pl I hu (hs' u hu) hnl hrdy fun x ro g' H' w' h1 h2 h3 h4 hkp h5=>?_
    have I':=inv_write pl I hvn (hv hvn) hnl hrdy x ro h1 h2 h4 hkp h5
    obtain ⟨v',σ',I'',hle,-,hv'⟩:=advance pl n (Nat.le_refl _) (fun h=>absurd h (Nat.lt_irrefl _)) hs' _ (u+1) _ rfl (by omega) I';exact draw_main pl hss hs' hq fuel _ v' σ' g' H' w' _ hcnt I'' hv' (fun u h1 h2=>hkx u (by omega) h2) (hg.trans h1) (hb.trans h3) (by rw [put_defers]; exact hd)
theorem Pend.congr {s2 : Nat→SOp} {u : Nat} {σ : Env} {H : Heap} (h : ∀ u',u'≤u→s2 u'=s u') (q : Pend P B s σ0 u σ H) : Pend P B s2 σ0 u σ H:=by
 obtain ⟨σu,q1,q2⟩:=q;refine ⟨σu,fun t ht=>?_, ?_⟩
 ·rw [h u (Nat.le_refl _)] at ht;refine ⟨fun u' hu' hd=>(q1 t ht).1 u' hu' (by rw [← h u' (by omega)]; exact hd),fun hno=>(q1 t ht).2 fun u' hu'=>by rw [← h u' (by omega)]; exact hno u' hu'⟩
 ·rw [h u (Nat.le_refl _)]; exact q2
theorem Inv.move {p2 : Nat→Nat} {s2 : Nat→SOp} {ex2 : Nat→Bool} (pl : Plan P N ops hs n p s ex) (pl2 : Plan P N ops hs n p2 s2 ex2) (hag : ∀ u,u<kx→p2 u=p u∧s2 u=s u) {ss ss2 : List SOp} {F2 : Env→Heap→Prop} {D : Array Bool} {σ : Env} {g : Gh} {H : Heap} {w : World} {a : Act} (hk : kx<n)
  (I : Inv P B N ops n p s ss F σ0 D kx σ g H w a) (hgo : opsW P B (ss2.drop kx) F2 σ H) : Inv P B N ops n p2 s2 ss2 F2 σ0 D kx σ g H w a:=by
 refine ⟨I.dsz,I.down,I.vle,fun u hu hl=>?_,fun u hu hc=>?_,fun t x hx hno=>?_,fun u hu=>?_,fun u hu hl=>?_,fun t hno=>?_,hgo,I.rel,I.size⟩
 ·obtain ⟨u1,h1,e⟩:=pl.sur (p2 u) (pl2.lt u hu)
  have h2:=I.pre u1 h1 (by rw [e]; exact hl)
  have h3:=(hag u1 h2).1
  have:=pl2.inj u u1 hu h1 (by rw [h3,e]);omega
 ·rw [(hag u hu).2] at hc;rw [(hag u hu).1]; exact I.wr u hu hc
 ·refine I.old t x hx fun u hu hd hl=>?_
  have h2:=I.pre u hu hl;exact hno u hu (by rw [(hag u h2).2]; exact hd) (by rw [(hag u h2).1]; exact hl)
 ·rw [(hag u hu).1,(hag u hu).2]; exact I.new u hu
 ·rw [(hag u hu).1] at hl;exact (I.pend u hu hl).congr fun u' hu'=>(hag u' (by omega)).2
 ·exact I.same t fun u hu=>by rw [← (hag u hu).2]; exact hno u hu
end
end Go.AW
namespace Go.AW
open Go.RowKit
section
variable {P : Program} {B N : Nat} {ops : Array Oper} {hs : List Nat}
theorem topoC_sound : ∀ (r done : List Nat),topoC ops done r=true→∀ u,u<r.length→∀ j,j∈edges ops (r.getD u 0)→j∈done∨∃ u',u'<u∧r.getD u' 0=j
 | [],_,_,u,hu,_,_=>by simp at hu
 | i::r,done,h,u,hu,j,hj=>by
  simp only [topoC,Bool.and_eq_true,List.all_eq_true] at h
  cases u with
  | zero =>
   have:=h.1 j hj;exact .inl (by simpa using this)
  | succ u =>
   rcases topoC_sound r (i::done) h.2 u (by simpa using hu) j (by simpa using hj) with h1 | ⟨u',h1,h2⟩
   ·rcases List.mem_cons.1 h1 with rfl | h1
    ·exact .inr ⟨0,by omega,by simp⟩
    ·exact .inl h1
   ·exact .inr ⟨u'+1,by omega,by simpa using h2⟩
end
end Go.AW
namespace Go.AW
open Go.RowKit
inductive IT where
 | fin (l : List Nat)
 | br (l : List Nat) (ts : IT)
 | nil
 | alt (h : Nat) (t ts : IT)
def IT.ot (f : Nat→SOp) : IT→OrdT
 | .fin l=>.fin (l.map f)
 | .br l ts=>.br (l.map f) (ts.ot f)
 | .nil=>.nil
 | .alt h t ts=>.alt (f h) (t.ot f) (ts.ot f)
def IT.first : IT→List Nat
 | .fin l=>l
 | .br l ts=>l++ts.first
 | .nil=>[]
 | .alt h t _=>h::t.first
def IT.heads : IT→List Nat
 | .alt h _ ts=>h::ts.heads
 | _=>[]
def IT.node : IT→Bool
 | .fin _=>true
 | .br _ _=>true
 | _=>false
def IT.isAlt : IT→Bool
 | .alt ..=>true
 | _=>false
def prT (cl : List (List Nat)) (f : Nat→SOp) (p : List Nat) (m u u' : Nat) : Bool :=
 (p.getD u 0 != p.getD u' 0) && !((dOf (f (p.getD u 0))).any ((dOf (f (p.getD u' 0))).contains ·)) &&
  ((decide (u<m) && cls (f (p.getD u 0)).i == 2) || !need (f (p.getD u 0)) (f (p.getD u' 0)) || (cl.getD (p.getD u' 0) []).contains (p.getD u 0))
def leafOk (ops : Array Oper) (f : Nat→SOp) (p : List Nat) (m : Nat) : Bool :=
 p.length == ops.size && p.all (fun i=>decide (i<ops.size)) && (List.range ops.size).all (p.contains ·) && topoC ops [] p &&
  (List.range ops.size).all fun u'=>(List.range u').all fun u=>prT (clos ops ops.size 0 []) f p m u u'
def coverT (ops : Array Oper) (q hs : List Nat) : Bool :=
 (List.range ops.size).all fun i=>q.contains i || hs.contains i || ((clos ops ops.size 0 []).getD i []).any (hs.contains ·)
def chkT (ops : Array Oper) (f : Nat→SOp) : List Nat→IT→Bool
 | q,.fin l=>leafOk ops f (q++l) q.length
 | q,.br l ts=>l.all (fun i=>decide (cls (f i).i<2)) && ts.isAlt && coverT ops (q++l) ts.heads && chkT ops f (q++l) ts
 | _,.nil=>true
 | q,.alt h t ts=>cls (f h).i == 2 && t.node && chkT ops f (q++[h]) t && chkT ops f q ts
def sopF (P : Program) (N : Nat) (ops : Array Oper) (hs : List Nat) (i : Nat) : SOp :=
 match ops[i]? with
 | some o=>(compileO P N ops (hs.getD i 0) o).getD default
 | none=>default
def mkT (ops : Array Oper) (f : Nat→SOp) (pm : List Nat) : Nat→List Nat→IT
 | 0,_=>.fin []
 | k+1,q =>
  let rest:=pm.filter fun i=>!q.contains i
  if leafOk ops f (q++rest) q.length then .fin rest
  else
   let l:=rest.takeWhile fun i=>decide (cls (f i).i<2)
   .br l (((rest.drop l.length).filter fun h=>cls (f h).i == 2 && (edges ops h).all (fun j=>(q++l).contains j)).foldr (fun h ts=>.alt h (mkT ops f pm k (q++l++[h])) ts) .nil)
def scT (f : Nat→SOp) : IT→SC
 | .fin l=>.reg (l.map f)
 | .br l (.alt h (.fin r) (.alt h' (.fin r') .nil))=>.two (l.map f) (f h::r.map f) (f h'::r'.map f)
 | t=>.tre (t.ot f)
def drawT (P : Program) (N : Nat) (ops : Array Oper) (hs : List Nat) (perm : List Nat) : Option IT :=
 if (List.range ops.size).all (fun i=>(ops[i]?.bind fun o=>compileO P N ops (hs.getD i 0) o).isSome) && P.follows .mixedOrders then
  let t:=mkT ops (sopF P N ops hs) (if perm.isEmpty then List.range ops.size else perm) 5 []
  if t.node && chkT ops (sopF P N ops hs) [] t then some t else none
 else none
section
variable {P : Program} {B N : Nat} {ops : Array Oper} {hs : List Nat} {f : Nat→SOp}
abbrev pT (p : List Nat) : Nat→Nat:=fun u=>p.getD u 0
abbrev sT (f : Nat→SOp) (p : List Nat) : Nat→SOp:=fun u=>f (p.getD u 0)
theorem leaf_plan (hof : ∀ i,i<ops.size→Of P N ops hs i (f i)) {p : List Nat} {m : Nat} (h : leafOk ops f p m=true) :
  Plan P N ops hs ops.size (pT p) (sT f p) (fun u=>decide (u<m) && cls (f (p.getD u 0)).i == 2)∧p.length=ops.size:=by
 simp only [leafOk,Bool.and_eq_true,beq_iff_eq,List.all_eq_true,decide_eq_true_eq,List.mem_range] at h
 obtain ⟨⟨⟨⟨h1,h2⟩,h3⟩,h4⟩,h5⟩:=h
 have hmem : ∀ u,u<ops.size→p.getD u 0∈p:=fun u hu=>by
  rw [List.getD_eq_getElem?_getD,List.getElem?_eq_getElem (by omega)]; simp
 have hp : ∀ u u',u<u'→u'<ops.size→p.getD u 0≠p.getD u' 0∧(∀ d,(f (p.getD u 0)).d=some d→(f (p.getD u' 0)).d≠some d) ∧
   ((decide (u<m) && cls (f (p.getD u 0)).i == 2)=false→need (f (p.getD u 0)) (f (p.getD u' 0))=true→p.getD u 0∈(clos ops ops.size 0 []).getD (p.getD u' 0) []):=fun u u' hu hu'=>by
  have:=h5 u' hu' u hu;rw [prT,Bool.and_eq_true,Bool.and_eq_true,bne_iff_ne,Bool.not_eq_true',Bool.or_eq_true,Bool.or_eq_true,Bool.not_eq_true',List.contains_iff_mem] at this
  obtain ⟨⟨a,b⟩,c⟩:=this;refine ⟨a,fun d hd hd'=>?_,fun hx hn=>?_⟩
  ·simp only [dOf,hd,hd'] at b
   simp at b
  ·rcases c with (c | c) | c
   ·rw [hx] at c; cases c
   ·rw [hn] at c; cases c
   ·exact c
 refine ⟨⟨rfl,fun u hu=>h2 _ (hmem u hu),fun u u' hu hu' he=>?_,fun i hi=>?_,fun u hu=>hof _ (h2 _ (hmem u hu)),fun u hu j hj=>?_,fun u u' h hu' d hd=>(hp u u' h hu').2.1 d hd,fun u hu e=>?_,fun u u' h hu' hx hn D hdn hrdy=>?_⟩,h1⟩
 ·rcases Nat.lt_trichotomy u u' with h | h | h
  ·exact absurd he (hp u u' h (by omega)).1
  ·exact h
  ·exact absurd he.symm (hp u' u h (by omega)).1
 ·have hm : i∈p:=by simpa using h3 i hi
  obtain ⟨u,hu,rfl⟩:=List.getElem_of_mem hm;exact ⟨u,by omega,by simp [List.getD_eq_getElem?_getD,hu]⟩
 ·rcases topoC_sound p [] h4 u (by omega) j hj with h | h
  ·simp at h
  ·exact h
 ·rw [Bool.and_eq_true,beq_iff_eq] at e; exact e.2
 ·exact clos_sound hdn ops.size 0 [] rfl (fun k hk=>by omega) (by omega) _ (by rw [Nat.zero_add]; exact h2 _ (hmem u' hu')) _ ((hp u u' h hu').2.2 hx hn) hrdy
theorem first_plan (hof : ∀ i,i<ops.size→Of P N ops hs i (f i)) : ∀ (t : IT) (q : List Nat),chkT ops f q t=true→(t.node=true∨t.isAlt=true) →
  (∃ ex,Plan P N ops hs ops.size (pT (q++t.first)) (sT f (q++t.first)) ex)∧(q++t.first).length=ops.size
 | .fin l,q,h,_=>⟨⟨_,(leaf_plan hof h).1⟩,(leaf_plan hof h).2⟩
 | .br l ts,q,h,_=>by
  simp only [chkT,Bool.and_eq_true] at h
  have:=first_plan hof ts (q++l) h.2 (.inr h.1.1.2);rw [List.append_assoc] at this;exact this
 | .nil,q,h,hn=>by rcases hn with hn | hn <;> cases hn
 | .alt h t ts,q,hc,_=>by
  simp only [chkT,Bool.and_eq_true] at hc
  have:=first_plan hof t (q++[h]) hc.1.2 (.inl hc.1.1.2);rw [List.append_assoc] at this;exact this
theorem alt_get {F : Env→Heap→Prop} {σ : Env} {H : Heap} {i : Nat} : ∀ (ts : IT) (q : List Nat),chkT ops f q ts=true→i∈ts.heads→otW P B (ts.ot f) F σ H →
  ∃ t,t.node=true∧chkT ops f (q++[i]) t=true∧cls (f i).i=2∧opsW P B [f i] (otW P B (t.ot f) F) σ H
 | .fin l,q,_,h,_=>by cases h
 | .br l ts,q,_,h,_=>by cases h
 | .nil,q,_,h,_=>by cases h
 | .alt h t ts,q,hc,hi,ho=>by
  simp only [chkT,Bool.and_eq_true,beq_iff_eq] at hc
  rcases List.mem_cons.mp hi with rfl | hi
  ·exact ⟨t,hc.1.1.2,hc.1.2,hc.1.1.1,ho.1⟩
  ·exact alt_get ts q hc.2 hi ho.2
theorem head_get {i : Nat} : ∀ (ts : IT) (q : List Nat),chkT ops f q ts=true→i∈ts.heads→∃ t,t.node=true∧chkT ops f (q++[i]) t=true
 | .fin l,q,_,h=>by cases h
 | .br l ts,q,_,h=>by cases h
 | .nil,q,_,h=>by cases h
 | .alt h t ts,q,hc,hi=>by
  simp only [chkT,Bool.and_eq_true,beq_iff_eq] at hc
  rcases List.mem_cons.mp hi with rfl | hi
  ·exact ⟨t,hc.1.1.2,hc.1.2⟩
  ·exact head_get ts q hc.2 hi
theorem app_get {a b : List Nat} {u : Nat} (h : u<a.length) : (a++b).getD u 0=a.getD u 0:=by
 rw [List.getD_eq_getElem?_getD,List.getElem?_append_left h,← List.getD_eq_getElem?_getD]
theorem app_at {a b : List Nat} {i : Nat} : (a++i::b).getD a.length 0=i:=by simp [List.getD_eq_getElem?_getD]
theorem drop_map {a b : List Nat} {k : Nat} (h : a.length=k) : ((a++b).map f).drop k=b.map f:=by
 rw [List.map_append]; exact List.drop_left' (by simpa using h)
theorem map_at {p : List Nat} {a b : List Nat} (h : p=a++b) {u : Nat} (hu : u<a.length) : (a.map f)[u]? = some (f (p.getD u 0)):=by
 rw [h,app_get hu,List.getElem?_map,List.getD_eq_getElem?_getD,List.getElem?_eq_getElem hu]; rfl
theorem Inv.re {n : Nat} {p : Nat→Nat} {s : Nat→SOp} {ss ss2 : List SOp} {F F2 : Env→Heap→Prop} {σ0 : Env} {D : Array Bool} {v : Nat} {σ : Env} {g : Gh} {H : Heap} {w : World} {a : Act}
  (I : Inv P B N ops n p s ss F σ0 D v σ g H w a) (hgo : opsW P B (ss2.drop v) F2 σ H) : Inv P B N ops n p s ss2 F2 σ0 D v σ g H w a :=
 ⟨I.dsz,I.down,I.vle,I.pre,I.wr,I.old,I.new,I.pend,I.same,hgo,I.rel,I.size⟩
theorem draw_tree (hof : ∀ i,i<ops.size→Of P N ops hs i (f i)) {F : Env→Heap→Prop} {σ0 : Env} {g0 : Gh} {w0 : World} {df : List Deferred} {Q : Exit→Act→World→Prop}
  (hq : ∀ a' w',PostA F g0 B w0 N df a' w'→Q .normal a' w') : ∀ (fuel : Nat) (q l : List Nat) (ts : IT) (D : Array Bool) (σ : Env) (g : Gh) (H : Heap) (w : World) (a : Act),D.toList.count false=fuel →
   chkT ops f q (.br l ts)=true →
   Inv P B N ops ops.size (pT ((q++l)++ts.first)) (sT f ((q++l)++ts.first)) ((q++l).map f) (otW P B (ts.ot f) F) σ0 D (q++l).length σ g H w a→g0.le g→Below B w0 w→a.defers=df→wpAny P .any ops Q fuel D a w
 | fuel,q,l,ts,D,σ,g,H,w,a,hc,hchk,I,hg,hb,hd=>by
  have hchk0:=hchk;simp only [chkT,Bool.and_eq_true] at hchk
  obtain ⟨⟨⟨hl,hia⟩,hcov⟩,hts⟩:=hchk
  obtain ⟨⟨ex,pl⟩,hlen⟩:=first_plan hof ts (q++l) hts (.inr hia)
  have hk : (q++l).length<ops.size:=by
   cases ts <;> simp only [IT.isAlt,Bool.false_eq_true] at hia
   simp only [IT.first,List.length_append,List.length_cons] at hlen ⊢;omega
  have hkc : ¬ Lst D (pT ((q++l)++ts.first) (q++l).length):=fun h=>by
   have:=I.pre _ hk h; omega
  cases fuel with
  | zero=>exact absurd (lst_all (I.dsz.trans pl.size) hc _ (pl.lt _ hk)) hkc
  | succ fuel =>
   refine ⟨fun hr=>absurd (ready_nil_all pl I.dsz hr _ hk) hkc,fun i hi=>?_⟩;rw [ready_iff I.dsz] at hi
   obtain ⟨hi1,hnl,hrd⟩:=hi
   obtain ⟨u,hu,rfl⟩:=pl.sur i (by rw [← pl.size]; exact hi1)
   have hrdy:=lst_of hrd
   have hcnt:=count_put (by rw [I.dsz]; exact hi1) hnl hc
   by_cases huv : u<(q++l).length
   ·refine at_pend pl I hu huv hnl hrdy fun x g' w' e1 e2 e3 e4=>?_;exact draw_tree hof hq fuel q l ts _ σ g' H w' _ hcnt hchk0 (inv_pend pl I hu huv hnl hrdy x e1 e2 e4) (hg.trans e1) (hb.trans e3) (by rw [put_defers]; exact hd)
   ·have hni : pT ((q++l)++ts.first) u ∉ q++l:=fun hm=>by
     obtain ⟨u1,h1,e⟩:=List.getElem_of_mem hm
     have h2 : pT ((q++l)++ts.first) u1=pT ((q++l)++ts.first) u:=by
      show ((q++l)++ts.first).getD u1 0=_
      rw [app_get h1,List.getD_eq_getElem?_getD,List.getElem?_eq_getElem h1]; exact e
     have:=pl.inj u1 u (by omega) hu h2;omega
    have hcv:=hcov;simp only [coverT,List.all_eq_true,List.mem_range,Bool.or_eq_true,List.contains_iff_mem,List.any_eq_true] at hcv
    have hgo:=I.go;rw [List.drop_eq_nil_of_le (by simp)] at hgo
    replace hgo : otW P B (ts.ot f) F σ H:=hgo
    rcases hcv _ hi1 with (hin | hin) | ⟨j,hj1,hj2⟩
    ·exact absurd hin hni
    ·generalize hiu : pT ((q++l)++ts.first) u=i at *
     obtain ⟨t,hnode,hchk2,hc2,hgo2⟩:=alt_get ts (q++l) hts hin hgo
     have key : ∀ {p2 : List Nat} {ex2 : Nat→Bool} (_ : p2=((q++l)++[i])++t.first) (pl2 : Plan P N ops hs ops.size (pT p2) (sT f p2) ex2)
       (fin : ∀ (x : Value) (σ' : Env) (g' : Gh) (H' : Heap) (w' : World),g.le g'→Below B w w'→Inv P B N ops ops.size (pT p2) (sT f p2) (((q++l)++[i]).map f) (otW P B (t.ot f) F) σ0 (D.setIfInBounds i true) ((q++l).length+1) σ' g' H' w' (a.put (f i).d x) →
        wpAny P .any ops Q fuel (D.setIfInBounds i true) (a.put (f i).d x) w'),wpOp P ops Q i (wpAny P .any ops Q fuel (D.setIfInBounds i true)) a w:=by
      intro p2 ex2 hp2 pl2 fin
      have hp2' : p2=(q++l)++(i::t.first):=by rw [hp2,List.append_assoc]; rfl
      have hag : ∀ u,u<(q++l).length→pT p2 u=pT ((q++l)++ts.first) u∧sT f p2 u=sT f ((q++l)++ts.first) u:=fun u hu=>by
       have : p2.getD u 0=((q++l)++ts.first).getD u 0:=by rw [hp2',app_get hu,app_get hu]
       exact ⟨this,congrArg f this⟩
      have hpk : pT p2 (q++l).length=i:=by show p2.getD _ 0=i; rw [hp2',app_at]
      have hsk : sT f p2 (q++l).length=f i:=congrArg f hpk
      have I2 : Inv P B N ops ops.size (pT p2) (sT f p2) (((q++l)++[i]).map f) (otW P B (t.ot f) F) σ0 D (q++l).length σ g H w a :=
       I.move (ex2:=ex2) pl pl2 hag hk (by rw [drop_map rfl]; exact hgo2)
      have hmk : (((q++l)++[i]).map f)[(q++l).length]? = some (sT f p2 (q++l).length):=by rw [hsk]; simp
      have hw:=at_write (Q:=Q) (fuel:=fuel) pl2 I2 hk hmk (by rw [hpk]; exact hnl) (by rw [hpk]; exact hrdy) fun x ro g' H' w' e1 e2 e3 e4 hkp h5=>by
       have I3:=inv_write pl2 I2 hk (by rw [hsk]; exact hc2) (by rw [hpk]; exact hnl) (by rw [hpk]; exact hrdy) x ro e1 e2 e4 hkp h5;rw [hsk,hpk] at I3 ⊢;exact fin x _ g' H' w' e1 e3 I3
      rw [hpk] at hw;exact hw
     cases t with
     | nil=>cases hnode
     | alt _ _ _=>cases hnode
     | fin l' =>
      obtain ⟨pl2,hlen2⟩:=leaf_plan hof (p:=((q++l)++[i])++l') (m:=((q++l)++[i]).length) hchk2;refine key rfl pl2 fun x σ' g' H' w' e1 e3 I3=>?_
      have I4 : Inv P B N ops ops.size _ _ ((((q++l)++[i])++l').map f) F σ0 _ _ _ _ _ _ _:=I3.re (F2:=F) (by
       have:=I3.go;rw [List.drop_eq_nil_of_le (by simp only [List.length_map,List.length_append,List.length_cons,List.length_nil]; omega)] at this;rw [drop_map (by simp only [List.length_append,List.length_cons,List.length_nil])]; exact this)
      have hs' : ∀ u,u<ops.size→((((q++l)++[i])++l').map f)[u]? = some (sT f (((q++l)++[i])++l') u):=fun u hu=>map_at (b:=[]) (by simp) (by omega)
      obtain ⟨v',σ2,I5,hle,-,hv'⟩:=advance pl2 ops.size (Nat.le_refl _) (fun h=>absurd h (Nat.lt_irrefl _)) hs' _ _ _ rfl (by omega) I4;exact draw_main pl2 (by rw [List.length_map]; exact hlen2) hs' hq fuel _ v' σ2 g' H' w' _ hcnt I5 hv' (fun u h1 h2=>by rw [Bool.and_eq_false_iff]; exact .inl (decide_eq_false (by simp only [List.length_append,List.length_cons,List.length_nil] at hle ⊢; omega))) (hg.trans e1) (hb.trans e3) (by rw [put_defers]; exact hd)
     | br l' ts' =>
      obtain ⟨⟨ex2,pl2⟩,hlen2⟩:=first_plan hof (.br l' ts') ((q++l)++[i]) hchk2 (.inl rfl)
      have hc3:=hchk2;simp only [chkT,Bool.and_eq_true,List.all_eq_true,decide_eq_true_eq] at hc3
      have hp3 : ((q++l)++[i])++(IT.br l' ts').first=(((q++l)++[i])++l')++ts'.first:=by simp only [IT.first,List.append_assoc]
      refine key rfl pl2 fun x σ' g' H' w' e1 e3 I3=>?_
      have I4 : Inv P B N ops ops.size _ _ ((((q++l)++[i])++l').map f) (otW P B (ts'.ot f) F) σ0 _ _ _ _ _ _ _:=I3.re (F2:=otW P B (ts'.ot f) F) (by
       have:=I3.go;rw [List.drop_eq_nil_of_le (by simp only [List.length_map,List.length_append,List.length_cons,List.length_nil]; omega)] at this;rw [drop_map (by simp only [List.length_append,List.length_cons,List.length_nil])]; exact this)
      have hlim : (((q++l)++[i])++l').length<ops.size:=by
       have h1:=hc3.1.1.2
       cases ts' <;> simp only [IT.isAlt,Bool.false_eq_true] at h1
       rw [hp3] at hlen2;simp only [IT.first,List.length_append,List.length_cons] at hlen2 ⊢;omega
      have hs' : ∀ u,u<(((q++l)++[i])++l').length→((((q++l)++[i])++l').map f)[u]? = some (sT f (((q++l)++[i])++(IT.br l' ts').first) u):=fun u hu=>map_at hp3 hu
      have hle2 : (((q++l)++[i])++l').length<ops.size→cls (sT f (((q++l)++[i])++(IT.br l' ts').first) (((q++l)++[i])++l').length).i=2:=fun _=>by
       have h1:=hc3.1.1.2
       have h2:=hc3.2
       cases ts' <;> simp only [IT.isAlt,Bool.false_eq_true] at h1
       simp only [chkT,Bool.and_eq_true,beq_iff_eq] at h2
       show cls (f ((((q++l)++[i])++(IT.br l' _).first).getD _ 0)).i=2
       rw [hp3];simp only [IT.first];rw [app_at];exact h2.1.1.1
      obtain ⟨v',σ2,I5,hle,hle3,hv'⟩:=advance pl2 (((q++l)++[i])++l').length (by omega) hle2 hs' _ _ _ rfl (by simp only [List.length_map,List.length_append,List.length_cons,List.length_nil]; omega) I4
      have hvk : v'=(((q++l)++[i])++l').length:=by
       refine Classical.byContradiction fun hne=>?_
       have h2:=hv' (by omega)
       have h3 : (((q++l)++[i])++(IT.br l' ts').first).getD v' 0∈l':=by
        rw [hp3,app_get (by omega),List.getD_eq_getElem?_getD,List.getElem?_append_right (by simp only [List.length_append,List.length_cons,List.length_nil] at hle ⊢; omega)];rw [List.getElem?_eq_getElem (by simp only [List.length_append,List.length_cons,List.length_nil] at hle hle3 hne ⊢; omega)]
        simp
       have h4:=hc3.1.1.1 _ h3
       have h5 : cls (f ((((q++l)++[i])++(IT.br l' ts').first).getD v' 0)).i=2:=h2;omega
      subst hvk;rw [hp3] at I5;exact draw_tree hof hq fuel ((q++l)++[i]) l' ts' _ σ2 g' H' w' _ hcnt hchk2 I5 (hg.trans e1) (hb.trans e3) (by rw [put_defers]; exact hd)
    ·exfalso
     have hlj:=clos_sound I.down ops.size 0 [] rfl (fun k hk=>by omega) (by omega) _ (by rw [Nat.zero_add]; exact hi1) _ hj1 hrdy
     obtain ⟨t,hnode,hchk2⟩:=head_get ts (q++l) hts hj2
     obtain ⟨⟨ex2,pl2⟩,hlen2⟩:=first_plan hof t ((q++l)++[j]) hchk2 (.inl hnode)
     have hp2 : ((q++l)++[j])++t.first=(q++l)++(j::t.first):=by rw [List.append_assoc]; rfl
     rw [hp2] at pl2
     have hjk : pT ((q++l)++(j::t.first)) (q++l).length=j:=by show List.getD _ _ 0=j; rw [app_at]
     have hjn : j<ops.size:=by rw [← hjk]; exact pl2.lt _ hk
     obtain ⟨u1,h1,e1⟩:=pl.sur j hjn
     have h2:=I.pre u1 h1 (by rw [e1]; exact hlj)
     have h3 : pT ((q++l)++(j::t.first)) u1=j:=by
      rw [← e1]
      show List.getD _ _ 0=List.getD _ _ 0
      rw [app_get h2,app_get h2]
     have:=pl2.inj u1 (q++l).length h1 hk (by rw [h3,hjk]);omega
theorem opsW_1r (s : SOp) (r : List SOp) (F : Env→Heap→Prop) : opsW P B (s::r) F=opsW P B [s] (opsW P B r F):=by
 obtain ⟨d,g,i⟩:=s
 cases g <;> rfl
theorem scT_awp {Q : AQ} {σ : Env} {H : Heap} : ∀ {t : IT},awp P B (scT f t) Q σ H→otW P B (t.ot f) (Q .norm) σ H:=by
 intro t h;unfold scT at h
 split at h
 ·exact h
 ·rename_i l h1 r h2 r'
  have e : (fun (σ : Env) (H : Heap)=>opsW P B (f h1::r.map f) (Q .norm) σ H∧opsW P B (f h2::r'.map f) (Q .norm) σ H)=otW P B ((IT.alt h1 (.fin r) (.alt h2 (.fin r') .nil)).ot f) (Q .norm):=by
   funext σ H
   show (_∧_)=(_∧_∧True)
   rw [and_true,opsW_1r,opsW_1r (f h2)]; rfl
  have h : opsW P B (l.map f) (fun σ H=>opsW P B (f h1::r.map f) (Q .norm) σ H∧opsW P B (f h2::r'.map f) (Q .norm) σ H) σ H:=h;rw [e] at h;exact h
 ·exact h
theorem drawT_sound {perm : List Nat} {df : List Deferred} {t : IT} (hc : drawT P N ops hs perm=some t)
  (F : Env→Heap→Prop) (g : Gh) (H : Heap) (w : World) (σ : Env) (a : Act) (Q : Exit→Act→World→Prop) (hW : WRel g B H w) (hE : ERel g σ a.tmps) (hN : a.tmps.size=N) (hd : a.defers=df)
  (hk : otW P B (t.ot (sopF P N ops hs)) F σ H) (hq : ∀ a' w',PostA F g B w N df a' w'→Q .normal a' w') (id : Nat) : (Code.region id ops true).wp P Q a w:=by
 unfold drawT at hc;dsimp only at hc
 generalize (if perm.isEmpty then List.range ops.size else perm)=pm at hc
 split at hc
 ·rename_i hall
  rw [Bool.and_eq_true] at hall
  obtain ⟨hall,hmix⟩:=hall;simp only [List.all_eq_true,List.mem_range,Option.isSome_iff_exists] at hall
  split at hc
  ·rename_i hchk
   simp only [Option.some.injEq] at hc;rw [hc,Bool.and_eq_true] at hchk
   obtain ⟨hnode,hchk0⟩:=hchk;clear hc
   have hof : ∀ i,i<ops.size→Of P N ops hs i (sopF P N ops hs i):=fun i hi=>by
    obtain ⟨s,hs'⟩:=hall i hi
    cases ho : ops[i]? with
    | none=>rw [ho] at hs'; cases hs'
    | some o =>
     rw [ho] at hs';refine ⟨o,ho, ?_⟩
     have hs2 : compileO P N ops (hs.getD i 0) o=some s:=hs';rw [sopF,ho];simp only [hs2,Option.getD_some]
   generalize sopF P N ops hs=f at *;refine wp_region_any hmix ?_
   have hD : ∀ i,i<ops.size→¬ Lst (Array.replicate ops.size false) i:=by
    intro i hi h
    simp [Lst,Array.getD,hi] at h
   have I0 : ∀ {p : List Nat} {ex : Nat→Bool} {ss : List SOp} {F : Env→Heap→Prop},Plan P N ops hs ops.size (pT p) (sT f p) ex→opsW P B ss F σ H→Inv P B N ops ops.size (pT p) (sT f p) ss F σ (Array.replicate ops.size false) 0 σ g H { w with drawn:=w.drawn+1 } a :=
    fun pl hk=>⟨by simp,fun i hi h=>absurd h (hD i hi),Nat.zero_le _,fun u hu h=>absurd h (hD _ (pl.lt u hu)),fun u hu=>by omega,fun t x hx _=>hE t x hx,fun u hu=>by omega,fun u hu=>by omega,
     fun t _=>rfl,hk,hW.drew,hN⟩
   cases t with
   | nil=>cases hnode
   | alt _ _ _=>cases hnode
   | fin l =>
    obtain ⟨pl,hlen⟩:=leaf_plan hof (p:=[]++l) (m:=0) hchk0
    have hs' : ∀ u,u<ops.size→(([]++l).map f)[u]? = some (sT f ([]++l) u):=fun u hu=>map_at (b:=[]) (by simp) (by omega)
    obtain ⟨v',σ',I',-,-,hv'⟩:=advance pl ops.size (Nat.le_refl _) (fun h=>absurd h (Nat.lt_irrefl _)) hs' _ 0 σ rfl (Nat.zero_le _) (I0 pl hk);exact draw_main pl (by rw [List.length_map]; exact hlen) hs' hq ops.size _ v' σ' g H _ a (by simp) I' hv' (fun u h1 h2=>by rw [Bool.and_eq_false_iff]; exact .inl (decide_eq_false (by omega))) (.refl g) ((Below.refl B w).drew) hd
   | br l ts =>
    have hchk:=hchk0;simp only [chkT,Bool.and_eq_true,List.all_eq_true,decide_eq_true_eq] at hchk
    obtain ⟨⟨⟨hl,hia⟩,hcov⟩,hts⟩:=hchk
    obtain ⟨⟨ex,pl⟩,hlen⟩:=first_plan hof (.br l ts) [] hchk0 (.inl rfl)
    have hp : []++(IT.br l ts).first=([]++l)++ts.first:=rfl;rw [hp] at pl hlen
    have I : Inv P B N ops ops.size (pT (([]++l)++ts.first)) (sT f (([]++l)++ts.first)) (([]++l).map f) (otW P B (ts.ot f) F) σ (Array.replicate ops.size false) 0 σ g H { w with drawn:=w.drawn+1 } a:=I0 pl hk
    have hlim : ([]++l).length<ops.size:=by
     cases ts <;> simp only [IT.isAlt,Bool.false_eq_true] at hia
     simp only [IT.first,List.length_append,List.length_cons] at hlen ⊢;omega
    have hle2 : ([]++l).length<ops.size→cls (sT f (([]++l)++ts.first) ([]++l).length).i=2:=fun _=>by
     cases ts <;> simp only [IT.isAlt,Bool.false_eq_true] at hia
     simp only [chkT,Bool.and_eq_true,beq_iff_eq] at hts
     show cls (f (List.getD _ _ 0)).i=2
     simp only [IT.first];rw [app_at];exact hts.1.1.1
    obtain ⟨v',σ',I',-,hle,hv'⟩:=advance pl ([]++l).length (by omega) hle2 (fun u hu=>map_at rfl hu) _ 0 σ rfl (Nat.zero_le _) I
    have hvk : v'=([]++l).length:=by
     refine Classical.byContradiction fun hne=>?_
     have h2:=hv' (by omega)
     have h3 : (([]++l)++ts.first).getD v' 0∈l:=by
      rw [app_get (by omega),List.getD_eq_getElem?_getD,List.getElem?_eq_getElem (by omega)]
      simp
     have h4:=hl _ h3
     have h5 : cls (f ((([]++l)++ts.first).getD v' 0)).i=2:=h2;omega
    subst hvk;exact draw_tree hof hq ops.size [] l ts _ σ' g H _ a (by simp) hchk0 I' (.refl g) ((Below.refl B w).drew) hd
  ·cases hc
 ·cases hc
end
end Go.AW
namespace Go.AW
open Go.RowKit
def rgC (P : Program) (N : Nat) (ops : Array Oper) (draw : Bool) (vs pm : List Nat) : Option SC :=
 if draw then (drawT P N ops vs pm).map (scT (sopF P N ops vs)) else (compileIx P N ops vs (List.range ops.size)).map .reg
def SC.isRg : SC→Bool
 | .reg _=>true
 | .two _ _ _=>true
 | .tre _=>true
 | _=>false
theorem scT_rg (f : Nat→SOp) (t : IT) : (scT f t).isRg=true:=by unfold scT; split <;> rfl
theorem rgC_rg {P : Program} {N : Nat} {ops : Array Oper} {d : Bool} {vs pm : List Nat} {s : SC} (h : rgC P N ops d vs pm=some s) : s.isRg=true:=by
 cases d <;> simp only [rgC,Bool.false_eq_true,if_false,if_true,Option.map_eq_some_iff] at h <;> obtain ⟨t,_,rfl⟩:=h
 ·rfl
 ·exact scT_rg _ t
theorem rgC_no {P : Program} {N : Nat} {ops : Array Oper} {d : Bool} {vs pm : List Nat} {s : SC} (h : rgC P N ops d vs pm=some s) (h1 : s.isRg=false) : False:=by
 rw [rgC_rg h] at h1; cases h1
theorem rg_sound {P : Program} {B N : Nat} {ops : Array Oper} {d : Bool} {vs pm : List Nat} {s : SC} (h : rgC P N ops d vs pm=some s) (Q : AQ) (g : Gh) (H : Heap) (w : World) (σ : Env) (a : Act) {df : List Deferred} (hW : WRel g B H w) (hE : ERel g σ a.tmps) (hN : a.tmps.size=N) (hd : a.defers=df)
  (hk : awp P B s Q σ H) (id : Nat) : (Code.region id ops d).wp P (Post Q g B w N df) a w:=by
 cases d <;> simp only [rgC,Bool.false_eq_true,if_false,if_true,Option.map_eq_some_iff] at h <;> obtain ⟨t,h,rfl⟩:=h
 ·exact wp_region (ops_sound _ _ h (Q .norm) g H w σ a _ hW hE hN hd hk fun a' w' hp=>hp)
 ·exact drawT_sound h (Q .norm) g H w σ a _ hW hE hN hd (scT_awp hk) (fun a' w' hp=>hp) id
def compileC (P : Program) (N : Nat) (hs : Hints) : Code→Option SC
 | .skip=>some .skip
 | .region id ops draw =>
  rgC P N ops draw ((hs.lookup id).elim [] (·.2)) ((hs.lookup id).elim [] (·.1))
 | .seq a b=>op2 .seq (compileC P N hs a) (compileC P N hs b)
 | .cond c a b=>match cx c with
  | some x=>op2 (.cond x) (compileC P N hs a) (compileC P N hs b)
  | none=>none
 | .block id c=>(compileC P N hs c).map (.block id)
 | .loop c=>(compileC P N hs c).map (.loop [])
 | .exit id=>some (.exit id)
 | .scope c=>(compileC P N hs c).map .scp
 | .label _=>some .skip
 | .ret=>some .ret
 | _=>none
theorem op2_some {f : SC→SC→SC} {a b : Option SC} {s : SC} (h : op2 f a b=some s) : ∃ x y,a=some x∧b=some y∧s=f x y:=by
 cases a <;> cases b <;> simp [op2] at h
 exact ⟨_,_,rfl,rfl,h.symm⟩
section
variable {P : Program} {B : Nat}
theorem wp_loop' {c : Code} {Q : Exit→Act→World→Prop} (I : Nat→Act→World→Prop) {n : Nat} {a : Act} {w : World} (h₀ : I n a w)
  (round : ∀ n a w,I n a w→c.wp P (Exit.then (fun a' w'=>∃ m,m<n∧I m a' w') Q) a w) : (Code.loop c).wp P Q a w:=by
 intro b k cs
 have key : ∀ n a w,I n a w →
   ∃ e a' w',Q e a' w'∧Arrives P (lone (b.at a (.code c::.inLoop c::k)) cs w) b k cs e a' w':=by
  intro n
  induction n using Nat.strongRecOn with
  | _ n ih =>
   intro a w hI
   obtain ⟨e,a₁,w₁,hq,harr⟩:=round n a w hI b (.inLoop c::k) cs
   cases e with
   | normal =>
    obtain ⟨m,hlt,hI₁⟩:=hq
    obtain ⟨e₂,a₂,w₂,hq₂,harr₂⟩:=ih m hlt a₁ w₁ hI₁;exact ⟨e₂,a₂,w₂,hq₂,.of_steps (Steps.trans harr (.one step_inLoop)) harr₂⟩
   | exit id=>exact ⟨_,a₁,w₁,hq,.pass (x:=.inLoop c) rfl (fun _ _=>.inl (by simp)) harr⟩
   | goto l=>exact ⟨_,a₁,w₁,hq,.pass (x:=.inLoop c) rfl (fun _ _=>.inl (by simp)) harr⟩
   | ret=>exact ⟨_,a₁,w₁,hq,.pass (x:=.inLoop c) rfl (fun _ _=>.inl (by simp)) harr⟩
   | panic ch=>exact ⟨_,a₁,w₁,hq,.pass (x:=.inLoop c) rfl (fun _ _=>.inl (by simp)) harr⟩
   | outgrown=>exact ⟨_,a₁,w₁,hq,.pass (x:=.inLoop c) rfl (fun _ _=>.inl (by simp)) harr⟩
 obtain ⟨e,a',w',hq,harr⟩:=key n a w h₀;exact ⟨e,a',w',hq,.of_steps (.one step_loop) harr⟩
theorem inv_skip {N : Nat} {hs : Hints} {c : Code} (h : compileC P N hs c=some .skip) : c=.skip∨∃ l,c=.label l:=by
 cases c <;> simp only [compileC,reduceCtorEq] at h <;> first | exact .inl rfl | exact .inr ⟨_,rfl⟩ | skip
 all_goals exfalso
 ·exact rgC_no h rfl
 ·obtain ⟨_,_,_,_,h⟩:=op2_some h; cases h
 ·split at h
  ·obtain ⟨_,_,_,_,h⟩:=op2_some h; cases h
  ·cases h
 ·rw [Option.map_eq_some_iff] at h; obtain ⟨_,_,h⟩:=h; cases h
 ·rw [Option.map_eq_some_iff] at h; obtain ⟨_,_,h⟩:=h; cases h
 ·cases h
 ·rw [Option.map_eq_some_iff] at h; obtain ⟨_,_,h⟩:=h; cases h
 ·cases h
theorem inv_rg {N : Nat} {hs : Hints} {c : Code} {s : SC} (h : compileC P N hs c=some s) (hr : s.isRg=true) : ∃ id ops d,c=.region id ops d∧rgC P N ops d ((hs.lookup id).elim [] (·.2)) ((hs.lookup id).elim [] (·.1))=some s:=by
 cases c <;> simp only [compileC,reduceCtorEq] at h
 case region id ops d=>exact ⟨id,ops,d,rfl,h⟩
 all_goals exfalso
 all_goals first
  | (obtain ⟨_,_,_,_,h⟩:=op2_some h; subst h; cases hr)
  | (rw [Option.map_eq_some_iff] at h; obtain ⟨_,_,h⟩:=h; subst h; cases hr)
  | (split at h <;> first | (obtain ⟨_,_,_,_,h⟩:=op2_some h; subst h; cases hr) | cases h)
  | (cases h; cases hr)
theorem inv_seq {N : Nat} {hs : Hints} {c : Code} {x y : SC} (h : compileC P N hs c=some (.seq x y)) : ∃ a b,c=.seq a b∧compileC P N hs a=some x∧compileC P N hs b=some y:=by
 cases c <;> simp only [compileC,reduceCtorEq] at h
 ·cases h
 ·exfalso; exact rgC_no h rfl
 ·obtain ⟨_,_,h1,h2,h⟩:=op2_some h; cases h; exact ⟨_,_,rfl,h1,h2⟩
 all_goals exfalso
 ·split at h
  ·obtain ⟨_,_,_,_,h⟩:=op2_some h; cases h
  ·cases h
 ·rw [Option.map_eq_some_iff] at h; obtain ⟨_,_,h⟩:=h; cases h
 ·rw [Option.map_eq_some_iff] at h; obtain ⟨_,_,h⟩:=h; cases h
 ·cases h
 ·rw [Option.map_eq_some_iff] at h; obtain ⟨_,_,h⟩:=h; cases h
 ·cases h
 ·cases h
theorem inv_cond {N : Nat} {hs : Hints} {c : Code} {z : X} {x y : SC} (h : compileC P N hs c=some (.cond z x y)) :
  ∃ o a b,c=.cond o a b∧cx o=some z∧compileC P N hs a=some x∧compileC P N hs b=some y:=by
 cases c <;> simp only [compileC,reduceCtorEq] at h
 ·cases h
 ·exfalso; exact rgC_no h rfl
 ·exfalso; obtain ⟨_,_,h1,h2,h⟩:=op2_some h; cases h
 ·split at h
  ·rename_i hz; obtain ⟨_,_,h1,h2,h⟩:=op2_some h; cases h; exact ⟨_,_,_,rfl,hz,h1,h2⟩
  ·cases h
 all_goals exfalso
 ·rw [Option.map_eq_some_iff] at h; obtain ⟨_,_,h⟩:=h; cases h
 ·rw [Option.map_eq_some_iff] at h; obtain ⟨_,_,h⟩:=h; cases h
 ·cases h
 ·rw [Option.map_eq_some_iff] at h; obtain ⟨_,_,h⟩:=h; cases h
 ·cases h
 ·cases h
theorem inv_block {N : Nat} {hs : Hints} {c : Code} {id : Nat} {x : SC} (h : compileC P N hs c=some (.block id x)) : ∃ a,c=.block id a∧compileC P N hs a=some x:=by
 cases c <;> simp only [compileC,reduceCtorEq] at h
 ·cases h
 ·exfalso; exact rgC_no h rfl
 ·exfalso; obtain ⟨_,_,h1,h2,h⟩:=op2_some h; cases h
 ·exfalso
  split at h
  ·obtain ⟨_,_,_,_,h⟩:=op2_some h; cases h
  ·cases h
 ·rw [Option.map_eq_some_iff] at h; obtain ⟨_,h1,h⟩:=h; cases h; exact ⟨_,rfl,h1⟩
 all_goals exfalso
 ·rw [Option.map_eq_some_iff] at h; obtain ⟨_,_,h⟩:=h; cases h
 ·cases h
 ·rw [Option.map_eq_some_iff] at h; obtain ⟨_,_,h⟩:=h; cases h
 ·cases h
 ·cases h
theorem inv_loop {N : Nat} {hs : Hints} {c : Code} {x : SC} (h : compileC P N hs c=some (.loop [] x)) : ∃ a,c=.loop a∧compileC P N hs a=some x:=by
 cases c <;> simp only [compileC,reduceCtorEq] at h
 ·cases h
 ·exfalso; exact rgC_no h rfl
 ·exfalso; obtain ⟨_,_,h1,h2,h⟩:=op2_some h; cases h
 ·exfalso
  split at h
  ·obtain ⟨_,_,_,_,h⟩:=op2_some h; cases h
  ·cases h
 ·exfalso; rw [Option.map_eq_some_iff] at h; obtain ⟨_,_,h⟩:=h; cases h
 ·rw [Option.map_eq_some_iff] at h; obtain ⟨_,h1,h⟩:=h; cases h; exact ⟨_,rfl,h1⟩
 all_goals exfalso
 ·cases h
 ·rw [Option.map_eq_some_iff] at h; obtain ⟨_,_,h⟩:=h; cases h
 ·cases h
 ·cases h
theorem inv_exit {N : Nat} {hs : Hints} {c : Code} {id : Nat} (h : compileC P N hs c=some (.exit id)) : c=.exit id:=by
 cases c <;> simp only [compileC,reduceCtorEq] at h
 ·cases h
 ·exfalso; exact rgC_no h rfl
 ·exfalso; obtain ⟨_,_,h1,h2,h⟩:=op2_some h; cases h
 ·exfalso
  split at h
  ·obtain ⟨_,_,_,_,h⟩:=op2_some h; cases h
  ·cases h
 ·exfalso; rw [Option.map_eq_some_iff] at h; obtain ⟨_,_,h⟩:=h; cases h
 ·exfalso; rw [Option.map_eq_some_iff] at h; obtain ⟨_,_,h⟩:=h; cases h
 ·cases h; rfl
 ·exfalso; rw [Option.map_eq_some_iff] at h; obtain ⟨_,_,h⟩:=h; cases h
 ·cases h
 ·cases h
theorem inv_ret {N : Nat} {hs : Hints} {c : Code} (h : compileC P N hs c=some .ret) : c=.ret:=by
 cases c <;> simp only [compileC,reduceCtorEq] at h
 ·cases h
 ·exfalso; exact rgC_no h rfl
 ·exfalso; obtain ⟨_,_,h1,h2,h⟩:=op2_some h; cases h
 ·exfalso
  split at h
  ·obtain ⟨_,_,_,_,h⟩:=op2_some h; cases h
  ·cases h
 ·exfalso; rw [Option.map_eq_some_iff] at h; obtain ⟨_,_,h⟩:=h; cases h
 ·exfalso; rw [Option.map_eq_some_iff] at h; obtain ⟨_,_,h⟩:=h; cases h
 ·cases h
 ·exfalso; rw [Option.map_eq_some_iff] at h; obtain ⟨_,_,h⟩:=h; cases h
 ·cases h
 ·rfl
theorem inv_scp {N : Nat} {hs : Hints} {c : Code} {x : SC} (h : compileC P N hs c=some (.scp x)) : ∃ a,c=.scope a∧compileC P N hs a=some x:=by
 cases c <;> simp only [compileC,reduceCtorEq] at h
 ·cases h
 ·exfalso; exact rgC_no h rfl
 ·exfalso; obtain ⟨_,_,h1,h2,h⟩:=op2_some h; cases h
 ·exfalso
  split at h
  ·obtain ⟨_,_,_,_,h⟩:=op2_some h; cases h
  ·cases h
 ·exfalso; rw [Option.map_eq_some_iff] at h; obtain ⟨_,_,h⟩:=h; cases h
 ·exfalso; rw [Option.map_eq_some_iff] at h; obtain ⟨_,_,h⟩:=h; cases h
 ·cases h
 ·rw [Option.map_eq_some_iff] at h; obtain ⟨_,h1,h⟩:=h; cases h; exact ⟨_,rfl,h1⟩
 ·cases h
 ·cases h
theorem chunk_length (sz : Nat) : ∀ (n : Nat) (cs : List AV),(chunk sz n cs).length=n
 | 0,_=>rfl
 | n+1,cs=>by simp [chunk,chunk_length sz n]
theorem AV.cells_one {c : AV} (h : c.one=true) : c.cells=[c]:=by
 cases c <;> first | rfl | (simp [AV.one] at h)
theorem chunk_cells {sz : Nat} (hz : 0<sz) : ∀ (n : Nat) (cs : List AV) (i : Nat),i<n→n*sz≤cs.length→(∀ c,c∈cs→c.one=true) →
  ((chunk sz n cs).getD i nv).cells.length=sz∧∀ j,j<sz→((chunk sz n cs).getD i nv).cells.getD j nv=cs.getD (i*sz+j) nv
 | 0,_,i,hi,_,_=>by omega
 | n+1,cs,i,hi,hl,ho=>by
  have hl' : n*sz+sz≤cs.length:=by rw [Nat.add_mul] at hl; omega
  cases i with
  | zero =>
   simp only [chunk,List.getD_cons_zero]
   by_cases h1 : sz=1
   ·subst h1;rw [if_pos rfl]
    cases cs with
    | nil=>simp at hl'
    | cons c cs =>
     simp only [List.headD_cons];rw [AV.cells_one (ho c (by simp))];refine ⟨rfl,fun j hj=>?_⟩
     have hj0 : j=0:=by omega
     subst hj0; rfl
   ·rw [if_neg h1];simp only [AV.cells,Nat.zero_mul,Nat.zero_add];refine ⟨by simp; omega,fun j hj=>?_⟩
    simp [List.getD_eq_getElem?_getD,hj]
  | succ i =>
   simp only [chunk,List.getD_cons_succ]
   obtain ⟨h1,h2⟩:=chunk_cells hz n (cs.drop sz) i (by omega) (by simp; omega) (fun c hc=>ho c (List.mem_of_mem_drop hc));refine ⟨h1,fun j hj=>?_⟩;rw [h2 j hj];simp only [List.getD_eq_getElem?_getD,List.getElem?_drop];rw [show sz+(i*sz+j)=(i+1)*sz+j by rw [Nat.add_mul]; omega]
theorem fz_wk {t : Nat} {F : Env→Heap→Prop} {σ : Env} {H : Heap} (h : fzW t F σ H (σ.get t)) : ∃ σ' H',Wk σ H σ' H'∧F σ' H':=by
 cases hg : σ.get t with
 | none=>rw [hg] at h; exact ⟨σ,H,fun g B w tm a b=>⟨g,.refl g,a,b⟩,h⟩
 | some v =>
  rw [hg] at h
  by_cases hn : v=.nilsl
  ·subst hn;refine ⟨_,H,fun g B w tm a b=>⟨g,.refl g,a,fun s x e=>?_⟩,h⟩;simp only [Env.put,Env.get] at e
   split at e
   ·rename_i hs; cases e; subst hs
    obtain ⟨q1,q2⟩:=b s _ hg;refine ⟨q1, ?_⟩
    generalize tm.getD s undef=u at q2
    cases q2; exact .slnil none 0
   ·exact b s x e
  ·by_cases hb : ∃ id n,v=.buf id n
   ·obtain ⟨id,n,rfl⟩:=hb;simp only [fzW] at h
    cases ho : H.get id with
    | none=>simp [ho,fz1] at h
    | some o =>
     cases o with
     | map _ _=>simp [ho,fz1] at h
     | cells sz cs f =>
      simp only [ho,fz1] at h
      obtain ⟨⟨h1,hz,ho1⟩,h3⟩:=h;refine ⟨_,_,fun g B w tm hW hE=>?_,h3⟩
      have h2 : ∀ i,i<n→((chunk sz n cs).getD i nv).cells.length=sz:=fun i hi=>(chunk_cells hz n cs i hi (by omega) ho1).1
      obtain ⟨q1,q2⟩:=hE t _ hg
      generalize hu : tm.getD t undef=u at q2
      cases q2 with
      | bufnil _ hio =>
       obtain ⟨p,hp,hr⟩:=hW.ob id _ ho;rw [hio] at hp; cases hp;simp only [ObjRel] at hr
       obtain ⟨rfl,rfl⟩:=hr;refine ⟨g,.refl g,hW.sub ?_,fun s x e=>?_⟩
       ·intro k o e
        by_cases hk : k=id
        ·subst hk; simp at e; subst e; exact ho
        ·rwa [Heap.get_set_ne _ _ hk] at e
       ·simp only [Env.put,Env.get] at e
        split at e
        ·rename_i hs; cases e; subst hs
         refine ⟨q1, ?_⟩;rw [hu]; exact .slnil none 0
        ·exact hE s x e
      | buf _ _ b cap hio =>
       obtain ⟨c,g',r1,r2,r3,r4,r5,r6⟩:=hW.give id b cap sz cs f ho hio
       obtain ⟨_,_,_,_,_,hmx,hcs,hcl,_⟩:=hW.obj hio ho;refine ⟨g',r1,r2,fun s x e=>?_⟩;simp only [Env.put,Env.get] at e
       split at e
       ·rename_i hs; cases e; subst hs
        refine ⟨q1, ?_⟩;rw [hu]
        have hlen:=chunk_length sz n cs
        have key : VRel g' (.sl (chunk sz n cs)) (.slice (some ⟨b,0,none⟩) (chunk sz n cs).length cap):=by
         refine .sl _ b 0 sz cap (fun k=>c.getD k undef) ?_ ?_ ?_ ?_ ?_
         ·rw [hlen]
          have : n*1≤n*sz:=Nat.mul_le_mul_left _ hz;omega
         ·rw [hlen]
          have q : n*sz≤cap*sz:=by rw [← hcs,← h1]; exact hcl
          exact Nat.le_of_mul_le_mul_right q hz
         ·intro i hi; rw [hlen] at hi; exact h2 i hi
         ·intro i j hi hj;rw [hlen] at hi
          have hlt : i*sz+j<cs.length:=by
           rw [h1]
           have : (i+1)*sz≤n*sz:=Nat.mul_le_mul_right _ hi;rw [Nat.add_mul] at this; omega
          rw [Nat.zero_add]; exact r5 _ hlt
         ·intro i j hi hj;rw [hlen] at hi
          have hlt : i*sz+j<cs.length:=by
           rw [h1]
           have : (i+1)*sz≤n*sz:=Nat.mul_le_mul_right _ hi;rw [Nat.add_mul] at this; omega
          rw [(chunk_cells hz n cs i hi (by omega) ho1).2 j hj];exact r6 _ hlt
        rw [hlen] at key; exact key
       ·obtain ⟨z1,z2⟩:=hE s x e; exact ⟨z1,z2.mono r1⟩
   ·refine ⟨σ,H,fun g B w tm a b=>⟨g,.refl g,a,b⟩, ?_⟩;unfold fzW at h
    split at h
    ·rename_i heq; cases heq; exact absurd ⟨_,_,rfl⟩ hb
    ·rename_i heq; cases heq; exact absurd rfl hn
    ·exact h
theorem seq_sound' {N : Nat} {hs : Hints} {df : List Deferred} {x y : Code} {A : Env→Heap→Prop} {Q : AQ} {g : Gh} {w : World} {a : Act}
  (h1 : x.wp P (Post (seqQ A Q) g B w N df) a w)
  (h2 : ∀ g' σ' H' w' a',WRel g' B H' w'→ERel g' σ' a'.tmps→a'.tmps.size=N→a'.defers=df→A σ' H'→y.wp P (Post Q g' B w' N df) a' w') :
  (Code.seq x y).wp P (Post Q g B w N df) a w:=by
 refine wp_seq (wp_mono h1 fun e a' w' hp=>?_)
 cases e with
 | normal =>
  obtain ⟨g',σ',H',q1,q2,q3,q4,q5,q6,q7⟩:=hp;exact wp_mono (h2 g' σ' H' w' a' q3 q4 q6 q7 q2) fun e2 a2 w2 hp2=>hp2.from q1 q5
 | exit id=>exact hp
 | ret=>exact hp
 | goto l=>exact hp.elim
 | panic ch=>exact hp.elim
 | outgrown=>exact hp.elim
theorem awp_sound {N : Nat} {hs : Hints} {df : List Deferred} : ∀ (s : SC) (c : Code),compileC P N hs c=some s.strip →
  ∀ (Q : AQ) (g : Gh) (H : Heap) (w : World) (σ : Env) (a : Act),WRel g B H w→ERel g σ a.tmps→a.tmps.size=N→a.defers=df →
   awp P B s Q σ H→c.wp P (Post Q g B w N df) a w:=by
 intro s
 induction s with
 | skip =>
  intro c hc Q g H w σ a hW hE hN hd hk
  rcases inv_skip hc with rfl | ⟨_,rfl⟩
  ·exact wp_skip ⟨g,σ,H,.refl g,hk,hW,hE,.refl B w,hN,hd⟩
  ·exact wp_label ⟨g,σ,H,.refl g,hk,hW,hE,.refl B w,hN,hd⟩
 | reg l =>
  intro c hc Q g H w σ a hW hE hN hd hk
  obtain ⟨id,ops,d,rfl,h⟩:=inv_rg hc rfl;exact rg_sound h Q g H w σ a hW hE hN hd hk id
 | two p l l' =>
  intro c hc Q g H w σ a hW hE hN hd hk
  obtain ⟨id,ops,d,rfl,h⟩:=inv_rg hc rfl;exact rg_sound h Q g H w σ a hW hE hN hd hk id
 | tre t =>
  intro c hc Q g H w σ a hW hE hN hd hk
  obtain ⟨id,ops,d,rfl,h⟩:=inv_rg hc rfl;exact rg_sound h Q g H w σ a hW hE hN hd hk id
 | seq x y ihx ihy =>
  intro c hc Q g H w σ a hW hE hN hd hk
  obtain ⟨c1,c2,rfl,h1,h2⟩:=inv_seq hc;exact seq_sound' (hs:=hs) (ihx c1 h1 _ g H w σ a hW hE hN hd hk) fun g' σ' H' w' a' p1 p2 p3 p4 p5=>ihy c2 h2 Q g' H' w' σ' a' p1 p2 p3 p4 p5
 | fz t x ih =>
  intro c hc Q g H w σ a hW hE hN hd hk;simp only [awp] at hk
  obtain ⟨σ1,H1,hwk,hM⟩:=fz_wk hk
  obtain ⟨g1,r1,r2,r3⟩:=hwk g B w a.tmps hW hE;exact wp_mono (ih c hc Q g1 H1 w σ1 a r2 r3 hN hd hM) fun e2 a2 w2 hp2=>hp2.from r1 (.refl B w)
 | cut l x y ihx ihy =>
  intro c hc Q g H w σ a hW hE hN hd hk
  obtain ⟨c1,c2,rfl,h1,h2⟩:=inv_seq hc
  obtain ⟨M,k1,k2⟩:=hk
  have hx:=ihx c1 h1 _ g H w σ a hW hE hN hd k1;refine seq_sound' (hs:=hs) (A:=fun σ H=>wkW M (Env.keep l σ) H) (wp_mono hx fun e a' w' hp=>?_) fun g' σ' H' w' a' p1 p2 p3 p4 p5=>?_
  ·cases e <;> exact hp
  ·obtain ⟨σ1,H1,hwk,hM⟩:=p5
   obtain ⟨g1,r1,r2,r3⟩:=hwk g' B w' a'.tmps p1 (p2.keep l);exact wp_mono (ihy c2 h2 Q g1 H1 w' σ1 a' r2 r3 p3 p4 (k2 _ _ hM)) fun e2 a2 w2 hp2=>hp2.from r1 (.refl B w')
 | cond z x y ihx ihy =>
  intro c hc Q g H w σ a hW hE hN hd hk
  obtain ⟨o,c1,c2,rfl,hz,h1,h2⟩:=inv_cond hc;simp only [awp] at hk
  cases hv : val σ z with
  | none=>simp [hv,cndW] at hk
  | some v =>
   have hr:=val_rel hE hz hv;rw [hv] at hk
   cases v <;> try (simp [cndW] at hk; done)
   rename_i b
   have hb : a.eval o=.bool b:=by
    generalize a.eval o=u at hr
    cases hr; rfl
   simp only [cndW,At] at hk;refine wp_cond_split hb (fun ht=>?_) (fun hf=>?_)
   ·exact ihx c1 h1 Q g H w σ a hW hE hN hd (hk.1 ht)
   ·exact ihy c2 h2 Q g H w σ a hW hE hN hd (hk.2 hf)
 | block id x ih =>
  intro c hc Q g H w σ a hW hE hN hd hk
  obtain ⟨c1,rfl,h1⟩:=inv_block hc;refine wp_block (wp_mono (ih c1 h1 _ g H w σ a hW hE hN hd hk) fun e a' w' hp=>?_)
  cases e with
  | normal=>exact hp
  | exit id' =>
   simp only [Exit.inBlock];simp only [Post,PostA,blkQ] at hp
   by_cases h : id'=id
   ·rw [if_pos h]; simp only [h,if_true] at hp; exact hp
   ·rw [if_neg h]; simp only [h,if_false] at hp; exact hp
  | ret=>exact hp
  | goto l=>exact hp.elim
  | panic ch=>exact hp.elim
  | outgrown=>exact hp.elim
 | loop l x ih =>
  intro c hc Q g H w σ a hW hE hN hd hk
  obtain ⟨c1,rfl,h1⟩:=inv_loop hc
  obtain ⟨I,n,σ0,H0,k1,k2,k3⟩:=hk
  obtain ⟨g0,r1,r2,r3⟩:=k2 g B w a.tmps hW (hE.keep l);refine wp_loop' (fun n a' w'=>PostA (I n) g B w N df a' w') (n:=n) ⟨g0,σ0,H0,r1,k1,r2,r3,.refl B w,hN,hd⟩ ?_
  intro n a' w' ⟨g',σ',H',q1,q2,q3,q4,q5,q6,q7⟩;refine wp_mono (ih c1 h1 _ g' H' w' σ' a' q3 q4 q6 q7 (k3 n σ' H' q2)) fun e a2 w2 hp=>?_
  cases e with
  | normal =>
   obtain ⟨g2,σ2,H2,p1,⟨m,σ3,H3,hm,hI,hwk⟩,p3,p4,p5,p6,p7⟩:=hp
   obtain ⟨g3,s1,s2,s3⟩:=hwk g2 B w2 a2.tmps p3 (p4.keep l);exact ⟨m,hm,g3,σ3,H3,q1.trans (p1.trans s1),hI,s2,s3,q5.trans p5,p6,p7⟩
  | exit id'=>exact Post.from (e:=.exit id') q1 q5 hp
  | ret=>exact Post.from (e:=.ret) q1 q5 hp
  | goto l=>exact hp.elim
  | panic ch=>exact hp.elim
  | outgrown=>exact hp.elim
 | exit id =>
  intro c hc Q g H w σ a hW hE hN hd hk
  have:=inv_exit hc; subst this;exact wp_exit ⟨g,σ,H,.refl g,hk,hW,hE,.refl B w,hN,hd⟩
 | ret =>
  intro c hc Q g H w σ a hW hE hN hd hk
  have:=inv_ret hc; subst this;exact wp_ret ⟨g,σ,H,.refl g,hk,hW,hE,.refl B w,hN,hd⟩
 | scp x ih =>
  intro c hc Q g H w σ a hW hE hN hd hk
  obtain ⟨c1,rfl,h1⟩:=inv_scp hc;refine wp_scope_straight (wp_mono (ih c1 h1 Q g H w σ a hW hE hN hd hk) fun e a2 w2 hp=>?_)
  cases e <;> exact hp
 | keep l x ih =>
  intro c hc Q g H w σ a hW hE hN hd hk;exact ih c hc Q g H w _ a hW (hE.keep l) hN hd hk
 | wk x ih =>
  intro c hc Q g H w σ a hW hE hN hd hk
  obtain ⟨σ1,H1,hwk,hM⟩:=hk
  obtain ⟨g1,r1,r2,r3⟩:=hwk g B w a.tmps hW hE;exact wp_mono (ih c hc Q g1 H1 w σ1 a r2 r3 hN hd hM) fun e2 a2 w2 hp2=>hp2.from r1 (.refl B w)
inductive RV where
 | tmp (t : Nat)
 | cell (t : Nat) (n : Option Nat)
def compileR (P : Program) : ResultVar→Option RV
 | .tmp t=>some (.tmp t)
 | .cell t ty=>(aggOf P ty).map (.cell t)
def compileRs (P : Program) : List ResultVar→Option (List RV)
 | []=>some []
 | r::rs=>match compileR P r,compileRs P rs with
  | some a,some b=>some (a::b)
  | _,_=>none
def rcV (n : Option Nat) : Option AV→Heap→Option AV
 | some (.ref id off),H=>match H.get id,n with
  | some (.cells _ cs _),none=>if off<cs.length then some (cs.getD off nv) else none
  | some (.cells _ cs _),some n=>if off+n≤cs.length then some (.agg ((cs.drop off).take n)) else none
  | _,_=>none
 | some (.ptr cs),_=>match n with
  | none=>match cs with
   | c::_=>some c
   | []=>none
  | some n=>if cs.length=n then some (.agg cs) else none
 | _,_=>none
def rvV (σ : Env) (H : Heap) : RV→Option AV
 | .tmp t=>σ.get t
 | .cell t n=>rcV n (σ.get t) H
def rvVs (σ : Env) (H : Heap) : List RV→Option (List AV)
 | []=>some []
 | r::rs=>consO (rvV σ H r) (rvVs σ H rs)
def retV : Option (List AV)→Kont→Heap→Prop
 | some [v],K,H=>K v H
 | some vs,K,H=>K (.tup vs) H
 | none,_,_=>False
def subW (K : Kont) : Kont:=fun v H=>∃ H',Heap.sub H' H∧K v H'
def retQ (rs : List RV) (K : Kont) : AQ
 | .norm,σ,H=>retV (rvVs σ H rs) (subW K) H
 | .ret,σ,H=>retV (rvVs σ H rs) (subW K) H
 | _,_,_=>False
def envOf : Nat→List AV→Env
 | _,[]=>[]
 | k,a::r=>(k,some a)::envOf (k+1) r
theorem envOf_get : ∀ (as : List AV) (k t : Nat) (v : AV),(envOf k as).get t=some v→k≤t∧t<k+as.length∧v=as.getD (t - k) nv
 | [],k,t,v,h=>by simp [envOf,Env.get] at h
 | a::r,k,t,v,h=>by
  simp only [envOf,Env.get] at h
  split at h
  ·rename_i e; cases h; subst e; simp
  ·obtain ⟨h1,h2,h3⟩:=envOf_get r (k+1) t v h
   have e1 : t - k=(t - (k+1))+1:=by omega
   exact ⟨by omega,by simp; omega,by rw [e1]; simpa using h3⟩
theorem rv_run {g : Gh} {H : Heap} {w : World} {σ : Env} {a : Act} (hW : WRel g B H w) (hE : ERel g σ a.tmps) {r : ResultVar} {rv : RV} (hr : compileR P r=some rv) {v : AV} (hv : rvV σ H rv=some v) :
  ∃ u,(match r with
   | .tmp t=>pure (a.tmps.getD t undef)
   | .cell ad t=>do loadVar t (← asAddr (a.tmps.getD ad undef)) : Sem Value).run P w=.ok u w∧VRel g v u:=by
 cases r with
 | tmp t =>
  cases hr;exact ⟨_,rfl,(hE t v hv).2⟩
 | cell t ty =>
  simp only [compileR,Option.map_eq_some_iff] at hr
  obtain ⟨n,hn,rfl⟩:=hr;simp only [rvV] at hv
  cases hg : σ.get t with
  | none=>cases n <;> simp [hg,rcV] at hv
  | some av =>
   obtain ⟨h1,h2⟩:=hE t av hg;rw [hg] at hv
   cases av <;> try (cases n <;> simp [rcV] at hv; done)
   case ptr cs =>
    have hl : ∃ p r,ldE n (some (.ptr cs))=some (p,r)∧p∧r=v:=by
     cases n with
     | none =>
      cases cs with
      | nil=>simp [rcV] at hv
      | cons c cs=>simp [rcV] at hv; exact ⟨True,c,rfl,trivial,hv⟩
     | some n =>
      simp only [rcV] at hv
      split at hv
      ·rename_i hlen; cases hv; exact ⟨_,_,rfl,hlen,rfl⟩
      ·cases hv
    obtain ⟨p,r,e1,e2,rfl⟩:=hl
    obtain ⟨u,q1,q2⟩:=loadAt_ptr (P:=P) hW hn h2 e1 e2;refine ⟨u, ?_,q2⟩
    obtain ⟨b,o,hev⟩ : ∃ b o,a.tmps.getD t undef=.pointer (some ⟨b,o,none⟩):=by
     generalize a.tmps.getD t undef=uv at h2
     cases h2; exact ⟨_,_,rfl⟩
    show ((do loadVar ty (← asAddr (a.tmps.getD t undef))) : Sem Value).run P w=_
    rw [hev] at q1 ⊢
    simpa [asAddr,Instr.loadAt,Instr.sureAddr] using q1
   case ref id off =>
    have hl : rd1 (H.get id) n off (fun r H'=>r=v∧H'=H) H:=by
     simp only [rcV] at hv
     cases ho : H.get id with
     | none=>simp [ho] at hv
     | some o =>
      cases o with
      | map _ _=>cases n <;> simp [ho] at hv
      | cells sz cs f =>
       cases n with
       | none=>simp only [ho] at hv; split at hv <;> simp_all [rd1]
       | some n=>simp only [ho] at hv; split at hv <;> simp_all [rd1]
    obtain ⟨u,q1,q2⟩:=load_ref (P:=P) hW hn h2 hl
    obtain ⟨g',r,H',p1,⟨rfl,rfl⟩,p3,p4,p5⟩:=q2
    have hself : VRel g r u:=by
     have hl2 : rd1 (H'.get id) n off (fun r' H''=>r'=r∧H''=H') H':=hl
     generalize hk0 : a.tmps.getD t undef=uv at h2 q1
     cases h2
     rename_i b cap hio
     cases ho : H'.get id with
     | none=>simp [ho,rd1] at hl2
     | some o =>
      cases o with
      | map _ _=>cases n <;> simp [ho,rd1] at hl2
      | cells sz cs f =>
       obtain ⟨c,el,h5,_,_,_,h6,h7,h8⟩:=hW.obj hio ho
       cases n with
       | none =>
        simp only [ho,rd1] at hl2
        obtain ⟨z1,z2,-⟩:=hl2
        have hc : w.cell? ⟨b,off,none⟩=some (c.getD off undef):=by rw [cell_of_row w b off c el _ h5]; exact getD_some (by omega)
        simp only [Instr.loadAt,Instr.sureAddr,loadVar,Sem.run_bind,Sem.run_pure,Result.andThen_ok,aggOf_scalar hn] at q1;simp only [Bool.false_eq_true,if_false,run_load,hc,Result.ok.injEq,and_true] at q1;rw [← q1,← z2]; exact h8 off z1
       | some n =>
        simp only [ho,rd1] at hl2
        obtain ⟨z1,z2,-⟩:=hl2
        obtain ⟨y1,i,y2,y3⟩:=aggOf_agg (w:=w) hn
        have hll:=run_loadCells (P:=P) w ⟨b,off,none⟩ n (fun j=>c.getD (off+j) undef) (fun j hj=>by
         rw [Addr.add_lit,cell_of_row w b (off+j) c el _ h5]; exact getD_some (by omega))
        simp only [Instr.loadAt,Instr.sureAddr,loadVar,Sem.run_bind,Sem.run_pure,Result.andThen_ok,y1,if_true,sizeOf,typeInfo,run_program,y2,y3] at q1;simp only [hll,Result.andThen_ok,Sem.run_pure',Sem.run_pure,Result.ok.injEq,and_true] at q1;rw [← q1,← z2];refine .agg _ _ (by simp; omega) fun j hj=>?_
        have hj' : j<n:=by simp at hj; omega
        have e1 : ((cs.drop off).take n).getD j nv=cs.getD (off+j) nv:=by simp [List.getD_eq_getElem?_getD,hj']
        have e2 : (((List.range n).map fun j=>c.getD (off+j) undef).toArray).getD j undef=c.getD (off+j) undef:=by simp [Array.getD,hj']
        rw [e1,e2];exact h8 _ (by omega)
    refine ⟨u, ?_,hself⟩
    obtain ⟨b,o,hev⟩ : ∃ b o,a.tmps.getD t undef=.pointer (some ⟨b,o,none⟩):=by
     generalize a.tmps.getD t undef=uv at h2
     cases h2; exact ⟨_,_,rfl⟩
    show ((do loadVar ty (← asAddr (a.tmps.getD t undef))) : Sem Value).run P w=_
    rw [hev] at q1 ⊢
    simpa [asAddr,Instr.loadAt,Instr.sureAddr] using q1
theorem rvs_run {g : Gh} {H : Heap} {w : World} {σ : Env} {a : Act} (hW : WRel g B H w) (hE : ERel g σ a.tmps) : ∀ {rs : List ResultVar} {rvs : List RV} {vs : List AV},compileRs P rs=some rvs →
  rvVs σ H rvs=some vs→∃ us : List Value,(rs.mapM fun r=>(match r with
   | .tmp t=>pure (a.tmps.getD t undef)
   | .cell ad t=>do loadVar t (← asAddr (a.tmps.getD ad undef)) : Sem Value)).run P w=.ok us w∧us.length=vs.length∧∀ i,i<vs.length→VRel g (vs.getD i nv) (us.getD i undef)
 | [],rvs,vs,h,hv=>by
  cases h; cases hv;exact ⟨[],by simp,rfl,by simp⟩
 | r::rs,rvs,vs,h,hv=>by
  unfold compileRs at h
  split at h
  ·rename_i x y h1 h2
   cases h
   obtain ⟨v,vs',q1,q2,rfl⟩:=consO_some hv
   obtain ⟨u,p1,p2⟩:=rv_run (P:=P) hW hE h1 q1
   obtain ⟨us,p3,p4,p5⟩:=rvs_run hW hE h2 q2;refine ⟨u::us, ?_,by simp [p4],fun i hi=>?_⟩
   ·simp only [List.mapM_cons,Sem.run_bind,p1,Result.andThen_ok,p3,Sem.run_pure]
   ·cases i with
    | zero=>exact p2
    | succ i=>simpa using p5 i (by simpa using hi)
  ·cases h
theorem CallH.of_awp {f : FuncId} {fn : Func} {c : Code} {s : SC} {hs : Hints} {rvs : List RV} (hf : P.funcs[f]? = some fn) (hb : fn.body = some c) (hn : (fn.name == "runtime.NumGoroutine") = false)
  (hc : compileC P fn.ntmps hs c=some s.strip) (hr : compileRs P fn.results.toList=some rvs) {args : List AV} (hargs : args.length≤fn.ntmps) {H : Heap} {K : Kont}
  (hk : awp P B s (retQ rvs K) (envOf 0 args) H) : CallH P B f args H K:=by
 refine ⟨⟨fn,hf,by simp [hb],hn⟩,fun g w vs hW hv=>?_⟩;refine calls_of_wp hf hb ?_
 have hsz : (vs++Array.replicate (fn.ntmps - vs.size) undef).size=fn.ntmps:=by simp [hv.1]; omega
 have hE : ERel g (envOf 0 args) (vs++Array.replicate (fn.ntmps - vs.size) undef):=by
  intro t v ht
  obtain ⟨h1,h2,h3⟩:=envOf_get args 0 t v ht;simp only [Nat.zero_add,Nat.sub_zero] at h2 h3;refine ⟨by rw [hsz]; omega, ?_⟩
  have : (vs++Array.replicate (fn.ntmps - vs.size) undef).getD t undef=vs.getD t undef:=by
   simp only [Array.getD_eq_getD_getElem?];rw [Array.getElem?_append_left (by rw [hv.1]; exact h2)]
  rw [this,h3];exact hv.2 t h2
 have hwp:=awp_sound (df:=[]) s c hc (retQ rvs K) g H w (envOf 0 args) { tmps:=vs++Array.replicate (fn.ntmps - vs.size) undef,defers:=[] } hW hE hsz rfl hk
 have hres : ∀ (e : AEx) σ' H' g' (a' : Act) w',retQ rvs K e σ' H'→g.le g'→WRel g' B H' w'→ERel g' σ' a'.tmps→Below B w w'→∃ v,(results fn a'.tmps).run P w'=.ok v w'∧FinV g B w K v w':=by
  intro e σ' H' g' a' w' hq hle hW' hE' hbel
  have hq' : retV (rvVs σ' H' rvs) (subW K) H':=by cases e <;> first | exact hq | exact hq.elim
  cases hvs : rvVs σ' H' rvs with
  | none=>simp [hvs,retV] at hq'
  | some avs =>
   rw [hvs] at hq'
   obtain ⟨us,p1,p2,p3⟩:=rvs_run (P:=P) hW' hE' hr hvs
   have hrun : (results fn a'.tmps).run P w'=.ok (if h : us.toArray.size=1 then us.toArray[0] else .tuple us.toArray) w':=by
    unfold results;rw [Array.mapM_eq_mapM_toList]
    have p1' : ((fn.results.toList.mapM fun r=>(match r with
     | .tmp t=>pure (a'.tmps.getD t undef)
     | .cell ad t=>do loadVar t (← asAddr (a'.tmps.getD ad undef)) : Sem Value)) : Sem (List Value)).run P w'=.ok us w':=p1
    simp only [Sem.run_bind,Sem.run_map];refine Eq.trans (congrArg (fun r=>Result.andThen (Result.andThen r _) _) p1') ?_
    rfl
   refine ⟨_,hrun, ?_⟩
   by_cases hone : avs.length=1
   ·obtain ⟨v,rfl⟩:=List.length_eq_one_iff.1 hone;simp only [retV] at hq'
    obtain ⟨H2,hs2,hk2⟩:=hq'
    obtain ⟨u,rfl⟩:=List.length_eq_one_iff.1 (p2.trans rfl);refine ⟨g',v,H2,hle,hk2, ?_,hW'.sub hs2,hbel⟩
    simpa using p3 0 (by simp)
   ·have hq2 : subW K (.tup avs) H':=by
     cases avs with
     | nil=>exact hq'
     | cons v1 r=>cases r with
      | nil=>exact absurd rfl hone
      | cons v2 r=>exact hq'
    obtain ⟨H2,hs2,hk2⟩:=hq2
    have hne : ¬ us.toArray.size=1:=by simp; omega
    refine ⟨g',.tup avs,H2,hle,hk2, ?_,hW'.sub hs2,hbel⟩;rw [dif_neg hne];exact .tup avs us.toArray (by simp [p2]) fun i hi=>by simpa using p3 i hi
 refine wp_mono hwp fun e a' w' hp=>?_
 cases e with
 | normal =>
  obtain ⟨g',σ',H',q1,q2,q3,q4,q5,q6,q7⟩:=hp
  obtain ⟨v,r1,r2⟩:=hres .norm σ' H' g' a' w' q2 q1 q3 q4 q5;exact ⟨q7,v,r1,v,rfl,r2⟩
 | ret =>
  obtain ⟨g',σ',H',q1,q2,q3,q4,q5,q6,q7⟩:=hp
  obtain ⟨v,r1,r2⟩:=hres .ret σ' H' g' a' w' q2 q1 q3 q4 q5;exact ⟨q7,v,r1,v,rfl,r2⟩
 | exit id =>
  obtain ⟨g',σ',H',q1,q2,_⟩:=hp;exact q2.elim
 | goto l=>exact hp.elim
 | panic ch=>exact hp.elim
 | outgrown=>exact hp.elim
end
end Go.AW
namespace Go.AW
section
variable {P : Program} {B : Nat} {Q : AQ} {F : Env→Heap→Prop} {σ : Env} {H : Heap} {d : Option Nat}
@[go_sem] theorem awp_skip : awp P B .skip Q σ H=Q .norm σ H:=rfl
@[go_sem] theorem awp_tre (t : OrdT) : awp P B (.tre t) Q σ H=otW P B t (Q .norm) σ H:=rfl
@[go_sem] theorem otW_fin (l : List SOp) (F : Env→Heap→Prop) : otW P B (.fin l) F σ H=opsW P B l F σ H:=rfl
@[go_sem] theorem otW_br (l : List SOp) (ts : OrdT) (F : Env→Heap→Prop) : otW P B (.br l ts) F σ H=opsW P B l (otW P B ts F) σ H:=rfl
@[go_sem] theorem otW_nil (F : Env→Heap→Prop) : otW P B .nil F σ H=True:=rfl
@[go_sem] theorem otW_alt (h : SOp) (t ts : OrdT) (F : Env→Heap→Prop) : otW P B (.alt h t ts) F σ H=(opsW P B [h] (otW P B t F) σ H∧otW P B ts F σ H):=rfl
@[go_sem] theorem awp_two (p l l' : List SOp) : awp P B (.two p l l') Q σ H=opsW P B p (fun σ H=>opsW P B l (Q .norm) σ H∧opsW P B l' (Q .norm) σ H) σ H:=rfl
@[go_sem] theorem awp_reg (l : List SOp) : awp P B (.reg l) Q σ H=opsW P B l (Q .norm) σ H:=rfl
@[go_sem] theorem awp_seq (a b : SC) : awp P B (.seq a b) Q σ H=awp P B a (seqQ (awp P B b Q) Q) σ H:=rfl
@[go_sem] theorem awp_cond (x : X) (a b : SC) : awp P B (.cond x a b) Q σ H=cndW (val σ x) (awp P B a Q) (awp P B b Q) σ H:=rfl
@[go_sem] theorem awp_block (id : Nat) (c : SC) : awp P B (.block id c) Q σ H=awp P B c (blkQ id Q) σ H:=rfl
@[go_sem] theorem awp_exit (id : Nat) : awp P B (.exit id) Q σ H=Q (.exit id) σ H:=rfl
@[go_sem] theorem awp_scp (c : SC) : awp P B (.scp c) Q σ H=awp P B c Q σ H:=rfl
@[go_sem] theorem awp_ret : awp P B .ret Q σ H=Q .ret σ H:=rfl
@[go_sem] theorem awp_keep (l : List Nat) (c : SC) : awp P B (.keep l c) Q σ H=awp P B c Q (Env.keep l σ) H:=rfl
@[go_sem] theorem awp_fz (t : Nat) (c : SC) : awp P B (.fz t c) Q σ H=fzW t (awp P B c Q) σ H (σ.get t):=rfl
@[go_sem] theorem seqQ_norm : seqQ F Q .norm σ H=F σ H:=rfl
@[go_sem] theorem seqQ_norm' : seqQ F Q .norm=F:=rfl
@[go_sem] theorem seqQ_exit (i : Nat) : seqQ F Q (.exit i) σ H=Q (.exit i) σ H:=rfl
@[go_sem] theorem seqQ_ret : seqQ F Q .ret σ H=Q .ret σ H:=rfl
@[go_sem] theorem blkQ_norm (i : Nat) : blkQ i Q .norm σ H=Q .norm σ H:=rfl
@[go_sem] theorem blkQ_norm' (i : Nat) : blkQ i Q .norm=Q .norm:=rfl
@[go_sem] theorem blkQ_exit (i j : Nat) : blkQ j Q (.exit i) σ H=(match Nat.beq i j with | true=>Q .norm σ H | false=>Q (.exit i) σ H):=by
 show (if i=j then Q .norm σ H else Q (.exit i) σ H)=_
 by_cases h : i=j
 ·subst h; simp
 ·rw [if_neg h,show Nat.beq i j=false from Bool.eq_false_iff.mpr fun e=>h (Nat.eq_of_beq_eq_true e)]
@[go_sem] theorem blkQ_ret (i : Nat) : blkQ i Q .ret σ H=Q .ret σ H:=rfl
@[go_sem] theorem lpQ_norm (l : List Nat) (I : Nat→Env→Heap→Prop) (n : Nat) : lpQ l I n Q .norm σ H=∃ m σ' H',m<n∧I m σ' H'∧Wk (Env.keep l σ) H σ' H':=rfl
@[go_sem] theorem lpQ_exit (l : List Nat) (I : Nat→Env→Heap→Prop) (n i : Nat) : lpQ l I n Q (.exit i) σ H=Q (.exit i) σ H:=rfl
@[go_sem] theorem lpQ_ret (l : List Nat) (I : Nat→Env→Heap→Prop) (n : Nat) : lpQ l I n Q .ret σ H=Q .ret σ H:=rfl
@[go_sem] theorem ctQ_norm (l : List Nat) (M : Env→Heap→Prop) : ctQ l M Q .norm σ H=wkW M (Env.keep l σ) H:=rfl
@[go_sem] theorem ctQ_exit (l : List Nat) (M : Env→Heap→Prop) (i : Nat) : ctQ l M Q (.exit i) σ H=Q (.exit i) σ H:=rfl
@[go_sem] theorem ctQ_ret (l : List Nat) (M : Env→Heap→Prop) : ctQ l M Q .ret σ H=Q .ret σ H:=rfl
@[go_sem] theorem retQ_ret (rs : List RV) (K : Kont) : retQ rs K .ret σ H=retV (rvVs σ H rs) (subW K) H:=rfl
@[go_sem] theorem retQ_norm (rs : List RV) (K : Kont) : retQ rs K .norm σ H=retV (rvVs σ H rs) (subW K) H:=rfl
@[go_sem] theorem rvVs_nil : rvVs σ H []=some []:=rfl
@[go_sem] theorem rvVs_cons (r : RV) (rs : List RV) : rvVs σ H (r::rs)=consO (rvV σ H r) (rvVs σ H rs):=rfl
@[go_sem] theorem rvV_tmp (t : Nat) : rvV σ H (.tmp t)=σ.get t:=rfl
@[go_sem] theorem rvV_cell (t : Nat) (n : Option Nat) : rvV σ H (.cell t n)=rcV n (σ.get t) H:=rfl
@[go_sem] theorem retV_one (v : AV) (K : Kont) : retV (some [v]) K H=K v H:=rfl
@[go_sem] theorem retV_zero (K : Kont) : retV (some []) K H=K (.tup []) H:=rfl
@[go_sem] theorem retV_two (u v : AV) (r : List AV) (K : Kont) : retV (some (u::v::r)) K H=K (.tup (u::v::r)) H:=rfl
@[go_sem] theorem get_nil (t : Nat) : Env.get [] t=none:=rfl
@[go_sem] theorem get_cons (s : Nat) (v : Option AV) (r : Env) (t : Nat) : Env.get ((s,v)::r) t=(match Nat.beq t s with | true=>v | false=>Env.get r t):=by
 rw [Env.get_cons]
 by_cases h : t=s
 ·subst h; simp
 ·rw [if_neg h,show Nat.beq t s=false from Bool.eq_false_iff.mpr fun e=>h (Nat.eq_of_beq_eq_true e)]
@[go_sem] theorem keep_nil : Env.keep [] σ=[]:=rfl
@[go_sem] theorem keep_cons (t : Nat) (r : List Nat) : Env.keep (t::r) σ=(t,σ.get t)::Env.keep r σ:=rfl
@[go_sem] theorem put_eq (t : Nat) (v : AV) : Env.put σ t v=(t,some v)::σ:=rfl
@[go_sem] theorem forget_eq (t : Nat) : Env.forget σ t=(t,none)::σ:=rfl
@[go_sem] theorem forgetD_some (t : Nat) : forgetD (some t) σ=(t,some nv)::σ:=rfl
@[go_sem] theorem gdW_tup (b : Bool) (cs : List AV) (A C : Env→Heap→Prop) : gdW (some (.tup cs)) b A C σ H=C σ H:=rfl
@[go_sem] theorem forgetD_none : forgetD none σ=σ:=rfl
@[go_sem] theorem envOf_nil (k : Nat) : envOf k []=[]:=rfl
@[go_sem] theorem envOf_cons (k : Nat) (a : AV) (r : List AV) : envOf k (a::r)=(k,some a)::envOf (k+1) r:=rfl
@[go_sem] theorem val_t (n : Nat) : val σ (.t n)=σ.get n:=rfl
@[go_sem] theorem val_c (v : AV) : val σ (.c v)=some v:=rfl
@[go_sem] theorem vals_nil : vals σ []=some []:=rfl
@[go_sem] theorem vals_cons (x : X) (r : List X) : vals σ (x::r)=consO (val σ x) (vals σ r):=rfl
@[go_sem] theorem consO_ss (a : AV) (r : List AV) : consO (some a) (some r)=some (a::r):=rfl
@[go_sem] theorem opsW_nil : opsW P B [] F σ H=F σ H:=rfl
@[go_sem] theorem opsW_one (i : Ins) (r : List SOp) : opsW P B (⟨d,none,i⟩::r) F σ H=opE P B d i (opsW P B r F) σ H:=rfl
@[go_sem] theorem opsW_g (t : Nat) (b : Bool) (i : Ins) (r : List SOp) :
  opsW P B (⟨d,some (t,b),i⟩::r) F σ H=gdW (σ.get t) b (opE P B d i (opsW P B r F)) (skE d (opsW P B r F)) σ H:=rfl
@[go_sem] theorem skE_eq : skE d F σ H=F (forgetD d σ) H:=rfl
structure Br (c : Bool) (p q : Prop) : Prop where
 t : c=true→p
 f : c=false→q
structure Bn (c : Bool) (p q : Prop) : Prop where
 f : c=false→p
 t : c=true→q
@[go_sem] theorem Br_t (A C : Env→Heap→Prop) : Br true (At A σ H) (At C σ H)=A σ H:=propext ⟨fun h=>h.t rfl,fun h=>⟨fun _=>h,fun e=>by cases e⟩⟩
@[go_sem] theorem Br_f (A C : Env→Heap→Prop) : Br false (At A σ H) (At C σ H)=C σ H:=propext ⟨fun h=>h.f rfl,fun h=>⟨fun e=>(by cases e),fun _=>h⟩⟩
@[go_sem] theorem Bn_t (A C : Env→Heap→Prop) : Bn true (At A σ H) (At C σ H)=C σ H:=propext ⟨fun h=>h.t rfl,fun h=>⟨fun e=>(by cases e),fun _=>h⟩⟩
@[go_sem] theorem Bn_f (A C : Env→Heap→Prop) : Bn false (At A σ H) (At C σ H)=A σ H:=propext ⟨fun h=>h.f rfl,fun h=>⟨fun _=>h,fun e=>by cases e⟩⟩
@[go_sem] theorem gdW_bt (c : Bool) (A C : Env→Heap→Prop) : gdW (some (.bool c)) true A C σ H=Br c (At A σ H) (At C σ H):=propext ⟨fun h=>⟨h.1,h.2⟩,fun h=>⟨h.t,h.f⟩⟩
@[go_sem] theorem gdW_bf (c : Bool) (A C : Env→Heap→Prop) : gdW (some (.bool c)) false A C σ H=Bn c (At A σ H) (At C σ H):=propext ⟨fun h=>⟨h.1,h.2⟩,fun h=>⟨h.f,h.t⟩⟩
@[go_sem] theorem cndW_b (c : Bool) (A C : Env→Heap→Prop) : cndW (some (.bool c)) A C σ H=Br c (At A σ H) (At C σ H):=propext ⟨fun h=>⟨h.1,h.2⟩,fun h=>⟨h.t,h.f⟩⟩
def pE (d : Option Nat) (F : Env→Heap→Prop) (σ : Env) (H : Heap) (e : PV) : Prop:=pW e (putK d F σ) H
@[go_sem] theorem putK_some (t : Nat) (v : AV) : putK (some t) F σ v H=F ((t,some v)::σ) H:=rfl
@[go_sem] theorem putK_none (v : AV) : putK none F σ v H=F σ H:=rfl
@[go_sem] theorem pE_some (p : Prop) (r : AV) : pE d F σ H (some (p,r))=(p∧putK d F σ r H):=rfl
attribute [go_sem] true_and
@[go_sem] theorem opE_mv (x : X) : opE P B d (.mv x) F σ H=pE d F σ H (mvE (val σ x)):=rfl
@[go_sem] theorem opE_pick (c a b : X) : opE P B d (.pick c a b) F σ H=pE d F σ H (pickE (val σ c) (val σ a) (val σ b)):=rfl
@[go_sem] theorem opE_ar (op : BinOp) (k : IntKind) (x y : X) : opE P B d (.ar op k x y) F σ H=pE d F σ H (arE op k (val σ x) (val σ y)):=rfl
@[go_sem] theorem opE_bq (n : Bool) (x y : X) : opE P B d (.bq n x y) F σ H=pE d F σ H (bqE n (val σ x) (val σ y)):=rfl
@[go_sem] theorem opE_nq (n : Bool) (x : X) : opE P B d (.nq n x) F σ H=pE d F σ H (nqE n (val σ x)):=rfl
@[go_sem] theorem opE_aq (n : Bool) (m : Nat) (x y : X) : opE P B d (.aq n m x y) F σ H=pE d F σ H (aqE n m (val σ x) (val σ y)):=rfl
@[go_sem] theorem opE_nt (x : X) : opE P B d (.nt x) F σ H=pE d F σ H (ntE (val σ x)):=rfl
@[go_sem] theorem opE_conv (k : IntKind) (x : X) : opE P B d (.conv k x) F σ H=pE d F σ H (convE k (val σ x)):=rfl
@[go_sem] theorem opE_len (x : X) : opE P B d (.len x) F σ H=pE d F σ H (lenE (val σ x)):=rfl
@[go_sem] theorem opE_lenS (x : X) : opE P B d (.lenS x) F σ H=pE d F σ H (lenSE (val σ x)):=rfl
@[go_sem] theorem opE_lenM (x : X) : opE P B d (.lenM x) F σ H=lmW (val σ x) (putK d F σ) H:=rfl
@[go_sem] theorem lmW_mref (id : Nat) (K : Kont) : lmW (some (.mref id)) K H=lm1 (H.get id) K H:=rfl
@[go_sem] theorem lm1_map (ks vs : List AV) (K : Kont) : lm1 (some (.map ks vs)) K H=K (.int .i64 ks.length) H:=rfl
@[go_sem] theorem opE_slb (s : Nat) (x : X) (lo hi : Option X) : opE P B d (.slb s x lo hi) F σ H=slbW s (val σ x) (lo.map (val σ)) (hi.map (val σ)) (putK d F σ) H:=rfl
@[go_sem] theorem slbW_buf (s id n : Nat) (lo hi : Option (Option AV)) (K : Kont) : slbW s (some (.buf id n)) lo hi K H=slb1 s n (slbP s id n lo hi) (H.get id) K H:=rfl
@[go_sem] theorem slbP_lo (s id n : Nat) (k : IntKind) (a : Int) : slbP s id n (some (some (.int k a))) none=some (0≤a∧a.toNat<n,.sub id (a.toNat*s) (n - a.toNat)):=rfl
@[go_sem] theorem slbP_hi (s id n : Nat) (k : IntKind) (b : Int) : slbP s id n none (some (some (.int k b)))=some (0≤b∧b.toNat≤n∧0<n,.buf id b.toNat):=rfl
@[go_sem] theorem opE_cpy (x y : X) : opE P B d (.cpy x y) F σ H=cpyW (val σ x) (val σ y) (putK d F σ) H:=rfl
@[go_sem] theorem cpyW_buf (id n : Nat) (es : List AV) (K : Kont) : cpyW (some (.buf id n)) (some (.sl es)) K H=((0<n∧es.length=n)∧st1 (H.get id) id 0 n es (fun _ H'=>K (.int .i64 n) H') H):=rfl
@[go_sem] theorem opE_sl3 (s : Nat) (x a b : X) : opE P B d (.sl3 s x a b) F σ H=sl3W s (val σ x) (val σ a) (val σ b) (putK d F σ) H:=rfl
@[go_sem] theorem sl3W_buf (s id n : Nat) (k l : IntKind) (a b : Int) (K : Kont) : sl3W s (some (.buf id n)) (some (.int k a)) (some (.int l b)) K H=slb1 s n (sl3P id n a b) (H.get id) K H:=rfl
@[go_sem] theorem opE_clr (z : List AV) (x : X) : opE P B d (.clr z x) F σ H=clrW z (val σ x) (putK d F σ) H:=rfl
@[go_sem] theorem clrW_sub (z : List AV) (id off n : Nat) (K : Kont) : clrW z (some (.sub id off n)) K H=(0<n∧st1 (H.get id) id off (n*z.length) (rep n z) K H):=rfl
@[go_sem] theorem lenE_sub (i o n : Nat) : lenE (some (.sub i o n))=some (True,.int .i64 n):=rfl
@[go_sem] theorem idxE_sub (n id o m : Nat) (k : IntKind) (i : Int) : idxE n (some (.sub id o m)) (some (.int k i))=some (0≤i∧i.toNat<m,.ref id (o+i.toNat*n)):=rfl
@[go_sem] theorem opE_idx (n : Nat) (x i : X) : opE P B d (.idx n x i) F σ H=pE d F σ H (idxE n (val σ x) (val σ i)):=rfl
@[go_sem] theorem opE_fld (o n : Nat) (x : X) : opE P B d (.fld o n x) F σ H=pE d F σ H (fldE o n (val σ x)):=rfl
@[go_sem] theorem opE_ldP (n : Option Nat) (x : X) : opE P B d (.ldP n x) F σ H=pE d F σ H (ldE n (val σ x)):=rfl
@[go_sem] theorem opE_nck (x : X) : opE P B d (.nck x) F σ H=pE d F σ H (nckE (val σ x)):=rfl
@[go_sem] theorem opE_bld (z : List AV) (ps : List (Nat × Nat × X)) : opE P B d (.bld z ps) F σ H=pE d F σ H (bldE (bldL σ ps z)):=rfl
@[go_sem] theorem opE_prt (o : Nat) (n : Option Nat) (x : X) : opE P B d (.prt o n x) F σ H=pE d F σ H (prtE o n (val σ x)):=rfl
@[go_sem] theorem opE_ext (x : X) (i : Nat) : opE P B d (.ext x i) F σ H=pE d F σ H (extE i (val σ x)):=rfl
@[go_sem] theorem opE_mkf (f : Fn) (l : List X) : opE P B d (.mkf f l) F σ H=pE d F σ H (mkfE f (vals σ l)):=rfl
@[go_sem] theorem opE_mki (t : TypeId) (x : X) : opE P B d (.mki t x) F σ H=pE d F σ H (mkiE t (val σ x)):=rfl
@[go_sem] theorem opE_litP (n : Nat) (l : List X) : opE P B d (.litP n l) F σ H=pE d F σ H (litE n (vals σ l)):=rfl
@[go_sem] theorem fldE_dual (o n id : Nat) (cs : List AV) : fldE o n (some (.dual cs id))=some (True,if o+n≤cs.length then .ptr ((cs.drop o).take n) else .ref id o):=rfl
@[go_sem] theorem nckE_dual (id : Nat) (cs : List AV) : nckE (some (.dual cs id))=some (True,.dual cs id):=rfl
@[go_sem] theorem opE_emp : opE P B d .emp F σ H=pE d F σ H (some (True,.emsl)):=rfl
@[go_sem] theorem lenE_em : lenE (some .emsl)=some (True,.int .i64 0):=rfl
@[go_sem] theorem opE_boxP (n : Nat) (x : X) : opE P B d (.boxP n x) F σ H=pE d F σ H (boxE n (val σ x)):=rfl
@[go_sem] theorem opE_mx (b : Bool) (x y : X) : opE P B d (.mx b x y) F σ H=pE d F σ H (mxE b (val σ x) (val σ y)):=rfl
@[go_sem] theorem opE_b2s (x : X) : opE P B d (.b2s x) F σ H=pE d F σ H (b2sE (val σ x)):=rfl
@[go_sem] theorem mvE_some (v : AV) : mvE (some v)=some (True,v):=rfl
@[go_sem] theorem pickE_t (a b : Option AV) : pickE (some (.bool true)) a b=mvE a:=rfl
@[go_sem] theorem pickE_f (a b : Option AV) : pickE (some (.bool false)) a b=mvE b:=rfl
@[go_sem] theorem arE_add (k : IntKind) (a b : Int) : arE .add k (some (.int k a)) (some (.int k b))=some (True,.int k (k.wrap (a+b))):=by simp [arE,arI]
@[go_sem] theorem arE_adds (k : IntKind) (a b : List UInt8) : arE .add k (some (.str a)) (some (.str b))=some (a.length+b.length≤maxL,.str (a++b)):=rfl
@[go_sem] theorem arE_eqls (k : IntKind) (a b : List UInt8) : arE .eql k (some (.str a)) (some (.str b))=some (True,.bool (decide (a=b))):=rfl
@[go_sem] theorem arE_neqs (k : IntKind) (a b : List UInt8) : arE .neq k (some (.str a)) (some (.str b))=some (True,.bool (!decide (a=b))):=rfl
@[go_sem] theorem slcE_str (l : List UInt8) (k : IntKind) (a : Int) : slcE 0 (some (.str l)) (some (some (.int k a))) none=some (0≤a∧a≤l.length,.str (l.drop a.toNat)):=rfl
@[go_sem] theorem arE_sub (k : IntKind) (a b : Int) : arE .sub k (some (.int k a)) (some (.int k b))=some (True,.int k (k.wrap (a - b))):=by simp [arE,arI]
@[go_sem] theorem arE_mul (k : IntKind) (a b : Int) : arE .mul k (some (.int k a)) (some (.int k b))=some (True,.int k (k.wrap (a*b))):=by simp [arE,arI]
@[go_sem] theorem arE_quo (k : IntKind) (a b : Int) : arE .quo k (some (.int k a)) (some (.int k b))=some (b≠0,.int k (k.wrap (a.tdiv b))):=by simp [arE,arI]
@[go_sem] theorem arE_rem (k : IntKind) (a b : Int) : arE .rem k (some (.int k a)) (some (.int k b))=some (b≠0,.int k (a.tmod b)):=by simp [arE,arI]
@[go_sem] theorem arE_eql (k : IntKind) (a b : Int) : arE .eql k (some (.int k a)) (some (.int k b))=some (True,.bool (decide (a=b))):=by simp [arE,arI]
@[go_sem] theorem arE_neq (k : IntKind) (a b : Int) : arE .neq k (some (.int k a)) (some (.int k b))=some (True,.bool (!decide (a=b))):=by simp [arE,arI]
@[go_sem] theorem arE_lss (k : IntKind) (a b : Int) : arE .lss k (some (.int k a)) (some (.int k b))=some (True,.bool (decide (a<b))):=by simp [arE,arI]
@[go_sem] theorem arE_leq (k : IntKind) (a b : Int) : arE .leq k (some (.int k a)) (some (.int k b))=some (True,.bool (decide (a≤b))):=by simp [arE,arI]
@[go_sem] theorem arE_gtr (k : IntKind) (a b : Int) : arE .gtr k (some (.int k a)) (some (.int k b))=some (True,.bool (decide (b<a))):=by simp [arE,arI]
@[go_sem] theorem arE_geq (k : IntKind) (a b : Int) : arE .geq k (some (.int k a)) (some (.int k b))=some (True,.bool (decide (b≤a))):=by simp [arE,arI]
@[go_sem] theorem arE_and (k : IntKind) (a b : Int) : arE .and k (some (.int k a)) (some (.int k b))=some (True,.int k (k.wrap (BitVec.ofInt k.bits a &&& BitVec.ofInt k.bits b).toNat)):=by simp [arE,arI]
@[go_sem] theorem arE_shr (k k' : IntKind) (a b : Int) : arE .shr k (some (.int k a)) (some (.int k' b))=some (0≤b,.int k (a.fdiv (2 ^ min b.toNat k.bits))):=by simp [arE,arI,isShr]
@[go_sem] theorem map_n {α β : Type} (f : α→β) : Option.map f none=none:=rfl
@[go_sem] theorem map_s {α β : Type} (f : α→β) (a : α) : Option.map f (some a)=some (f a):=rfl
@[go_sem] theorem bqE_bb (n a b : Bool) : bqE n (some (.bool a)) (some (.bool b))=some (True,.bool (n ^^ (a == b))):=rfl
@[go_sem] theorem nqE_nil (n : Bool) : nqE n (some .nilp)=some (True,.bool (!n)):=rfl
@[go_sem] theorem nqE_ptr (n : Bool) (cs : List AV) : nqE n (some (.ptr cs))=some (True,.bool n):=rfl
@[go_sem] theorem nqE_ref (n : Bool) (i o : Nat) : nqE n (some (.ref i o))=some (True,.bool n):=rfl
@[go_sem] theorem ntE_b (a : Bool) : ntE (some (.bool a))=some (True,.bool (!a)):=rfl
@[go_sem] theorem convE_int (k k' : IntKind) (a : Int) : convE k (some (.int k' a))=some (True,.int k (k.wrap a)):=rfl
@[go_sem] theorem lenE_sl (es : List AV) : lenE (some (.sl es))=some (True,.int .i64 es.length):=rfl
@[go_sem] theorem lenE_buf (i n : Nat) : lenE (some (.buf i n))=some (True,.int .i64 n):=rfl
@[go_sem] theorem lenE_big (n : Nat) : lenE (some (.big n))=some (True,.int .i64 n):=rfl
@[go_sem] theorem lenE_nil : lenE (some .nilsl)=some (True,.int .i64 0):=rfl
@[go_sem] theorem lenSE_str (l : List UInt8) : lenSE (some (.str l))=some (True,.int .i64 l.length):=rfl
@[go_sem] theorem idxE_sl (n : Nat) (es : List AV) (k : IntKind) (i : Int) :
  idxE n (some (.sl es)) (some (.int k i))=some (0≤i∧i.toNat<es.length∧(es.getD i.toNat nv).cells.length=n,.ptr (es.getD i.toNat nv).cells):=rfl
@[go_sem] theorem idxE_buf (n id m : Nat) (k : IntKind) (i : Int) : idxE n (some (.buf id m)) (some (.int k i))=some (0≤i∧i.toNat<m,.ref id (i.toNat*n)):=rfl
@[go_sem] theorem fldE_ptr (o n : Nat) (cs : List AV) : fldE o n (some (.ptr cs))=some (o+n≤cs.length,.ptr ((cs.drop o).take n)):=rfl
@[go_sem] theorem fldE_ref (o n id off : Nat) : fldE o n (some (.ref id off))=some (True,.ref id (off+o)):=rfl
@[go_sem] theorem ldE_1 (c : AV) (cs : List AV) : ldE none (some (.ptr (c::cs)))=some (True,c):=rfl
@[go_sem] theorem ldE_n (n : Nat) (cs : List AV) : ldE (some n) (some (.ptr cs))=some (cs.length=n,.agg cs):=rfl
@[go_sem] theorem nckE_ptr (cs : List AV) : nckE (some (.ptr cs))=some (True,.ptr cs):=rfl
@[go_sem] theorem nckE_ref (i o : Nat) : nckE (some (.ref i o))=some (True,.ref i o):=rfl
@[go_sem] theorem bldL_nil (cs : List AV) : bldL σ [] cs=some (True,cs):=rfl
@[go_sem] theorem bldL_cons (o n : Nat) (x : X) (r : List (Nat × Nat × X)) (cs : List AV) : bldL σ ((o,n,x)::r) cs=bldS n o (val σ x) cs (bldL σ r):=rfl
@[go_sem] theorem bldS_some (n o : Nat) (a : AV) (cs : List AV) (G : List AV→Option (Prop × List AV)) : bldS n o (some a) cs G=bldT (a.cells.length=n∧o+n≤cs.length) (G (wr cs o a.cells)):=rfl
@[go_sem] theorem bldT_some (p q : Prop) (r : List AV) : bldT p (some (q,r))=some (p∧q,r):=rfl
@[go_sem] theorem bldE_some (p : Prop) (r : List AV) : bldE (some (p,r))=some (p,.agg r):=rfl
@[go_sem] theorem wr_nil (cs : List AV) (o : Nat) : wr cs o []=cs:=rfl
@[go_sem] theorem wr_cons (cs : List AV) (o : Nat) (v : AV) (r : List AV) : wr cs o (v::r)=wr (cs.set o v) (o+1) r:=rfl
@[go_sem] theorem prtE_1 (o : Nat) (cs : List AV) : prtE o none (some (.agg cs))=some (o<cs.length,cs.getD o nv):=rfl
@[go_sem] theorem prtE_n (o n : Nat) (cs : List AV) : prtE o (some n) (some (.agg cs))=some (o+n≤cs.length,.agg ((cs.drop o).take n)):=rfl
@[go_sem] theorem extE_tup (i : Nat) (vs : List AV) : extE i (some (.tup vs))=some (i<vs.length,vs.getD i nv):=rfl
@[go_sem] theorem mkfE_some (f : Fn) (l : List AV) : mkfE f (some l)=some (True,.fn f l):=rfl
@[go_sem] theorem mkiE_some (t : TypeId) (v : AV) : mkiE t (some v)=some (True,.ifc t v):=rfl
@[go_sem] theorem litE_some (n : Nat) (l : List AV) : litE n (some l)=some (okEls n l∧l.length≤maxL,.sl l):=rfl
@[go_sem] theorem boxE_some (n : Nat) (a : AV) : boxE n (some a)=some (a.cells.length=n∧∀ c,c∈a.cells→c.one=true,.ptr a.cells):=rfl
@[go_sem] theorem mxE_ii (b : Bool) (k1 k2 : IntKind) (x y : Int) : mxE b (some (.int k1 x)) (some (.int k2 y))=some (k1=k2,.int k1 (if b then (if y > x then y else x) else (if y<x then y else x))):=rfl
@[go_sem] theorem b2sE_sl (es : List AV) : b2sE (some (.sl es))=some (∀ e,e∈es→e.isByte=true,.str (es.map AV.byte)):=rfl
@[go_sem] theorem b2sE_nil : b2sE (some .nilsl)=some (True,.str []):=rfl
@[go_sem] theorem aqE_aa (n : Bool) (m : Nat) (k1 k2 : IntKind) (a b c e : Int) : aqE n m (some (.agg [.int k1 a,.int k2 b])) (some (.agg [.int k1 c,.int k2 e])) =
  some (True,.bool (n ^^ (decide (a=c) && decide (b=e)))):=by
 simp only [aqE,aqL,Bool.and_true,Option.some.injEq,Prod.mk.injEq,and_true,eq_iff_iff,iff_true];exact ⟨k1,k2,a,b,c,e,rfl,rfl⟩
@[go_sem] theorem opE_nls (b : Bool) (x : X) : opE P B d (.nls b x) F σ H=nlsW b (val σ x) (putK d F σ) H:=rfl
@[go_sem] theorem opE_tas (t : TypeId) (x : X) : opE P B d (.tas t x) F σ H=tasW P t (val σ x) (putK d F σ) H:=rfl
@[go_sem] theorem tasW_ifc (t u : TypeId) (v : AV) (K : Kont) : tasW P u (some (.ifc t v)) K H=(AsOk P t u∧K (.tup [.ifc t v,.bool true]) H):=rfl
@[go_sem] theorem opE_inv (x : X) (n : String) (l : List X) : opE P B d (.inv x n l) F σ H=invW P B n (val σ x) (vals σ l) (putK d F σ) H:=rfl
@[go_sem] theorem invW_ifc (n : String) (t : TypeId) (v : AV) (as : List AV) (K : Kont) : invW P B n (some (.ifc t v)) (some as) K H=∃ f,Meth P t n f∧CallH P B f (v::as) H K:=rfl
@[go_sem] theorem opE_ld (n : Option Nat) (x : X) : opE P B d (.ld n x) F σ H=ldW n (val σ x) (putK d F σ) H:=rfl
@[go_sem] theorem ldW_ptr1 (c : AV) (cs : List AV) (K : Kont) : ldW none (some (.ptr (c::cs))) K H=K c H:=by simp [ldW,ldE,pW]
@[go_sem] theorem ldW_ptrn (n : Nat) (cs : List AV) (K : Kont) : ldW (some n) (some (.ptr cs)) K H=(cs.length=n∧K (.agg cs) H):=rfl
@[go_sem] theorem ldW_ref (n : Option Nat) (id off : Nat) (K : Kont) : ldW n (some (.ref id off)) K H=rd1 (H.get id) n off K H:=rfl
@[go_sem] theorem rd1_1 (sz f : Nat) (cs : List AV) (off : Nat) (K : Kont) : rd1 (some (.cells sz cs f)) none off K H=(off<cs.length∧K (cs.getD off nv) H):=rfl
@[go_sem] theorem rd1_n (sz f n : Nat) (cs : List AV) (off : Nat) (K : Kont) : rd1 (some (.cells sz cs f)) (some n) off K H=(off+n≤cs.length∧K (.agg ((cs.drop off).take n)) H):=rfl
@[go_sem] theorem opE_st (n : Nat) (p v : X) : opE P B d (.st n p v) F σ H=stW n (val σ p) (val σ v) (putK d F σ) H:=rfl
@[go_sem] theorem stW_ref (n id off : Nat) (v : AV) (K : Kont) : stW n (some (.ref id off)) (some v) K H=st1 (H.get id) id off n v.cells K H:=rfl
@[go_sem] theorem st1_c (sz f n id off : Nat) (cs vs : List AV) (K : Kont) : st1 (some (.cells sz cs f)) id off n vs K H =
  ((f≤off∧off+n≤cs.length∧vs.length=n∧∀ c,c∈vs→c.one=true)∧K nv (H.set id (.cells sz (wr cs off vs) f))):=rfl
@[go_sem] theorem opE_litW (n : Nat) (l : List X) : opE P B d (.litW n l) F σ H=litWW n (vals σ l) (putK d F σ) H:=rfl
@[go_sem] theorem litWW_some (n : Nat) (l : List AV) (K : Kont) : litWW n (some l) K H=((okEls n l∧l.length≤maxL)∧newBuf l.length n (flat l) K H):=rfl
@[go_sem] theorem opE_boxW (n : Nat) (x : X) : opE P B d (.boxW n x) F σ H=boxWW n (val σ x) (putK d F σ) H:=rfl
@[go_sem] theorem boxWW_some (n : Nat) (a : AV) (K : Kont) : boxWW n (some a) K H=((a.cells.length=n∧n≤maxL)∧newRef n a.cells K H):=rfl
@[go_sem] theorem opE_alc (z : List AV) : opE P B d (.alc z) F σ H=(z.length≤maxL∧newRef z.length z (putK d F σ) H):=rfl
@[go_sem] theorem opE_app (s b : Nat) (x y : X) : opE P B d (.app s b x y) F σ H=appW s (val σ x) (val σ y) (putK d F σ) H:=rfl
@[go_sem] theorem srcOf_sl (s : Nat) (es : List AV) : srcOf s (some (.sl es)) H=some (okEls s es,es.length,flat es):=rfl
@[go_sem] theorem srcOf_nil (s : Nat) : srcOf s (some .nilsl) H=some (True,0,[]):=rfl
@[go_sem] theorem app2_some (s s' f id n m : Nat) (cs new : List AV) (p : Prop) (K : Kont) : app2 s (some (.cells s' cs f)) id n (some (p,m,new)) K H =
  ((s'=s∧cs.length=n*s∧n+m≤maxL∧(n+m)*s≤maxL∧p)∧∀ id',H.get id'=none→K (.buf id' (n+m)) ((H.del id).set id' (.cells s (cs++new) f))):=rfl
@[go_sem] theorem app1_some (s m : Nat) (new : List AV) (p : Prop) (K : Kont) : app1 s (some (p,m,new)) K H=((m≤maxL∧m*s≤maxL∧p)∧newBuf m s new K H):=rfl
@[go_sem] theorem opE_mks (s : Nat) (z : List AV) (l c : X) : opE P B d (.mks s z l c) F σ H=mksW s z (val σ l) (val σ c) (putK d F σ) H:=rfl
@[go_sem] theorem mksW_ii (s : Nat) (z : List AV) (k1 k2 : IntKind) (l c : Int) (K : Kont) : mksW s z (some (.int k1 l)) (some (.int k2 c)) K H =
  ((0≤l∧l≤c∧c.toNat≤maxL∧l.toNat*s≤maxL)∧newBuf l.toNat s (rep l.toNat z) K H):=rfl
@[go_sem] theorem opE_mkm : opE P B d .mkm F σ H=newMap (putK d F σ) H:=rfl
@[go_sem] theorem opE_lkm (s : Nat) (ok : Bool) (z : AV) (m k : X) : opE P B d (.lkm s ok z m k) F σ H=lkW s ok z (val σ m) (val σ k) (putK d F σ) H:=rfl
@[go_sem] theorem lkW_imap (s : Nat) (ok : Bool) (z k : AV) (ks vs : List AV) (K : Kont) : lkW s ok z (some (.imap ks vs)) (some k) K H=(okKey s k ks∧K (lkR ok z (mget k ks vs)) H):=rfl
@[go_sem] theorem lkW_mref (s : Nat) (ok : Bool) (z k : AV) (id : Nat) (K : Kont) : lkW s ok z (some (.mref id)) (some k) K H=lk1 s ok z (H.get id) k K H:=rfl
@[go_sem] theorem lk1_map (s : Nat) (ok : Bool) (z k : AV) (ks vs : List AV) (K : Kont) : lk1 s ok z (some (.map ks vs)) k K H=(okKey s k ks∧K (lkR ok z (mget k ks vs)) H):=rfl
@[go_sem] theorem opE_upd (s : Nat) (m k v : X) : opE P B d (.upd s m k v) F σ H=upW s (val σ m) (val σ k) (val σ v) (putK d F σ) H:=rfl
@[go_sem] theorem upW_mref (s : Nat) (id : Nat) (k x : AV) (K : Kont) : upW s (some (.mref id)) (some k) (some x) K H=up1 s (H.get id) id k x K H:=rfl
@[go_sem] theorem up1_map (s : Nat) (id : Nat) (k x : AV) (ks vs : List AV) (K : Kont) : up1 s (some (.map ks vs)) id k x K H =
  (okKey s k ks∧K nv (H.set id (.map (mput k x ks vs).1 (mput k x ks vs).2))):=rfl
@[go_sem] theorem opE_call (f : X) (l : List X) : opE P B d (.call f l) F σ H=callW P B (val σ f) (vals σ l) (putK d F σ) H:=rfl
@[go_sem] theorem callW_fn (f : FuncId) (ca as : List AV) (K : Kont) : callW P B (some (.fn (.func f) ca)) (some as) K H=CallH P B f (as++ca) H K:=rfl
@[go_sem] theorem opE_callZ (y : Nat) (f : X) (l : List X) : opE P B d (.callZ y f l) F σ H=callW P B (val σ f) (vals σ l) (fun r H'=>(∀ z,z≠y→H.subZ z H')∧putK d F σ r H') H:=rfl
@[go_sem] theorem opE_ldZ (z : Nat) (n : Option Nat) (x : X) : opE P B d (.ldZ z n x) F σ H=ldZW z n (val σ x) (putK d F σ) H:=rfl
@[go_sem] theorem ldZW_ref (z : Nat) (n : Option Nat) (id off : Nat) (K : Kont) : ldZW z n (some (.ref id off)) K H=((∃ cs f,H.get id=some (.cells z cs f))∧rd1 (H.get id) n off K H):=rfl
@[go_sem] theorem opE_callQ (f : X) (l : List X) : opE P B d (.callQ f l) F σ H=callW P B (val σ f) (vals σ l) (fun r H'=>H.sub H'∧putK d F σ r H') H:=rfl
@[go_sem] theorem opE_callP (f : X) (l : List X) : opE P B d (.callP f l) F σ H=∃ r,callPW P B (val σ f) (vals σ l) r∧putK d F σ r H:=rfl
@[go_sem] theorem callPW_fn (f : FuncId) (ca as : List AV) (r : AV) : callPW P B (some (.fn (.func f) ca)) (some as) r=PureF P B f (as++ca) r:=rfl
@[go_sem] theorem app_nil' (l : List AV) : l++[]=l:=by simp
@[go_sem] theorem app_cons' (a : AV) (l r : List AV) : (a::l)++r=a::(l++r):=rfl
@[go_sem] theorem app_nil'' (l : List AV) : []++l=l:=rfl
@[go_sem] theorem fzW_buf (t id n : Nat) : fzW t F σ H (some (.buf id n))=fz1 t id n F σ H (H.get id):=rfl
@[go_sem] theorem fzW_nil (t : Nat) : fzW t F σ H (some .nilsl)=F ((t,some (.sl []))::σ) H:=rfl
@[go_sem] theorem fzW_sl (t : Nat) (es : List AV) : fzW t F σ H (some (.sl es))=F σ H:=rfl
theorem chunk_one : ∀ (n : Nat) (cs : List AV),cs.length=n→chunk 1 n cs=cs
 | 0,cs,h=>by simp [chunk,List.eq_nil_of_length_eq_zero h]
 | n+1,[],h=>by simp at h
 | n+1,c::cs,h=>by simp [chunk,chunk_one n cs (by simpa using h)]
@[go_sem] theorem fz1_one (t id n f : Nat) (cs : List AV) : fz1 t id n F σ H (some (.cells 1 cs f)) =
  ((cs.length=n∧∀ c,c∈cs→c.one=true)∧F ((t,some (.sl cs))::σ) (H.set id (.cells 1 cs cs.length))):=by
 simp only [fz1,Nat.mul_one];rw [eq_iff_iff]
 constructor
 ·rintro ⟨⟨h1,h2,h3⟩,h4⟩; rw [chunk_one _ _ h1] at h4; exact ⟨⟨h1,h3⟩,h4⟩
 ·rintro ⟨⟨h1,h3⟩,h4⟩; rw [← chunk_one _ _ h1] at h4; exact ⟨⟨h1,by omega,h3⟩,by rwa [chunk_one _ _ h1] at h4 ⊢⟩
@[go_sem] theorem fz1_n (t id n f sz : Nat) (cs : List AV) : fz1 t id n F σ H (some (.cells (sz+2) cs f)) =
  ((cs.length=n*(sz+2)∧0<sz+2∧∀ c,c∈cs→c.one=true)∧F ((t,some (.sl (chunk (sz+2) n cs)))::σ) (H.set id (.cells (sz+2) cs cs.length))):=rfl
end
@[go_sem] theorem cells_int (k : IntKind) (n : Int) : (AV.int k n).cells=[.int k n]:=rfl
@[go_sem] theorem cells_bool (b : Bool) : (AV.bool b).cells=[.bool b]:=rfl
@[go_sem] theorem cells_str (b : List UInt8) : (AV.str b).cells=[.str b]:=rfl
@[go_sem] theorem cells_sl (es : List AV) : (AV.sl es).cells=[.sl es]:=rfl
@[go_sem] theorem cells_buf (i n : Nat) : (AV.buf i n).cells=[.buf i n]:=rfl
@[go_sem] theorem cells_nilsl : AV.nilsl.cells=[.nilsl]:=rfl
@[go_sem] theorem cells_ptr (cs : List AV) : (AV.ptr cs).cells=[.ptr cs]:=rfl
@[go_sem] theorem cells_ref (i o : Nat) : (AV.ref i o).cells=[.ref i o]:=rfl
@[go_sem] theorem cells_agg (cs : List AV) : (AV.agg cs).cells=cs:=rfl
@[go_sem] theorem flat_nil : flat []=[]:=rfl
@[go_sem] theorem flat_cons (e : AV) (r : List AV) : flat (e::r)=e.cells++flat r:=rfl
@[go_sem] theorem wrap_i64 {x : Int} (h1 : -9223372036854775808≤x) (h2 : x≤9223372036854775807) : IntKind.i64.wrap x=x:=by
 rw [IntKind.wrap_i64]; omega
theorem pure_ret {H0 H : Heap} {r v : AV} (h1 : v=r) (h2 : H0.sub H) : subW (fun r' H'=>r'=r∧H'=H0) v H:=⟨H0,h2,h1,rfl⟩
theorem Wk.refl (σ : Env) (H : Heap) : Wk σ H σ H:=fun g _ _ _ a b=>⟨g,.refl g,a,b⟩
theorem awp_loop {P : Program} {B : Nat} {l : List Nat} {c : SC} {Q : AQ} {σ : Env} {H : Heap} (I : Nat→Env→Heap→Prop) (n : Nat) (h0 : I n (Env.keep l σ) H)
  (h : ∀ n σ H,I n σ H→awp P B c (lpQ l I n Q) σ H) : awp P B (.loop l c) Q σ H :=
 ⟨I,n,_,_,h0,.refl _ _,h⟩
end Go.AW
namespace Go.AW
def AV.fine (a : AV) : Prop:=∃ g v,VRel g a v
theorem AV.fine.sl_le {es : List AV} (h : AV.fine (.sl es)) : es.length≤maxL:=by
 obtain ⟨g,v,h⟩:=h
 cases h with
 | slnil a cap=>simp
 | sl _ b o sz cap vs hm _ _ _ _=>exact hm
theorem AV.fine.agg {cs : List AV} (h : AV.fine (.agg cs)) {c : AV} (hc : c∈cs) : AV.fine c:=by
 obtain ⟨g,v,h⟩:=h
 obtain ⟨i,hi,rfl⟩:=List.getElem_of_mem hc
 have hg : cs.getD i nv=cs[i]:=by simp [List.getD_eq_getElem?_getD,hi]
 cases h with
 | agg _ vs hs hv=>exact ⟨g,_,hg ▸ hv i hi⟩
theorem AV.fine.ptr {cs : List AV} (h : AV.fine (.ptr cs)) {c : AV} (hc : c∈cs) : AV.fine c:=by
 obtain ⟨g,v,h⟩:=h
 obtain ⟨i,hi,rfl⟩:=List.getElem_of_mem hc
 have hg : cs.getD i nv=cs[i]:=by simp [List.getD_eq_getElem?_getD,hi]
 cases h with
 | ptr _ b o vs hf hv=>exact ⟨g,_,hg ▸ hv i hi⟩
def fines : List AV→Prop
 | []=>True
 | a::r=>a.fine∧fines r
theorem fines_of : ∀ {l : List AV},(∀ a,a∈l→a.fine)→fines l
 | [],_=>trivial
 | a::r,h=>⟨h a (by simp),fines_of fun b hb=>h b (by simp [hb])⟩
variable {P : Program} {B : Nat}
theorem CallH.of_awp' {f : FuncId} {fn : Func} {c : Code} {s : SC} {hs : Hints} {rvs : List RV} (hf : P.funcs[f]? = some fn) (hb : fn.body = some c) (hn : (fn.name == "runtime.NumGoroutine") = false)
  (hc : compileC P fn.ntmps hs c=some s.strip) (hr : compileRs P fn.results.toList=some rvs) {args : List AV} (hargs : args.length≤fn.ntmps) {H : Heap} {K : Kont}
  (hk : fines args→awp P B s (retQ rvs K) (envOf 0 args) H) : CallH P B f args H K:=by
 refine ⟨⟨fn,hf,by simp [hb],hn⟩,fun g w vs hW hv=>?_⟩
 have hfine : ∀ a,a∈args→a.fine:=by
  intro a ha
  obtain ⟨i,hi,rfl⟩:=List.getElem_of_mem ha
  have:=hv.2 i hi;rw [show args.getD i nv=args[i] by simp [List.getD_eq_getElem?_getD,hi]] at this;exact ⟨g,_,this⟩
 exact (CallH.of_awp hf hb hn hc hr hargs (hk (fines_of hfine))).2 g w vs hW hv
theorem CallH.mono' {f : FuncId} {args : List AV} {H : Heap} {K K' : Kont} (h : CallH P B f args H K) (hk : ∀ r H,r.fine→K r H→K' r H) : CallH P B f args H K' :=
 ⟨h.1,fun g w vs hw hv=>(h.2 g w vs hw hv).mono fun _ _ ⟨v,e,g',r,H',a,b,c,d,k⟩=>⟨v,e,g',r,H',a,hk _ _ ⟨g',v,c⟩ b,c,d,k⟩⟩
theorem PureF.go {f : FuncId} {args : List AV} {r : AV} {H : Heap} {K : Kont} (h : PureF P B f args r) (hk : r.fine→K r H) : CallH P B f args H K :=
 (h H).mono' fun _ _ hf ⟨a,b⟩=>by subst a; subst b; exact hk hf
end Go.AW
