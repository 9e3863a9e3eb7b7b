/- Sound steps and walks over abstract values. -/
import Derived.Test.YtphikjciekmijaaGreatS1
import Derived.Orders
import Derived.Scope
set_option linter.unusedVariables false
set_option linter.unusedSimpArgs false
set_option linter.unusedSectionVars false
namespace Go.AW
open Go.RowKit
section
variable {P : Program} {g : Gh} {B : Nat} {H : AA} {w : World}
def Fits (P : Program) (g : Gh) (B : Nat) (w : World) (K : Ak) : Result Next→Prop
 | .ok (.value v) w'=>Cz g B w K v w'
 | .ok .skip w'=>Cz g B w K undef w'
 | .ok (.enter f args) w'=>w'=w∧Calls P f args w fun e w''=>∃ v,e=.returned v∧Cz g B w K v w''
 | _=>False
theorem Fits.val {K : Ak} {s : Sem Value} (h : ∃ u w',s.run P w=.ok u w'∧Cz g B w K u w') : Fits P g B w K ((do pure (.value (← s)) : Sem Next).run P w):=by
 obtain ⟨u,w',h1,h2⟩:=h;simp only [Sem.run_bind,h1,Result.andThen_ok,Sem.run_pure];exact h2
theorem Fits.unit {K : Ak} {s : Sem Unit} (h : ∃ w',s.run P w=.ok () w'∧Cz g B w K undef w') : Fits P g B w K ((do s; pure .skip : Sem Next).run P w):=by
 obtain ⟨w',h1,h2⟩:=h;simp only [Sem.run_bind,h1,Result.andThen_ok,Sem.run_pure];exact h2
theorem pv {K : Ak} {e : PV} {s : Sem Value} (hW : Ao g B H w) (hk : pW e K H) (h : ∀ p r,e=some (p,r)→p→∃ u,s.run P w=.ok u w∧Aa g r u) :
  ∃ u w',s.run P w=.ok u w'∧Cz g B w K u w':=by
 obtain ⟨p,r,rfl,hp,hk⟩:=Ch hk
 obtain ⟨u,h1,h2⟩:=h p r rfl hp;exact ⟨u,w,h1,.same hW h2 hk⟩
theorem HD.append {as bs : List AV} {vs us : Array Value} (h : HD g as vs) (k : HD g bs us) : HD g (as++bs) (vs++us):=by
 refine ⟨by simp [h.1,k.1],fun i hi=>?_⟩;rw [BN];simp only [Array.getD_eq_getD_getElem?]
 by_cases EP : i<as.length
 ·rw [if_pos EP,Array.getElem?_append_left (by rw [h.1]; exact EP)]
  simpa [Array.getD_eq_getD_getElem?] using h.2 i EP
 ·rw [if_neg EP,Array.getElem?_append_right (by rw [h.1]; omega),h.1]
  have:=k.2 (i - as.length) (by simp at hi; omega)
  simpa [Array.getD_eq_getD_getElem?] using this
theorem OZ {f : FuncId} {as : List AV} {vs : Array Value} {K : Ak} (hW : Ao g B H w) (hv : HD g as vs) (hk : B9 P B f as H K) : Fits P g B w K ((callFunc f vs).run P w):=by
 obtain ⟨⟨fn,h1,h2,h3⟩,hc⟩:=hk
 have : (callFunc f vs).run P w=.ok (.enter f vs) w:=by
  simp only [callFunc,Sem.run_bind,run_program,Result.andThen_ok,h1,h2,h3,Bool.false_eq_true,if_false,Sem.run_pure]
 rw [this];exact ⟨rfl,hc g w vs hW hv⟩
theorem WU {x : Operand} (h : Mp x=true) (a : Act) : a.eval x=.pointer none:=by
 unfold Mp at h
 split at h
 ·rfl
 ·cases h
theorem UD {x : Operand} (h : N5 x=true) (a : Act) : a.eval x=.slice none 0 0:=by
 unfold N5 at h
 split at h
 ·rfl
 ·cases h
theorem Vi {op : BinOp} {k : IntKind} {t : TypeId} {x y : Operand} {v1 v2 : AV} {u1 u2 : Value} (r1 : Aa g v1 u1) (r2 : Aa g v2 u2) {p : Prop} {r : AV}
  (he : Gc op k (some v1) (some v2)=some (p,r)) (hp : p) : ∃ u,((do eqGuard op t x y u1 u2; binOp op t u1 u2) : Sem Value).run P w=.ok u w∧Aa g r u:=by
 cases r1 <;> try (simp [Gc] at he; done)
 all_goals (cases r2 <;> try (simp [Gc] at he; done))
 all_goals simp only [Gc] at he
 rotate_left 1
 ·rename_i a b
  have hg : (eqGuard op t x y (.string ⟨a.toArray⟩) (.string ⟨b.toArray⟩)).run P w=.ok () w:=by cases op <;> simp [eqGuard]
  cases op <;> simp only [uX,reduceCtorEq,Option.some.injEq,Prod.mk.injEq] at he
  all_goals obtain ⟨rfl,rfl⟩:=he
  ·refine ⟨_,by simp only [Sem.run_bind,hg,Result.andThen_ok,binOp_string_add]; exact run_string_add_sum w _ _ (by simp only [AN] at hp; simp [ByteArray.size]; omega), ?_⟩;rw [ByteArray.mk_append_mk]; exact .str _
  ·refine ⟨.bool (decide (a=b)), ?_,.bool _⟩
   simp [hg,binOp_string_eql,Bool.beq_eq_decide_eq]
  ·refine ⟨.bool (!decide (a=b)), ?_,.bool _⟩
   simp [hg,binOp_string_neq];rw [Bool.eq_iff_iff]; simp
 split at he
 ·rename_i M0
  have hg : ∀ (a b : Int) (k k' : IntKind),(eqGuard op t x y (.int k a) (.int k' b)).run P w=.ok () w:=by
   intro a b k k'; cases op <;> simp [eqGuard]
  obtain ⟨rfl,h2⟩:=M0
  rcases h2 with h2 | h2
  ·subst h2
   obtain ⟨u,q1,q2⟩:=WI (P:=P) (g:=g) (w:=w) t he hp;exact ⟨u,by simp [hg,q1],q2⟩
  ·cases op <;> simp [Yl] at h2
   simp only [O6,Option.some.injEq,Prod.mk.injEq] at he
   obtain ⟨rfl,rfl⟩:=he;exact ⟨_,by simp only [Sem.run_bind,hg,Result.andThen_ok]; exact bS t hp,.int _ _⟩
 ·cases he
def It (neg : Bool) : BinOp:=if neg then .neq else .eql
theorem Qj {t : TypeId} (hu : P.underlying t=some .bool) (d : Nat) (b1 b2 : Bool) : (Op.equalIn (d+1) t (.bool b1) (.bool b2)).run P w=.ok (b1 == b2) w:=by
 simp [Op.equalIn,run_underlying hu]
theorem RU {t e : TypeId} (hu : P.underlying t=some (.pointer e)) (d : Nat) (p : Option Addr) : (Op.equalIn (d+1) t (.pointer p) (.pointer none)).run P w=.ok p.isNone w:=by
 cases p <;> simp [Op.equalIn,run_underlying hu]
theorem bX {t e : TypeId} (hu : P.underlying t=some (.slice e)) (d : Nat) (p : Option Addr) (n c : Nat) : (Op.equalIn (d+1) t (.slice p n c) (.slice none 0 0)).run P w=.ok p.isNone w:=by
 cases p <;> simp [Op.equalIn,run_underlying hu]
theorem ZO {neg : Bool} {t : TypeId} (hu : P.underlying t=some .bool) {x y : Operand} {v1 v2 : AV} {u1 u2 : Value} (r1 : Aa g v1 u1) (r2 : Aa g v2 u2) {p : Prop} {r : AV}
  (he : cD neg (some v1) (some v2)=some (p,r)) : ∃ u,((do eqGuard (It neg) t x y u1 u2; binOp (It neg) t u1 u2) : Sem Value).run P w=.ok u w∧Aa g r u:=by
 cases r1 <;> try (simp [cD] at he; done)
 cases r2 <;> try (simp [cD] at he; done)
 rename_i b1 b2
 simp [cD] at he
 obtain ⟨-,rfl⟩:=he;refine ⟨.bool (neg ^^ (b1 == b2)), ?_,.bool _⟩
 have hq : (Op.equal t (.bool b1) (.bool b2)).run P w=.ok (b1 == b2) w:=Qj hu 9999 b1 b2
 cases neg
 ·simp [It,eqGuard,binOp,hq]
 ·simp [It,eqGuard,binOp,hq]
theorem a8 {neg : Bool} {t e : TypeId} (hu : P.underlying t=some (.pointer e)) {x y : Operand} {v1 : AV} {u1 : Value} (r1 : Aa g v1 u1) {p : Prop} {r : AV}
  (he : cC neg (some v1)=some (p,r)) : ∃ u,((do eqGuard (It neg) t x y u1 (.pointer none); binOp (It neg) t u1 (.pointer none)) : Sem Value).run P w=.ok u w∧Aa g r u:=by
 have hq : ∀ (p : Option Addr),(Op.equal t (.pointer p) (.pointer none)).run P w=.ok p.isNone w:=RU hu 9999
 cases r1 <;> try (simp [cC] at he; done)
 all_goals (simp [cC] at he; obtain ⟨-,rfl⟩:=he)
 all_goals (refine ⟨.bool _, ?_,.bool _⟩)
 all_goals (cases neg <;> simp [It,eqGuard,binOp,hq])
theorem Uc {neg : Bool} {t : TypeId} {fs : Array Field} (hu : P.underlying t=some (.struct fs)) (h1 : EC P 0 fs.toList=true) (h2 : P.stoodInHeld t=false)
  (h3 : P.eqGuardType P.depth t=false) (h4 : fs.size=2) {x y : Operand} {v1 v2 : AV} {u1 u2 : Value} (r1 : Aa g v1 u1) (r2 : Aa g v2 u2) {p : Prop} {r : AV}
  (he : aE neg 2 (some v1) (some v2)=some (p,r)) (hp : p) : ∃ u,((do eqGuard (It neg) t x y u1 u2; binOp (It neg) t u1 u2) : Sem Value).run P w=.ok u w∧Aa g r u:=by
 cases r1 <;> try (simp [aE] at he; done)
 cases r2 <;> try (simp [aE] at he; done)
 rename_i as vs hs TL bs us J9 iy
 simp only [aE,Option.some.injEq,Prod.mk.injEq] at he
 obtain ⟨rfl,rfl⟩:=he
 obtain ⟨k1,k2,a1,a2,b1,b2,rfl,rfl⟩:=hp
 have e1 : vs=#[.int k1 a1,.int k2 a2]:=by
  have q0:=TL 0 (by simp)
  have q1:=TL 1 (by simp)
  obtain ⟨l⟩:=vs
  match l,hs with
  | [z0,z1],_=>simp at q0 q1; cases q0; cases q1; rfl
 have e2 : us=#[.int k1 b1,.int k2 b2]:=by
  have q0:=iy 0 (by simp)
  have q1:=iy 1 (by simp)
  obtain ⟨l⟩:=us
  match l,J9 with
  | [z0,z1],_=>simp at q0 q1; cases q0; cases q1; rfl
 subst e1 e2
 have hq:=Sx (P:=P) (w:=w) hu h1 h2 h4 k1 k2 a1 a2 b1 b2;refine ⟨.bool (neg ^^ (decide (a1=b1) && decide (a2=b2))), ?_,by rw [show wB [.int k1 a1,.int k2 a2] [.int k1 b1,.int k2 b2]=(decide (a1=b1) && decide (a2=b2)) by simp [wB]]; exact .bool _⟩
 cases neg
 ·simp [It,eqGuard,binOp,hq,h3]
 ·simp [It,eqGuard,binOp,hq,h3]
inductive OR (g : Gh) : Option (Option AV)→Option Value→Prop
 | no : OR g none none
 | l5 (u : Value) : OR g (some none) (some u)
 | so (a : AV) (u : Value) (h : Aa g a u) : OR g (some (some a)) (some u)
theorem Jh {es : List AV} {a : Option Addr} {n c sz : Nat} (hv : Aa g (.sl es) (.slice a n c)) (hk : Cc sz es) {l h : Nat} (h1 : l≤h) (h2 : h≤es.length) :
  Aa g (.sl ((es.take h).drop l)) (sliced a l h c sz):=by
 by_cases hl : l=h
 ·subst hl
  have : (es.take l).drop l=[]:=by simp
  rw [this];simp only [sliced,Nat.sub_self];exact .slnil _ _
 ·cases hv with
  | slnil _ _=>simp at h2; omega
  | sl _ b o sz' cap vs hm OK CW hf hv =>
   have hz : sz'=sz:=by
    rw [← CW 0 (by omega)]
    have : es.getD 0 nv∈es:=by
     rw [Go.AW.gE,List.getElem?_eq_getElem (by omega)]; exact List.getElem_mem _
    exact (hk _ this).1
   subst hz
   have Bg : ¬ c=l:=by omega
   have hlen : ((es.take h).drop l).length=h - l:=by simp; omega
   have CU : ∀ i,i<h - l→((es.take h).drop l).getD i nv=es.getD (l+i) nv:=by
    intro i hi;simp only [Go.AW.gE,List.getElem?_drop];rw [List.getElem?_take_of_lt (by omega)]
   have hmul : ∀ i j,(l+i)*sz'+j=l*sz'+(i*sz'+j):=by intro i j; rw [Nat.add_mul]; omega
   simp only [sliced,Bg,if_false,Option.map,Addr.add_lit];rw [← hlen];refine .sl _ b (o+l*sz') sz' (c - l) (fun k=>vs (l*sz'+k)) (by omega) (by omega) (fun i hi=>?_) (fun i j hi hj=>?_) (fun i j hi hj=>?_)
   ·rw [hlen] at hi; rw [CU i hi]; exact CW _ (by omega)
   ·rw [hlen] at hi
    have:=hf (l+i) j (by omega) hj;rw [hmul] at this;rw [Nat.add_assoc]; exact this
   ·rw [hlen] at hi
    have:=hv (l+i) j (by omega) hj;rw [hmul] at this;rw [CU i hi]; exact this
theorem UF {t : TypeId} (h : P.underlying t=some .string) {av : AV} {v : Value} (hv : Aa g av v) {lo hi : Option (Option AV)} {lo' EP : Option Value} (hl : OR g lo lo') (hh : OR g hi EP)
  {p : Prop} {r : AV} (he : JH 0 (some av) lo hi=some (p,r)) (hp : p) : ∃ u,(Instr.sliceAt t v lo' EP none).run P w=.ok u w∧Aa g r u:=by
 rw [run_sliceAt_string w t _ _ _ _ h];rw [JH,if_pos rfl] at he
 cases hv <;> cases hl <;> try (simp [Yt] at he; done)
 rename_i b u hb
 cases hb <;> cases hh <;> simp only [Yt,reduceCtorEq,Option.some.injEq,Prod.mk.injEq] at he
 obtain ⟨rfl,rfl⟩:=he
 rename_i l k n
 refine ⟨_,run_slice_string_l w t _ h _ _ hp.1 (by have:=hp.2; simpa [ByteArray.size] using this), ?_⟩
 have : (ByteArray.mk l.toArray).extract n.toNat (ByteArray.mk l.toArray).size=⟨(l.drop n.toNat).toArray⟩:=by
  rw [ByteArray.extract_mk]
  congr 1
  apply Array.ext'
  simp [ByteArray.size];rw [List.take_of_length_le (by simp)]
 rw [this]; exact .str _
theorem WJ {t : TypeId} {x : TypeId × TypeInfo} (h : BI P t=some x) {av : AV} {v : Value} (hv : Aa g av v) {lo hi : Option (Option AV)} {lo' EP : Option Value} (hl : OR g lo lo') (hh : OR g hi EP)
  {p : Prop} {r : AV} (he : JH x.2.size (some av) lo hi=some (p,r)) (hp : p) : ∃ u,(Instr.sliceAt t v lo' EP none).run P w=.ok u w∧Aa g r u:=by
 obtain ⟨h1,h2,h3⟩:=Bh h;rw [JH,if_neg h3] at he
 have aS : P.elem t=x.1:=by simp [Program.elem,h1]
 have hu : P.underlying t=some (.slice (P.elem t)):=by rw [aS]; exact h1
 have hs : (sizeOf (P.elem t)).run P w=.ok x.2.size w:=by simp [aS,sizeOf,typeInfo,h2]
 have Im : ∃ es,av=.sl es:=by
  cases hv <;> cases hl <;> simp [Lg] at he
  all_goals first | exact ⟨_,rfl⟩ | skip
 obtain ⟨es,rfl⟩:=Im
 obtain ⟨a,n,c,rfl,hn,hc⟩ : ∃ a n c,v=.slice a n c∧n=es.length∧n≤c:=by
  cases hv with
  | slnil a c=>exact ⟨_,_,_,rfl,rfl,Nat.zero_le _⟩
  | sl _ b o sz cap vs hm OK CW hf hv=>exact ⟨_,_,_,rfl,rfl,OK⟩
 rw [run_sliceAt_slice w t _ _ _ _ hu]
 cases hl with
 | l5 u=>simp [Lg] at he
 | no =>
  cases hh with
  | l5 u=>simp [Lg,Na] at he
  | no =>
   simp only [Lg,Na,Pq,Option.some.injEq,Prod.mk.injEq] at he
   obtain ⟨rfl,rfl⟩:=he;refine ⟨_,by rw [run_slice_all w t a n c hu,hs]; rfl, ?_⟩
   have:=Jh (h:=es.length) (l:=0) hv hp.2 (by omega) (by omega);rw [hn]; simpa using this
  | so b u hb =>
   cases hb <;> simp only [Lg,Na,Pq,Option.some.injEq,Prod.mk.injEq,reduceCtorEq] at he
   obtain ⟨rfl,rfl⟩:=he
   rename_i k b
   refine ⟨_,by rw [run_slice_h w t a n c hu k b (by omega) (by omega),hs]; rfl, ?_⟩;exact Jh (h:=b.toNat) (l:=0) hv hp.2 (by omega) (by omega)
 | so b u hb =>
  cases hb <;> simp only [Lg,reduceCtorEq] at he
  rename_i k b
  cases hh with
  | l5 u=>simp [Na] at he
  | no =>
   simp only [Na,Pq,Option.some.injEq,Prod.mk.injEq] at he
   obtain ⟨rfl,rfl⟩:=he;refine ⟨_,by rw [run_slice_l w t a n c hu k b (by omega) (by omega),hs]; rfl, ?_⟩
   have:=Jh (h:=es.length) (l:=b.toNat) hv hp.2 (by omega) (by omega);rw [hn]; simpa using this
  | so d u hd =>
   cases hd <;> simp only [Na,Pq,Option.some.injEq,Prod.mk.injEq,reduceCtorEq] at he
   obtain ⟨rfl,rfl⟩:=he
   rename_i k' d
   refine ⟨_,by rw [run_slice_lh w t a n c hu k k' b d (by omega) (by omega) (by omega),hs]; rfl, ?_⟩;exact Jh (h:=d.toNat) (l:=b.toNat) hv hp.2 (by omega) (by omega)
theorem XI (hW : Ao g B H w) {t : TypeId} {x : TypeId × TypeInfo} (h : BI P t=some x) {av : AV} {v : Value} (hv : Aa g av v) {lo hi : Option (Option AV)} {lo' EP : Option Value} (hl : OR g lo lo') (hh : OR g hi EP)
  {K : Ak} (hk : UW x.2.size (some av) lo hi K H) : ∃ u w',(Instr.sliceAt t v lo' EP none).run P w=.ok u w'∧Cz g B w K u w':=by
 obtain ⟨h1,h2,h3⟩:=Bh h
 have aS : P.elem t=x.1:=by simp [Program.elem,h1]
 have hu : P.underlying t=some (.slice (P.elem t)):=by rw [aS]; exact h1
 have hs : (sizeOf (P.elem t)).run P w=.ok x.2.size w:=by simp [aS,sizeOf,typeInfo,h2]
 obtain ⟨id,n,rfl⟩ : ∃ id n,av=.buf id n:=by
  cases av <;> try exact hk.elim
  exact ⟨_,_,rfl⟩
 simp only [UW] at hk
 cases ho : H.get id with
 | none=>rw [ho] at hk; exact hk.elim
 | some o =>
  rw [ho] at hk
  cases o with
  | map _ _=>exact hk.elim
  | cells sz cs f =>
   obtain ⟨⟨rfl,Pe⟩,hk⟩:=hk
   obtain ⟨p,r,he,hp,hk⟩:=Ch hk
   cases hv with
   | CN _ _ =>
    exfalso
    cases hl <;> cases hh <;> try (simp [Iu] at he; done)
    all_goals (rename_i a1 u1 RE; cases RE <;> try (simp [Iu] at he; done))
    all_goals (simp only [Iu,Option.some.injEq,Prod.mk.injEq] at he; obtain ⟨rfl,rfl⟩:=he; omega)
   | buf _ _ b cap CA =>
    obtain ⟨c,el,k1,k2,k3,k4,k5,k6,k7⟩:=hW.obj CA ho
    have hnc : n≤cap:=Nat.le_of_mul_le_mul_right (by omega : n*x.2.size≤cap*x.2.size) (by omega);rw [run_sliceAt_slice w t _ _ _ _ hu]
    cases hl with
    | l5 u=>simp [Iu] at he
    | no =>
     cases hh with
     | l5 u=>simp [Iu] at he
     | no=>simp [Iu] at he
     | so b' u hb =>
      cases hb <;> try (simp [Iu] at he; done)
      rename_i k b'
      simp only [Iu,Option.some.injEq,Prod.mk.injEq] at he
      obtain ⟨rfl,rfl⟩:=he;refine ⟨_,_,by rw [run_slice_h w t _ n cap hu k b' (by omega) (by omega),hs]; rfl, ?_⟩;refine .same hW ?_ hk
      have Bg : ¬ cap=0:=by omega
      simp only [sliced,Bg,if_false,Option.map,Addr.add_lit,Nat.zero_mul,Nat.sub_zero,Nat.add_zero];exact .buf id _ b cap CA
    | so a u ha =>
     cases ha <;> try (cases hh <;> simp [Iu] at he; done)
     rename_i k a
     cases hh with
     | l5 u=>simp [Iu] at he
     | so _ _ _=>simp [Iu] at he
     | no =>
      simp only [Iu,Option.some.injEq,Prod.mk.injEq] at he
      obtain ⟨rfl,rfl⟩:=he;refine ⟨_,_,by rw [run_slice_l w t _ n cap hu k a (by omega) (by omega),hs]; rfl, ?_⟩;refine .same hW ?_ hk
      have Bg : ¬ cap=a.toNat:=by omega
      simp only [sliced,Bg,if_false,Option.map,Addr.add_lit,Nat.zero_add];exact .sub id _ _ b cap _ CA
theorem WL (hW : Ao g B H w) {t : TypeId} {x : TypeId × TypeInfo} (h : BI P t=some x) {av a1 a2 : AV} {v v1 v2 : Value} (hv : Aa g av v) (C0 : Aa g a1 v1) (Dh : Aa g a2 v2)
  {K : Ak} (hk : YF x.2.size (some av) (some a1) (some a2) K H) : ∃ u w',(Instr.sliceAt t v none (some v1) (some v2)).run P w=.ok u w'∧Cz g B w K u w':=by
 obtain ⟨h1,h2,h3⟩:=Bh h
 have aS : P.elem t=x.1:=by simp [Program.elem,h1]
 have hu : P.underlying t=some (.slice (P.elem t)):=by rw [aS]; exact h1
 have hs : (sizeOf (P.elem t)).run P w=.ok x.2.size w:=by simp [aS,sizeOf,typeInfo,h2]
 obtain ⟨id,n,rfl⟩ : ∃ id n,av=.buf id n:=by
  cases av <;> try exact hk.elim
  exact ⟨_,_,rfl⟩
 obtain ⟨ka,a,rfl⟩ : ∃ k n,a1=.int k n:=by
  cases a1 <;> try exact hk.elim
  exact ⟨_,_,rfl⟩
 obtain ⟨kb,b,rfl⟩ : ∃ k n,a2=.int k n:=by
  cases a2 <;> try exact hk.elim
  exact ⟨_,_,rfl⟩
 cases C0; cases Dh;simp only [YF] at hk
 cases ho : H.get id with
 | none=>rw [ho] at hk; exact hk.elim
 | some o =>
  rw [ho] at hk
  cases o with
  | map _ _=>exact hk.elim
  | cells sz cs f =>
   obtain ⟨⟨rfl,Pe⟩,hk⟩:=hk;simp only [jK,pW] at hk
   obtain ⟨⟨rfl,rfl⟩,hk⟩:=hk;rw [run_sliceAt_slice w t _ _ _ _ hu]
   cases hv with
   | CN _ _ =>
    refine ⟨_,_,by rw [run_slice_hm w t _ 0 0 hu ka kb _ _ (by omega) (by omega) (by omega),hs]; rfl, ?_⟩;exact .same hW (.Dg _) hk
   | buf _ _ b cap CA =>
    obtain ⟨c,el,k1,k2,k3,k4,k5,k6,k7⟩:=hW.obj CA ho
    have hnc : n≤cap:=Nat.le_of_mul_le_mul_right (by omega : n*x.2.size≤cap*x.2.size) (by omega);refine ⟨_,_,by rw [run_slice_hm w t _ n cap hu ka kb _ _ (by omega) (by omega) (by omega),hs]; rfl, ?_⟩
    by_cases h0 : n=0
    ·subst h0;exact .same hW (.Dg _) hk
    ·rw [if_neg h0] at hk;refine .same hW ?_ hk;simp only [sliced,h0,if_false,Option.map,Addr.add_lit,Nat.zero_mul,Nat.sub_zero,Nat.add_zero,Int.toNat_natCast];exact .Nj id _ b cap CA
theorem Ig {σ : Env} {a : Act} (hE : Cr g σ a.tmps) {o : Option Operand} {x : Option X} (h : sQ o=some x) : OR g (x.map (val σ)) (o.map a.eval):=by
 cases o with
 | none=>simp [sQ] at h; subst h; exact .no
 | some o =>
  simp only [sQ] at h
  cases hx : cx o with
  | none=>simp [hx] at h
  | some y =>
   simp [hx] at h; subst h;simp only [Option.map]
   cases hv : val σ y with
   | none=>exact .l5 _
   | some v=>exact .so _ _ (Al hE hx hv)
set_option maxHeartbeats 1000000 in
theorem Rm {o : Oper} {h : Nat} {i : Jt} (hc : Ex P h o.op=some i) {σ : Env} {a : Act} (hW : Ao g B H w) (hE : Cr g σ a.tmps) {K : Ak} (hk : D6 P B K σ H i) :
  Fits P g B w K ((execOp a.eval o).run P w):=by
 cases ho : o.op <;> simp only [ho,Ex] at hc <;> try (cases hc; done)
 all_goals simp only [execOp,ho]
 case move x =>
  cases hx : cx x with
  | none=>simp [hx] at hc
  | some x' =>
   simp [hx] at hc; subst hc
   obtain ⟨p,r,he,hp,hk⟩:=Ch hk
   cases hv : val σ x' with
   | none=>simp [JZ,hv,Tz] at he
   | some v =>
    simp [JZ,hv,Tz] at he; obtain ⟨-,rfl⟩:=he;exact .same hW (Al hE hx hv) hk
 case assign x =>
  cases hx : cx x with
  | none=>simp [hx] at hc
  | some x' =>
   simp [hx] at hc; subst hc
   obtain ⟨p,r,he,hp,hk⟩:=Ch hk
   cases hv : val σ x' with
   | none=>simp [JZ,hv,Tz] at he
   | some v =>
    simp [JZ,hv,Tz] at he; obtain ⟨-,rfl⟩:=he;exact .same hW (Al hE hx hv) hk
 case pick c x y =>
  cases LF : cx c <;> cases oS : cx x <;> cases xM : cx y <;> simp [LF,oS,xM] at hc
  rename_i c' x' y'
  subst hc
  obtain ⟨p,r,he,hp,hk⟩:=Ch hk;simp only [JZ] at he
  cases w8 : val σ c' with
  | none=>simp [w8,M3] at he
  | some vc =>
   have hrc:=Al hE LF w8
   generalize a.eval c=uc at hrc ⊢
   cases hrc <;> try (simp [w8,M3] at he; done)
   rename_i b
   cases b
   ·simp only [w8,M3] at he
    cases hv : val σ y' with
    | none=>simp [hv,Tz] at he
    | some v =>
     simp [hv,Tz] at he; obtain ⟨-,rfl⟩:=he;simp only [asBool,Sem.run_bind,Sem.run_pure,Result.andThen_ok,Bool.false_eq_true,if_false];exact .same hW (Al hE xM hv) hk
   ·simp only [w8,M3] at he
    cases hv : val σ x' with
    | none=>simp [hv,Tz] at he
    | some v =>
     simp [hv,Tz] at he; obtain ⟨-,rfl⟩:=he;simp only [asBool,Sem.run_bind,Sem.run_pure,Result.andThen_ok,if_true];exact .same hW (Al hE oS hv) hk
 case alloc t =>
  cases hz : Be P t with
  | none=>simp [hz] at hc
  | some z =>
   simp [hz] at hc; subst hc
   obtain ⟨k1,k2⟩:=hk;exact .val (T4 hW hz k1 k2)
 case box t x =>
  cases h1 : Fy P t <;> cases h2 : P.info? t <;> cases h3 : cx x <;> simp [h1,h2,h3] at hc
  rename_i ao ti x'
  split at hc
  ·cases hc;simp only [D6] at hk
   cases hv : val σ x' with
   | none=>simp [hv,SN] at hk
   | some v=>exact .val (UL hW hv (Al hE h3 hv) hk)
  ·cases hc;refine .val ?_
   obtain ⟨p,r,he,hp,hk⟩:=Ch hk;simp only [JZ] at he
   cases hv : val σ x' with
   | none=>simp [hv,Zb] at he
   | some v =>
    simp only [hv,Zb,Option.some.injEq,Prod.mk.injEq] at he
    obtain ⟨rfl,rfl⟩:=he
    obtain ⟨u,w',r1,r2⟩:=Tx (P:=P) hW (t:=t) (Al hE h3 hv);exact ⟨u,w',r1,r2.mono fun r H' ⟨a,b⟩=>by subst a; subst b; exact hk⟩
 case build t parts =>
  cases h1 : Be P t <;> cases h2 : fieldsOf P t <;> cases h3 : partsOf P t parts.toList <;> simp only [h1,h2,h3,reduceCtorEq] at hc
  rename_i z fs ps
  split at hc
  ·rename_i Au
   cases hc;refine .val (pv hW hk fun p r he hp=>?_);exact Rn hE h1 h2 h3 (fun f hf=>by rw [Array.all_eq_true_iff_forall_mem] at Au; exact Au f hf) he hp
  ·cases hc
 case buildSlice t n parts =>
  cases h1 : BI P t with
  | none=>simp [h1] at hc
  | some e =>
   obtain ⟨hu,hi,hs⟩:=Bh h1;simp only [h1,hu,Option.elim_some] at hc
   cases h2 : Ef 0 parts.toList <;> cases h3 : Be P e.1 <;> simp [h2,h3] at hc
   rename_i xs z
   obtain ⟨⟨hn,V2⟩,hc⟩:=hc
   split at hc
   ·rename_i h0
    cases hc;refine .val ?_
    have hk : True∧K .Dg H:=hk
    have hk:=hk.2
    obtain ⟨-,rfl⟩:=h0
    obtain ⟨u,w',r1,r2⟩:=We (P:=P) hW hE h1 h3 h2 hn;exact ⟨u,w',r1,r2.mono fun r H' ⟨a,b⟩=>by subst a; subst b; exact hk⟩
   split at hc
   ·cases hc;refine .val ?_
    obtain ⟨p,r,he,hp,hk⟩:=Ch hk;simp only [JZ] at he
    cases hv : Cj σ xs with
    | none=>simp [hv,Y1] at he
    | some as =>
     simp only [hv,Y1,Option.some.injEq,Prod.mk.injEq] at he
     obtain ⟨rfl,rfl⟩:=he
     obtain ⟨u,w',r1,r2⟩:=Tl (P:=P) hW hE h1 h3 h2 hn V2 hv hp.1 hp.2;exact ⟨u,w',r1,r2.mono fun r H' ⟨a,b⟩=>by subst a; subst b; exact hk⟩
   ·cases hc;exact .val (Uh hW hE h1 h3 h2 hn V2 hk)
 case load t x =>
  cases h1 : Fy P t <;> cases h2 : cx x <;> simp [h1,h2] at hc
  rename_i n x'
  split at hc
  ·cases hc;refine .val (pv hW hk fun p r he hp=>?_);simp only [JZ] at he
   cases hv : val σ x' with
   | none=>cases n <;> simp [hv,Wb] at he
   | some v=>rw [hv] at he; exact JN hW h1 (Al hE h2 hv) he hp
  ·split at hc
   ·cases hc;simp only [D6] at hk
    cases hv : val σ x' with
    | none=>rw [hv] at hk; exact hk.elim
    | some v =>
     have hr:=Al hE h2 hv;rw [hv] at hk
     cases v <;> try exact hk.elim
     obtain ⟨u,r1,r2⟩:=Mb (P:=P) hW h1 hr hk.2;exact .val ⟨u,w,r1,r2⟩
   cases hc;simp only [D6] at hk
   cases hv : val σ x' with
   | none=>cases n <;> simp [hv,Tu,Wb,pW] at hk
   | some v =>
    have hr:=Al hE h2 hv;rw [hv] at hk
    by_cases TZ : ∃ id off,v=.ref id off
    ·obtain ⟨id,off,rfl⟩:=TZ;simp only [Tu] at hk
     obtain ⟨u,r1,r2⟩:=Mb (P:=P) hW h1 hr hk;exact .val ⟨u,w,r1,r2⟩
    ·have Lw : pW (Wb n (some v)) K H:=by
      unfold Tu at hk
      split at hk
      ·rename_i id off heq; cases heq; exact absurd ⟨_,_,rfl⟩ TZ
      ·exact hk
     exact .val (pv hW Lw fun p r he hp=>JN hW h1 hr he hp)
 case store t p v =>
  cases h1 : P.info? t <;> cases h2 : cx p <;> cases h3 : cx v <;> simp [h1,h2,h3] at hc
  rename_i ti p' v'
  subst hc;simp only [D6] at hk
  cases C0 : val σ p' with
  | none=>simp [C0,kL] at hk
  | some pv' =>
   cases Dh : val σ v' with
   | none=>cases pv' <;> simp [C0,Dh,kL] at hk
   | some vv =>
    rw [C0,Dh] at hk
    cases pv' <;> try (simp [kL] at hk; done)
    simp only [kL] at hk
    obtain ⟨w',r1,r2⟩:=WW (P:=P) hW h1 (Al hE h2 C0) (Al hE h3 Dh) hk;exact .unit ⟨w',r1,r2⟩
 case nilCheck x =>
  cases hx : cx x with
  | none=>simp [hx] at hc
  | some x' =>
   simp [hx] at hc; subst hc
   obtain ⟨p,r,he,hp,hk⟩:=Ch hk;simp only [JZ] at he
   cases hv : val σ x' with
   | none=>simp [hv,U8] at he
   | some v =>
    have hr:=Al hE hx hv
    generalize a.eval x=ux at hr ⊢
    cases hr <;> simp [hv,U8] at he
    ·obtain ⟨-,rfl⟩:=he
     rename_i cs b o vs hf RH
     exact .same hW (.ptr cs b o vs hf RH) hk
    ·obtain ⟨-,rfl⟩:=he
     rename_i id off b cap CA
     exact .same hW (.ref id off b cap CA) hk
    ·obtain ⟨-,rfl⟩:=he
     rename_i cs id b cap vs CA hf RH
     exact .same hW (.FX cs id b cap vs CA hf RH) hk
 case binOp op t x y yt =>
  cases hu : P.underlying t with
  | none=>simp [hu] at hc
  | some d =>
   cases d <;> simp only [hu,reduceCtorEq] at hc
   case int k =>
    cases h1 : cx x <;> cases h2 : cx y <;> simp [h1,h2] at hc
    rename_i x' y'
    obtain ⟨gK,rfl⟩:=hc;refine .val (pv hW hk fun p r he hp=>?_);simp only [JZ] at he
    cases C0 : val σ x' with
    | none=>simp [C0,Gc] at he
    | some v1 =>
     cases Dh : val σ y' with
     | none=>cases v1 <;> simp [C0,Dh,Gc] at he
     | some v2 =>
      rw [C0,Dh] at he;exact Vi (Al hE h1 C0) (Al hE h2 Dh) he hp
   case string =>
    cases h1 : cx x <;> cases h2 : cx y <;> simp [h1,h2] at hc
    rename_i x' y'
    subst hc;refine .val (pv hW hk fun p r he hp=>?_);simp only [JZ] at he
    cases C0 : val σ x' with
    | none=>simp [C0,Gc] at he
    | some v1 =>
     cases Dh : val σ y' with
     | none=>cases v1 <;> simp [C0,Dh,Gc] at he
     | some v2 =>
      rw [C0,Dh] at he;exact Vi (Al hE h1 C0) (Al hE h2 Dh) he hp
   case bool =>
    have key : ∀ (neg : Bool) x' y',cx x=some x'→cx y=some y'→i=.bq neg x' y'→op=It neg →
      Fits P g B w K ((do pure (.value (← (do eqGuard op t x y (a.eval x) (a.eval y); binOp op t (a.eval x) (a.eval y) : Sem Value))) : Sem Next).run P w):=by
     intro neg x' y' h1 h2 hi OT;subst hi;refine .val (pv hW hk fun p r he hp=>?_);simp only [JZ] at he
     cases C0 : val σ x' with
     | none=>simp [C0,cD] at he
     | some v1 =>
      cases Dh : val σ y' with
      | none=>cases v1 <;> simp [C0,Dh,cD] at he
      | some v2 =>
       rw [C0,Dh] at he;subst OT;exact ZO hu (Al hE h1 C0) (Al hE h2 Dh) he
    cases h1 : cx x <;> cases h2 : cx y <;> cases op <;> simp only [h1,h2,reduceCtorEq,Option.some.injEq] at hc
    ·exact key false _ _ h1 h2 hc.symm rfl
    ·exact key true _ _ h1 h2 hc.symm rfl
   case pointer e =>
    have key : ∀ (neg : Bool) x',cx x=some x'→Mp y=true→i=.nq neg x'→op=It neg →
      Fits P g B w K ((do pure (.value (← (do eqGuard op t x y (a.eval x) (a.eval y); binOp op t (a.eval x) (a.eval y) : Sem Value))) : Sem Next).run P w):=by
     intro neg x' h1 h2 hi OT;subst hi
     have hy:=WU h2 a;refine .val (pv hW hk fun p r he hp=>?_);simp only [JZ] at he
     cases C0 : val σ x' with
     | none=>simp [C0,cC] at he
     | some v1 =>
      rw [C0] at he;subst OT;rw [hy];exact a8 hu (Al hE h1 C0) he
    cases h1 : cx x <;> cases h2 : Mp y <;> cases op <;> simp only [h1,h2,reduceCtorEq,Option.some.injEq] at hc
    ·exact key false _ h1 h2 hc.symm rfl
    ·exact key true _ h1 h2 hc.symm rfl
   case slice e =>
    have key : ∀ (neg : Bool) x',cx x=some x'→N5 y=true→i=.aP neg x'→op=It neg →
      Fits P g B w K ((do pure (.value (← (do eqGuard op t x y (a.eval x) (a.eval y); binOp op t (a.eval x) (a.eval y) : Sem Value))) : Sem Next).run P w):=by
     intro neg x' h1 h2 hi OT;subst hi
     have hy:=UD h2 a;simp only [D6] at hk
     have hq : ∀ (p : Option Addr) (n c : Nat),(Op.equal t (.slice p n c) (.slice none 0 0)).run P w=.ok p.isNone w:=bX hu 9999
     have Nl : ∀ (p : Option Addr) (n c : Nat),a.eval x=.slice p n c→((do eqGuard op t x y (a.eval x) (a.eval y); binOp op t (a.eval x) (a.eval y) : Sem Value)).run P w=.ok (.bool (neg ^^ p.isNone)) w:=by
      intro p n c e;subst OT;rw [e,hy]
      cases neg <;> simp [It,eqGuard,binOp,hq]
     have fin : ∀ (p : Option Addr) (n c : Nat),a.eval x=.slice p n c→K (.bool (neg ^^ p.isNone)) H →
       Fits P g B w K ((do pure (.value (← (do eqGuard op t x y (a.eval x) (a.eval y); binOp op t (a.eval x) (a.eval y) : Sem Value))) : Sem Next).run P w):=by
      intro p n c e M0;exact .val ⟨_,w,Nl p n c e,g,_,H,.refl g,M0,.bool _,hW,.refl B w⟩
     cases hv : val σ x' with
     | none=>simp [hv,ZY] at hk
     | some v =>
      have hr:=Al hE h1 hv;rw [hv] at hk
      have all : ∀ ux,a.eval x=ux→Aa g v ux→Fits P g B w K ((do pure (.value (← (do eqGuard op t x y (a.eval x) (a.eval y); binOp op t (a.eval x) (a.eval y) : Sem Value))) : Sem Next).run P w):=by
       intro ux jk hr
       cases hr <;> try (simp [ZY] at hk; done)
       ·exact fin _ _ _ jk (by simpa [ZY] using hk)
       ·exact fin _ _ _ jk ((hk : (([] : List AV)=[]→∀ b,K (.bool b) H)∧(([] : List AV)≠[]→K (.bool neg) H)).1 rfl _)
       ·refine fin _ _ _ jk ?_
        rename_i es b o sz cap vs hm _ CW hf RH
        have Lw : (es=[]→∀ b,K (.bool b) H)∧(es≠[]→K (.bool neg) H):=hk
        by_cases he : es=[]
        ·exact Lw.1 he _
        ·simpa using Lw.2 he
      exact all _ rfl hr
    cases h1 : cx x <;> cases h2 : N5 y <;> cases op <;> simp only [h1,h2,reduceCtorEq,Option.some.injEq] at hc
    ·exact key false _ h1 h2 hc.symm rfl
    ·exact key true _ h1 h2 hc.symm rfl
   case struct fs =>
    have key : ∀ (neg : Bool) x' y',cx x=some x'→cx y=some y'→i=.aq neg fs.size x' y'→op=It neg →
      (EC P 0 fs.toList && !P.stoodInHeld t && !P.eqGuardType P.depth t && fs.size == 2)=true →
      Fits P g B w K ((do pure (.value (← (do eqGuard op t x y (a.eval x) (a.eval y); binOp op t (a.eval x) (a.eval y) : Sem Value))) : Sem Next).run P w):=by
     intro neg x' y' h1 h2 hi OT Au;subst hi;simp only [Bool.and_eq_true,Bool.not_eq_true',beq_iff_eq] at Au
     obtain ⟨⟨⟨a1,a2⟩,a3⟩,a4⟩:=Au;refine .val (pv hW hk fun p r he hp=>?_);simp only [JZ] at he
     cases C0 : val σ x' with
     | none=>simp [C0,aE] at he
     | some v1 =>
      cases Dh : val σ y' with
      | none=>cases v1 <;> simp [C0,Dh,aE] at he
      | some v2 =>
       rw [C0,Dh,a4] at he;subst OT;exact Uc hu a1 a2 a3 a4 (Al hE h1 C0) (Al hE h2 Dh) he hp
    cases h1 : cx x <;> cases h2 : cx y <;> cases op <;> simp only [h1,h2,reduceCtorEq,Option.some.injEq] at hc
    ·split at hc
     ·rename_i Au; cases hc; exact key false _ _ h1 h2 rfl rfl Au
     ·cases hc
    ·split at hc
     ·rename_i Au; cases hc; exact key true _ _ h1 h2 rfl rfl Au
     ·cases hc
 case unOp op t x =>
  cases op <;> simp only [reduceCtorEq] at hc
  cases hx : cx x with
  | none=>simp [hx] at hc
  | some x' =>
   simp [hx] at hc; subst hc;refine .val (pv hW hk fun p r he hp=>?_);simp only [JZ] at he
   cases hv : val σ x' with
   | none=>simp [hv,nZ] at he
   | some v =>
    have hr:=Al hE hx hv;rw [hv] at he
    generalize a.eval x=ux at hr ⊢
    cases hr <;> try (simp [nZ] at he; done)
    simp [nZ] at he; obtain ⟨-,rfl⟩:=he;exact ⟨_,by simp [Op.unary],.bool _⟩
 case convert s d x =>
  cases hs : P.underlying s <;> cases hd : P.underlying d <;> simp only [hs,hd,reduceCtorEq] at hc
  rename_i ds dd
  split at hc
  ·rename_i ks kd k9 kU
   cases k9; cases kU
   cases hx : cx x with
   | none=>simp [hx] at hc
   | some x' =>
    simp [hx] at hc; subst hc;refine .val (pv hW hk fun p r he hp=>?_);simp only [JZ] at he
    cases hv : val σ x' with
    | none=>simp [hv,PQ] at he
    | some v =>
     have hr:=Al hE hx hv;rw [hv] at he
     generalize a.eval x=ux at hr ⊢
     cases hr <;> try (simp [PQ] at he; done)
     simp [PQ] at he; obtain ⟨-,rfl⟩:=he;exact ⟨_,by simp [convert,run_underlying hs,run_underlying hd,Conv.intToInt],.int _ _⟩
  ·rename_i e k9 kU
   cases k9; cases kU
   split at hc
   ·rename_i hint
    have hu8 : P.underlying e=some (.int .u8):=by
     unfold Yf at hint
     split at hint
     ·rename_i hk8; cases hint; exact hk8
     ·cases hint
    cases hx : cx x with
    | none=>simp [hx] at hc
    | some x' =>
     simp [hx] at hc; subst hc;refine .val (pv hW hk fun p r he hp=>?_);simp only [JZ] at he
     cases hv : val σ x' with
     | none=>simp [hv,QB] at he
     | some v =>
      have hr:=Al hE hx hv;rw [hv] at he
      obtain ⟨u,q1,q2⟩:=Rt (P:=P) hW hr he hp;refine ⟨u, ?_,q2⟩
      generalize a.eval x=ux at hr q1 ⊢
      cases hr <;> simp [QB] at he
      all_goals simp [convert,run_underlying hs,run_underlying hd,run_underlying hu8,q1]
   ·cases hc
  ·cases hc
 case makeInterface t x =>
  cases hu : P.underlying t with
  | none=>simp [hu] at hc
  | some d =>
   have lY : ∀ ms,d≠.interface ms:=by rintro ms rfl; simp [hu] at hc
   have fZ : (cx x).map (Jt.kW t)=some i:=by
    rw [hu] at hc
    cases d <;> first | exact hc | exact absurd rfl (lY _)
   cases hx : cx x with
   | none=>simp [hx] at fZ
   | some x' =>
    simp [hx] at fZ; subst fZ;refine .val (pv hW hk fun p r he hp=>?_);simp only [JZ] at he
    cases hv : val σ x' with
    | none=>simp [hv,ZA] at he
    | some v =>
     simp [hv,ZA] at he; obtain ⟨-,rfl⟩:=he;refine ⟨.iface t (a.eval x), ?_,.R4 t v _ (Al hE hx hv)⟩;simp only [Instr.makeInterface,Sem.run_bind,run_underlying hu,Result.andThen_ok]
     cases d <;> first | rfl | exact absurd rfl (lY _)
 case typeAssert x xT asserted ok =>
  cases ok <;> simp only [reduceCtorEq] at hc
  cases hx : cx x with
  | none=>simp [hx] at hc
  | some x' =>
   simp [hx] at hc; subst hc;simp only [D6] at hk
   cases hv : val σ x' with
   | none=>simp [hv,WT] at hk
   | some v =>
    have hr:=Al hE hx hv;rw [hv] at hk
    generalize jk : a.eval x=ux at hr
    cases hr <;> try (simp [WT] at hk; done)
    rename_i t v u h
    simp only [WT] at hk;refine .val ⟨_,w,hk.1 u xT w,g,_,H,.refl g,hk.2,.CQ _ _ rfl fun i hi=>?_,hW,.refl B w⟩;simp only [List.length_cons,List.length_nil] at hi
    obtain rfl | rfl : i=0∨i=1:=by omega
    ·exact .R4 t v u h
    ·exact .bool _
 case makeFunc f first ca =>
  split at hc
  ·rename_i hf
   have XV : first=#[]:=Array.eq_empty_of_size_eq_zero hf;subst XV
   cases hx : c9 ca.toList with
   | none=>simp [hx] at hc
   | some xs =>
    simp [hx] at hc; subst hc;refine .val (pv hW hk fun p r he hp=>?_);simp only [JZ] at he
    cases hv : Cj σ xs with
    | none=>simp [hv,ZC] at he
    | some vs =>
     simp [hv,ZC] at he; obtain ⟨-,rfl⟩:=he
     obtain ⟨q1,q2⟩:=Kn hE hx hv;refine ⟨.func f #[] (ca.map a.eval),by simp [Instr.makeFunc],.fn f vs _ ?_ ?_⟩
     ·simpa using q1
     ·intro j hj
      have:=q2 j hj;rw [show (List.map a.eval ca.toList).toArray=ca.map a.eval by apply Array.ext'; simp] at this;exact this
  ·cases hc
 case makeMap t r =>
  cases hu : P.underlying t with
  | none=>simp [hu] at hc
  | some d =>
   cases d <;> simp only [hu,reduceCtorEq] at hc
   cases r with
   | some x=>simp at hc
   | none =>
    simp at hc; subst hc
    obtain ⟨j,h1,h2⟩:=hW.fresh
    obtain ⟨k1,k2⟩:=hW.WM j h1 0;exact .val ⟨.map (some w.heap.size),w.alloc (.map #[] 0),by simp [Instr.makeMap],_,_,_,k1,hk j h2,.Fa j _ (Gh.DV _ _ _),k2,(Below.refl B w).alloc hW.base _⟩
 case makeSlice t l c =>
  cases h1 : BI P t with
  | none=>simp [h1] at hc
  | some e =>
   obtain ⟨hu,hi,hs⟩:=Bh h1;simp only [h1,hu,Option.elim_some] at hc
   cases h2 : cx l <;> cases h3 : cx c <;> cases h4 : Be P e.1 <;> simp [h2,h3,h4] at hc
   rename_i l' c' z
   obtain ⟨hb,rfl⟩:=hc;simp only [D6] at hk
   cases C0 : val σ l' with
   | none=>simp [C0,Q7] at hk
   | some v1 =>
    cases Dh : val σ c' with
    | none=>cases v1 <;> simp [C0,Dh,Q7] at hk
    | some v2=>exact .val (Wn (P:=P) hW h1 h4 hb C0 Dh (Al hE h2 C0) (Al hE h3 Dh) hk)
 case fieldAddr t x f =>
  cases h1 : Ei P t f <;> cases h2 : cx x <;> simp [h1,h2] at hc
  rename_i q x'
  obtain ⟨off,n,ao⟩:=q;subst hc;refine .val (pv hW hk fun p r he hp=>?_);simp only [JZ] at he
  cases hv : val σ x' with
  | none=>simp [hv,SJ] at he
  | some v=>rw [hv] at he; exact O1 h1 (Al hE h2 hv) he hp
 case field t x f =>
  cases h1 : Ei P t f <;> cases h2 : cx x <;> simp [h1,h2] at hc
  rename_i q x'
  obtain ⟨off,n,ao⟩:=q;subst hc
  obtain ⟨fs,fl,j,g1,g2,g3,g4,g5,g6,g7⟩:=Gb h1;refine .val (pv hW hk fun p r he hp=>?_);simp only [JZ] at he
  cases hv : val σ x' with
  | none=>cases ao <;> simp [hv,RM] at he
  | some v =>
   have hr:=Al hE h2 hv;rw [hv] at he
   generalize a.eval x=ux at hr ⊢
   cases hr <;> try (cases ao <;> simp [RM] at he; done)
   rename_i cs vs hs TL
   cases ao with
   | none =>
    simp only [RM,Option.some.injEq,Prod.mk.injEq] at he
    obtain ⟨rfl,rfl⟩:=he
    have CF : off<vs.size:=by omega
    exact ⟨vs.getD off undef,by simp [Instr.field,run_underlying g1,g2,asAgg,part,Eh g7,g6,CF,Array.getD],TL _ hp⟩
   | some m =>
    simp only [RM,Option.some.injEq,Prod.mk.injEq] at he
    obtain ⟨rfl,rfl⟩:=he
    obtain ⟨b1,ti,b2,b3⟩:=IZ (w:=w) g7;refine ⟨.agg (vs.extract off (off+m)),by simp [Instr.field,run_underlying g1,g2,asAgg,part,b1,g6,sizeOf,typeInfo,b2,b3],.agg _ _ ?_ ?_⟩
    ·simp; omega
    ·intro k Lw
     have TS : k<m:=by simp at Lw; omega
     have e1 : ((cs.drop off).take m).getD k nv=cs.getD (off+k) nv:=by simp [Go.AW.gE,TS]
     have e2 : (vs.extract off (off+m)).getD k undef=vs.getD (off+k) undef:=by
      simp only [Array.getD_eq_getD_getElem?,Array.getElem?_extract];rw [if_pos (by omega)]
     rw [e1,e2]; exact TL _ (by omega)
 case slice t x lo hi mx =>
  cases mx with
  | some mx =>
   cases lo <;> cases hi <;> simp only [reduceCtorEq] at hc
   rename_i hi
   cases h1 : BI P t <;> cases h2 : cx x <;> cases h3 : cx hi <;> cases h4 : cx mx <;> simp [h1,h2,h3,h4] at hc
   rename_i q x' EP mx'
   subst hc;simp only [D6] at hk
   cases hv : val σ x' with
   | none=>rw [hv] at hk; exact hk.elim
   | some v =>
    cases C0 : val σ EP with
    | none=>rw [hv,C0] at hk; cases v <;> exact hk.elim
    | some v1 =>
     cases Dh : val σ mx' with
     | none=>rw [hv,C0,Dh] at hk; cases v <;> first | exact hk.elim | (cases v1 <;> exact hk.elim)
     | some v2=>rw [hv,C0,Dh] at hk; exact .val (WL hW h1 (Al hE h2 hv) (Al hE h3 C0) (Al hE h4 Dh) hk)
  | none =>
  simp only [reduceCtorEq] at hc
  cases h1 : BI P t <;> cases h2 : cx x <;> cases h3 : sQ lo <;> cases h4 : sQ hi <;> simp [h1,h2,h3,h4] at hc
  ·rename_i x' lo' EP
   cases hu : P.underlying t <;> simp [hu] at hc
   rename_i q
   cases q <;> simp at hc
   subst hc;refine .val (pv hW hk fun p r he hp=>?_);simp only [JZ] at he
   cases hv : val σ x' with
   | none=>simp [hv,JH,Lg,Yt] at he
   | some v=>rw [hv] at he; exact UF hu (Al hE h2 hv) (Ig hE h3) (Ig hE h4) he hp
  rename_i q x' lo' EP
  obtain ⟨e,ti⟩:=q
  split at hc
  ·cases hc;simp only [D6] at hk
   cases hv : val σ x' with
   | none=>rw [hv] at hk; exact hk.elim
   | some v=>rw [hv] at hk; exact .val (XI hW h1 (Al hE h2 hv) (Ig hE h3) (Ig hE h4) hk)
  cases hc;refine .val (pv hW hk fun p r he hp=>?_);simp only [JZ] at he
  cases hv : val σ x' with
  | none=>simp [hv,JH,Lg,Yt] at he
  | some v=>rw [hv] at he; exact WJ h1 (Al hE h2 hv) (Ig hE h3) (Ig hE h4) he hp
 case indexAddr t x ix =>
  cases h1 : BI P t <;> cases h2 : cx x <;> cases h3 : cx ix <;> simp [h1,h2,h3] at hc
  rename_i q x' i'
  obtain ⟨e,ti⟩:=q;subst hc;refine .val (pv hW hk fun p r he hp=>?_);simp only [JZ] at he
  cases hv : val σ x' with
  | none=>simp [hv,Gn] at he
  | some v =>
   cases Dh : val σ i' with
   | none=>cases v <;> simp [hv,Dh,Gn] at he
   | some v2=>rw [hv,Dh] at he; exact O4 h1 (Al hE h2 hv) (Al hE h3 Dh) he hp
 case lookup t m k ok =>
  cases hu : P.underlying t with
  | none=>simp [hu] at hc
  | some d =>
   cases d <;> simp only [hu,reduceCtorEq] at hc
   rename_i kt et
   cases h1 : cx m <;> cases h2 : cx k <;> simp only [h1,h2,reduceCtorEq] at hc
   rename_i m' k'
   have key : ∀ (s : Nat) (z : AV),Mh P s kt→zeroOf P et=some z→i=.Xn s ok z m' k' →
     Fits P g B w K ((do pure (.value (← Instr.lookup t (a.eval m) (a.eval k) ok)) : Sem Next).run P w):=by
    intro s z hd hz hi;subst hi;simp only [D6] at hk
    cases C0 : val σ m' with
    | none=>simp [C0,VA] at hk
    | some v1 =>
     cases Dh : val σ k' with
     | none=>cases v1 <;> simp [C0,Dh,VA] at hk
     | some v2 =>
      obtain ⟨u,q1,q2⟩:=Pp (P:=P) hW hu hd hz C0 Dh (Al hE h1 C0) (Al hE h2 Dh) ok hk;exact .val ⟨u,w,q1,q2⟩
   cases Xt : P.underlying kt with
   | none=>simp [Xt] at hc
   | some dk =>
    cases hz : zeroOf P et with
    | none=>cases dk <;> simp [Xt,hz] at hc
    | some z =>
     cases dk <;> simp only [Xt,hz,reduceCtorEq,Option.some.injEq] at hc
     ·exact key 0 z ⟨_,Xt,.inl rfl⟩ hz hc.symm
     ·exact key 1 z ⟨_,Xt,.inl rfl⟩ hz hc.symm
     ·split at hc
      ·exact key 2 z ⟨_,Xt,.inr ⟨rfl,_,rfl,‹_›⟩⟩ hz (by simpa using hc.symm)
      ·cases hc
 case mapUpdate t m k x =>
  cases hu : P.underlying t with
  | none=>simp [hu] at hc
  | some d =>
   cases d <;> simp only [hu,reduceCtorEq] at hc
   rename_i kt et
   cases h1 : cx m <;> cases h2 : cx k <;> cases h3 : cx x <;> simp only [h1,h2,h3,reduceCtorEq] at hc
   rename_i m' k' x'
   have key : ∀ (s : Nat),Mh P s kt→i=.aA s m' k' x' →
     Fits P g B w K ((do Instr.mapUpdate t (a.eval m) (a.eval k) (a.eval x); pure .skip : Sem Next).run P w):=by
    intro s hd hi;subst hi;simp only [D6] at hk
    cases C0 : val σ m' with
    | none=>simp [C0,bW] at hk
    | some v1 =>
     cases Dh : val σ k' with
     | none=>cases v1 <;> simp [C0,Dh,bW] at hk
     | some v2 =>
      cases yd : val σ x' with
      | none=>cases v1 <;> simp [C0,Dh,yd,bW] at hk
      | some v3=>exact .unit (QP (P:=P) hW hu hd C0 Dh yd (Al hE h1 C0) (Al hE h2 Dh) (Al hE h3 yd) hk)
   cases Xt : P.underlying kt with
   | none=>simp [Xt] at hc
   | some dk =>
    cases dk <;> simp only [Xt,reduceCtorEq,Option.some.injEq] at hc
    ·exact key 0 ⟨_,Xt,.inl rfl⟩ hc.symm
    ·exact key 1 ⟨_,Xt,.inl rfl⟩ hc.symm
    ·split at hc
     ·exact key 2 ⟨_,Xt,.inr ⟨rfl,_,rfl,‹_›⟩⟩ (by simpa using hc.symm)
     ·cases hc
 case extract x ix =>
  cases hx : cx x with
  | none=>simp [hx] at hc
  | some x' =>
   simp [hx] at hc; subst hc;refine .val (pv hW hk fun p r he hp=>?_);simp only [JZ] at he
   cases hv : val σ x' with
   | none=>simp [hv,XM] at he
   | some v =>
    have hr:=Al hE hx hv;rw [hv] at he
    generalize a.eval x=ux at hr ⊢
    cases hr <;> try (simp [XM] at he; done)
    rename_i cs vs hs TL
    simp only [XM,Option.some.injEq,Prod.mk.injEq] at he
    obtain ⟨rfl,rfl⟩:=he
    have CF : ix<vs.size:=by omega
    exact ⟨vs.getD ix undef,by simp [Instr.extract,CF,Array.getD],TL _ hp⟩
 case call c =>
  obtain ⟨callee,args,argTypes⟩:=c
  have oB : (args.toList.map a.eval).toArray=args.map a.eval:=by apply Array.ext'; simp
  cases callee with
  | value f =>
   simp only at hc
   cases h1 : cx f <;> cases h2 : c9 args.toList <;> simp [h1,h2] at hc
   rename_i f' xs
   have Nm : ∀ (fid : FuncId) (ca : List AV) (as : List AV) (K' : Ak),val σ f'=some (.fn (.func fid) ca)→Cj σ xs=some as→B9 P B fid (as++ca) H K' →
     Fits P g B w K' ((do let d ← resolve a.eval { callee:=.value f,args:=args,argTypes:=argTypes } o.type; Go.invoke d.target d.args : Sem Next).run P w):=by
    intro fid ca as K' hvf hvx KV
    have TZ:=Al hE h1 hvf
    have lA:=Kn hE h2 hvx;rw [oB] at lA
    obtain ⟨cv,XY,Xc⟩ : ∃ cv,a.eval f=.func (.func fid) #[] cv∧HD g ca cv:=by
     generalize a.eval f=uf at TZ
     cases TZ
     rename_i cv Pe xY
     exact ⟨cv,rfl,Pe,xY⟩
    have:=OZ hW (lA.append Xc) KV;simp only [resolve,XY,Deferred.ofValue,Sem.run_bind,Sem.run_pure,Result.andThen_ok,Go.invoke,Array.empty_append];exact this
   have TT : ∀ (ov : Option AV) (oas : Option (List AV)) (K' : Ak),Jq P B ov oas K' H→∃ fid ca as,ov=some (.fn (.func fid) ca)∧oas=some as∧B9 P B fid (as++ca) H K':=by
    intro ov oas K' hh;unfold Jq at hh
    split at hh
    ·exact ⟨_,_,_,rfl,rfl,hh⟩
    ·exact hh.elim
   split at hc
   ·cases hc;simp only [D6] at hk
    obtain ⟨r,hr,hk⟩:=hk;unfold QK at hr
    split at hr
    ·rename_i fid ca as C0 Dh
     refine Nm fid ca as K ?_ ?_ ?_
     ·assumption
     ·assumption
     ·exact hr.use hk
    ·exact hr.elim
   ·split at hc
    ·cases hc;simp only [D6] at hk
     obtain ⟨fid,ca,as,e1,e2,KV⟩:=TT _ _ _ hk;exact Nm fid ca as K e1 e2 (KV.mono fun _ _ h=>h.2)
    ·split at hc
     ·cases hc;simp only [D6] at hk
      obtain ⟨fid,ca,as,e1,e2,KV⟩:=TT _ _ _ hk;exact Nm fid ca as K e1 e2 (KV.mono fun _ _ h=>h.2)
     cases hc;simp only [D6] at hk
     obtain ⟨fid,ca,as,e1,e2,KV⟩:=TT _ _ _ hk;exact Nm fid ca as K e1 e2 KV
  | invoke x name =>
   simp only at hc
   cases h1 : cx x <;> cases h2 : c9 args.toList <;> simp [h1,h2] at hc
   rename_i x' xs
   subst hc;simp only [D6] at hk;unfold jX at hk
   split at hk
   ·rename_i t v as C0 Dh
    obtain ⟨fid,hm,KV⟩:=hk
    have TZ:=Al hE h1 C0
    have lA:=Kn hE h2 Dh;rw [oB] at lA
    obtain ⟨wv,XY,hwv⟩ : ∃ wv,a.eval x=.iface t wv∧Aa g v wv:=by
     generalize a.eval x=ux at TZ
     cases TZ;exact ⟨_,rfl,by assumption⟩
    have HY : HD g [v] #[wv]:=⟨rfl,fun i hi=>by
     have : i=0:=by simp at hi; omega
     subst this; exact hwv⟩
    have:=OZ hW (HY.append lA) KV
    have hex : (#[Value.iface t wv]++args.map a.eval).extract 1 (#[Value.iface t wv]++args.map a.eval).size=args.map a.eval:=by
     apply Array.ext'; simp [List.take_of_length_le]
    have h0 : (#[Value.iface t wv]++args.map a.eval)[0]? = some (Value.iface t wv):=by rw [Array.getElem?_append_left (by simp)]; rfl
    simp only [resolve,XY,Sem.run_bind,Sem.run_pure,Result.andThen_ok,Go.invoke,h0,hex,callMethod,run_program,hm wv w];exact this
   ·exact hk.elim
  | builtin b =>
   cases b <;> simp only [reduceCtorEq] at hc
   case len =>
    split at hc
    ·rename_i x t ha GX
     have MH : args=#[x]:=by apply Array.ext'; simpa using ha
     have Lu : argTypes=#[t]:=by apply Array.ext'; simpa using GX
     subst MH Lu
     cases hu : P.underlying t with
     | none=>simp [hu] at hc
     | some d =>
      cases d <;> simp only [hu,reduceCtorEq] at hc
      case string =>
       cases hx : cx x with
       | none=>simp [hx] at hc
       | some x' =>
        simp [hx] at hc; subst hc
        obtain ⟨p,r,he,hp,hk⟩:=Ch hk;simp only [JZ] at he
        cases hv : val σ x' with
        | none=>simp [hv,T3] at he
        | some v =>
         have hr:=Al hE hx hv;rw [hv] at he
         cases v <;> simp only [T3,reduceCtorEq,Option.some.injEq,Prod.mk.injEq] at he
         rename_i l
         obtain ⟨-,rfl⟩:=he
         have XY : a.eval x=.string ⟨l.toArray⟩:=by
          generalize a.eval x=ux at hr
          cases hr; rfl
         have Nl : ((do let d ← resolve a.eval { callee:=.builtin .len,args:=#[x],argTypes:=#[t] } o.type; Go.invoke d.target d.args : Sem Next)).run P w =
           .ok (.value (.int .i64 l.length)) w:=by
          have CW : (⟨l.toArray⟩ : ByteArray).size=l.length:=by show l.toArray.size=_; simp
          simp [resolve,Go.invoke,builtin,Builtin.len_,run_underlying hu,XY,goInt,CW]
         rw [Nl];exact .same hW (.int _ _) hk
      case map kt et =>
       cases hx : cx x with
       | none=>simp [hx] at hc
       | some x' =>
        simp [hx] at hc; subst hc;simp only [D6] at hk
        cases hv : val σ x' with
        | none=>rw [hv] at hk; exact hk.elim
        | some v =>
         have hr:=Al hE hx hv;rw [hv] at hk
         cases v <;> try exact hk.elim
         rename_i id
         simp only [n8] at hk
         cases ho : H.get id with
         | none=>rw [ho] at hk; exact hk.elim
         | some ob =>
          rw [ho] at hk
          cases ob with
          | cells _ _ _=>exact hk.elim
          | map ks vs =>
           obtain ⟨pl,hp,Ee⟩:=hW.ob _ _ ho
           obtain ⟨b,XY,hb⟩ : ∃ b,a.eval x=.map (some b)∧g.io id=some (.mp b):=by
            generalize a.eval x=ux at hr
            cases hr; exact ⟨_,rfl,‹_›⟩
           obtain rfl : Place.mp b=pl:=by rw [hb] at hp; exact Option.some.inj hp
           obtain ⟨-,-,es,clk,hbk,CW,-⟩:=Ee
           have Nl : ((do let d ← resolve a.eval { callee:=.builtin .len,args:=#[x],argTypes:=#[t] } o.type; Go.invoke d.target d.args : Sem Next)).run P w =
             .ok (.value (.int .i64 ks.length)) w:=by
            simp [resolve,Go.invoke,builtin,Builtin.len_,run_underlying hu,XY,goInt,DU hbk,CW]
           rw [Nl];exact .same hW (.int _ _) hk
      case slice e =>
       cases hx : cx x with
       | none=>simp [hx] at hc
       | some x' =>
        simp [hx] at hc; subst hc
        obtain ⟨p,r,he,hp,hk⟩:=Ch hk;simp only [JZ] at he
        cases hv : val σ x' with
        | none=>simp [hv,Ds] at he
        | some v =>
         have hr:=Al hE hx hv;rw [hv] at he
         obtain ⟨ad,n,cap,XY,hn⟩ : ∃ ad n cap,a.eval x=.slice ad n cap∧r=.int .i64 n:=by
          generalize a.eval x=ux at hr
          cases hr <;> simp only [Ds,reduceCtorEq,Option.some.injEq,Prod.mk.injEq] at he
          all_goals (obtain ⟨-,rfl⟩:=he; exact ⟨_,_,_,rfl,rfl⟩)
         subst hn
         have Nl : ((do let d ← resolve a.eval { callee:=.builtin .len,args:=#[x],argTypes:=#[t] } o.type; Go.invoke d.target d.args : Sem Next)).run P w =
           .ok (.value (.int .i64 n)) w:=by
          simp [resolve,Go.invoke,builtin,Builtin.len_,run_underlying hu,XY,goInt]
         rw [Nl];exact .same hW (.int _ _) hk
    ·cases hc
   case clear =>
    split at hc
    ·rename_i x t ha GX
     have MH : args=#[x]:=by apply Array.ext'; simpa using ha
     have Lu : argTypes=#[t]:=by apply Array.ext'; simpa using GX
     subst MH Lu
     cases h1 : BI P t with
     | none=>simp [h1] at hc
     | some e =>
      simp only [h1] at hc
      cases h2 : cx x <;> cases h3 : Be P e.1 <;> simp [h2,h3] at hc
      subst hc;simp only [D6] at hk
      rename_i x' z
      cases hv : val σ x' with
      | none=>rw [hv] at hk; exact hk.elim
      | some v =>
       rw [hv] at hk
       obtain ⟨w',q1,q2⟩:=WY (P:=P) (ty:=o.type) hW h1 h3 (Al hE h2 hv) hk;simp only [resolve,Sem.run_bind,Sem.run_pure,Result.andThen_ok,Go.invoke,builtin,List.map_toArray,List.map_cons,List.map_nil,q1];exact q2
    ·cases hc
   case copy =>
    split at hc
    ·rename_i x y t t' ha GX
     have MH : args=#[x,y]:=by apply Array.ext'; simpa using ha
     have Lu : argTypes=#[t,t']:=by apply Array.ext'; simpa using GX
     subst MH Lu
     cases h1 : BI P t with
     | none=>simp [h1] at hc
     | some e =>
      simp only [h1] at hc
      cases h2 : cx x <;> cases h3 : cx y <;> simp [h2,h3] at hc
      rename_i x' y'
      obtain ⟨CW,rfl⟩:=hc;simp only [D6] at hk
      cases C0 : val σ x' with
      | none=>rw [C0] at hk; exact hk.elim
      | some v1 =>
       cases Dh : val σ y' with
       | none=>rw [C0,Dh] at hk; cases v1 <;> exact hk.elim
       | some v2 =>
        rw [C0,Dh] at hk
        obtain ⟨v,w',q1,q2⟩:=Wy (P:=P) (ty:=o.type) (t':=t') hW h1 CW (Al hE h2 C0) (Al hE h3 Dh) hk;simp only [resolve,Sem.run_bind,Sem.run_pure,Result.andThen_ok,Go.invoke,builtin,List.map_toArray,List.map_cons,List.map_nil,q1];exact q2
    ·cases hc
   case append =>
    split at hc
    ·rename_i s x t t' ha GX
     have MH : args=#[s,x]:=by apply Array.ext'; simpa using ha
     have Lu : argTypes=#[t,t']:=by apply Array.ext'; simpa using GX
     subst MH Lu
     cases h1 : BI P t with
     | none=>simp [h1] at hc
     | some e =>
      obtain ⟨hu,hi,hs⟩:=Bh h1;simp only [h1,hu,Option.elim_some] at hc
      cases h2 : cx s <;> cases h3 : cx x <;> cases h4 : Be P e.1 <;> simp [h2,h3,h4] at hc
      rename_i s' x' z
      obtain ⟨⟨rfl,hb⟩,rfl⟩:=hc;simp only [D6] at hk
      cases C0 : val σ s' with
      | none=>simp [C0,Co] at hk
      | some v1 =>
       cases Dh : val σ x' with
       | none =>
        exfalso
        cases v1 <;> simp only [C0,Dh,Co] at hk
        ·simp [C5,RN] at hk
        ·simp [C5,YU] at hk
        ·rename_i id n
         cases hg : H.get id with
         | none=>simp [hg,Fh] at hk
         | some ob=>cases ob <;> simp [hg,C5,Fh] at hk
        ·rename_i id n
         cases hg : H.get id with
         | none=>simp [hg,MS] at hk
         | some ob=>cases ob <;> simp [hg,C5,MS] at hk
       | some v2 =>
        obtain ⟨v,w',q1,q2⟩:=Qt (P:=P) (ty:=o.type) hW h1 h4 hb C0 Dh (Al hE h2 C0) (Al hE h3 Dh) hk;simp only [resolve,Sem.run_bind,Sem.run_pure,Result.andThen_ok,Go.invoke,builtin,List.map_toArray,List.map_cons,List.map_nil,q1];exact q2
    ·cases hc
   case max =>
    split at hc
    ·rename_i x y ha
     have MH : args=#[x,y]:=by apply Array.ext'; simpa using ha
     subst MH
     cases h2 : cx x <;> cases h3 : cx y <;> simp [h2,h3] at hc
     rename_i x' y'
     subst hc
     obtain ⟨p,r,he,hp,hk⟩:=Ch hk;simp only [JZ] at he
     cases C0 : val σ x' with
     | none=>simp [C0,bC] at he
     | some v1 =>
      cases Dh : val σ y' with
      | none=>cases v1 <;> simp [C0,Dh,bC] at he
      | some v2 =>
       have r1:=Al hE h2 C0
       have r2:=Al hE h3 Dh;rw [C0,Dh] at he
       cases v1 <;> cases v2 <;> simp only [bC,reduceCtorEq,Option.some.injEq,Prod.mk.injEq] at he
       rename_i k1 n1 k2 n2
       obtain ⟨rfl,rfl⟩:=he;subst hp
       have e1 : a.eval x=.int k1 n1:=by
        generalize a.eval x=ux at r1
        cases r1; rfl
       have e2 : a.eval y=.int k1 n2:=by
        generalize a.eval y=uy at r2
        cases r2; rfl
       simp [resolve,Go.invoke,builtin,Builtin.max_,Builtin.max2,e1,e2];exact .same hW (.int _ _) (by simpa using hk)
    ·cases hc
   case min =>
    split at hc
    ·rename_i x y ha
     have MH : args=#[x,y]:=by apply Array.ext'; simpa using ha
     subst MH
     cases h2 : cx x <;> cases h3 : cx y <;> simp [h2,h3] at hc
     rename_i x' y'
     subst hc
     obtain ⟨p,r,he,hp,hk⟩:=Ch hk;simp only [JZ] at he
     cases C0 : val σ x' with
     | none=>simp [C0,bC] at he
     | some v1 =>
      cases Dh : val σ y' with
      | none=>cases v1 <;> simp [C0,Dh,bC] at he
      | some v2 =>
       have r1:=Al hE h2 C0
       have r2:=Al hE h3 Dh;rw [C0,Dh] at he
       cases v1 <;> cases v2 <;> simp only [bC,reduceCtorEq,Option.some.injEq,Prod.mk.injEq] at he
       rename_i k1 n1 k2 n2
       obtain ⟨rfl,rfl⟩:=he;subst hp
       have e1 : a.eval x=.int k1 n1:=by
        generalize a.eval x=ux at r1
        cases r1; rfl
       have e2 : a.eval y=.int k1 n2:=by
        generalize a.eval y=uy at r2
        cases r2; rfl
       simp [resolve,Go.invoke,builtin,Builtin.min_,Builtin.min2,e1,e2];exact .same hW (.int _ _) (by simpa using hk)
    ·cases hc
end
end Go.AW
namespace Go.AW
open Go.RowKit
inductive Pz where
 | fin (l : List Cq)
 | br (l : List Cq) (ts : Pz)
 | nil
 | alt (h : Cq) (t ts : Pz)
 deriving Inhabited
inductive SC where
 | skip
 | XW (ops : List Cq)
 | two (pre l l' : List Cq)
 | aQ (t : Pz)
 | seq (a b : SC)
 | cond (x : X) (a b : SC)
 | block (id : Nat) (c : SC)
 | loop (l : List Nat) (c : SC)
 | exit (id : Nat)
 | ret
 | Uy (c : SC)
 | BF (l : List Nat) (c : SC)
 | wk (c : SC)
 | fz (t : Nat) (c : SC)
 | cut (l : List Nat) (a b : SC)
 deriving Inhabited
def SC.strip : SC→SC
 | .seq a b=>.seq a.strip b.strip
 | .cut _ a b=>.seq a.strip b.strip
 | .cond x a b=>.cond x a.strip b.strip
 | .block id c=>.block id c.strip
 | .loop _ c=>.loop [] c.strip
 | .BF _ c=>c.strip
 | .fz _ c=>c.strip
 | .wk c=>c.strip
 | .Uy c=>.Uy c.strip
 | c=>c
inductive AEx where
 | norm
 | exit (id : Nat)
 | ret
abbrev AQ:=AEx→Env→AA→Prop
def Qg (F : Env→AA→Prop) (Q : AQ) : AQ
 | .norm,σ,H=>F σ H
 | e,σ,H=>Q e σ H
def QU (id : Nat) (Q : AQ) : AQ
 | .exit i,σ,H=>if i=id then Q .norm σ H else Q (.exit i) σ H
 | e,σ,H=>Q e σ H
def Wk (σ : Env) (H : AA) (σ' : Env) (H' : AA) : Prop :=
 ∀ g B w tm,Ao g B H w→Cr g σ tm→∃ g',g.le g'∧Ao g' B H' w∧Cr g' σ' tm
def iA (l : List Nat) (I : Nat→Env→AA→Prop) (n : Nat) (Q : AQ) : AQ
 | .norm,σ,H=>∃ m σ' H',m<n∧I m σ' H'∧Wk (Env.BF l σ) H σ' H'
 | e,σ,H=>Q e σ H
def yQ (l : List Nat) (F : AQ→Env→AA→Prop) (Q : AQ) (σ : Env) (H : AA) : Prop :=
 ∃ (I : Nat→Env→AA→Prop) (n : Nat) (σ0 : Env) (H0 : AA),I n σ0 H0∧Wk σ H σ0 H0∧∀ n σ H,I n σ H→F (iA l I n Q) σ H
def YL (o : Option AV) (A C : Env→AA→Prop) (σ : Env) (H : AA) : Prop :=
 match o with
 | some (.bool b)=>(b=true→At A σ H)∧(b=false→At C σ H)
 | _=>False
def EX (F : Env→AA→Prop) (σ : Env) (H : AA) : Prop:=∃ σ' H',Wk σ H σ' H'∧F σ' H'
def n9 (l : List Nat) (M : Env→AA→Prop) (Q : AQ) : AQ
 | .norm,σ,H=>EX M (Env.BF l σ) H
 | e,σ,H=>Q e σ H
def sy (l : List Nat) (F : AQ→Env→AA→Prop) (G : Env→AA→Prop) (Q : AQ) (σ : Env) (H : AA) : Prop :=
 ∃ M : Env→AA→Prop,F (n9 l M Q) σ H∧∀ σ' H',M σ' H'→G σ' H'
def Vq (t id n : Nat) (F : Env→AA→Prop) (σ : Env) (H : AA) : Option AG→Prop
 | some (.cells sz cs _)=>(cs.length=n*sz∧0<sz∧∀ c,c∈cs→c.one=true)∧F (σ.put t (.sl (chunk sz n cs))) (H.set id (.cells sz cs cs.length))
 | _=>False
def YI (t : Nat) (F : Env→AA→Prop) (σ : Env) (H : AA) : Option AV→Prop
 | some (.buf id n)=>Vq t id n F σ H (H.get id)
 | some .A0=>F (σ.put t (.sl [])) H
 | _=>F σ H
def MD (P : Program) (B : Nat) : Pz→(Env→AA→Prop)→Env→AA→Prop
 | .fin l,F,σ,H=>Bm P B l F σ H
 | .br l ts,F,σ,H=>Bm P B l (MD P B ts F) σ H
 | .nil,_,_,_=>True
 | .alt h t ts,F,σ,H=>Bm P B [h] (MD P B t F) σ H∧MD P B ts F σ H
def Dx (P : Program) (B : Nat) : SC→AQ→Env→AA→Prop
 | .skip,Q,σ,H=>Q .norm σ H
 | .XW ops,Q,σ,H=>Bm P B ops (Q .norm) σ H
 | .two p l l',Q,σ,H=>Bm P B p (fun σ H=>Bm P B l (Q .norm) σ H∧Bm P B l' (Q .norm) σ H) σ H
 | .aQ t,Q,σ,H=>MD P B t (Q .norm) σ H
 | .seq a b,Q,σ,H=>Dx P B a (Qg (Dx P B b Q) Q) σ H
 | .cond x a b,Q,σ,H=>YL (val σ x) (Dx P B a Q) (Dx P B b Q) σ H
 | .block id c,Q,σ,H=>Dx P B c (QU id Q) σ H
 | .loop l c,Q,σ,H=>yQ l (Dx P B c) Q (Env.BF l σ) H
 | .exit id,Q,σ,H=>Q (.exit id) σ H
 | .ret,Q,σ,H=>Q .ret σ H
 | .Uy c,Q,σ,H=>Dx P B c Q σ H
 | .BF l c,Q,σ,H=>Dx P B c Q (Env.BF l σ) H
 | .wk c,Q,σ,H=>EX (Dx P B c Q) σ H
 | .cut l a b,Q,σ,H=>sy l (Dx P B a) (Dx P B b Q) Q σ H
 | .fz t c,Q,σ,H=>YI t (Dx P B c Q) σ H (σ.get t)
abbrev Hints:=List (Nat × List Nat × List Nat)
def W3 : Option Cq→Option (List Cq)→Option (List Cq)
 | some a,some r=>some (a::r)
 | _,_=>none
def GP (P : Program) (N : Nat) (ops : Array Oper) (hs : List Nat) : List Nat→Option (List Cq)
 | []=>some []
 | i::r=>match ops[i]? with
  | some o=>W3 (EM P N ops (hs.getD i 0) o) (GP P N ops hs r)
  | none=>none
def ic (f : SC→SC→SC) : Option SC→Option SC→Option SC
 | some a,some b=>some (f a b)
 | _,_=>none
section
variable {P : Program} {B : Nat}
def GM (F : Env→AA→Prop) (g : Gh) (B : Nat) (w0 : World) (N : Nat) (df : List Deferred) (a : Act) (w : World) : Prop :=
 ∃ g' σ' H',g.le g'∧F σ' H'∧Ao g' B H' w∧Cr g' σ' a.tmps∧Below B w0 w∧a.tmps.size=N∧a.defers=df
def Mr (Q : AQ) (g : Gh) (B : Nat) (w0 : World) (N : Nat) (df : List Deferred) : Exit→Act→World→Prop
 | .normal=>GM (Q .norm) g B w0 N df
 | .exit id=>GM (Q (.exit id)) g B w0 N df
 | .ret=>GM (Q .ret) g B w0 N df
 | _=>fun _ _=>False
theorem GM.from {F : Env→AA→Prop} {g g1 : Gh} {w0 w1 : World} {N : Nat} {df : List Deferred} {a : Act} {w : World} (hg : g.le g1) (hb : Below B w0 w1) (h : GM F g1 B w1 N df a w) : GM F g B w0 N df a w:=by
 obtain ⟨g',σ',H',h1,h2,h3,h4,h5,h6⟩:=h;exact ⟨g',σ',H',hg.trans h1,h2,h3,h4,hb.trans h5,h6⟩
theorem Mr.from {Q : AQ} {g g1 : Gh} {w0 w1 : World} {N : Nat} {df : List Deferred} {e : Exit} {a : Act} {w : World} (hg : g.le g1) (hb : Below B w0 w1) (h : Mr Q g1 B w1 N df e a w) : Mr Q g B w0 N df e a w:=by
 cases e <;> first | exact GM.from hg hb h | exact h
theorem DR (a : Act) (d : Option Nat) (v : Value) : (a.put d v).tmps.size=a.tmps.size:=by
 cases d <;> simp [Act.put]
theorem put_defers (a : Act) (d : Option Nat) (v : Value) : (a.put d v).defers=a.defers:=by
 cases d <;> rfl
theorem PG {g : Gh} {w : World} {K : Ak} {o : Oper} {a : Act} {next : Act→World→Prop} {Q : Exit→Act→World→Prop} {r : Result Next} (h : Fits P g B w K r)
  (hn : ∀ v w',Cz g B w K v w'→next (a.put o.dst v) w') : o.upon P a next Q r:=by
 cases r with
 | halt h' w'=>exact h.elim
 | ok n w' =>
  cases n <;> first | exact h.elim | skip
  ·exact hn _ _ h
  ·exact hn _ _ h
  ·obtain ⟨rfl,hc⟩:=h;exact hc.mono fun e w'' ⟨v,he,hf⟩=>by subst he; exact hn _ _ hf
theorem On {N : Nat} {ops : Array Oper} {hs : List Nat} {df : List Deferred} : ∀ (l : List Nat) (sops : List Cq),GP P N ops hs l=some sops →
  ∀ (F : Env→AA→Prop) (g : Gh) (H : AA) (w : World) (σ : Env) (a : Act) (Q : Exit→Act→World→Prop),Ao g B H w→Cr g σ a.tmps→a.tmps.size=N→a.defers=df →
   Bm P B sops F σ H→(∀ a' w',GM F g B w N df a' w'→Q .normal a' w')→wpOps P ops Q l a w
 | [],sops,hc=>by
  intro F g H w σ a Q hW hE hN hd hk hq
  cases hc;exact hq _ _ ⟨g,σ,H,.refl g,hk,hW,hE,.refl B w,hN,hd⟩
 | i::r,sops,hc=>by
  intro F g H w σ a Q hW hE hN hd hk hq;unfold GP at hc
  cases ho : ops[i]? with
  | none=>simp [ho] at hc
  | some o =>
   simp only [ho] at hc
   cases Ze : EM P N ops (hs.getD i 0) o with
   | none=>simp only [Ze,W3,reduceCtorEq] at hc
   | some so =>
    cases Xc : GP P N ops hs r with
    | none=>simp only [Ze,Xc,W3,reduceCtorEq] at hc
    | some sr =>
     simp only [Ze,Xc,W3,Option.some.injEq] at hc;subst hc;unfold EM at Ze
     cases OT : Ex P (hs.getD i 0) o.op with
     | none=>simp only [OT,reduceCtorEq] at Ze
     | some ins =>
      cases hg : EH ops o.guard with
      | none=>simp only [OT,hg,reduceCtorEq] at Ze
      | some gd =>
       simp only [OT,hg] at Ze
       split at Ze
       ·rename_i Xb
        cases Ze
        have ih:=On (df:=df) r sr Xc
        have gV : D6 P B (CR o.dst (Bm P B sr F) σ) σ H ins→o.wp P a w (wpOps P ops Q r) Q:=by
         intro M0
         have hf:=Rm (a:=a) OT hW hE M0;refine PG hf fun v w' yp=>?_
         obtain ⟨g',rv,H',h1,h2,h3,h4,h5⟩:=yp
         cases Ny : o.dst with
         | none =>
          rw [Ny] at h2;exact ih _ _ _ _ _ _ _ h4 (hE.mono h1) hN hd h2 fun a' w'' hp=>hq _ _ (hp.from h1 h5)
         | some d =>
          rw [Ny] at h2 Xb;simp only [PU,Bool.and_eq_true,decide_eq_true_eq] at Xb
          have CF : d<a.tmps.size:=by rw [hN]; exact Xb.1
          refine ih _ _ _ _ _ (a.put (some d) v) _ h4 ((hE.mono h1).put CF h3) (by rw [DR]; exact hN) hd h2 fun a' w'' hp=>hq _ _ (hp.from h1 h5)
        have Pb : Bm P B sr F (Ge o.dst σ) H→wpOps P ops Q r (a.put o.dst undef) w:=by
         intro M0
         cases Ny : o.dst with
         | none=>rw [Ny] at M0; exact ih _ _ _ _ _ _ _ hW hE hN hd M0 hq
         | some d =>
          rw [Ny] at M0;rw [Ny] at Xb;simp only [PU,Bool.and_eq_true,decide_eq_true_eq] at Xb
          have CF : d<a.tmps.size:=by rw [hN]; exact Xb.1
          exact ih _ _ _ _ _ (a.put (some d) undef) _ hW (hE.put CF (.CQ [] #[] rfl (fun i hi=>by simp at hi))) (by rw [DR]; exact hN) hd M0 hq
        simp only [wpOps,ho]
        cases aU : o.guard with
        | none =>
         rw [aU] at hg
         simp [EH] at hg;subst hg;simp only [Bm,EB] at hk;simp only [Region.wanted,aU,if_true];exact .inl (gV hk)
        | some jb =>
         obtain ⟨j,b⟩:=jb;rw [aU] at hg;simp only [EH] at hg
         cases hj : (ops[j]?).bind (·.dst) with
         | none=>simp [hj] at hg
         | some t =>
          simp only [hj,Option.some.injEq] at hg;subst hg;simp only [Bm] at hk
          cases CU : σ.get t with
          | none=>simp [CU,aF] at hk
          | some tv =>
           obtain ⟨CF,L8⟩:=hE t tv CU;rw [CU] at hk
           by_cases htp : ∃ cs,tv=.CQ cs
           ·obtain ⟨cs,rfl⟩:=htp;simp only [aF,At,wG] at hk
            have hy : yielded ops a.tmps j=none:=by
             unfold yielded;rw [hj]
             have e:=getD_some CF
             generalize a.tmps.getD t undef=u at L8 e
             cases L8
             simp [e]
            simp only [Region.wanted,aU,hy];exact Pb hk
           cases tv <;> try (simp [aF] at hk; done)
           rotate_left
           ·exact absurd ⟨_,rfl⟩ htp
           rename_i c
           simp only [aF,At,EB,wG] at hk
           have hy : yielded ops a.tmps j=some c:=by
            unfold yielded;rw [hj]
            have : a.tmps[t]? = some (.bool c):=by
             have e:=getD_some CF;rw [e]
             generalize a.tmps.getD t undef=u at L8
             cases L8; rfl
            simp [this]
           simp only [Region.wanted,aU,hy]
           by_cases hcb : c=b
           ·subst hcb;simp only [beq_self_eq_true,if_true];exact .inl (gV (hk.1 rfl))
           ·have Bg : (some c == some b)=false:=by simpa using hcb
            rw [Bg];simp only [Bool.false_eq_true,if_false];exact Pb (hk.2 (by cases c <;> cases b <;> simp_all))
       ·cases Ze
end
end Go.AW
namespace Go.AW
open Go.RowKit
def cls : Jt→Nat
 | .ld .. | .aR .. | .Xn .. | .R9 .. | .dK ..=>1
 | .st .. | .QF .. | .R3 .. | .gG .. | .app .. | .dP .. | .pM | .aA .. | .call .. | .KW .. | .KT .. | .inv .. | .aP .. | .kR .. | .lK .. | .lD .. | .oZ ..=>2
 | _=>0
def keeps : Jt→Bool
 | .QF .. | .R3 .. | .gG .. | .dP .. | .pM | .KW ..=>true
 | _=>false
def jY (z : Nat) : Jt→Bool
 | .app s ..=>s != z
 | .KT y ..=>y != z
 | i=>keeps i
def du : Jt→Option Nat
 | .aR z ..=>some z
 | _=>none
def kp (i i' : Jt) : Bool:=keeps i' || (match du i with | some z=>jY z i' | none=>false)
def QX : X→List Nat
 | .t n=>[n]
 | .c _=>[]
def US : List X→List Nat
 | []=>[]
 | x::r=>QX x++US r
def YG : List (Nat × Nat × X)→List Nat
 | []=>[]
 | (_,_,x)::r=>QX x++YG r
def dq : Option X→List Nat
 | some x=>QX x
 | none=>[]
def FE : Jt→List Nat
 | .mv a | .nq _ a | .nt a | .conv _ a | .len a | .XP a | .R9 a | .oN _ _ a | .u6 _ a | .pH a | .oW _ _ a | .ext a _ | .kW _ a | .Xa _ a | .pB a | .ld _ a | .aR _ _ a | .R3 _ a | .aP _ a | .kR _ a | .lK _ a=>QX a
 | .p8 _ a lo hi | .dK _ a lo hi=>QX a++(dq lo++dq hi)
 | .pick a b c=>QX a++(QX b++QX c)
 | .ar _ _ a b | .bq _ a b | .aq _ _ a b | .idx _ a b | .mx _ a b | .st _ a b | .app _ _ a b | .lD a b | .dP _ _ a b | .Xn _ _ _ a b=>QX a++QX b
 | .pJ _ ps=>YG ps
 | .o7 _ l | .XT _ l | .QF _ l=>US l
 | .M7 f l | .call f l | .KW f l | .KT _ f l=>QX f++US l
 | .aA _ a b c | .oZ _ a b c=>QX a++(QX b++QX c)
 | .inv a _ l=>QX a++US l
 | .gG _ | .pM | .emp=>[]
def looks (s : Cq) : List Nat:=(match s.g with | some (t,_)=>[t] | none=>[])++FE s.i
section
variable {P : Program} {B : Nat} {σ σ' : Env} {H : AA} {K : Ak}
theorem val_congr {x : X} (h : ∀ t,t∈QX x→σ.get t=σ'.get t) : val σ x=val σ' x:=by
 cases x with
 | t n=>exact h n (by simp [QX])
 | c v=>rfl
theorem Cl : ∀ {l : List X},(∀ t,t∈US l→σ.get t=σ'.get t)→Cj σ l=Cj σ' l
 | [],_=>rfl
 | x::r,h=>by
  simp only [Cj];rw [val_congr fun t ht=>h t (by simp [US,ht]),Cl fun t ht=>h t (by simp [US,ht])]
theorem Oe : ∀ {l : List (Nat × Nat × X)} {cs : List AV},(∀ t,t∈YG l→σ.get t=σ'.get t)→IH σ l cs=IH σ' l cs
 | [],_,_=>rfl
 | (o,n,x)::r,cs,h=>by
  simp only [IH];rw [val_congr fun t ht=>h t (by simp [YG,ht])]
  have : IH σ r=IH σ' r:=funext fun cs=>Oe fun t ht=>h t (by simp [YG,ht]);rw [this]
theorem Wd {i : Jt} (h : ∀ t,t∈FE i→σ.get t=σ'.get t) : D6 P B K σ H i=D6 P B K σ' H i:=by
 cases i <;> simp only [D6,JZ]
 case mv a=>rw [val_congr h]
 case pick a b c =>
  rw [val_congr fun t ht=>h t (by simp [FE,ht]),val_congr (x:=b) fun t ht=>h t (by simp [FE,ht]),val_congr (x:=c) fun t ht=>h t (by simp [FE,ht])]
 case ar o k a b=>rw [val_congr fun t ht=>h t (by simp [FE,ht]),val_congr (x:=b) fun t ht=>h t (by simp [FE,ht])]
 case bq o a b=>rw [val_congr fun t ht=>h t (by simp [FE,ht]),val_congr (x:=b) fun t ht=>h t (by simp [FE,ht])]
 case nq o a=>rw [val_congr h]
 case aq o n a b=>rw [val_congr fun t ht=>h t (by simp [FE,ht]),val_congr (x:=b) fun t ht=>h t (by simp [FE,ht])]
 case nt a=>rw [val_congr h]
 case conv k a=>rw [val_congr h]
 case len a=>rw [val_congr h]
 case XP a=>rw [val_congr h]
 case R9 a=>rw [val_congr h]
 case idx n a b=>rw [val_congr fun t ht=>h t (by simp [FE,ht]),val_congr (x:=b) fun t ht=>h t (by simp [FE,ht])]
 case oN o n a=>rw [val_congr h]
 case u6 n a=>rw [val_congr h]
 case pH a=>rw [val_congr h]
 case pJ z ps=>rw [Oe h]
 case oW o n a=>rw [val_congr h]
 case ext a n=>rw [val_congr h]
 case p8 n a lo hi =>
  have ho : ∀ (o : Option X),(∀ t,t∈dq o→σ.get t=σ'.get t)→o.map (val σ)=o.map (val σ'):=fun o q=>by
   cases o with
   | none=>rfl
   | some x=>exact congrArg some (val_congr q)
  rw [val_congr (x:=a) fun t ht=>h t (by simp [FE,ht]),ho lo fun t ht=>h t (by simp [FE,ht]),ho hi fun t ht=>h t (by simp [FE,ht])]
 case dK n a lo hi =>
  have ho : ∀ (o : Option X),(∀ t,t∈dq o→σ.get t=σ'.get t)→o.map (val σ)=o.map (val σ'):=fun o q=>by
   cases o with
   | none=>rfl
   | some x=>exact congrArg some (val_congr q)
  rw [val_congr (x:=a) fun t ht=>h t (by simp [FE,ht]),ho lo fun t ht=>h t (by simp [FE,ht]),ho hi fun t ht=>h t (by simp [FE,ht])]
 case lK z a=>rw [val_congr h]
 case oZ s a b c=>rw [val_congr fun t ht=>h t (by simp [FE,ht]),val_congr (x:=b) fun t ht=>h t (by simp [FE,ht]),val_congr (x:=c) fun t ht=>h t (by simp [FE,ht])]
 case lD x y=>rw [val_congr fun t ht=>h t (by simp [FE,ht]),val_congr (x:=y) fun t ht=>h t (by simp [FE,ht])]
 case o7 f l=>rw [Cl h]
 case kW t a=>rw [val_congr h]
 case XT n l=>rw [Cl h]
 case Xa n a=>rw [val_congr h]
 case M7 f l=>rw [val_congr fun t ht=>h t (by simp [FE,ht]),Cl fun t ht=>h t (by simp [FE,ht])]
 case mx o a b=>rw [val_congr fun t ht=>h t (by simp [FE,ht]),val_congr (x:=b) fun t ht=>h t (by simp [FE,ht])]
 case pB a=>rw [val_congr h]
 case ld n a=>rw [val_congr h]
 case aR z n a=>rw [val_congr h]
 case st n a b=>rw [val_congr fun t ht=>h t (by simp [FE,ht]),val_congr (x:=b) fun t ht=>h t (by simp [FE,ht])]
 case QF n l=>rw [Cl h]
 case R3 n a=>rw [val_congr h]
 case app s b x y=>rw [val_congr fun t ht=>h t (by simp [FE,ht]),val_congr (x:=y) fun t ht=>h t (by simp [FE,ht])]
 case dP s z x y=>rw [val_congr fun t ht=>h t (by simp [FE,ht]),val_congr (x:=y) fun t ht=>h t (by simp [FE,ht])]
 case Xn s o z x y=>rw [val_congr fun t ht=>h t (by simp [FE,ht]),val_congr (x:=y) fun t ht=>h t (by simp [FE,ht])]
 case aA s a b c =>
  rw [val_congr fun t ht=>h t (by simp [FE,ht]),val_congr (x:=b) fun t ht=>h t (by simp [FE,ht]),val_congr (x:=c) fun t ht=>h t (by simp [FE,ht])]
 case call f l=>rw [val_congr fun t ht=>h t (by simp [FE,ht]),Cl fun t ht=>h t (by simp [FE,ht])]
 case KW f l=>rw [val_congr fun t ht=>h t (by simp [FE,ht]),Cl fun t ht=>h t (by simp [FE,ht])]
 case KT z f l=>rw [val_congr fun t ht=>h t (by simp [FE,ht]),Cl fun t ht=>h t (by simp [FE,ht])]
 case inv a n l=>rw [val_congr fun t ht=>h t (by simp [FE,ht]),Cl fun t ht=>h t (by simp [FE,ht])]
 case aP b a=>rw [val_congr h]
 case kR b a=>rw [val_congr h]
theorem qV {i : Jt} (hc : cls i<2) (h : D6 P B K σ H i) : ∃ r,D6 P B (fun r' H'=>r'=r∧H'=H) σ H i∧K r H:=by
 have pv : ∀ (e : PV),pW e K H→∃ r,pW e (fun r' H'=>r'=r∧H'=H) H∧K r H:=by
  intro e he
  obtain ⟨p,r,rfl,hp,hk⟩:=Ch he;exact ⟨r,⟨hp,rfl,rfl⟩,hk⟩
 cases i <;> simp only [cls] at hc <;> try omega
 case ld n x =>
  simp only [D6] at h ⊢
  cases hv : val σ x with
  | none=>rw [hv] at h; unfold Tu at h ⊢; exact pv _ h
  | some v =>
   rw [hv] at h
   cases v <;> try (unfold Tu at h ⊢; exact pv _ h)
   rename_i id off
   simp only [Tu] at h ⊢
   cases ho : H.get id with
   | none=>rw [ho] at h; cases n <;> exact h.elim
   | some o =>
    rw [ho] at h
    cases o with
    | map _ _=>cases n <;> exact h.elim
    | cells sz cs f=>cases n <;> exact ⟨_,⟨h.1,rfl,rfl⟩,h.2⟩
 case aR z n x =>
  simp only [D6] at h ⊢
  cases hv : val σ x with
  | none=>rw [hv] at h; exact h.elim
  | some v =>
   rw [hv] at h
   cases v <;> try exact h.elim
   rename_i id off
   simp only [Wj] at h ⊢
   obtain ⟨⟨cs,f,ho⟩,h⟩:=h;rw [ho] at h ⊢
   cases n <;> exact ⟨_,⟨⟨cs,f,rfl⟩,h.1,rfl,rfl⟩,h.2⟩
 case Xn s ok z m k =>
  simp only [D6] at h ⊢
  cases hm : val σ m with
  | none=>rw [hm] at h; exact h.elim
  | some mv =>
   cases hk : val σ k with
   | none=>rw [hm,hk] at h; cases mv <;> exact h.elim
   | some kv =>
    rw [hm,hk] at h
    cases mv <;> try exact h.elim
    ·exact ⟨_,⟨h.1,rfl,rfl⟩,h.2⟩
    ·rename_i id
     simp only [VA] at h ⊢
     cases ho : H.get id with
     | none=>rw [ho] at h; exact h.elim
     | some o =>
      rw [ho] at h
      cases o with
      | cells _ _ _=>exact h.elim
      | map _ _=>exact ⟨_,⟨h.1,rfl,rfl⟩,h.2⟩
 case R9 x =>
  simp only [D6] at h ⊢
  cases hm : val σ x with
  | none=>rw [hm] at h; exact h.elim
  | some mv =>
   rw [hm] at h
   cases mv <;> try exact h.elim
   rename_i id
   simp only [n8] at h ⊢
   cases ho : H.get id with
   | none=>rw [ho] at h; exact h.elim
   | some o =>
    rw [ho] at h
    cases o with
    | cells _ _ _=>exact h.elim
    | map _ _=>exact ⟨_,⟨rfl,rfl⟩,h⟩
 case dK z x lo hi =>
  simp only [D6] at h ⊢
  cases hm : val σ x with
  | none=>rw [hm] at h; exact h.elim
  | some mv =>
   rw [hm] at h
   cases mv <;> try exact h.elim
   rename_i id n
   simp only [UW] at h ⊢
   cases ho : H.get id with
   | none=>rw [ho] at h; exact h.elim
   | some o =>
    rw [ho] at h
    cases o with
    | map _ _=>exact h.elim
    | cells _ _ _ =>
     obtain ⟨r,h1,h2⟩:=pv _ h.2;exact ⟨r,⟨h.1,h1⟩,h2⟩
 case M7 f l =>
  obtain ⟨r,h1,h2⟩:=h;exact ⟨r,⟨r,h1,rfl,rfl⟩,h2⟩
 case emp=>exact pv (some (True,.Dg)) h
 all_goals exact pv _ h
theorem AA.sub.N9 {H H' : AA} (h : H.sub H') (z : Nat) : H.N9 z H':=fun i cs f e=>h i _ e
def Kp (i : Jt) (H H' : AA) : Prop:=(keeps i=true→H.sub H')∧∀ z,jY z i=true→H.N9 z H'
theorem S6 {i : Jt} (h : D6 P B K σ H i) : D6 P B (fun r H'=>Kp i H H'∧K r H') σ H i:=by
 by_cases hk : keeps i=true
 ·have hq : ∀ (i : Jt),keeps i=true→D6 P B K σ H i→∀ (K' : Ak),(∀ r H',H.sub H'→K r H'→K' r H')→D6 P B K' σ H i:=by
   intro i hk h K' hK
   have nb : ∀ n sz cs,DX n sz cs K H→DX n sz cs K' H:=fun n sz cs h id hn=>hK _ _ (AA.CV _ hn (.refl H)) (h id hn)
   have nr : ∀ sz cs,G5 sz cs K H→G5 sz cs K' H:=fun sz cs h id hn=>hK _ _ (AA.CV _ hn (.refl H)) (h id hn)
   cases i <;> simp only [keeps,Bool.false_eq_true] at hk
   case QF n l =>
    simp only [D6] at h ⊢
    cases hv : Cj σ l with
    | none=>rw [hv] at h; exact h.elim
    | some as=>rw [hv] at h; exact ⟨h.1,nb _ _ _ h.2⟩
   case R3 n x =>
    simp only [D6] at h ⊢
    cases hv : val σ x with
    | none=>rw [hv] at h; exact h.elim
    | some a=>rw [hv] at h; exact ⟨h.1,nr _ _ h.2⟩
   case gG z=>exact ⟨h.1,nr _ _ h.2⟩
   case dP s z l c =>
    simp only [D6] at h ⊢
    cases h1 : val σ l with
    | none=>rw [h1] at h; exact h.elim
    | some a =>
     cases h2 : val σ c with
     | none=>rw [h1,h2] at h; cases a <;> exact h.elim
     | some b =>
      rw [h1,h2] at h
      cases a <;> cases b <;> first | exact h.elim | exact ⟨h.1,nb _ _ _ h.2⟩
   case pM=>exact fun id hn=>hK _ _ (AA.CV _ hn (.refl H)) (h id hn)
   case KW f l =>
    simp only [D6] at h ⊢
    generalize val σ f=a at h ⊢
    generalize Cj σ l=b at h ⊢
    rcases a with _ | a
    ·exact h.elim
    ·cases a <;> try exact h.elim
     rename_i fn ca
     cases fn <;> try exact h.elim
     rcases b with _ | b
     ·exact h.elim
     ·exact B9.mono (show B9 P B _ (b++ca) H _ from h) fun r H' q=>⟨q.1,hK r H' q.1 q.2⟩
  exact hq i hk h _ fun r H' hs Lw=>⟨⟨fun _=>hs,fun z _=>hs.N9 z⟩,Lw⟩
 ·have triv : (∀ z,jY z i=false)→∀ H',Kp i H H':=fun hz H'=>⟨fun e=>absurd e hk,fun z e=>by rw [hz z] at e; cases e⟩
  have gen : (∀ z,jY z i=false)→D6 P B (fun r H'=>Kp i H H'∧K r H') σ H i:=fun hz=>by
   have : (fun r H'=>Kp i H H'∧K r H')=K:=funext fun r=>funext fun H'=>propext ⟨fun q=>q.2,fun q=>⟨triv hz H',q⟩⟩;rw [this]; exact h
  have other : (∀ z,jY z i=keeps i)→D6 P B (fun r H'=>Kp i H H'∧K r H') σ H i:=fun e=>gen fun z=>by rw [e z]; simpa using hk
  cases i <;> try exact other fun z=>rfl
  case app s b x y =>
   simp only [D6] at h ⊢
   have Zk : ∀ {id : Nat} {o : AG},H.get id=none→Kp (.app s b x y) H (H.set id o):=fun hn=>⟨fun e=>by simp [keeps] at e,fun z _=>(AA.CV _ hn (.refl H)).N9 z⟩
   generalize val σ x=va at h ⊢
   generalize val σ y=xv at h ⊢
   rcases va with _ | va
   ·exact h.elim
   cases va <;> try exact h.elim
   case A0 =>
    simp only [Co] at h ⊢
    cases DA : C5 s xv H with
    | none=>rw [DA] at h; exact h.elim
    | some q =>
     obtain ⟨p,m,new⟩:=q;rw [DA] at h;exact ⟨h.1,fun id hn=>⟨Zk hn,h.2 id hn⟩⟩
   case Dg =>
    simp only [Co] at h ⊢
    cases DA : C5 s xv H with
    | none=>rw [DA] at h; exact h.elim
    | some q =>
     obtain ⟨p,m,new⟩:=q;rw [DA] at h;exact ⟨h.1,fun id hn=>⟨Zk hn,h.2 id hn⟩⟩
   case buf id n =>
    simp only [Co] at h ⊢
    cases hg : H.get id with
    | none=>rw [hg] at h; simp [Fh] at h
    | some o =>
     cases o with
     | map ks vs=>rw [hg] at h; simp [Fh] at h
     | cells sz' cs f =>
      rw [hg] at h
      cases DA : C5 s xv H with
      | none=>rw [DA] at h; simp [Fh] at h
      | some q =>
       obtain ⟨p,m,new⟩:=q;rw [DA] at h;simp only [Fh] at h ⊢;refine ⟨h.1,fun Bz hn=>⟨⟨fun e=>by simp [keeps] at e,fun z hz j cs' f' e=>?_⟩,h.2 Bz hn⟩⟩
       have CW:=h.1.1;simp only [jY,bne_iff_ne,ne_eq] at hz
       have h1 : j≠id:=by
        rintro rfl; rw [hg] at e; cases e; exact hz CW.symm
       have h2 : j≠Bz:=by
        rintro rfl; rw [hn] at e; cases e
       rw [AA.Aw _ _ h2,AA.Bd _ h1]; exact e
   case Nj id n =>
    simp only [Co] at h ⊢
    cases hg : H.get id with
    | none=>rw [hg] at h; simp [MS] at h
    | some o =>
     cases o with
     | map ks vs=>rw [hg] at h; simp [MS] at h
     | cells sz' cs f =>
      rw [hg] at h
      cases DA : C5 s xv H with
      | none=>rw [DA] at h; simp [MS] at h
      | some q =>
       obtain ⟨p,m,new⟩:=q;rw [DA] at h;simp only [MS] at h ⊢;exact ⟨h.1,fun Bz hn=>⟨Zk hn,h.2 Bz hn⟩⟩
  case KT y f l =>
   simp only [D6] at h ⊢
   generalize val σ f=a at h ⊢
   generalize Cj σ l=b at h ⊢
   rcases a with _ | a
   ·exact h.elim
   ·cases a <;> try exact h.elim
    rename_i fn ca
    cases fn <;> try exact h.elim
    rcases b with _ | b
    ·exact h.elim
    ·exact B9.mono (show B9 P B _ (b++ca) H _ from h) fun r H' q=>⟨q.1,⟨fun e=>by simp [keeps] at e,fun z hz=>q.1 z (by simp only [jY,bne_iff_ne,ne_eq] at hz; exact fun e=>hz e.symm)⟩,q.2⟩
theorem YB {i : Jt} (hc : cls i=0) {r : AV} {H H' : AA} (h : D6 P B (fun r' H''=>r'=r∧H''=H) σ H i) : D6 P B (fun r' H''=>r'=r∧H''=H') σ H' i:=by
 have pv : ∀ (e : PV),pW e (fun r' H''=>r'=r∧H''=H) H→pW e (fun r' H''=>r'=r∧H''=H') H':=by
  intro e he
  obtain ⟨p,r',rfl,hp,hk,-⟩:=Ch he;exact ⟨hp,hk,rfl⟩
 cases i <;> simp only [cls] at hc <;> try omega
 case M7 f l =>
  obtain ⟨r',h1,h2,-⟩:=h;exact ⟨r',h1,h2,rfl⟩
 case emp=>exact pv (some (True,.Dg)) h
 all_goals exact pv _ h
theorem Xw {i : Jt} (hc : cls i<2) {r : AV} {H H' : AA} (hs : H.sub H') (h : D6 P B (fun r' H''=>r'=r∧H''=H) σ H i) : D6 P B (fun r' H''=>r'=r∧H''=H') σ H' i:=by
 by_cases h0 : cls i=0
 ·exact YB h0 h
 ·have pv : ∀ (e : PV),pW e (fun r' H''=>r'=r∧H''=H) H→pW e (fun r' H''=>r'=r∧H''=H') H':=by
   intro e he
   obtain ⟨p,r',rfl,hp,hk,-⟩:=Ch he;exact ⟨hp,hk,rfl⟩
  cases i <;> simp only [cls] at hc h0 <;> try (first | omega | exact absurd trivial h0)
  case ld n x =>
   simp only [D6] at h ⊢
   cases hv : val σ x with
   | none=>rw [hv] at h; unfold Tu at h ⊢; exact pv _ h
   | some v =>
    rw [hv] at h
    cases v <;> try (unfold Tu at h ⊢; exact pv _ h)
    rename_i id off
    simp only [Tu] at h ⊢
    cases ho : H.get id with
    | none=>rw [ho] at h; cases n <;> exact h.elim
    | some o =>
     rw [ho] at h;rw [hs _ _ ho]
     cases o with
     | map _ _=>cases n <;> exact h.elim
     | cells sz cs f=>cases n <;> exact ⟨h.1,h.2.1,rfl⟩
  case aR z n x =>
   simp only [D6] at h ⊢
   cases hv : val σ x with
   | none=>rw [hv] at h; exact h.elim
   | some v =>
    rw [hv] at h
    cases v <;> try exact h.elim
    rename_i id off
    simp only [Wj] at h ⊢
    obtain ⟨⟨cs,f,ho⟩,h⟩:=h;rw [ho] at h;rw [hs _ _ ho]
    cases n <;> exact ⟨⟨cs,f,rfl⟩,h.1,h.2.1,rfl⟩
  case Xn s ok z m k =>
   simp only [D6] at h ⊢
   cases hm : val σ m with
   | none=>rw [hm] at h; exact h.elim
   | some mv =>
    cases hk : val σ k with
    | none=>rw [hm,hk] at h; cases mv <;> exact h.elim
    | some kv =>
     rw [hm,hk] at h
     cases mv <;> try exact h.elim
     ·exact ⟨h.1,h.2.1,rfl⟩
     ·rename_i id
      simp only [VA] at h ⊢
      cases ho : H.get id with
      | none=>rw [ho] at h; exact h.elim
      | some o =>
       rw [ho] at h;rw [hs _ _ ho]
       cases o with
       | cells _ _ _=>exact h.elim
       | map _ _=>exact ⟨h.1,h.2.1,rfl⟩
  case dK z x lo hi =>
   simp only [D6] at h ⊢
   cases hm : val σ x with
   | none=>rw [hm] at h; exact h.elim
   | some mv =>
    rw [hm] at h
    cases mv <;> try exact h.elim
    rename_i id n
    simp only [UW] at h ⊢
    cases ho : H.get id with
    | none=>rw [ho] at h; exact h.elim
    | some o =>
     rw [ho] at h;rw [hs _ _ ho]
     cases o with
     | map _ _=>exact h.elim
     | cells _ _ _=>exact ⟨h.1,pv _ h.2⟩
  case R9 x =>
   simp only [D6] at h ⊢
   cases hm : val σ x with
   | none=>rw [hm] at h; exact h.elim
   | some mv =>
    rw [hm] at h
    cases mv <;> try exact h.elim
    rename_i id
    simp only [n8] at h ⊢
    cases ho : H.get id with
    | none=>rw [ho] at h; exact h.elim
    | some o =>
     rw [ho] at h;rw [hs _ _ ho]
     cases o with
     | cells _ _ _=>exact h.elim
     | map _ _=>exact ⟨h.1,rfl⟩
theorem qA {i : Jt} {z : Nat} (hz : du i=some z) {r : AV} {H H' : AA} (hs : H.N9 z H') (h : D6 P B (fun r' H''=>r'=r∧H''=H) σ H i) : D6 P B (fun r' H''=>r'=r∧H''=H') σ H' i:=by
 cases i <;> simp only [du,reduceCtorEq] at hz
 rename_i z' n x
 cases hz;simp only [D6] at h ⊢
 cases hv : val σ x with
 | none=>rw [hv] at h; exact h.elim
 | some v =>
  rw [hv] at h
  cases v <;> try exact h.elim
  rename_i id off
  simp only [Wj] at h ⊢
  obtain ⟨⟨cs,f,ho⟩,h⟩:=h;rw [ho] at h;rw [hs _ _ _ ho]
  cases n <;> exact ⟨⟨cs,f,rfl⟩,h.1,h.2.1,rfl⟩
theorem jJ {i i' : Jt} (hc : cls i<2) (hk : kp i i'=true) {r : AV} {H H' : AA} (hs : Kp i' H H') (h : D6 P B (fun r' H''=>r'=r∧H''=H) σ H i) : D6 P B (fun r' H''=>r'=r∧H''=H') σ H' i:=by
 simp only [kp,Bool.or_eq_true] at hk
 rcases hk with hk | hk
 ·exact Xw hc (hs.1 hk) h
 ·cases hz : du i with
  | none=>rw [hz] at hk; cases hk
  | some z=>rw [hz] at hk; exact qA hz (hs.2 z hk) h
end
def BD (ops : Array Oper) (i : Nat) : List Nat :=
 match ops[i]? with
 | some o=>(o.after.toList.filter (Region.binds .any ·)).map (·.on)
 | none=>[]
def ZJ (ops : Array Oper) : Nat→Nat→List (List Nat)→List (List Nat)
 | 0,_,acc=>acc
 | n+1,i,acc=>ZJ ops n (i+1) (acc++[((BD ops i).flatMap fun j=>j::acc.getD j []).eraseDups])
def Va (ops : Array Oper) : List Nat→List Nat→Bool
 | _,[]=>true
 | done,i::r=>(BD ops i).all (done.contains ·) && Va ops (i::done) r
def j7 (s : Cq) : List Nat:=match s.d with | some d=>[d] | none=>[]
def Jn (s s' : Cq) : Bool :=
 cls s.i == 2 || (cls s.i == 1 && (cls s'.i == 2 && !kp s.i s'.i)) || (j7 s).any ((looks s').contains ·) || (j7 s').any ((looks s).contains ·)
end Go.AW
namespace Go.AW
open Go.RowKit
def Fo (D : Array Bool) (i : Nat) : Prop:=D.getD i true=true
def Down (ops : Array Oper) (D : Array Bool) : Prop:=∀ i,i<ops.size→Fo D i→∀ j,j∈BD ops i→Fo D j
theorem IU {ops : Array Oper} {D : Array Bool} (hs : D.size=ops.size) {i : Nat} : i∈Region.ready .any ops D↔i<ops.size∧¬ Fo D i∧∀ j,j∈BD ops i→D.getD j false=true:=by
 simp only [Region.ready,List.mem_filter,List.mem_range,Bool.and_eq_true,Bool.not_eq_true',Fo]
 constructor
 ·rintro ⟨h1,h2,h3⟩;refine ⟨h1,by simp [h2],fun j hj=>?_⟩;unfold BD at hj
  cases ho : ops[i]? with
  | none=>simp [ho] at hj
  | some o =>
   simp only [ho,List.mem_map,List.mem_filter] at hj
   obtain ⟨e,⟨aS,Xu⟩,rfl⟩:=hj;simp only [ho,Option.map_some,Option.getD_some,Array.all_eq_true_iff_forall_mem] at h3
   have:=h3 e (by simpa using aS);rw [Xu] at this
   simpa using this
 ·rintro ⟨h1,h2,h3⟩;refine ⟨h1,by simpa using h2, ?_⟩
  have ho : ops[i]? = some ops[i]:=by simp [h1]
  simp only [ho,Option.map_some,Option.getD_some,Array.all_eq_true_iff_forall_mem]
  intro e he
  cases hb : Region.binds .any e with
  | false=>simp
  | true =>
   have:=h3 e.on (by
    unfold BD;rw [ho];simp only [List.mem_map,List.mem_filter];exact ⟨e,⟨by simpa using he,hb⟩,rfl⟩)
   simpa using this
theorem JS {ops : Array Oper} {D : Array Bool} (hd : Down ops D) : ∀ (n i : Nat) (acc : List (List Nat)),acc.length=i →
  (∀ k,k<i→∀ j,j∈acc.getD k []→(∀ e,e∈BD ops k→Fo D e)→Fo D j) →
  i+n≤ops.size→∀ k,k<i+n→∀ j,j∈(ZJ ops n i acc).getD k []→(∀ e,e∈BD ops k→Fo D e)→Fo D j
 | 0,i,acc,hl,dX,_,k,hk,j,hj,he=>dX k (by omega) j hj he
 | n+1,i,acc,hl,dX,hn,k,hk,j,hj,he=>by
  refine JS hd n (i+1) _ (by simp [hl]) ?_ (by omega) k (by omega) j hj he
  intro k' Lw j' RF oO;rw [Go.AW.gE] at RF
  by_cases lI : k'=i
  ·subst lI;rw [List.getElem?_append_right (by omega)] at RF;simp only [hl,Nat.sub_self,List.getElem?_cons_zero,Option.getD_some,List.mem_eraseDups,List.mem_flatMap,List.mem_cons] at RF
   obtain ⟨e,h1,h2⟩:=RF
   have hle:=oO e h1
   rcases h2 with rfl | h2
   ·exact hle
   ·have CF : e<k':=by
     rcases Nat.lt_or_ge e k' with h | h
     ·exact h
     ·rw [Go.AW.gE,List.getElem?_eq_none (by omega)] at h2
      simp at h2
    exact dX e CF j' h2 fun e' Xu=>hd e (by omega) hle e' Xu
  ·rw [List.getElem?_append_left (by omega),← Go.AW.gE] at RF;exact dX k' (by omega) j' RF oO
section
variable {P : Program} {B N : Nat} {ops : Array Oper} {hs : List Nat}
def Of (P : Program) (N : Nat) (ops : Array Oper) (hs : List Nat) (i : Nat) (s : Cq) : Prop:=∃ o,ops[i]? = some o∧EM P N ops (hs.getD i 0) o=some s
theorem Of.dst {i : Nat} {s : Cq} (h : Of P N ops hs i s) : ∃ o,ops[i]? = some o∧o.dst=s.d∧Ex P (hs.getD i 0) o.op=some s.i∧EH ops o.guard=some s.g∧PU N s.i s.d=true:=by
 obtain ⟨o,ho,hc⟩:=h;unfold EM at hc
 cases OT : Ex P (hs.getD i 0) o.op with
 | none=>simp only [OT,reduceCtorEq] at hc
 | some ins =>
  cases hg : EH ops o.guard with
  | none=>simp only [OT,hg,reduceCtorEq] at hc
  | some gd =>
   simp only [OT,hg] at hc
   split at hc
   ·rename_i hd; cases hc; exact ⟨o,ho,rfl,OT,hg,hd⟩
   ·cases hc
theorem FJ {i : Nat} {s : Cq} (Nh : Of P N ops hs i s) {σ : Env} {H : AA} {g : Gh} {w : World} {a : Act} {Q : Exit→Act→World→Prop} {next : Act→World→Prop} {K : Ak}
  (hW : Ao g B H w) (hE : Cr g (Env.BF (looks s) σ) a.tmps)
  (hk : match s.g with | none=>D6 P B K σ H s.i | some (t,b)=>∃ q,σ.get t=some q∧(q=.bool b∨Uq b q)∧(q=.bool b→D6 P B K σ H s.i))
  (Nl : ∀ v w',Cz g B w K v w'→(match s.g with | none=>True | some (t,b)=>σ.get t=some (.bool b))→next (a.put s.d v) w')
  (Pb : ∀ t b,s.g=some (t,b)→(∃ q,σ.get t=some q∧Uq b q)→next (a.put s.d undef) w) : wpOp P ops Q i next a w:=by
 obtain ⟨o,ho,hd,OT,hg,gB⟩:=Nh.dst;unfold wpOp;simp only [ho]
 have gL : ∀ t,t∈looks s→(Env.BF (looks s) σ).get t=σ.get t:=by
  intro t ht
  generalize looks s=l at ht
  induction l with
  | nil=>simp at ht
  | cons x r ih =>
   simp only [Env.BF,Env.get]
   split
   ·rename_i e; rw [e]
   ·rename_i e
    rcases List.mem_cons.1 ht with h | h
    ·exact absurd h e
    ·exact ih h
 have xH : ∀ K',D6 P B K' σ H s.i=D6 P B K' (Env.BF (looks s) σ) H s.i:=fun K'=>Wd fun t ht=>(gL t (by unfold looks; exact List.mem_append_right _ ht)).symm
 have gV : D6 P B K σ H s.i→(match s.g with | none=>True | some (t,b)=>σ.get t=some (.bool b))→o.wp P a w next Q:=by
  intro M0 pK;rw [xH] at M0
  have hf:=Rm (a:=a) OT hW hE M0;refine PG hf fun v w' yp=>?_;rw [hd];exact Nl v w' yp pK
 cases aU : o.guard with
 | none =>
  rw [aU] at hg
  simp [EH] at hg;rw [← hg] at hk gV;simp only [Region.wanted,aU,if_true];exact .inl (gV hk trivial)
 | some jb =>
  obtain ⟨j,b⟩:=jb;rw [aU] at hg;simp only [EH] at hg
  cases hj : (ops[j]?).bind (·.dst) with
  | none=>simp [hj] at hg
  | some t =>
   simp only [hj,Option.some.injEq] at hg;rw [← hg] at hk gV
   obtain ⟨q,Pa,pD,Oo⟩:=hk
   have ht : t∈looks s:=by unfold looks; rw [← hg]; simp
   obtain ⟨CF,L8⟩:=hE t q (by rw [gL t ht]; exact Pa)
   have CU : a.tmps[t]? = some (a.tmps.getD t undef):=getD_some CF;simp only [Region.wanted,aU]
   rcases pD with rfl | Zs
   ·have hy : yielded ops a.tmps j=some b:=by
     unfold yielded;rw [hj]
     generalize a.tmps.getD t undef=u at L8 CU
     cases L8
     simp [CU]
    rw [hy];simp only [beq_self_eq_true,if_true];exact .inl (gV (Oo rfl) Pa)
   ·have hy : (yielded ops a.tmps j == some b)=false:=by
     unfold yielded;rw [hj]
     generalize a.tmps.getD t undef=u at L8 CU
     rcases Zs with rfl | ⟨cs,rfl⟩ <;> cases L8 <;> simp [CU]
    rw [hy];simp only [Bool.false_eq_true,if_false];rw [hd];exact Pb t b hg.symm ⟨q,Pa,Zs⟩
end
end Go.AW
namespace Go.AW
open Go.RowKit
structure JY (P : Program) (N : Nat) (ops : Array Oper) (hs : List Nat) (n : Nat) (p : Nat→Nat) (s : Nat→Cq) (ex : Nat→Bool) : Prop where
 size : ops.size=n
 lt : ∀ u,u<n→p u<n
 inj : ∀ u u',u<n→u'<n→p u=p u'→u=u'
 yZ : ∀ i,i<n→∃ u,u<n∧p u=i
 of : ∀ u,u<n→Of P N ops hs (p u) (s u)
 yr : ∀ u,u<n→∀ j,j∈BD ops (p u)→∃ u',u'<u∧p u'=j
 Zh : ∀ u u',u<u'→u'<n→∀ d,(s u).d=some d→(s u').d≠some d
 kc : ∀ u,u<n→ex u=true→cls (s u).i=2
 Jn : ∀ u u',u<u'→u'<n→ex u=false→Jn (s u) (s u')=true→∀ D,Down ops D→(∀ e,e∈BD ops (p u')→Fo D e)→Fo D (p u)
section
variable {P : Program} {B N : Nat} {ops : Array Oper} {hs : List Nat} {n : Nat} {p : Nat→Nat} {s : Nat→Cq} {ex : Nat→Bool} {kx : Nat} {F : Env→AA→Prop} {σ0 : Env}
def eQ (P : Program) (B : Nat) (s : Cq) (σu σ : Env) (H : AA) (r : AV) : Prop:=D6 P B (fun r' H'=>r'=r∧H'=H) σu H s.i∧∀ d,s.d=some d→σ.get d=some r
def dF (P : Program) (B : Nat) (s : Nat→Cq) (σ0 : Env) (u : Nat) (σ : Env) (H : AA) : Prop :=
 ∃ σu : Env,(∀ t,t∈looks (s u)→(∀ u',u'<u→(s u').d=some t→σu.get t=σ.get t)∧((∀ u',u'<u→(s u').d≠some t)→σu.get t=σ0.get t)) ∧
  match (s u).g with
  | none=>∃ r,eQ P B (s u) σu σ H r
  | some (t,b)=>(σu.get t=some (.bool b)∧∃ r,eQ P B (s u) σu σ H r)∨((∃ q,σu.get t=some q∧Uq b q)∧∀ d,(s u).d=some d→σ.get d=some nv)
structure Inv (P : Program) (B N : Nat) (ops : Array Oper) (n : Nat) (p : Nat→Nat) (s : Nat→Cq) (ss : List Cq) (F : Env→AA→Prop) (σ0 : Env)
  (D : Array Bool) (v : Nat) (σ : Env) (g : Gh) (H : AA) (w : World) (a : Act) : Prop where
 dsz : D.size=ops.size
 down : Down ops D
 vle : v≤n
 pre : ∀ u,u<n→Fo D (p u)→u<v
 wr : ∀ u,u<v→cls (s u).i=2→Fo D (p u)
 JK : ∀ t x,σ0.get t=some x→(∀ u,u<n→(s u).d=some t→¬ Fo D (p u))→t<a.tmps.size∧Aa g x (a.tmps.getD t undef)
 new : ∀ u,u<v→Fo D (p u)→∀ t,(s u).d=some t→∀ x,σ.get t=some x→t<a.tmps.size∧Aa g x (a.tmps.getD t undef)
 pend : ∀ u,u<v→¬ Fo D (p u)→dF P B s σ0 u σ H
 same : ∀ t,(∀ u,u<v→(s u).d≠some t)→σ.get t=σ0.get t
 go : Bm P B (ss.drop v) F σ H
 rel : Ao g B H w
 size : a.tmps.size=N
theorem Ol {ss : List Cq} {u : Nat} {x : Cq} (h : ss[u]? = some x) : ss.drop u=x::ss.drop (u+1):=by
 obtain ⟨hu,rfl⟩:=List.getElem?_eq_some_iff.mp h;exact List.drop_eq_getElem_cons hu
def DG (d : Option Nat) (σ : Env) (r : Option AV) : Env :=
 match d with
 | some d=>(d,r)::σ
 | none=>σ
theorem Gs {d : Option Nat} {σ : Env} {r : Option AV} {t : Nat} (h : d≠some t) : (DG d σ r).get t=σ.get t:=by
 cases d with
 | none=>rfl
 | some d =>
  have : t≠d:=by rintro rfl; exact h rfl
  simp [DG,Env.get,this]
theorem Gg {d : Nat} {σ : Env} {r : Option AV} : (DG (some d) σ r).get d=r:=by simp [DG,Env.get]
theorem Ov {so : Cq} {rest : List Cq} {σ : Env} {H : AA} (h : Bm P B (so::rest) F σ H) :
  match so.g with
  | none=>D6 P B (CR so.d (Bm P B rest F) σ) σ H so.i
  | some (t,b)=>∃ q,σ.get t=some q∧(q=.bool b∨Uq b q)∧(q=.bool b→D6 P B (CR so.d (Bm P B rest F) σ) σ H so.i)∧(Uq b q→Bm P B rest F (Ge so.d σ) H):=by
 obtain ⟨d,gd,i⟩:=so
 cases gd with
 | none=>exact h
 | some tb =>
  obtain ⟨t,b⟩:=tb;simp only [Bm] at h;unfold aF at h
  split at h
  ·rename_i c hc
   refine ⟨_,hc, ?_,fun e=>h.1 (by cases e; rfl),fun e=>h.2 (by rcases e with e | ⟨cs,e⟩ <;> cases e; rfl)⟩
   by_cases e : c=b
   ·exact .inl (by rw [e])
   ·exact .inr (.inl (by cases c <;> cases b <;> simp_all))
  ·rename_i cs hc
   exact ⟨_,hc,.inr (.inr ⟨cs,rfl⟩),fun e=>(by cases e),fun _=>h⟩
  ·exact h.elim
theorem Ih {d : Option Nat} {σ : Env} {r : AV} {H : AA} {G : Env→AA→Prop} (h : CR d G σ r H) : G (DG d σ (some r)) H:=by
 cases d <;> exact h
theorem Ji (d : Option Nat) (σ : Env) : Ge d σ=DG d σ (some nv):=by cases d <;> rfl
theorem Xy (g : Gh) : Aa g nv undef:=.CQ [] #[] rfl (fun i hi=>by simp at hi)
theorem advance {ss : List Cq} (pl : JY P N ops hs n p s ex) (lim : Nat) (lO : lim≤n) (hle : lim<n→cls (s lim).i=2) (J9 : ∀ u,u<lim→ss[u]? = some (s u)) {D : Array Bool} {g : Gh} {H : AA} {w : World} {a : Act} :
  ∀ (m v : Nat) (σ : Env),n - v=m→v≤lim→Inv P B N ops n p s ss F σ0 D v σ g H w a→∃ v' σ',Inv P B N ops n p s ss F σ0 D v' σ' g H w a∧v≤v'∧v'≤lim∧(v'<n→cls (s v').i=2)
 | 0,v,σ,hm,pI,I=>⟨v,σ,I,Nat.le_refl _,pI,fun h=>by omega⟩
 | m+1,v,σ,hm,pI,I=>by
  have hv : v<n:=by omega
  by_cases hc : cls (s v).i=2
  ·exact ⟨v,σ,I,Nat.le_refl _,pI,fun _=>hc⟩
  ·have fZ : cls (s v).i<2:=by
    have : cls (s v).i≤2:=by
     generalize (s v).i=i
     cases i <;> simp [cls]
    omega
   have xb : v<lim:=by
    rcases Nat.lt_or_ge v lim with h | h
    ·exact h
    ·have e : v=lim:=by omega
     subst e;exact absurd (hle hv) hc
   have Zg:=Ol (J9 v xb)
   have LW:=I.go;rw [Zg] at LW
   have KZ:=Ov LW
   have hnv : ¬ Fo D (p v):=fun h=>by have:=I.pre v hv h; omega
   have key : ∃ ro : Option AV,Bm P B (ss.drop (v+1)) F (DG (s v).d σ ro) H ∧
     (match (s v).g with
     | none=>∃ r,ro=some r∧D6 P B (fun r' H'=>r'=r∧H'=H) σ H (s v).i
     | some (t,b)=>(σ.get t=some (.bool b)∧∃ r,ro=some r∧D6 P B (fun r' H'=>r'=r∧H'=H) σ H (s v).i)∨((∃ q,σ.get t=some q∧Uq b q)∧ro=some nv)):=by
    cases hg : (s v).g with
    | none =>
     rw [hg] at KZ
     obtain ⟨r,h1,h2⟩:=qV fZ KZ;exact ⟨some r,Ih h2,r,rfl,h1⟩
    | some tb =>
     obtain ⟨t,b⟩:=tb;rw [hg] at KZ
     obtain ⟨q,e1,e0,e2,e3⟩:=KZ
     rcases e0 with rfl | Zs
     ·obtain ⟨r,h1,h2⟩:=qV fZ (e2 rfl);exact ⟨some r,Ih h2,.inl ⟨e1,r,rfl,h1⟩⟩
     ·exact ⟨some nv,by rw [← Ji]; exact e3 Zs,.inr ⟨⟨q,e1,Zs⟩,rfl⟩⟩
   obtain ⟨ro,k1,k2⟩:=key
   have Bg : ∀ u,u<v→∀ t,(s u).d=some t→(DG (s v).d σ ro).get t=σ.get t:=fun u hu t ht=>Gs (pl.Zh u v hu hv t ht)
   suffices hI : Inv P B N ops n p s ss F σ0 D (v+1) (DG (s v).d σ ro) g H w a by
    obtain ⟨v',σ',I',h1,h2,h3⟩:=advance pl lim lO hle J9 m (v+1) _ (by omega) (by omega) hI;exact ⟨v',σ',I',by omega,h2,h3⟩
   refine ⟨I.dsz,I.down,hv,fun u hu h=>by have:=I.pre u hu h; omega, ?_,I.JK, ?_, ?_, ?_,k1,I.rel,I.size⟩
   ·intro u hu h2
    by_cases e : u=v
    ·subst e; omega
    ·exact I.wr u (by omega) h2
   ·intro u hu hl t ht x hx
    by_cases e : u=v
    ·subst e; exact absurd hl hnv
    ·rw [Bg u (by omega) t ht] at hx;exact I.new u (by omega) hl t ht x hx
   ·intro u hu hl
    by_cases e : u=v
    ·subst e;refine ⟨σ,fun t ht=>⟨fun u' OV Ny=>(Bg u' OV t Ny).symm,fun Ea=>I.same t Ea⟩, ?_⟩
     cases hg : (s u).g with
     | none =>
      rw [hg] at k2
      obtain ⟨r,rfl,h1⟩:=k2;exact ⟨r,h1,fun d hd=>by rw [hd]; exact Gg⟩
     | some tb =>
      obtain ⟨t,b⟩:=tb;rw [hg] at k2
      rcases k2 with ⟨h1,r,rfl,h2⟩ | ⟨h1,rfl⟩
      ·exact .inl ⟨h1,r,h2,fun d hd=>by rw [hd]; exact Gg⟩
      ·exact .inr ⟨h1,fun d hd=>by rw [hd]; exact Gg⟩
    ·have OV : u<v:=by omega
     obtain ⟨σu,q1,q2⟩:=I.pend u OV hl;refine ⟨σu,fun t ht=>⟨fun u' hu'' Ny=>by rw [Bg u' (by omega) t Ny]; exact (q1 t ht).1 u' hu'' Ny,(q1 t ht).2⟩, ?_⟩
     cases hg : (s u).g with
     | none =>
      rw [hg] at q2
      obtain ⟨r,h1,h2⟩:=q2;exact ⟨r,h1,fun d hd=>by rw [Bg u OV d hd]; exact h2 d hd⟩
     | some tb =>
      obtain ⟨t,b⟩:=tb;rw [hg] at q2
      rcases q2 with ⟨h1,r,h2,h3⟩ | ⟨h1,h2⟩
      ·exact .inl ⟨h1,r,h2,fun d hd=>by rw [Bg u OV d hd]; exact h3 d hd⟩
      ·exact .inr ⟨h1,fun d hd=>by rw [Bg u OV d hd]; exact h2 d hd⟩
   ·intro t Ea;rw [Gs (Ea v (by omega))];exact I.same t fun u hu=>Ea u (by omega)
theorem DD {D : Array Bool} {i j : Nat} (hi : i<D.size) : Fo (D.setIfInBounds i true) j↔j=i∨Fo D j:=by
 unfold Fo;simp only [Array.getD_eq_getD_getElem?,Array.getElem?_setIfInBounds]
 by_cases h : i=j
 ·subst h; simp [hi]
 ·simp [h,Ne.symm h]
theorem Si {D : Array Bool} {i : Nat} (hd : Down ops D) (hi : i<D.size) (he : ∀ j,j∈BD ops i→Fo D j) : Down ops (D.setIfInBounds i true):=by
 intro k hk hl j hj;rw [DD hi] at hl ⊢
 rcases hl with rfl | hl
 ·exact .inr (he j hj)
 ·exact .inr (hd k hk hl j hj)
theorem ZL {s s' : Cq} {d : Nat} (hd : s.d=some d) (hl : d∈looks s') : Jn s s'=true:=by
 simp [Jn,j7,hd,hl]
theorem Z1 {s s' : Cq} {d : Nat} (hd : s'.d=some d) (hl : d∈looks s) : Jn s s'=true:=by
 simp [Jn,j7,hd,hl]
theorem PN {ss : List Cq} (pl : JY P N ops hs n p s ex) {D : Array Bool} {v : Nat} {σ σu : Env} {g : Gh} {H : AA} {w : World} {a : Act} (I : Inv P B N ops n p s ss F σ0 D v σ g H w a) {u : Nat} (hu : u<n) (aO : u≤v)
  (Ga : ¬ Fo D (p u)) (Em : ∀ e,e∈BD ops (p u)→Fo D e)
  (fU : ∀ t,t∈looks (s u)→(∀ u',u'<u→(s u').d=some t→σu.get t=σ.get t)∧((∀ u',u'<u→(s u').d≠some t)→σu.get t=σ0.get t)) :
  Cr g (Env.BF (looks (s u)) σu) a.tmps:=by
 intro t x hx
 have ht : t∈looks (s u):=by
  generalize looks (s u)=l at hx
  induction l with
  | nil=>simp [Env.BF,Env.get] at hx
  | cons y r ih =>
   simp only [Env.BF,Env.get] at hx
   split at hx
   ·rename_i e; rw [e]; simp
   ·exact List.mem_cons_of_mem _ (ih hx)
 have TM:=Env.S0 _ _ _ _ hx
 by_cases hw : ∃ u',u'<u∧(s u').d=some t
 ·obtain ⟨u',h1,h2⟩:=hw
  have hl : Fo D (p u'):=by
   cases hx : ex u' with
   | true=>exact I.wr u' (by omega) (pl.kc u' (by omega) hx)
   | false=>exact pl.Jn u' u h1 hu hx (ZL h2 ht) D I.down Em
  rw [(fU t ht).1 u' h1 h2] at TM;exact I.new u' (by omega) hl t h2 x TM
 ·have Ea : ∀ u',u'<u→(s u').d≠some t:=fun u' h1 h2=>hw ⟨u',h1,h2⟩;rw [(fU t ht).2 Ea] at TM;refine I.JK t x TM fun u'' h1 h2 hl=>?_
  rcases Nat.lt_trichotomy u'' u with h | h | h
  ·exact Ea u'' h h2
  ·subst h; exact Ga hl
  ·cases hx : ex u with
   | true=>exact Ga (I.wr u (by have:=I.pre u'' h1 hl; omega) (pl.kc u hu hx))
   | false=>exact Ga (pl.Jn u u'' h h1 hx (Z1 h2 ht) D I.down (I.down (p u'') (by rw [pl.size]; exact pl.lt u'' h1) hl))
theorem Rv {ss : List Cq} (pl : JY P N ops hs n p s ex) {D : Array Bool} {v : Nat} {σ : Env} {g g' : Gh} {H : AA} {w w' : World} {a : Act} (I : Inv P B N ops n p s ss F σ0 D v σ g H w a) {u : Nat} (hu : u<n) (aO : u<v)
  (Ga : ¬ Fo D (p u)) (Em : ∀ e,e∈BD ops (p u)→Fo D e) (x : Value) (hg : g.le g') (hW : Ao g' B H w')
  (hx : ∀ d,(s u).d=some d→∀ r,σ.get d=some r→Aa g' r x) : Inv P B N ops n p s ss F σ0 (D.setIfInBounds (p u) true) v σ g' H w' (a.put (s u).d x):=by
 have CW : p u<D.size:=by rw [I.dsz,pl.size]; exact pl.lt u hu
 have OS : ∀ t,(s u).d≠some t→(a.put (s u).d x).tmps.getD t undef=a.tmps.getD t undef:=by
  intro t ht
  cases hd : (s u).d with
  | none=>rfl
  | some d =>
   have : d≠t:=by rintro rfl; exact ht hd
   simp only [Act.put,Array.getD_eq_getD_getElem?];rw [Array.getElem?_setIfInBounds_ne this]
 refine ⟨by simp [I.dsz],Si I.down CW Em,I.vle, ?_, ?_, ?_, ?_, ?_,I.same,I.go,hW,by rw [DR]; exact I.size⟩
 ·intro u' h1 h2;rw [DD CW] at h2
  rcases h2 with h2 | h2
  ·rw [pl.inj u' u h1 hu h2]; exact aO
  ·exact I.pre u' h1 h2
 ·intro u' h1 h2;rw [DD CW]; exact .inr (I.wr u' h1 h2)
 ·intro t y hy Ea
  have Bg : (s u).d≠some t:=fun e=>Ea u hu e (by rw [DD CW]; exact .inl rfl)
  obtain ⟨q1,q2⟩:=I.JK t y hy fun u' h1 h2 h3=>Ea u' h1 h2 (by rw [DD CW]; exact .inr h3);rw [DR,OS t Bg];exact ⟨q1,q2.mono hg⟩
 ·intro u' h1 h2 t ht y hy;rw [DD CW] at h2
  by_cases e : u'=u
  ·subst e
   have DW:=(pl.of u' hu).dst
   obtain ⟨o,ho,hd,OT,Ha,gB⟩:=DW;rw [ht] at gB;simp only [PU,Bool.and_eq_true,decide_eq_true_eq] at gB
   have CF : t<a.tmps.size:=by rw [I.size]; exact gB.1
   refine ⟨by rw [DR]; exact CF, ?_⟩
   have : (a.put (s u').d x).tmps.getD t undef=x:=by
    rw [ht]; simp [Act.put,Array.getD_eq_getD_getElem?,CF]
   rw [this];exact hx t ht y hy
  ·rcases h2 with h2 | h2
   ·exact absurd (pl.inj u' u (by have:=I.vle; omega) hu h2) e
   ·have Bg : (s u).d≠some t:=by
     intro e2
     have hu'n : u'<n:=by have:=I.vle; omega
     rcases Nat.lt_trichotomy u' u with h | h | h
     ·exact pl.Zh u' u h hu t ht e2
     ·exact e h
     ·exact pl.Zh u u' h hu'n t e2 ht
    obtain ⟨q1,q2⟩:=I.new u' h1 h2 t ht y hy;rw [DR,OS t Bg];exact ⟨q1,q2.mono hg⟩
 ·intro u' h1 h2;rw [DD CW] at h2;exact I.pend u' h1 fun h=>h2 (.inr h)
theorem Ot {ss : List Cq} (pl : JY P N ops hs n p s ex) {D : Array Bool} {v : Nat} {σ : Env} {g g' : Gh} {H H' : AA} {w w' : World} {a : Act} (I : Inv P B N ops n p s ss F σ0 D v σ g H w a) (hv : v<n)
  (hc : cls (s v).i=2) (Ga : ¬ Fo D (p v)) (Em : ∀ e,e∈BD ops (p v)→Fo D e) (x : Value) (ro : Option AV) (hg : g.le g') (hW : Ao g' B H' w')
  (hx : ∀ r,ro=some r→Aa g' r x) (dZ : Kp (s v).i H H') (LW : Bm P B (ss.drop (v+1)) F (DG (s v).d σ ro) H') :
  Inv P B N ops n p s ss F σ0 (D.setIfInBounds (p v) true) (v+1) (DG (s v).d σ ro) g' H' w' (a.put (s v).d x):=by
 have CW : p v<D.size:=by rw [I.dsz,pl.size]; exact pl.lt v hv
 have OS : ∀ t,(s v).d≠some t→(a.put (s v).d x).tmps.getD t undef=a.tmps.getD t undef:=by
  intro t ht
  cases hd : (s v).d with
  | none=>rfl
  | some d =>
   have : d≠t:=by rintro rfl; exact ht hd
   simp only [Act.put,Array.getD_eq_getD_getElem?];rw [Array.getElem?_setIfInBounds_ne this]
 have Bg : ∀ u,u<v→∀ t,(s u).d=some t→(DG (s v).d σ ro).get t=σ.get t:=fun u hu t ht=>Gs (pl.Zh u v hu hv t ht);refine ⟨by simp [I.dsz],Si I.down CW Em,hv, ?_, ?_, ?_, ?_, ?_, ?_,LW,hW,by rw [DR]; exact I.size⟩
 ·intro u' h1 h2;rw [DD CW] at h2
  rcases h2 with h2 | h2
  ·rw [pl.inj u' v h1 hv h2]; omega
  ·have:=I.pre u' h1 h2; omega
 ·intro u' h1 h2;rw [DD CW]
  by_cases e : u'=v
  ·subst e; exact .inl rfl
  ·exact .inr (I.wr u' (by omega) h2)
 ·intro t y hy Ea
  have zr : (s v).d≠some t:=fun e=>Ea v hv e (by rw [DD CW]; exact .inl rfl)
  obtain ⟨q1,q2⟩:=I.JK t y hy fun u' h1 h2 h3=>Ea u' h1 h2 (by rw [DD CW]; exact .inr h3);rw [DR,OS t zr];exact ⟨q1,q2.mono hg⟩
 ·intro u' h1 h2 t ht y hy;rw [DD CW] at h2
  by_cases e : u'=v
  ·subst e
   obtain ⟨o,ho,hd,OT,Ha,gB⟩:=(pl.of u' hv).dst;rw [ht] at gB;simp only [PU,Bool.and_eq_true,decide_eq_true_eq] at gB
   have CF : t<a.tmps.size:=by rw [I.size]; exact gB.1
   refine ⟨by rw [DR]; exact CF, ?_⟩
   have : (a.put (s u').d x).tmps.getD t undef=x:=by
    rw [ht]; simp [Act.put,Array.getD_eq_getD_getElem?,CF]
   rw [this];rw [ht,Gg] at hy;exact hx y hy
  ·have hu'v : u'<v:=by omega
   rcases h2 with h2 | h2
   ·exact absurd (pl.inj u' v (by omega) hv h2) e
   ·rw [Bg u' hu'v t ht] at hy
    obtain ⟨q1,q2⟩:=I.new u' hu'v h2 t ht y hy;rw [DR,OS t (pl.Zh u' v hu'v hv t ht)];exact ⟨q1,q2.mono hg⟩
 ·intro u' h1 h2;rw [DD CW] at h2
  have hne2 : u'≠v:=by rintro rfl; exact h2 (.inl rfl)
  have hu'v : u'<v:=by omega
  have kS : ¬ Fo D (p u'):=fun h=>h2 (.inr h)
  have fX : ∀ {σ' : Env} {r : AV},D6 P B (fun r' H''=>r'=r∧H''=H) σ' H (s u').i→D6 P B (fun r' H''=>r'=r∧H''=H') σ' H' (s u').i:=by
   intro σ' r h1
   have h3 : cls (s u').i≤2:=by
    generalize (s u').i=i
    cases i <;> simp [cls]
   have h4 : cls (s u').i≠2:=fun h=>kS (I.wr u' hu'v h)
   by_cases h5 : cls (s u').i=1
   ·have Zw : kp (s u').i (s v).i=true:=by
     cases hk : kp (s u').i (s v).i with
     | true=>rfl
     | false =>
      refine absurd (pl.Jn u' v hu'v hv ?_ (by simp [Jn,h5,hc,hk]) D I.down Em) kS
      cases hx : ex u' with
      | false=>rfl
      | true=>exact absurd (pl.kc u' (by omega) hx) h4
    exact jJ (by omega) Zw dZ h1
   ·exact YB (by omega) h1
  obtain ⟨σu,q1,q2⟩:=I.pend u' hu'v kS;refine ⟨σu,fun t ht=>⟨fun u'' hu'' Ny=>by rw [Bg u'' (by omega) t Ny]; exact (q1 t ht).1 u'' hu'' Ny,(q1 t ht).2⟩, ?_⟩
  cases Ha : (s u').g with
  | none =>
   rw [Ha] at q2
   obtain ⟨r,h1,h2⟩:=q2;exact ⟨r,fX h1,fun d hd=>by rw [Bg u' hu'v d hd]; exact h2 d hd⟩
  | some tb =>
   obtain ⟨t,b⟩:=tb;rw [Ha] at q2
   rcases q2 with ⟨h1,r,h2,h3⟩ | ⟨h1,h2⟩
   ·exact .inl ⟨h1,r,fX h2,fun d hd=>by rw [Bg u' hu'v d hd]; exact h3 d hd⟩
   ·exact .inr ⟨h1,fun d hd=>by rw [Bg u' hu'v d hd]; exact h2 d hd⟩
 ·intro t Ea;rw [Gs (Ea v (by omega))];exact I.same t fun u hu=>Ea u (by omega)
theorem Vj {ss : List Cq} (pl : JY P N ops hs n p s ex) (yP : ss.length=n) {D : Array Bool} {v : Nat} {σ : Env} {g : Gh} {H : AA} {w : World} {a : Act} (I : Inv P B N ops n p s ss F σ0 D v σ g H w a)
  (Au : ∀ i,i<n→Fo D i) : F σ H∧Ao g B H w∧Cr g σ a.tmps:=by
 have lQ : v=n:=by
  rcases Nat.lt_or_ge v n with h | h
  ·have:=I.pre v h (Au _ (pl.lt v h)); omega
  ·have:=I.vle; omega
 subst lQ
 have LW:=I.go;rw [List.drop_eq_nil_of_le (by omega)] at LW;refine ⟨LW,I.rel,fun t x hx=>?_⟩
 by_cases hw : ∃ u,u<v∧(s u).d=some t
 ·obtain ⟨u,h1,h2⟩:=hw;exact I.new u h1 (Au _ (pl.lt u h1)) t h2 x hx
 ·have Ea : ∀ u,u<v→(s u).d≠some t:=fun u h1 h2=>hw ⟨u,h1,h2⟩;rw [I.same t Ea] at hx;exact I.JK t x hx fun u h1 h2=>absurd h2 (Ea u h1)
theorem J7 (pl : JY P N ops hs n p s ex) {D : Array Bool} (hd : D.size=ops.size) (h : Region.ready .any ops D=[]) : ∀ u,u<n→Fo D (p u):=by
 intro u
 induction u using Nat.strongRecOn with
 | _ u ih =>
  intro hu;refine Classical.byContradiction fun Ga=>?_
  have : p u∈Region.ready .any ops D:=by
   rw [IU hd];refine ⟨by rw [pl.size]; exact pl.lt u hu,Ga,fun j hj=>?_⟩
   obtain ⟨u',h1,rfl⟩:=pl.yr u hu j hj
   have hl:=ih u' h1 (by omega)
   have CF : p u'<D.size:=by rw [hd,pl.size]; exact pl.lt u' (by omega)
   unfold Fo at hl;simp only [Array.getD_eq_getD_getElem?] at hl ⊢
   simpa [CF] using hl
  rw [h] at this; cases this
theorem count_set {D : Array Bool} {i : Nat} (hi : i<D.size) (hf : D.getD i true=false) : (D.setIfInBounds i true).toList.count false+1=D.toList.count false:=by
 have CF : i<D.toList.length:=by simpa using hi
 have hg : D.toList[i]=false:=by simpa [Array.getD,hi] using hf
 rw [Array.toList_setIfInBounds,List.count_set CF]
 have : 0<D.toList.count false:=List.count_pos_iff.2 (by rw [← hg]; simp);rw [hg];simp only [beq_self_eq_true,if_true,show (true == false)=false from rfl,Bool.false_eq_true,if_false];omega
theorem VE {ss : List Cq} (pl : JY P N ops hs n p s ex) {Q : Exit→Act→World→Prop} {fuel : Nat} {D : Array Bool} {v : Nat} {σ : Env} {g : Gh} {H : AA} {w : World} {a : Act}
  (I : Inv P B N ops n p s ss F σ0 D v σ g H w a) {u : Nat} (hu : u<n) (aO : u<v) (Ga : ¬ Fo D (p u)) (Em : ∀ e,e∈BD ops (p u)→Fo D e)
  (fin : ∀ x g' w',g.le g'→Ao g' B H w'→Below B w w'→(∀ d,(s u).d=some d→∀ r,σ.get d=some r→Aa g' r x) →
      wpAny P .any ops Q fuel (D.setIfInBounds (p u) true) (a.put (s u).d x) w') : wpOp P ops Q (p u) (wpAny P .any ops Q fuel (D.setIfInBounds (p u) true)) a w:=by
 have y6:=I.pend u aO Ga
 obtain ⟨σu,q1,q2⟩:=y6
 have hE:=PN pl I hu (by omega) Ga Em q1
 cases Ha : (s u).g with
 | none =>
  rw [Ha] at q2
  obtain ⟨r,h1,h2⟩:=q2;refine FJ (K:=fun r' H'=>r'=r∧H'=H) (pl.of u hu) I.rel hE (by rw [Ha]; exact h1) ?_ (fun t b e=>by rw [Ha] at e; cases e)
  rintro x w' ⟨g',r',H',a1,⟨rfl,rfl⟩,a3,a4,a5⟩ -;exact fin x g' w' a1 a4 a5 fun d Ny r2 CG=>by rw [h2 d Ny] at CG; cases CG; exact a3
 | some tb =>
  obtain ⟨t,b⟩:=tb;rw [Ha] at q2
  rcases q2 with ⟨h1,r,h2,h3⟩ | ⟨h1,h2⟩
  ·refine FJ (K:=fun r' H'=>r'=r∧H'=H) (pl.of u hu) I.rel hE (by rw [Ha]; exact ⟨_,h1,.inl rfl,fun _=>h2⟩) ?_ ?_
   ·rintro x w' ⟨g',r',H',a1,⟨rfl,rfl⟩,a3,a4,a5⟩ -;exact fin x g' w' a1 a4 a5 fun d Ny r2 CG=>by rw [h3 d Ny] at CG; cases CG; exact a3
   ·intro t' b' e Bg;rw [Ha] at e; cases e
    obtain ⟨q,Pa,Oo⟩:=Bg;rw [h1] at Pa; cases Pa
    rcases Oo with Oo | ⟨cs,Oo⟩
    ·cases b <;> cases Oo
    ·cases Oo
  ·refine FJ (K:=fun _ _=>True) (pl.of u hu) I.rel hE (by rw [Ha]; obtain ⟨q,q1,q2⟩:=h1; exact ⟨q,q1,.inr q2,fun e=>by subst e; rcases q2 with q2 | ⟨cs,q2⟩ <;> cases b <;> cases q2⟩) ?_ ?_
   ·intro x w' _ pK;rw [Ha] at pK;simp only at pK
    obtain ⟨q,q1,q2⟩:=h1;rw [q1] at pK; cases pK
    rcases q2 with q2 | ⟨cs,q2⟩ <;> cases b <;> cases q2
   ·intro t' b' e Bg;exact fin undef g w (.refl g) I.rel (.refl B w) fun d Ny r2 CG=>by rw [h2 d Ny] at CG; cases CG; exact Xy g
theorem Sl {ss : List Cq} (pl : JY P N ops hs n p s ex) {Q : Exit→Act→World→Prop} {fuel : Nat} {D : Array Bool} {u : Nat} {σ : Env} {g : Gh} {H : AA} {w : World} {a : Act}
  (I : Inv P B N ops n p s ss F σ0 D u σ g H w a) (hu : u<n) (o8 : ss[u]? = some (s u)) (Ga : ¬ Fo D (p u)) (Em : ∀ e,e∈BD ops (p u)→Fo D e)
  (fin : ∀ x ro g' H' w',g.le g'→Ao g' B H' w'→Below B w w'→(∀ r,ro=some r→Aa g' r x)→Kp (s u).i H H'→Bm P B (ss.drop (u+1)) F (DG (s u).d σ ro) H' →
      wpAny P .any ops Q fuel (D.setIfInBounds (p u) true) (a.put (s u).d x) w') : wpOp P ops Q (p u) (wpAny P .any ops Q fuel (D.setIfInBounds (p u) true)) a w:=by
 have Zg:=Ol o8
 have LW:=I.go;rw [Zg] at LW
 have KZ:=Ov LW
 have hE : Cr g (Env.BF (looks (s u)) σ) a.tmps:=PN pl I hu (Nat.le_refl _) Ga Em fun t ht=>⟨fun _ _ _=>rfl,fun Ea=>I.same t Ea⟩
 cases Ha : (s u).g with
 | none =>
  rw [Ha] at KZ;refine FJ (K:=fun r' H'=>Kp (s u).i H H'∧CR (s u).d (Bm P B (ss.drop (u+1)) F) σ r' H') (pl.of u hu) I.rel hE (by rw [Ha]; exact S6 KZ) ?_ (fun t b e=>by rw [Ha] at e; cases e)
  rintro x w' ⟨g',r',H',a1,a2,a3,a4,a5⟩ -;exact fin x (some r') g' H' w' a1 a4 a5 (fun r hr=>by cases hr; exact a3) a2.1 (Ih a2.2)
 | some tb =>
  obtain ⟨t,b⟩:=tb;rw [Ha] at KZ
  obtain ⟨q,e1,e0,e2,e3⟩:=KZ
  have Pb : ∀ t' b',(s u).g=some (t',b')→(∃ q,σ.get t'=some q∧Uq b' q)→wpAny P .any ops Q fuel (D.setIfInBounds (p u) true) (a.put (s u).d undef) w:=by
   intro t' b' e Bg;rw [Ha] at e; cases e
   obtain ⟨q',Pa,Oo⟩:=Bg;rw [e1] at Pa; cases Pa;exact fin undef (some nv) g H w (.refl g) I.rel (.refl B w) (fun r hr=>by cases hr; exact Xy g) ⟨fun _=>.refl H,fun z _=>(AA.sub.refl H).N9 z⟩ (by rw [← Ji]; exact e3 Oo)
  refine FJ (K:=fun r' H'=>Kp (s u).i H H'∧CR (s u).d (Bm P B (ss.drop (u+1)) F) σ r' H') (pl.of u hu) I.rel hE (by rw [Ha]; exact ⟨q,e1,e0,fun h=>S6 (e2 h)⟩) ?_ Pb
  rintro x w' ⟨g',r',H',a1,a2,a3,a4,a5⟩ -;exact fin x (some r') g' H' w' a1 a4 a5 (fun r hr=>by cases hr; exact a3) a2.1 (Ih a2.2)
theorem YJ {D : Array Bool} {l : List Nat} (ga : ∀ j,j∈l→D.getD j false=true) : ∀ e,e∈l→Fo D e:=by
 intro e he
 have:=ga e he;unfold Fo;simp only [Array.getD_eq_getD_getElem?] at this ⊢
 cases hx : D[e]? with
 | none=>simp
 | some b=>simpa [hx] using this
theorem OW {D : Array Bool} {i fuel : Nat} (CW : i<D.size) (Ga : ¬ Fo D i) (hc : D.toList.count false=fuel+1) : (D.setIfInBounds i true).toList.count false=fuel:=by
 have hf : D.getD i true=false:=by
  cases hx : D.getD i true with
  | true=>exact absurd hx Ga
  | false=>rfl
 have:=count_set CW hf;omega
theorem VM {D : Array Bool} (hd : D.size=n) (hc : D.toList.count false=0) : ∀ i,i<n→Fo D i:=by
 intro i hi
 have CF : i<D.size:=by omega
 unfold Fo
 have xU : false ∉ D.toList:=List.count_eq_zero.1 hc
 cases LX : D.getD i true with
 | true=>rfl
 | false =>
  exfalso
  apply xU
  have : D[i]=false:=by simpa [Array.getD,CF] using LX
  rw [← this]; simp
theorem Ij {ss : List Cq} (pl : JY P N ops hs n p s ex) (yP : ss.length=n) (J9 : ∀ u,u<n→ss[u]? = some (s u)) {g0 : Gh} {w0 : World} {df : List Deferred} {Q : Exit→Act→World→Prop}
  (hq : ∀ a' w',GM F g0 B w0 N df a' w'→Q .normal a' w') : ∀ (fuel : Nat) (D : Array Bool) (v : Nat) (σ : Env) (g : Gh) (H : AA) (w : World) (a : Act),D.toList.count false=fuel →
   Inv P B N ops n p s ss F σ0 D v σ g H w a→(v<n→cls (s v).i=2)→(∀ u,v≤u→u<n→ex u=false)→g0.le g→Below B w0 w→a.defers=df→wpAny P .any ops Q fuel D a w
 | 0,D,v,σ,g,H,w,a,hc,I,hv,aT,hg,hb,hd=>by
  have Au:=VM (I.dsz.trans pl.size) hc
  obtain ⟨e1,e2,e3⟩:=Vj pl yP I Au;refine ⟨?_,hq a w ⟨g,σ,H,hg,e1,e2,e3,hb,I.size,hd⟩⟩
  cases hr : Region.ready .any ops D with
  | nil=>rfl
  | cons i r =>
   have : i∈Region.ready .any ops D:=by rw [hr]; simp
   rw [IU I.dsz] at this;exact absurd (Au i (by rw [← pl.size]; exact this.1)) this.2.1
 | fuel+1,D,v,σ,g,H,w,a,hc,I,hv,aT,hg,hb,hd=>by
  refine ⟨fun hr=>?_,fun i hi=>?_⟩
  ·have yN:=J7 pl I.dsz hr
   have Au : ∀ i,i<n→Fo D i:=fun i hi=>by
    obtain ⟨u,h1,rfl⟩:=pl.yZ i hi;exact yN u h1
   obtain ⟨e1,e2,e3⟩:=Vj pl yP I Au;exact hq a w ⟨g,σ,H,hg,e1,e2,e3,hb,I.size,hd⟩
  ·rw [IU I.dsz] at hi
   obtain ⟨dV,Ga,ga⟩:=hi
   obtain ⟨u,hu,rfl⟩:=pl.yZ i (by rw [← pl.size]; exact dV)
   have Em:=YJ ga
   have XX:=OW (by rw [I.dsz]; exact dV) Ga hc
   by_cases aO : u<v
   ·refine VE pl I hu aO Ga Em fun x g' w' h1 h2 h3 h4=>?_;exact Ij pl yP J9 hq fuel _ v σ g' H w' _ XX (Rv pl I hu aO Ga Em x h1 h2 h4) hv aT (hg.trans h1) (hb.trans h3) (by rw [put_defers]; exact hd)
   ·have lQ : v<n:=by omega
    have xz : u=v:=by
     refine Classical.byContradiction fun Bg=>?_
     have:=pl.Jn v u (by omega) hu (aT v (Nat.le_refl _) lQ) (by simp [Jn,hv lQ]) D I.down Em
     have:=I.pre v lQ this;omega
    subst xz;refine Sl pl I hu (J9 u hu) Ga Em fun x ro g' H' w' h1 h2 h3 h4 dZ h5=>?_
    have I':=Ot pl I lQ (hv lQ) Ga Em x ro h1 h2 h4 dZ h5
    obtain ⟨v',σ',I'',hle,-,RH⟩:=advance pl n (Nat.le_refl _) (fun h=>absurd h (Nat.lt_irrefl _)) J9 _ (u+1) _ rfl (by omega) I';exact Ij pl yP J9 hq fuel _ v' σ' g' H' w' _ XX I'' RH (fun u h1 h2=>aT u (by omega) h2) (hg.trans h1) (hb.trans h3) (by rw [put_defers]; exact hd)
theorem dF.congr {s2 : Nat→Cq} {u : Nat} {σ : Env} {H : AA} (h : ∀ u',u'≤u→s2 u'=s u') (q : dF P B s σ0 u σ H) : dF P B s2 σ0 u σ H:=by
 obtain ⟨σu,q1,q2⟩:=q;refine ⟨σu,fun t ht=>?_, ?_⟩
 ·rw [h u (Nat.le_refl _)] at ht;refine ⟨fun u' OV hd=>(q1 t ht).1 u' OV (by rw [← h u' (by omega)]; exact hd),fun Ea=>(q1 t ht).2 fun u' OV=>by rw [← h u' (by omega)]; exact Ea u' OV⟩
 ·rw [h u (Nat.le_refl _)]; exact q2
theorem Inv.move {p2 : Nat→Nat} {s2 : Nat→Cq} {ex2 : Nat→Bool} (pl : JY P N ops hs n p s ex) (pl2 : JY P N ops hs n p2 s2 ex2) (V6 : ∀ u,u<kx→p2 u=p u∧s2 u=s u) {ss ss2 : List Cq} {F2 : Env→AA→Prop} {D : Array Bool} {σ : Env} {g : Gh} {H : AA} {w : World} {a : Act} (hk : kx<n)
  (I : Inv P B N ops n p s ss F σ0 D kx σ g H w a) (LW : Bm P B (ss2.drop kx) F2 σ H) : Inv P B N ops n p2 s2 ss2 F2 σ0 D kx σ g H w a:=by
 refine ⟨I.dsz,I.down,I.vle,fun u hu hl=>?_,fun u hu hc=>?_,fun t x hx Ea=>?_,fun u hu=>?_,fun u hu hl=>?_,fun t Ea=>?_,LW,I.rel,I.size⟩
 ·obtain ⟨u1,h1,e⟩:=pl.yZ (p2 u) (pl2.lt u hu)
  have h2:=I.pre u1 h1 (by rw [e]; exact hl)
  have h3:=(V6 u1 h2).1
  have:=pl2.inj u u1 hu h1 (by rw [h3,e]);omega
 ·rw [(V6 u hu).2] at hc;rw [(V6 u hu).1]; exact I.wr u hu hc
 ·refine I.JK t x hx fun u hu hd hl=>?_
  have h2:=I.pre u hu hl;exact Ea u hu (by rw [(V6 u h2).2]; exact hd) (by rw [(V6 u h2).1]; exact hl)
 ·rw [(V6 u hu).1,(V6 u hu).2]; exact I.new u hu
 ·rw [(V6 u hu).1] at hl;exact (I.pend u hu hl).congr fun u' OV=>(V6 u' (by omega)).2
 ·exact I.same t fun u hu=>by rw [← (V6 u hu).2]; exact Ea u hu
end
end Go.AW
namespace Go.AW
open Go.RowKit
section
variable {P : Program} {B N : Nat} {ops : Array Oper} {hs : List Nat}
theorem Lr : ∀ (r done : List Nat),Va ops done r=true→∀ u,u<r.length→∀ j,j∈BD ops (r.getD u 0)→j∈done∨∃ u',u'<u∧r.getD u' 0=j
 | [],_,_,u,hu,_,_=>by simp at hu
 | i::r,done,h,u,hu,j,hj=>by
  simp only [Va,Bool.and_eq_true,List.all_eq_true] at h
  cases u with
  | zero =>
   have:=h.1 j hj;exact .inl (by simpa using this)
  | succ u =>
   rcases Lr r (i::done) h.2 u (by simpa using hu) j (by simpa using hj) with h1 | ⟨u',h1,h2⟩
   ·rcases List.mem_cons.1 h1 with rfl | h1
    ·exact .inr ⟨0,by omega,by simp⟩
    ·exact .inl h1
   ·exact .inr ⟨u'+1,by omega,by simpa using h2⟩
end
end Go.AW
namespace Go.AW
open Go.RowKit
inductive IT where
 | fin (l : List Nat)
 | br (l : List Nat) (ts : IT)
 | nil
 | alt (h : Nat) (t ts : IT)
def IT.ot (f : Nat→Cq) : IT→Pz
 | .fin l=>.fin (l.map f)
 | .br l ts=>.br (l.map f) (ts.ot f)
 | .nil=>.nil
 | .alt h t ts=>.alt (f h) (t.ot f) (ts.ot f)
def IT.first : IT→List Nat
 | .fin l=>l
 | .br l ts=>l++ts.first
 | .nil=>[]
 | .alt h t _=>h::t.first
def IT.VD : IT→List Nat
 | .alt h _ ts=>h::ts.VD
 | _=>[]
def IT.node : IT→Bool
 | .fin _=>true
 | .br _ _=>true
 | _=>false
def IT.NZ : IT→Bool
 | .alt ..=>true
 | _=>false
def prT (cl : List (List Nat)) (f : Nat→Cq) (p : List Nat) (m u u' : Nat) : Bool :=
 (p.getD u 0 != p.getD u' 0) && !((j7 (f (p.getD u 0))).any ((j7 (f (p.getD u' 0))).contains ·)) &&
  ((decide (u<m) && cls (f (p.getD u 0)).i == 2) || !Jn (f (p.getD u 0)) (f (p.getD u' 0)) || (cl.getD (p.getD u' 0) []).contains (p.getD u 0))
def QI (ops : Array Oper) (f : Nat→Cq) (p : List Nat) (m : Nat) : Bool :=
 p.length == ops.size && p.all (fun i=>decide (i<ops.size)) && (List.range ops.size).all (p.contains ·) && Va ops [] p &&
  (List.range ops.size).all fun u'=>(List.range u').all fun u=>prT (ZJ ops ops.size 0 []) f p m u u'
def YZ (ops : Array Oper) (q hs : List Nat) : Bool :=
 (List.range ops.size).all fun i=>q.contains i || hs.contains i || ((ZJ ops ops.size 0 []).getD i []).any (hs.contains ·)
def Gw (ops : Array Oper) (f : Nat→Cq) : List Nat→IT→Bool
 | q,.fin l=>QI ops f (q++l) q.length
 | q,.br l ts=>l.all (fun i=>decide (cls (f i).i<2)) && ts.NZ && YZ ops (q++l) ts.VD && Gw ops f (q++l) ts
 | _,.nil=>true
 | q,.alt h t ts=>cls (f h).i == 2 && t.node && Gw ops f (q++[h]) t && Gw ops f q ts
def Tj (P : Program) (N : Nat) (ops : Array Oper) (hs : List Nat) (i : Nat) : Cq :=
 match ops[i]? with
 | some o=>(EM P N ops (hs.getD i 0) o).getD default
 | none=>default
def mkT (ops : Array Oper) (f : Nat→Cq) (pm : List Nat) : Nat→List Nat→IT
 | 0,_=>.fin []
 | k+1,q =>
  let rest:=pm.filter fun i=>!q.contains i
  if QI ops f (q++rest) q.length then .fin rest
  else
   let l:=rest.takeWhile fun i=>decide (cls (f i).i<2)
   .br l (((rest.drop l.length).filter fun h=>cls (f h).i == 2 && (BD ops h).all (fun j=>(q++l).contains j)).foldr (fun h ts=>.alt h (mkT ops f pm k (q++l++[h])) ts) .nil)
def tZ (f : Nat→Cq) : IT→SC
 | .fin l=>.XW (l.map f)
 | .br l (.alt h (.fin r) (.alt h' (.fin r') .nil))=>.two (l.map f) (f h::r.map f) (f h'::r'.map f)
 | t=>.aQ (t.ot f)
def ZP (P : Program) (N : Nat) (ops : Array Oper) (hs : List Nat) (perm : List Nat) : Option IT :=
 if (List.range ops.size).all (fun i=>(ops[i]?.bind fun o=>EM P N ops (hs.getD i 0) o).isSome) && P.follows .mixedOrders then
  let t:=mkT ops (Tj P N ops hs) (if perm.isEmpty then List.range ops.size else perm) 5 []
  if t.node && Gw ops (Tj P N ops hs) [] t then some t else none
 else none
section
variable {P : Program} {B N : Nat} {ops : Array Oper} {hs : List Nat} {f : Nat→Cq}
abbrev pT (p : List Nat) : Nat→Nat:=fun u=>p.getD u 0
abbrev sT (f : Nat→Cq) (p : List Nat) : Nat→Cq:=fun u=>f (p.getD u 0)
theorem IM (Nh : ∀ i,i<ops.size→Of P N ops hs i (f i)) {p : List Nat} {m : Nat} (h : QI ops f p m=true) :
  JY P N ops hs ops.size (pT p) (sT f p) (fun u=>decide (u<m) && cls (f (p.getD u 0)).i == 2)∧p.length=ops.size:=by
 simp only [QI,Bool.and_eq_true,beq_iff_eq,List.all_eq_true,decide_eq_true_eq,List.mem_range] at h
 obtain ⟨⟨⟨⟨h1,h2⟩,h3⟩,h4⟩,h5⟩:=h
 have GZ : ∀ u,u<ops.size→p.getD u 0∈p:=fun u hu=>by
  rw [Go.AW.gE,List.getElem?_eq_getElem (by omega)]; simp
 have hp : ∀ u u',u<u'→u'<ops.size→p.getD u 0≠p.getD u' 0∧(∀ d,(f (p.getD u 0)).d=some d→(f (p.getD u' 0)).d≠some d) ∧
   ((decide (u<m) && cls (f (p.getD u 0)).i == 2)=false→Jn (f (p.getD u 0)) (f (p.getD u' 0))=true→p.getD u 0∈(ZJ ops ops.size 0 []).getD (p.getD u' 0) []):=fun u u' hu OV=>by
  have:=h5 u' OV u hu;rw [prT,Bool.and_eq_true,Bool.and_eq_true,bne_iff_ne,Bool.not_eq_true',Bool.or_eq_true,Bool.or_eq_true,Bool.not_eq_true',List.contains_iff_mem] at this
  obtain ⟨⟨a,b⟩,c⟩:=this;refine ⟨a,fun d hd Ny=>?_,fun hx hn=>?_⟩
  ·simp only [j7,hd,Ny] at b
   simp at b
  ·rcases c with (c | c) | c
   ·rw [hx] at c; cases c
   ·rw [hn] at c; cases c
   ·exact c
 refine ⟨⟨rfl,fun u hu=>h2 _ (GZ u hu),fun u u' hu OV he=>?_,fun i hi=>?_,fun u hu=>Nh _ (h2 _ (GZ u hu)),fun u hu j hj=>?_,fun u u' h OV d hd=>(hp u u' h OV).2.1 d hd,fun u hu e=>?_,fun u u' h OV hx hn D hdn Em=>?_⟩,h1⟩
 ·rcases Nat.lt_trichotomy u u' with h | h | h
  ·exact absurd he (hp u u' h (by omega)).1
  ·exact h
  ·exact absurd he.symm (hp u' u h (by omega)).1
 ·have hm : i∈p:=by simpa using h3 i hi
  obtain ⟨u,hu,rfl⟩:=List.getElem_of_mem hm;exact ⟨u,by omega,by simp [Go.AW.gE,hu]⟩
 ·rcases Lr p [] h4 u (by omega) j hj with h | h
  ·simp at h
  ·exact h
 ·rw [Bool.and_eq_true,beq_iff_eq] at e; exact e.2
 ·exact JS hdn ops.size 0 [] rfl (fun k hk=>by omega) (by omega) _ (by rw [Nat.zero_add]; exact h2 _ (GZ u' OV)) _ ((hp u u' h OV).2.2 hx hn) Em
theorem E0 (Nh : ∀ i,i<ops.size→Of P N ops hs i (f i)) : ∀ (t : IT) (q : List Nat),Gw ops f q t=true→(t.node=true∨t.NZ=true) →
  (∃ ex,JY P N ops hs ops.size (pT (q++t.first)) (sT f (q++t.first)) ex)∧(q++t.first).length=ops.size
 | .fin l,q,h,_=>⟨⟨_,(IM Nh h).1⟩,(IM Nh h).2⟩
 | .br l ts,q,h,_=>by
  simp only [Gw,Bool.and_eq_true] at h
  have:=E0 Nh ts (q++l) h.2 (.inr h.1.1.2);rw [List.append_assoc] at this;exact this
 | .nil,q,h,hn=>by rcases hn with hn | hn <;> cases hn
 | .alt h t ts,q,hc,_=>by
  simp only [Gw,Bool.and_eq_true] at hc
  have:=E0 Nh t (q++[h]) hc.1.2 (.inl hc.1.1.2);rw [List.append_assoc] at this;exact this
theorem VP {F : Env→AA→Prop} {σ : Env} {H : AA} {i : Nat} : ∀ (ts : IT) (q : List Nat),Gw ops f q ts=true→i∈ts.VD→MD P B (ts.ot f) F σ H →
  ∃ t,t.node=true∧Gw ops f (q++[i]) t=true∧cls (f i).i=2∧Bm P B [f i] (MD P B (t.ot f) F) σ H
 | .fin l,q,_,h,_=>by cases h
 | .br l ts,q,_,h,_=>by cases h
 | .nil,q,_,h,_=>by cases h
 | .alt h t ts,q,hc,hi,ho=>by
  simp only [Gw,Bool.and_eq_true,beq_iff_eq] at hc
  rcases List.mem_cons.mp hi with rfl | hi
  ·exact ⟨t,hc.1.1.2,hc.1.2,hc.1.1.1,ho.1⟩
  ·exact VP ts q hc.2 hi ho.2
theorem Sw {i : Nat} : ∀ (ts : IT) (q : List Nat),Gw ops f q ts=true→i∈ts.VD→∃ t,t.node=true∧Gw ops f (q++[i]) t=true
 | .fin l,q,_,h=>by cases h
 | .br l ts,q,_,h=>by cases h
 | .nil,q,_,h=>by cases h
 | .alt h t ts,q,hc,hi=>by
  simp only [Gw,Bool.and_eq_true,beq_iff_eq] at hc
  rcases List.mem_cons.mp hi with rfl | hi
  ·exact ⟨t,hc.1.1.2,hc.1.2⟩
  ·exact Sw ts q hc.2 hi
theorem Fj {a b : List Nat} {u : Nat} (h : u<a.length) : (a++b).getD u 0=a.getD u 0:=by
 rw [Go.AW.gE,List.getElem?_append_left h,← Go.AW.gE]
theorem QL {a b : List Nat} {i : Nat} : (a++i::b).getD a.length 0=i:=by simp [Go.AW.gE]
theorem NA {a b : List Nat} {k : Nat} (h : a.length=k) : ((a++b).map f).drop k=b.map f:=by
 rw [List.map_append]; exact List.drop_left' (by simpa using h)
theorem Py {p : List Nat} {a b : List Nat} (h : p=a++b) {u : Nat} (hu : u<a.length) : (a.map f)[u]? = some (f (p.getD u 0)):=by
 rw [h,Fj hu,List.getElem?_map,Go.AW.gE,List.getElem?_eq_getElem hu]; rfl
theorem Inv.re {n : Nat} {p : Nat→Nat} {s : Nat→Cq} {ss ss2 : List Cq} {F F2 : Env→AA→Prop} {σ0 : Env} {D : Array Bool} {v : Nat} {σ : Env} {g : Gh} {H : AA} {w : World} {a : Act}
  (I : Inv P B N ops n p s ss F σ0 D v σ g H w a) (LW : Bm P B (ss2.drop v) F2 σ H) : Inv P B N ops n p s ss2 F2 σ0 D v σ g H w a :=
 ⟨I.dsz,I.down,I.vle,I.pre,I.wr,I.JK,I.new,I.pend,I.same,LW,I.rel,I.size⟩
theorem L0 (Nh : ∀ i,i<ops.size→Of P N ops hs i (f i)) {F : Env→AA→Prop} {σ0 : Env} {g0 : Gh} {w0 : World} {df : List Deferred} {Q : Exit→Act→World→Prop}
  (hq : ∀ a' w',GM F g0 B w0 N df a' w'→Q .normal a' w') : ∀ (fuel : Nat) (q l : List Nat) (ts : IT) (D : Array Bool) (σ : Env) (g : Gh) (H : AA) (w : World) (a : Act),D.toList.count false=fuel →
   Gw ops f q (.br l ts)=true →
   Inv P B N ops ops.size (pT ((q++l)++ts.first)) (sT f ((q++l)++ts.first)) ((q++l).map f) (MD P B (ts.ot f) F) σ0 D (q++l).length σ g H w a→g0.le g→Below B w0 w→a.defers=df→wpAny P .any ops Q fuel D a w
 | fuel,q,l,ts,D,σ,g,H,w,a,hc,R8,I,hg,hb,hd=>by
  have Pg:=R8;simp only [Gw,Bool.and_eq_true] at R8
  obtain ⟨⟨⟨hl,yJ⟩,xZ⟩,oV⟩:=R8
  obtain ⟨⟨ex,pl⟩,hlen⟩:=E0 Nh ts (q++l) oV (.inr yJ)
  have hk : (q++l).length<ops.size:=by
   cases ts <;> simp only [IT.NZ,Bool.false_eq_true] at yJ
   simp only [IT.first,List.length_append,List.length_cons] at hlen ⊢;omega
  have hkc : ¬ Fo D (pT ((q++l)++ts.first) (q++l).length):=fun h=>by
   have:=I.pre _ hk h; omega
  cases fuel with
  | zero=>exact absurd (VM (I.dsz.trans pl.size) hc _ (pl.lt _ hk)) hkc
  | succ fuel =>
   refine ⟨fun hr=>absurd (J7 pl I.dsz hr _ hk) hkc,fun i hi=>?_⟩;rw [IU I.dsz] at hi
   obtain ⟨dV,Ga,ga⟩:=hi
   obtain ⟨u,hu,rfl⟩:=pl.yZ i (by rw [← pl.size]; exact dV)
   have Em:=YJ ga
   have XX:=OW (by rw [I.dsz]; exact dV) Ga hc
   by_cases aO : u<(q++l).length
   ·refine VE pl I hu aO Ga Em fun x g' w' e1 e2 e3 e4=>?_;exact L0 Nh hq fuel q l ts _ σ g' H w' _ XX Pg (Rv pl I hu aO Ga Em x e1 e2 e4) (hg.trans e1) (hb.trans e3) (by rw [put_defers]; exact hd)
   ·have lY : pT ((q++l)++ts.first) u ∉ q++l:=fun hm=>by
     obtain ⟨u1,h1,e⟩:=List.getElem_of_mem hm
     have h2 : pT ((q++l)++ts.first) u1=pT ((q++l)++ts.first) u:=by
      show ((q++l)++ts.first).getD u1 0=_
      rw [Fj h1,Go.AW.gE,List.getElem?_eq_getElem h1]; exact e
     have:=pl.inj u1 u (by omega) hu h2;omega
    have xY:=xZ;simp only [YZ,List.all_eq_true,List.mem_range,Bool.or_eq_true,List.contains_iff_mem,List.any_eq_true] at xY
    have LW:=I.go;rw [List.drop_eq_nil_of_le (by simp)] at LW
    replace LW : MD P B (ts.ot f) F σ H:=LW
    rcases xY _ dV with (Iy | Iy) | ⟨j,hj1,cc⟩
    ·exact absurd Iy lY
    ·generalize hiu : pT ((q++l)++ts.first) u=i at *
     obtain ⟨t,Nf,Pc,Yj,hgo2⟩:=VP ts (q++l) oV Iy LW
     have key : ∀ {p2 : List Nat} {ex2 : Nat→Bool} (_ : p2=((q++l)++[i])++t.first) (pl2 : JY P N ops hs ops.size (pT p2) (sT f p2) ex2)
       (fin : ∀ (x : Value) (σ' : Env) (g' : Gh) (H' : AA) (w' : World),g.le g'→Below B w w'→Inv P B N ops ops.size (pT p2) (sT f p2) (((q++l)++[i]).map f) (MD P B (t.ot f) F) σ0 (D.setIfInBounds i true) ((q++l).length+1) σ' g' H' w' (a.put (f i).d x) →
        wpAny P .any ops Q fuel (D.setIfInBounds i true) (a.put (f i).d x) w'),wpOp P ops Q i (wpAny P .any ops Q fuel (D.setIfInBounds i true)) a w:=by
      intro p2 ex2 E8 pl2 fin
      have yS : p2=(q++l)++(i::t.first):=by rw [E8,List.append_assoc]; rfl
      have V6 : ∀ u,u<(q++l).length→pT p2 u=pT ((q++l)++ts.first) u∧sT f p2 u=sT f ((q++l)++ts.first) u:=fun u hu=>by
       have : p2.getD u 0=((q++l)++ts.first).getD u 0:=by rw [yS,Fj hu,Fj hu]
       exact ⟨this,congrArg f this⟩
      have Ni : pT p2 (q++l).length=i:=by show p2.getD _ 0=i; rw [yS,QL]
      have hsk : sT f p2 (q++l).length=f i:=congrArg f Ni
      have I2 : Inv P B N ops ops.size (pT p2) (sT f p2) (((q++l)++[i]).map f) (MD P B (t.ot f) F) σ0 D (q++l).length σ g H w a :=
       I.move (ex2:=ex2) pl pl2 V6 hk (by rw [NA rfl]; exact hgo2)
      have x3 : (((q++l)++[i]).map f)[(q++l).length]? = some (sT f p2 (q++l).length):=by rw [hsk]; simp
      have hw:=Sl (Q:=Q) (fuel:=fuel) pl2 I2 hk x3 (by rw [Ni]; exact Ga) (by rw [Ni]; exact Em) fun x ro g' H' w' e1 e2 e3 e4 dZ h5=>by
       have I3:=Ot pl2 I2 hk (by rw [hsk]; exact Yj) (by rw [Ni]; exact Ga) (by rw [Ni]; exact Em) x ro e1 e2 e4 dZ h5;rw [hsk,Ni] at I3 ⊢;exact fin x _ g' H' w' e1 e3 I3
      rw [Ni] at hw;exact hw
     cases t with
     | nil=>cases Nf
     | alt _ _ _=>cases Nf
     | fin l' =>
      obtain ⟨pl2,Nn⟩:=IM Nh (p:=((q++l)++[i])++l') (m:=((q++l)++[i]).length) Pc;refine key rfl pl2 fun x σ' g' H' w' e1 e3 I3=>?_
      have I4 : Inv P B N ops ops.size _ _ ((((q++l)++[i])++l').map f) F σ0 _ _ _ _ _ _ _:=I3.re (F2:=F) (by
       have:=I3.go;rw [List.drop_eq_nil_of_le (by simp only [List.length_map,List.length_append,List.length_cons,List.length_nil]; omega)] at this;rw [NA (by simp only [List.length_append,List.length_cons,List.length_nil])]; exact this)
      have J9 : ∀ u,u<ops.size→((((q++l)++[i])++l').map f)[u]? = some (sT f (((q++l)++[i])++l') u):=fun u hu=>Py (b:=[]) (by simp) (by omega)
      obtain ⟨v',σ2,I5,hle,-,RH⟩:=advance pl2 ops.size (Nat.le_refl _) (fun h=>absurd h (Nat.lt_irrefl _)) J9 _ _ _ rfl (by omega) I4;exact Ij pl2 (by rw [List.length_map]; exact Nn) J9 hq fuel _ v' σ2 g' H' w' _ XX I5 RH (fun u h1 h2=>by rw [Bool.and_eq_false_iff]; exact .inl (decide_eq_false (by simp only [List.length_append,List.length_cons,List.length_nil] at hle ⊢; omega))) (hg.trans e1) (hb.trans e3) (by rw [put_defers]; exact hd)
     | br l' ts' =>
      obtain ⟨⟨ex2,pl2⟩,Nn⟩:=E0 Nh (.br l' ts') ((q++l)++[i]) Pc (.inl rfl)
      have yG:=Pc;simp only [Gw,Bool.and_eq_true,List.all_eq_true,decide_eq_true_eq] at yG
      have lS : ((q++l)++[i])++(IT.br l' ts').first=(((q++l)++[i])++l')++ts'.first:=by simp only [IT.first,List.append_assoc]
      refine key rfl pl2 fun x σ' g' H' w' e1 e3 I3=>?_
      have I4 : Inv P B N ops ops.size _ _ ((((q++l)++[i])++l').map f) (MD P B (ts'.ot f) F) σ0 _ _ _ _ _ _ _:=I3.re (F2:=MD P B (ts'.ot f) F) (by
       have:=I3.go;rw [List.drop_eq_nil_of_le (by simp only [List.length_map,List.length_append,List.length_cons,List.length_nil]; omega)] at this;rw [NA (by simp only [List.length_append,List.length_cons,List.length_nil])]; exact this)
      have lO : (((q++l)++[i])++l').length<ops.size:=by
       have h1:=yG.1.1.2
       cases ts' <;> simp only [IT.NZ,Bool.false_eq_true] at h1
       rw [lS] at Nn;simp only [IT.first,List.length_append,List.length_cons] at Nn ⊢;omega
      have J9 : ∀ u,u<(((q++l)++[i])++l').length→((((q++l)++[i])++l').map f)[u]? = some (sT f (((q++l)++[i])++(IT.br l' ts').first) u):=fun u hu=>Py lS hu
      have lX : (((q++l)++[i])++l').length<ops.size→cls (sT f (((q++l)++[i])++(IT.br l' ts').first) (((q++l)++[i])++l').length).i=2:=fun _=>by
       have h1:=yG.1.1.2
       have h2:=yG.2
       cases ts' <;> simp only [IT.NZ,Bool.false_eq_true] at h1
       simp only [Gw,Bool.and_eq_true,beq_iff_eq] at h2
       show cls (f ((((q++l)++[i])++(IT.br l' _).first).getD _ 0)).i=2
       rw [lS];simp only [IT.first];rw [QL];exact h2.1.1.1
      obtain ⟨v',σ2,I5,hle,yx,RH⟩:=advance pl2 (((q++l)++[i])++l').length (by omega) lX J9 _ _ _ rfl (by simp only [List.length_map,List.length_append,List.length_cons,List.length_nil]; omega) I4
      have ze : v'=(((q++l)++[i])++l').length:=by
       refine Classical.byContradiction fun Bg=>?_
       have h2:=RH (by omega)
       have h3 : (((q++l)++[i])++(IT.br l' ts').first).getD v' 0∈l':=by
        rw [lS,Fj (by omega),Go.AW.gE,List.getElem?_append_right (by simp only [List.length_append,List.length_cons,List.length_nil] at hle ⊢; omega)];rw [List.getElem?_eq_getElem (by simp only [List.length_append,List.length_cons,List.length_nil] at hle yx Bg ⊢; omega)]
        simp
       have h4:=yG.1.1.1 _ h3
       have h5 : cls (f ((((q++l)++[i])++(IT.br l' ts').first).getD v' 0)).i=2:=h2;omega
      subst ze;rw [lS] at I5;exact L0 Nh hq fuel ((q++l)++[i]) l' ts' _ σ2 g' H' w' _ XX Pc I5 (hg.trans e1) (hb.trans e3) (by rw [put_defers]; exact hd)
    ·exfalso
     have hlj:=JS I.down ops.size 0 [] rfl (fun k hk=>by omega) (by omega) _ (by rw [Nat.zero_add]; exact dV) _ hj1 Em
     obtain ⟨t,Nf,Pc⟩:=Sw ts (q++l) oV cc
     obtain ⟨⟨ex2,pl2⟩,Nn⟩:=E0 Nh t ((q++l)++[j]) Pc (.inl Nf)
     have E8 : ((q++l)++[j])++t.first=(q++l)++(j::t.first):=by rw [List.append_assoc]; rfl
     rw [E8] at pl2
     have aV : pT ((q++l)++(j::t.first)) (q++l).length=j:=by show List.getD _ _ 0=j; rw [QL]
     have hjn : j<ops.size:=by rw [← aV]; exact pl2.lt _ hk
     obtain ⟨u1,h1,e1⟩:=pl.yZ j hjn
     have h2:=I.pre u1 h1 (by rw [e1]; exact hlj)
     have h3 : pT ((q++l)++(j::t.first)) u1=j:=by
      rw [← e1]
      show List.getD _ _ 0=List.getD _ _ 0
      rw [Fj h2,Fj h2]
     have:=pl2.inj u1 (q++l).length h1 hk (by rw [h3,aV]);omega
theorem W2 (s : Cq) (r : List Cq) (F : Env→AA→Prop) : Bm P B (s::r) F=Bm P B [s] (Bm P B r F):=by
 obtain ⟨d,g,i⟩:=s
 cases g <;> rfl
theorem bZ {Q : AQ} {σ : Env} {H : AA} : ∀ {t : IT},Dx P B (tZ f t) Q σ H→MD P B (t.ot f) (Q .norm) σ H:=by
 intro t h;unfold tZ at h
 split at h
 ·exact h
 ·rename_i l h1 r h2 r'
  have e : (fun (σ : Env) (H : AA)=>Bm P B (f h1::r.map f) (Q .norm) σ H∧Bm P B (f h2::r'.map f) (Q .norm) σ H)=MD P B ((IT.alt h1 (.fin r) (.alt h2 (.fin r') .nil)).ot f) (Q .norm):=by
   funext σ H
   show (_∧_)=(_∧_∧True)
   rw [and_true,W2,W2 (f h2)]; rfl
  have h : Bm P B (l.map f) (fun σ H=>Bm P B (f h1::r.map f) (Q .norm) σ H∧Bm P B (f h2::r'.map f) (Q .norm) σ H) σ H:=h;rw [e] at h;exact h
 ·exact h
theorem Sg {perm : List Nat} {df : List Deferred} {t : IT} (hc : ZP P N ops hs perm=some t)
  (F : Env→AA→Prop) (g : Gh) (H : AA) (w : World) (σ : Env) (a : Act) (Q : Exit→Act→World→Prop) (hW : Ao g B H w) (hE : Cr g σ a.tmps) (hN : a.tmps.size=N) (hd : a.defers=df)
  (hk : MD P B (t.ot (Tj P N ops hs)) F σ H) (hq : ∀ a' w',GM F g B w N df a' w'→Q .normal a' w') (id : Nat) : (Code.region id ops true).wp P Q a w:=by
 unfold ZP at hc;dsimp only at hc
 generalize (if perm.isEmpty then List.range ops.size else perm)=pm at hc
 split at hc
 ·rename_i Au
  rw [Bool.and_eq_true] at Au
  obtain ⟨Au,yj⟩:=Au;simp only [List.all_eq_true,List.mem_range,Option.isSome_iff_exists] at Au
  split at hc
  ·rename_i R8
   simp only [Option.some.injEq] at hc;rw [hc,Bool.and_eq_true] at R8
   obtain ⟨Nf,Pg⟩:=R8;clear hc
   have Nh : ∀ i,i<ops.size→Of P N ops hs i (Tj P N ops hs i):=fun i hi=>by
    obtain ⟨s,J9⟩:=Au i hi
    cases ho : ops[i]? with
    | none=>rw [ho] at J9; cases J9
    | some o =>
     rw [ho] at J9;refine ⟨o,ho, ?_⟩
     have mC : EM P N ops (hs.getD i 0) o=some s:=J9;rw [Tj,ho];simp only [mC,Option.getD_some]
   generalize Tj P N ops hs=f at *;refine wp_region_any yj ?_
   have hD : ∀ i,i<ops.size→¬ Fo (Array.replicate ops.size false) i:=by
    intro i hi h
    simp [Fo,Array.getD,hi] at h
   have I0 : ∀ {p : List Nat} {ex : Nat→Bool} {ss : List Cq} {F : Env→AA→Prop},JY P N ops hs ops.size (pT p) (sT f p) ex→Bm P B ss F σ H→Inv P B N ops ops.size (pT p) (sT f p) ss F σ (Array.replicate ops.size false) 0 σ g H { w with drawn:=w.drawn+1 } a :=
    fun pl hk=>⟨by simp,fun i hi h=>absurd h (hD i hi),Nat.zero_le _,fun u hu h=>absurd h (hD _ (pl.lt u hu)),fun u hu=>by omega,fun t x hx _=>hE t x hx,fun u hu=>by omega,fun u hu=>by omega,
     fun t _=>rfl,hk,hW.drew,hN⟩
   cases t with
   | nil=>cases Nf
   | alt _ _ _=>cases Nf
   | fin l =>
    obtain ⟨pl,hlen⟩:=IM Nh (p:=[]++l) (m:=0) Pg
    have J9 : ∀ u,u<ops.size→(([]++l).map f)[u]? = some (sT f ([]++l) u):=fun u hu=>Py (b:=[]) (by simp) (by omega)
    obtain ⟨v',σ',I',-,-,RH⟩:=advance pl ops.size (Nat.le_refl _) (fun h=>absurd h (Nat.lt_irrefl _)) J9 _ 0 σ rfl (Nat.zero_le _) (I0 pl hk);exact Ij pl (by rw [List.length_map]; exact hlen) J9 hq ops.size _ v' σ' g H _ a (by simp) I' RH (fun u h1 h2=>by rw [Bool.and_eq_false_iff]; exact .inl (decide_eq_false (by omega))) (.refl g) ((Below.refl B w).drew) hd
   | br l ts =>
    have R8:=Pg;simp only [Gw,Bool.and_eq_true,List.all_eq_true,decide_eq_true_eq] at R8
    obtain ⟨⟨⟨hl,yJ⟩,xZ⟩,oV⟩:=R8
    obtain ⟨⟨ex,pl⟩,hlen⟩:=E0 Nh (.br l ts) [] Pg (.inl rfl)
    have hp : []++(IT.br l ts).first=([]++l)++ts.first:=rfl;rw [hp] at pl hlen
    have I : Inv P B N ops ops.size (pT (([]++l)++ts.first)) (sT f (([]++l)++ts.first)) (([]++l).map f) (MD P B (ts.ot f) F) σ (Array.replicate ops.size false) 0 σ g H { w with drawn:=w.drawn+1 } a:=I0 pl hk
    have lO : ([]++l).length<ops.size:=by
     cases ts <;> simp only [IT.NZ,Bool.false_eq_true] at yJ
     simp only [IT.first,List.length_append,List.length_cons] at hlen ⊢;omega
    have lX : ([]++l).length<ops.size→cls (sT f (([]++l)++ts.first) ([]++l).length).i=2:=fun _=>by
     cases ts <;> simp only [IT.NZ,Bool.false_eq_true] at yJ
     simp only [Gw,Bool.and_eq_true,beq_iff_eq] at oV
     show cls (f (List.getD _ _ 0)).i=2
     simp only [IT.first];rw [QL];exact oV.1.1.1
    obtain ⟨v',σ',I',-,hle,RH⟩:=advance pl ([]++l).length (by omega) lX (fun u hu=>Py rfl hu) _ 0 σ rfl (Nat.zero_le _) I
    have ze : v'=([]++l).length:=by
     refine Classical.byContradiction fun Bg=>?_
     have h2:=RH (by omega)
     have h3 : (([]++l)++ts.first).getD v' 0∈l:=by
      rw [Fj (by omega),Go.AW.gE,List.getElem?_eq_getElem (by omega)]
      simp
     have h4:=hl _ h3
     have h5 : cls (f ((([]++l)++ts.first).getD v' 0)).i=2:=h2;omega
    subst ze;exact L0 Nh hq ops.size [] l ts _ σ' g H _ a (by simp) Pg I' (.refl g) ((Below.refl B w).drew) hd
  ·cases hc
 ·cases hc
end
end Go.AW
namespace Go.AW
open Go.RowKit
def jB (P : Program) (N : Nat) (ops : Array Oper) (draw : Bool) (vs pm : List Nat) : Option SC :=
 if draw then (ZP P N ops vs pm).map (tZ (Tj P N ops vs)) else (GP P N ops vs (List.range ops.size)).map .XW
def SC.dC : SC→Bool
 | .XW _=>true
 | .two _ _ _=>true
 | .aQ _=>true
 | _=>false
theorem jD (f : Nat→Cq) (t : IT) : (tZ f t).dC=true:=by unfold tZ; split <;> rfl
theorem jL {P : Program} {N : Nat} {ops : Array Oper} {d : Bool} {vs pm : List Nat} {s : SC} (h : jB P N ops d vs pm=some s) : s.dC=true:=by
 cases d <;> simp only [jB,Bool.false_eq_true,if_false,if_true,Option.map_eq_some_iff] at h <;> obtain ⟨t,_,rfl⟩:=h
 ·rfl
 ·exact jD _ t
theorem Hr {P : Program} {N : Nat} {ops : Array Oper} {d : Bool} {vs pm : List Nat} {s : SC} (h : jB P N ops d vs pm=some s) (h1 : s.dC=false) : False:=by
 rw [jL h] at h1; cases h1
theorem Mq {P : Program} {B N : Nat} {ops : Array Oper} {d : Bool} {vs pm : List Nat} {s : SC} (h : jB P N ops d vs pm=some s) (Q : AQ) (g : Gh) (H : AA) (w : World) (σ : Env) (a : Act) {df : List Deferred} (hW : Ao g B H w) (hE : Cr g σ a.tmps) (hN : a.tmps.size=N) (hd : a.defers=df)
  (hk : Dx P B s Q σ H) (id : Nat) : (Code.region id ops d).wp P (Mr Q g B w N df) a w:=by
 cases d <;> simp only [jB,Bool.false_eq_true,if_false,if_true,Option.map_eq_some_iff] at h <;> obtain ⟨t,h,rfl⟩:=h
 ·exact wp_region (On _ _ h (Q .norm) g H w σ a _ hW hE hN hd hk fun a' w' hp=>hp)
 ·exact Sg h (Q .norm) g H w σ a _ hW hE hN hd (bZ hk) (fun a' w' hp=>hp) id
def B3 (P : Program) (N : Nat) (hs : Hints) : Code→Option SC
 | .skip=>some .skip
 | .region id ops draw =>
  jB P N ops draw ((hs.lookup id).elim [] (·.2)) ((hs.lookup id).elim [] (·.1))
 | .seq a b=>ic .seq (B3 P N hs a) (B3 P N hs b)
 | .cond c a b=>match cx c with
  | some x=>ic (.cond x) (B3 P N hs a) (B3 P N hs b)
  | none=>none
 | .block id c=>(B3 P N hs c).map (.block id)
 | .loop c=>(B3 P N hs c).map (.loop [])
 | .exit id=>some (.exit id)
 | .scope c=>(B3 P N hs c).map .Uy
 | .label _=>some .skip
 | .ret=>some .ret
 | _=>none
theorem Bk {f : SC→SC→SC} {a b : Option SC} {s : SC} (h : ic f a b=some s) : ∃ x y,a=some x∧b=some y∧s=f x y:=by
 cases a <;> cases b <;> simp [ic] at h
 exact ⟨_,_,rfl,rfl,h.symm⟩
section
variable {P : Program} {B : Nat}
theorem Z2 {c : Code} {Q : Exit→Act→World→Prop} (I : Nat→Act→World→Prop) {n : Nat} {a : Act} {w : World} (h₀ : I n a w)
  (round : ∀ n a w,I n a w→c.wp P (Exit.then (fun a' w'=>∃ m,m<n∧I m a' w') Q) a w) : (Code.loop c).wp P Q a w:=by
 intro b k cs
 have key : ∀ n a w,I n a w →
   ∃ e a' w',Q e a' w'∧Arrives P (lone (b.at a (.code c::.inLoop c::k)) cs w) b k cs e a' w':=by
  intro n
  induction n using Nat.strongRecOn with
  | _ n ih =>
   intro a w hI
   obtain ⟨e,a₁,w₁,hq,TO⟩:=round n a w hI b (.inLoop c::k) cs
   cases e with
   | normal =>
    obtain ⟨m,CF,hI₁⟩:=hq
    obtain ⟨e₂,a₂,w₂,hq₂,yE⟩:=ih m CF a₁ w₁ hI₁;exact ⟨e₂,a₂,w₂,hq₂,.of_steps (Steps.trans TO (.one step_inLoop)) yE⟩
   | exit id=>exact ⟨_,a₁,w₁,hq,.pass (x:=.inLoop c) rfl (fun _ _=>.inl (by simp)) TO⟩
   | goto l=>exact ⟨_,a₁,w₁,hq,.pass (x:=.inLoop c) rfl (fun _ _=>.inl (by simp)) TO⟩
   | ret=>exact ⟨_,a₁,w₁,hq,.pass (x:=.inLoop c) rfl (fun _ _=>.inl (by simp)) TO⟩
   | panic ch=>exact ⟨_,a₁,w₁,hq,.pass (x:=.inLoop c) rfl (fun _ _=>.inl (by simp)) TO⟩
   | outgrown=>exact ⟨_,a₁,w₁,hq,.pass (x:=.inLoop c) rfl (fun _ _=>.inl (by simp)) TO⟩
 obtain ⟨e,a',w',hq,TO⟩:=key n a w h₀;exact ⟨e,a',w',hq,.of_steps (.one step_loop) TO⟩
theorem Y7 {N : Nat} {hs : Hints} {c : Code} (h : B3 P N hs c=some .skip) : c=.skip∨∃ l,c=.label l:=by
 cases c <;> simp only [B3,reduceCtorEq] at h <;> first | exact .inl rfl | exact .inr ⟨_,rfl⟩ | skip
 all_goals exfalso
 ·exact Hr h rfl
 ·obtain ⟨_,_,_,_,h⟩:=Bk h; cases h
 ·split at h
  ·obtain ⟨_,_,_,_,h⟩:=Bk h; cases h
  ·cases h
 ·rw [Option.map_eq_some_iff] at h; obtain ⟨_,_,h⟩:=h; cases h
 ·rw [Option.map_eq_some_iff] at h; obtain ⟨_,_,h⟩:=h; cases h
 ·cases h
 ·rw [Option.map_eq_some_iff] at h; obtain ⟨_,_,h⟩:=h; cases h
 ·cases h
theorem UU {N : Nat} {hs : Hints} {c : Code} {s : SC} (h : B3 P N hs c=some s) (hr : s.dC=true) : ∃ id ops d,c=.region id ops d∧jB P N ops d ((hs.lookup id).elim [] (·.2)) ((hs.lookup id).elim [] (·.1))=some s:=by
 cases c <;> simp only [B3,reduceCtorEq] at h
 case region id ops d=>exact ⟨id,ops,d,rfl,h⟩
 all_goals exfalso
 all_goals first
  | (obtain ⟨_,_,_,_,h⟩:=Bk h; subst h; cases hr)
  | (rw [Option.map_eq_some_iff] at h; obtain ⟨_,_,h⟩:=h; subst h; cases hr)
  | (split at h <;> first | (obtain ⟨_,_,_,_,h⟩:=Bk h; subst h; cases hr) | cases h)
  | (cases h; cases hr)
theorem VN {N : Nat} {hs : Hints} {c : Code} {x y : SC} (h : B3 P N hs c=some (.seq x y)) : ∃ a b,c=.seq a b∧B3 P N hs a=some x∧B3 P N hs b=some y:=by
 cases c <;> simp only [B3,reduceCtorEq] at h
 ·cases h
 ·exfalso; exact Hr h rfl
 ·obtain ⟨_,_,h1,h2,h⟩:=Bk h; cases h; exact ⟨_,_,rfl,h1,h2⟩
 all_goals exfalso
 ·split at h
  ·obtain ⟨_,_,_,_,h⟩:=Bk h; cases h
  ·cases h
 ·rw [Option.map_eq_some_iff] at h; obtain ⟨_,_,h⟩:=h; cases h
 ·rw [Option.map_eq_some_iff] at h; obtain ⟨_,_,h⟩:=h; cases h
 ·cases h
 ·rw [Option.map_eq_some_iff] at h; obtain ⟨_,_,h⟩:=h; cases h
 ·cases h
 ·cases h
theorem Yv {N : Nat} {hs : Hints} {c : Code} {z : X} {x y : SC} (h : B3 P N hs c=some (.cond z x y)) :
  ∃ o a b,c=.cond o a b∧cx o=some z∧B3 P N hs a=some x∧B3 P N hs b=some y:=by
 cases c <;> simp only [B3,reduceCtorEq] at h
 ·cases h
 ·exfalso; exact Hr h rfl
 ·exfalso; obtain ⟨_,_,h1,h2,h⟩:=Bk h; cases h
 ·split at h
  ·rename_i hz; obtain ⟨_,_,h1,h2,h⟩:=Bk h; cases h; exact ⟨_,_,_,rfl,hz,h1,h2⟩
  ·cases h
 all_goals exfalso
 ·rw [Option.map_eq_some_iff] at h; obtain ⟨_,_,h⟩:=h; cases h
 ·rw [Option.map_eq_some_iff] at h; obtain ⟨_,_,h⟩:=h; cases h
 ·cases h
 ·rw [Option.map_eq_some_iff] at h; obtain ⟨_,_,h⟩:=h; cases h
 ·cases h
 ·cases h
theorem WX {N : Nat} {hs : Hints} {c : Code} {id : Nat} {x : SC} (h : B3 P N hs c=some (.block id x)) : ∃ a,c=.block id a∧B3 P N hs a=some x:=by
 cases c <;> simp only [B3,reduceCtorEq] at h
 ·cases h
 ·exfalso; exact Hr h rfl
 ·exfalso; obtain ⟨_,_,h1,h2,h⟩:=Bk h; cases h
 ·exfalso
  split at h
  ·obtain ⟨_,_,_,_,h⟩:=Bk h; cases h
  ·cases h
 ·rw [Option.map_eq_some_iff] at h; obtain ⟨_,h1,h⟩:=h; cases h; exact ⟨_,rfl,h1⟩
 all_goals exfalso
 ·rw [Option.map_eq_some_iff] at h; obtain ⟨_,_,h⟩:=h; cases h
 ·cases h
 ·rw [Option.map_eq_some_iff] at h; obtain ⟨_,_,h⟩:=h; cases h
 ·cases h
 ·cases h
theorem YT {N : Nat} {hs : Hints} {c : Code} {x : SC} (h : B3 P N hs c=some (.loop [] x)) : ∃ a,c=.loop a∧B3 P N hs a=some x:=by
 cases c <;> simp only [B3,reduceCtorEq] at h
 ·cases h
 ·exfalso; exact Hr h rfl
 ·exfalso; obtain ⟨_,_,h1,h2,h⟩:=Bk h; cases h
 ·exfalso
  split at h
  ·obtain ⟨_,_,_,_,h⟩:=Bk h; cases h
  ·cases h
 ·exfalso; rw [Option.map_eq_some_iff] at h; obtain ⟨_,_,h⟩:=h; cases h
 ·rw [Option.map_eq_some_iff] at h; obtain ⟨_,h1,h⟩:=h; cases h; exact ⟨_,rfl,h1⟩
 all_goals exfalso
 ·cases h
 ·rw [Option.map_eq_some_iff] at h; obtain ⟨_,_,h⟩:=h; cases h
 ·cases h
 ·cases h
theorem ZS {N : Nat} {hs : Hints} {c : Code} {id : Nat} (h : B3 P N hs c=some (.exit id)) : c=.exit id:=by
 cases c <;> simp only [B3,reduceCtorEq] at h
 ·cases h
 ·exfalso; exact Hr h rfl
 ·exfalso; obtain ⟨_,_,h1,h2,h⟩:=Bk h; cases h
 ·exfalso
  split at h
  ·obtain ⟨_,_,_,_,h⟩:=Bk h; cases h
  ·cases h
 ·exfalso; rw [Option.map_eq_some_iff] at h; obtain ⟨_,_,h⟩:=h; cases h
 ·exfalso; rw [Option.map_eq_some_iff] at h; obtain ⟨_,_,h⟩:=h; cases h
 ·cases h; rfl
 ·exfalso; rw [Option.map_eq_some_iff] at h; obtain ⟨_,_,h⟩:=h; cases h
 ·cases h
 ·cases h
theorem bP {N : Nat} {hs : Hints} {c : Code} (h : B3 P N hs c=some .ret) : c=.ret:=by
 cases c <;> simp only [B3,reduceCtorEq] at h
 ·cases h
 ·exfalso; exact Hr h rfl
 ·exfalso; obtain ⟨_,_,h1,h2,h⟩:=Bk h; cases h
 ·exfalso
  split at h
  ·obtain ⟨_,_,_,_,h⟩:=Bk h; cases h
  ·cases h
 ·exfalso; rw [Option.map_eq_some_iff] at h; obtain ⟨_,_,h⟩:=h; cases h
 ·exfalso; rw [Option.map_eq_some_iff] at h; obtain ⟨_,_,h⟩:=h; cases h
 ·cases h
 ·exfalso; rw [Option.map_eq_some_iff] at h; obtain ⟨_,_,h⟩:=h; cases h
 ·cases h
 ·rfl
theorem bI {N : Nat} {hs : Hints} {c : Code} {x : SC} (h : B3 P N hs c=some (.Uy x)) : ∃ a,c=.scope a∧B3 P N hs a=some x:=by
 cases c <;> simp only [B3,reduceCtorEq] at h
 ·cases h
 ·exfalso; exact Hr h rfl
 ·exfalso; obtain ⟨_,_,h1,h2,h⟩:=Bk h; cases h
 ·exfalso
  split at h
  ·obtain ⟨_,_,_,_,h⟩:=Bk h; cases h
  ·cases h
 ·exfalso; rw [Option.map_eq_some_iff] at h; obtain ⟨_,_,h⟩:=h; cases h
 ·exfalso; rw [Option.map_eq_some_iff] at h; obtain ⟨_,_,h⟩:=h; cases h
 ·cases h
 ·rw [Option.map_eq_some_iff] at h; obtain ⟨_,h1,h⟩:=h; cases h; exact ⟨_,rfl,h1⟩
 ·cases h
 ·cases h
theorem KO (sz : Nat) : ∀ (n : Nat) (cs : List AV),(chunk sz n cs).length=n
 | 0,_=>rfl
 | n+1,cs=>by simp [chunk,KO sz n]
theorem AV.DH {c : AV} (h : c.one=true) : c.cells=[c]:=by
 cases c <;> first | rfl | (simp [AV.one] at h)
theorem G0 {sz : Nat} (hz : 0<sz) : ∀ (n : Nat) (cs : List AV) (i : Nat),i<n→n*sz≤cs.length→(∀ c,c∈cs→c.one=true) →
  ((chunk sz n cs).getD i nv).cells.length=sz∧∀ j,j<sz→((chunk sz n cs).getD i nv).cells.getD j nv=cs.getD (i*sz+j) nv
 | 0,_,i,hi,_,_=>by omega
 | n+1,cs,i,hi,hl,ho=>by
  have o0 : n*sz+sz≤cs.length:=by rw [Nat.add_mul] at hl; omega
  cases i with
  | zero =>
   simp only [chunk,List.getD_cons_zero]
   by_cases h1 : sz=1
   ·subst h1;rw [if_pos rfl]
    cases cs with
    | nil=>simp at o0
    | cons c cs =>
     simp only [List.headD_cons];rw [AV.DH (ho c (by simp))];refine ⟨rfl,fun j hj=>?_⟩
     have y4 : j=0:=by omega
     subst y4; rfl
   ·rw [if_neg h1];simp only [AV.cells,Nat.zero_mul,Nat.zero_add];refine ⟨by simp; omega,fun j hj=>?_⟩
    simp [Go.AW.gE,hj]
  | succ i =>
   simp only [chunk,List.getD_cons_succ]
   obtain ⟨h1,h2⟩:=G0 hz n (cs.drop sz) i (by omega) (by simp; omega) (fun c hc=>ho c (List.mem_of_mem_drop hc));refine ⟨h1,fun j hj=>?_⟩;rw [h2 j hj];simp only [Go.AW.gE,List.getElem?_drop];rw [show sz+(i*sz+j)=(i+1)*sz+j by rw [Nat.add_mul]; omega]
theorem YK {t : Nat} {F : Env→AA→Prop} {σ : Env} {H : AA} (h : YI t F σ H (σ.get t)) : ∃ σ' H',Wk σ H σ' H'∧F σ' H':=by
 cases hg : σ.get t with
 | none=>rw [hg] at h; exact ⟨σ,H,fun g B w tm a b=>⟨g,.refl g,a,b⟩,h⟩
 | some v =>
  rw [hg] at h
  by_cases hn : v=.A0
  ·subst hn;refine ⟨_,H,fun g B w tm a b=>⟨g,.refl g,a,fun s x e=>?_⟩,h⟩;simp only [Env.put,Env.get] at e
   split at e
   ·rename_i hs; cases e; subst hs
    obtain ⟨q1,q2⟩:=b s _ hg;refine ⟨q1, ?_⟩
    generalize tm.getD s undef=u at q2
    cases q2; exact .slnil none 0
   ·exact b s x e
  ·by_cases hb : ∃ id n,v=.buf id n
   ·obtain ⟨id,n,rfl⟩:=hb;simp only [YI] at h
    cases ho : H.get id with
    | none=>simp [ho,Vq] at h
    | some o =>
     cases o with
     | map _ _=>simp [ho,Vq] at h
     | cells sz cs f =>
      simp only [ho,Vq] at h
      obtain ⟨⟨h1,hz,HW⟩,h3⟩:=h;refine ⟨_,_,fun g B w tm hW hE=>?_,h3⟩
      have h2 : ∀ i,i<n→((chunk sz n cs).getD i nv).cells.length=sz:=fun i hi=>(G0 hz n cs i hi (by omega) HW).1
      obtain ⟨q1,q2⟩:=hE t _ hg
      generalize hu : tm.getD t undef=u at q2
      cases q2 with
      | CN _ CA =>
       obtain ⟨p,hp,hr⟩:=hW.ob id _ ho;rw [CA] at hp; cases hp;simp only [Ah] at hr
       obtain ⟨rfl,rfl⟩:=hr;refine ⟨g,.refl g,hW.sub ?_,fun s x e=>?_⟩
       ·intro k o e
        by_cases hk : k=id
        ·subst hk; simp at e; subst e; exact ho
        ·rwa [AA.Aw _ _ hk] at e
       ·simp only [Env.put,Env.get] at e
        split at e
        ·rename_i hs; cases e; subst hs
         refine ⟨q1, ?_⟩;rw [hu]; exact .slnil none 0
        ·exact hE s x e
      | buf _ _ b cap CA =>
       obtain ⟨c,g',r1,r2,r3,r4,r5,r6⟩:=hW.ZI id b cap sz cs f ho CA
       obtain ⟨_,_,_,_,_,iw,Pe,RG,_⟩:=hW.obj CA ho;refine ⟨g',r1,r2,fun s x e=>?_⟩;simp only [Env.put,Env.get] at e
       split at e
       ·rename_i hs; cases e; subst hs
        refine ⟨q1, ?_⟩;rw [hu]
        have hlen:=KO sz n cs
        have key : Aa g' (.sl (chunk sz n cs)) (.slice (some ⟨b,0,none⟩) (chunk sz n cs).length cap):=by
         refine .sl _ b 0 sz cap (fun k=>c.getD k undef) ?_ ?_ ?_ ?_ ?_
         ·rw [hlen]
          have : n*1≤n*sz:=Nat.mul_le_mul_left _ hz;omega
         ·rw [hlen]
          have q : n*sz≤cap*sz:=by rw [← Pe,← h1]; exact RG
          exact Nat.le_of_mul_le_mul_right q hz
         ·intro i hi; rw [hlen] at hi; exact h2 i hi
         ·intro i j hi hj;rw [hlen] at hi
          have CF : i*sz+j<cs.length:=by
           rw [h1]
           have : (i+1)*sz≤n*sz:=Nat.mul_le_mul_right _ hi;rw [Nat.add_mul] at this; omega
          rw [Nat.zero_add]; exact r5 _ CF
         ·intro i j hi hj;rw [hlen] at hi
          have CF : i*sz+j<cs.length:=by
           rw [h1]
           have : (i+1)*sz≤n*sz:=Nat.mul_le_mul_right _ hi;rw [Nat.add_mul] at this; omega
          rw [(G0 hz n cs i hi (by omega) HW).2 j hj];exact r6 _ CF
        rw [hlen] at key; exact key
       ·obtain ⟨z1,z2⟩:=hE s x e; exact ⟨z1,z2.mono r1⟩
   ·refine ⟨σ,H,fun g B w tm a b=>⟨g,.refl g,a,b⟩, ?_⟩;unfold YI at h
    split at h
    ·rename_i heq; cases heq; exact absurd ⟨_,_,rfl⟩ hb
    ·rename_i heq; cases heq; exact absurd rfl hn
    ·exact h
theorem N6 {N : Nat} {hs : Hints} {df : List Deferred} {x y : Code} {A : Env→AA→Prop} {Q : AQ} {g : Gh} {w : World} {a : Act}
  (h1 : x.wp P (Mr (Qg A Q) g B w N df) a w)
  (h2 : ∀ g' σ' H' w' a',Ao g' B H' w'→Cr g' σ' a'.tmps→a'.tmps.size=N→a'.defers=df→A σ' H'→y.wp P (Mr Q g' B w' N df) a' w') :
  (Code.seq x y).wp P (Mr Q g B w N df) a w:=by
 refine wp_seq (wp_mono h1 fun e a' w' hp=>?_)
 cases e with
 | normal =>
  obtain ⟨g',σ',H',q1,q2,q3,q4,q5,q6,q7⟩:=hp;exact wp_mono (h2 g' σ' H' w' a' q3 q4 q6 q7 q2) fun e2 a2 w2 E8=>E8.from q1 q5
 | exit id=>exact hp
 | ret=>exact hp
 | goto l=>exact hp.elim
 | panic ch=>exact hp.elim
 | outgrown=>exact hp.elim
theorem WG {N : Nat} {hs : Hints} {df : List Deferred} : ∀ (s : SC) (c : Code),B3 P N hs c=some s.strip →
  ∀ (Q : AQ) (g : Gh) (H : AA) (w : World) (σ : Env) (a : Act),Ao g B H w→Cr g σ a.tmps→a.tmps.size=N→a.defers=df →
   Dx P B s Q σ H→c.wp P (Mr Q g B w N df) a w:=by
 intro s
 induction s with
 | skip =>
  intro c hc Q g H w σ a hW hE hN hd hk
  rcases Y7 hc with rfl | ⟨_,rfl⟩
  ·exact wp_skip ⟨g,σ,H,.refl g,hk,hW,hE,.refl B w,hN,hd⟩
  ·exact wp_label ⟨g,σ,H,.refl g,hk,hW,hE,.refl B w,hN,hd⟩
 | XW l =>
  intro c hc Q g H w σ a hW hE hN hd hk
  obtain ⟨id,ops,d,rfl,h⟩:=UU hc rfl;exact Mq h Q g H w σ a hW hE hN hd hk id
 | two p l l' =>
  intro c hc Q g H w σ a hW hE hN hd hk
  obtain ⟨id,ops,d,rfl,h⟩:=UU hc rfl;exact Mq h Q g H w σ a hW hE hN hd hk id
 | aQ t =>
  intro c hc Q g H w σ a hW hE hN hd hk
  obtain ⟨id,ops,d,rfl,h⟩:=UU hc rfl;exact Mq h Q g H w σ a hW hE hN hd hk id
 | seq x y ihx ihy =>
  intro c hc Q g H w σ a hW hE hN hd hk
  obtain ⟨c1,c2,rfl,h1,h2⟩:=VN hc;exact N6 (hs:=hs) (ihx c1 h1 _ g H w σ a hW hE hN hd hk) fun g' σ' H' w' a' p1 p2 p3 p4 p5=>ihy c2 h2 Q g' H' w' σ' a' p1 p2 p3 p4 p5
 | fz t x ih =>
  intro c hc Q g H w σ a hW hE hN hd hk;simp only [Dx] at hk
  obtain ⟨σ1,H1,XR,hM⟩:=YK hk
  obtain ⟨g1,r1,r2,r3⟩:=XR g B w a.tmps hW hE;exact wp_mono (ih c hc Q g1 H1 w σ1 a r2 r3 hN hd hM) fun e2 a2 w2 E8=>E8.from r1 (.refl B w)
 | cut l x y ihx ihy =>
  intro c hc Q g H w σ a hW hE hN hd hk
  obtain ⟨c1,c2,rfl,h1,h2⟩:=VN hc
  obtain ⟨M,k1,k2⟩:=hk
  have hx:=ihx c1 h1 _ g H w σ a hW hE hN hd k1;refine N6 (hs:=hs) (A:=fun σ H=>EX M (Env.BF l σ) H) (wp_mono hx fun e a' w' hp=>?_) fun g' σ' H' w' a' p1 p2 p3 p4 p5=>?_
  ·cases e <;> exact hp
  ·obtain ⟨σ1,H1,XR,hM⟩:=p5
   obtain ⟨g1,r1,r2,r3⟩:=XR g' B w' a'.tmps p1 (p2.BF l);exact wp_mono (ihy c2 h2 Q g1 H1 w' σ1 a' r2 r3 p3 p4 (k2 _ _ hM)) fun e2 a2 w2 E8=>E8.from r1 (.refl B w')
 | cond z x y ihx ihy =>
  intro c hc Q g H w σ a hW hE hN hd hk
  obtain ⟨o,c1,c2,rfl,hz,h1,h2⟩:=Yv hc;simp only [Dx] at hk
  cases hv : val σ z with
  | none=>simp [hv,YL] at hk
  | some v =>
   have hr:=Al hE hz hv;rw [hv] at hk
   cases v <;> try (simp [YL] at hk; done)
   rename_i b
   have hb : a.eval o=.bool b:=by
    generalize a.eval o=u at hr
    cases hr; rfl
   simp only [YL,At] at hk;refine wp_cond_split hb (fun ht=>?_) (fun hf=>?_)
   ·exact ihx c1 h1 Q g H w σ a hW hE hN hd (hk.1 ht)
   ·exact ihy c2 h2 Q g H w σ a hW hE hN hd (hk.2 hf)
 | block id x ih =>
  intro c hc Q g H w σ a hW hE hN hd hk
  obtain ⟨c1,rfl,h1⟩:=WX hc;refine wp_block (wp_mono (ih c1 h1 _ g H w σ a hW hE hN hd hk) fun e a' w' hp=>?_)
  cases e with
  | normal=>exact hp
  | exit Bz =>
   simp only [Exit.inBlock];simp only [Mr,GM,QU] at hp
   by_cases h : Bz=id
   ·rw [if_pos h]; simp only [h,if_true] at hp; exact hp
   ·rw [if_neg h]; simp only [h,if_false] at hp; exact hp
  | ret=>exact hp
  | goto l=>exact hp.elim
  | panic ch=>exact hp.elim
  | outgrown=>exact hp.elim
 | loop l x ih =>
  intro c hc Q g H w σ a hW hE hN hd hk
  obtain ⟨c1,rfl,h1⟩:=YT hc
  obtain ⟨I,n,σ0,H0,k1,k2,k3⟩:=hk
  obtain ⟨g0,r1,r2,r3⟩:=k2 g B w a.tmps hW (hE.BF l);refine Z2 (fun n a' w'=>GM (I n) g B w N df a' w') (n:=n) ⟨g0,σ0,H0,r1,k1,r2,r3,.refl B w,hN,hd⟩ ?_
  intro n a' w' ⟨g',σ',H',q1,q2,q3,q4,q5,q6,q7⟩;refine wp_mono (ih c1 h1 _ g' H' w' σ' a' q3 q4 q6 q7 (k3 n σ' H' q2)) fun e a2 w2 hp=>?_
  cases e with
  | normal =>
   obtain ⟨g2,σ2,H2,p1,⟨m,σ3,H3,hm,hI,XR⟩,p3,p4,p5,p6,p7⟩:=hp
   obtain ⟨g3,s1,s2,s3⟩:=XR g2 B w2 a2.tmps p3 (p4.BF l);exact ⟨m,hm,g3,σ3,H3,q1.trans (p1.trans s1),hI,s2,s3,q5.trans p5,p6,p7⟩
  | exit Bz=>exact Mr.from (e:=.exit Bz) q1 q5 hp
  | ret=>exact Mr.from (e:=.ret) q1 q5 hp
  | goto l=>exact hp.elim
  | panic ch=>exact hp.elim
  | outgrown=>exact hp.elim
 | exit id =>
  intro c hc Q g H w σ a hW hE hN hd hk
  have:=ZS hc; subst this;exact wp_exit ⟨g,σ,H,.refl g,hk,hW,hE,.refl B w,hN,hd⟩
 | ret =>
  intro c hc Q g H w σ a hW hE hN hd hk
  have:=bP hc; subst this;exact wp_ret ⟨g,σ,H,.refl g,hk,hW,hE,.refl B w,hN,hd⟩
 | Uy x ih =>
  intro c hc Q g H w σ a hW hE hN hd hk
  obtain ⟨c1,rfl,h1⟩:=bI hc;refine wp_scope_straight (wp_mono (ih c1 h1 Q g H w σ a hW hE hN hd hk) fun e a2 w2 hp=>?_)
  cases e <;> exact hp
 | BF l x ih =>
  intro c hc Q g H w σ a hW hE hN hd hk;exact ih c hc Q g H w _ a hW (hE.BF l) hN hd hk
 | wk x ih =>
  intro c hc Q g H w σ a hW hE hN hd hk
  obtain ⟨σ1,H1,XR,hM⟩:=hk
  obtain ⟨g1,r1,r2,r3⟩:=XR g B w a.tmps hW hE;exact wp_mono (ih c hc Q g1 H1 w σ1 a r2 r3 hN hd hM) fun e2 a2 w2 E8=>E8.from r1 (.refl B w)
inductive RV where
 | tmp (t : Nat)
 | cell (t : Nat) (n : Option Nat)
def NH (P : Program) : ResultVar→Option RV
 | .tmp t=>some (.tmp t)
 | .cell t ty=>(Fy P ty).map (.cell t)
def Eu (P : Program) : List ResultVar→Option (List RV)
 | []=>some []
 | r::rs=>match NH P r,Eu P rs with
  | some a,some b=>some (a::b)
  | _,_=>none
def aJ (n : Option Nat) : Option AV→AA→Option AV
 | some (.ref id off),H=>match H.get id,n with
  | some (.cells _ cs _),none=>if off<cs.length then some (cs.getD off nv) else none
  | some (.cells _ cs _),some n=>if off+n≤cs.length then some (.agg ((cs.drop off).take n)) else none
  | _,_=>none
 | some (.ptr cs),_=>match n with
  | none=>match cs with
   | c::_=>some c
   | []=>none
  | some n=>if cs.length=n then some (.agg cs) else none
 | _,_=>none
def tU (σ : Env) (H : AA) : RV→Option AV
 | .tmp t=>σ.get t
 | .cell t n=>aJ n (σ.get t) H
def NO (σ : Env) (H : AA) : List RV→Option (List AV)
 | []=>some []
 | r::rs=>LK (tU σ H r) (NO σ H rs)
def O8 : Option (List AV)→Ak→AA→Prop
 | some [v],K,H=>K v H
 | some vs,K,H=>K (.CQ vs) H
 | none,_,_=>False
def Lc (K : Ak) : Ak:=fun v H=>∃ H',AA.sub H' H∧K v H'
def U9 (rs : List RV) (K : Ak) : AQ
 | .norm,σ,H=>O8 (NO σ H rs) (Lc K) H
 | .ret,σ,H=>O8 (NO σ H rs) (Lc K) H
 | _,_,_=>False
def HM : Nat→List AV→Env
 | _,[]=>[]
 | k,a::r=>(k,some a)::HM (k+1) r
theorem P1 : ∀ (as : List AV) (k t : Nat) (v : AV),(HM k as).get t=some v→k≤t∧t<k+as.length∧v=as.getD (t - k) nv
 | [],k,t,v,h=>by simp [HM,Env.get] at h
 | a::r,k,t,v,h=>by
  simp only [HM,Env.get] at h
  split at h
  ·rename_i e; cases h; subst e; simp
  ·obtain ⟨h1,h2,h3⟩:=P1 r (k+1) t v h
   have e1 : t - k=(t - (k+1))+1:=by omega
   exact ⟨by omega,by simp; omega,by rw [e1]; simpa using h3⟩
theorem gZ {g : Gh} {H : AA} {w : World} {σ : Env} {a : Act} (hW : Ao g B H w) (hE : Cr g σ a.tmps) {r : ResultVar} {rv : RV} (hr : NH P r=some rv) {v : AV} (hv : tU σ H rv=some v) :
  ∃ u,(match r with
   | .tmp t=>pure (a.tmps.getD t undef)
   | .cell ad t=>do loadVar t (← asAddr (a.tmps.getD ad undef)) : Sem Value).run P w=.ok u w∧Aa g v u:=by
 cases r with
 | tmp t =>
  cases hr;exact ⟨_,rfl,(hE t v hv).2⟩
 | cell t ty =>
  simp only [NH,Option.map_eq_some_iff] at hr
  obtain ⟨n,hn,rfl⟩:=hr;simp only [tU] at hv
  cases hg : σ.get t with
  | none=>cases n <;> simp [hg,aJ] at hv
  | some av =>
   obtain ⟨h1,h2⟩:=hE t av hg;rw [hg] at hv
   cases av <;> try (cases n <;> simp [aJ] at hv; done)
   case ptr cs =>
    have hl : ∃ p r,Wb n (some (.ptr cs))=some (p,r)∧p∧r=v:=by
     cases n with
     | none =>
      cases cs with
      | nil=>simp [aJ] at hv
      | cons c cs=>simp [aJ] at hv; exact ⟨True,c,rfl,trivial,hv⟩
     | some n =>
      simp only [aJ] at hv
      split at hv
      ·rename_i hlen; cases hv; exact ⟨_,_,rfl,hlen,rfl⟩
      ·cases hv
    obtain ⟨p,r,e1,e2,rfl⟩:=hl
    obtain ⟨u,q1,q2⟩:=JN (P:=P) hW hn h2 e1 e2;refine ⟨u, ?_,q2⟩
    obtain ⟨b,o,XY⟩ : ∃ b o,a.tmps.getD t undef=.pointer (some ⟨b,o,none⟩):=by
     generalize a.tmps.getD t undef=uv at h2
     cases h2; exact ⟨_,_,rfl⟩
    show ((do loadVar ty (← asAddr (a.tmps.getD t undef))) : Sem Value).run P w=_
    rw [XY] at q1 ⊢
    simpa [asAddr,Instr.loadAt,Instr.sureAddr] using q1
   case ref id off =>
    have hl : Jd (H.get id) n off (fun r H'=>r=v∧H'=H) H:=by
     simp only [aJ] at hv
     cases ho : H.get id with
     | none=>simp [ho] at hv
     | some o =>
      cases o with
      | map _ _=>cases n <;> simp [ho] at hv
      | cells sz cs f =>
       cases n with
       | none=>simp only [ho] at hv; split at hv <;> simp_all [Jd]
       | some n=>simp only [ho] at hv; split at hv <;> simp_all [Jd]
    obtain ⟨u,q1,q2⟩:=Mb (P:=P) hW hn h2 hl
    obtain ⟨g',r,H',p1,⟨rfl,rfl⟩,p3,p4,p5⟩:=q2
    have PY : Aa g r u:=by
     have Ce : Jd (H'.get id) n off (fun r' H''=>r'=r∧H''=H') H':=hl
     generalize hk0 : a.tmps.getD t undef=uv at h2 q1
     cases h2
     rename_i b cap CA
     cases ho : H'.get id with
     | none=>simp [ho,Jd] at Ce
     | some o =>
      cases o with
      | map _ _=>cases n <;> simp [ho,Jd] at Ce
      | cells sz cs f =>
       obtain ⟨c,el,h5,_,_,_,h6,h7,h8⟩:=hW.obj CA ho
       cases n with
       | none =>
        simp only [ho,Jd] at Ce
        obtain ⟨z1,z2,-⟩:=Ce
        have hc : w.cell? ⟨b,off,none⟩=some (c.getD off undef):=by rw [cell_of_row w b off c el _ h5]; exact getD_some (by omega)
        simp only [Instr.loadAt,Instr.sureAddr,loadVar,Sem.run_bind,Sem.run_pure,Result.andThen_ok,Eh hn] at q1;simp only [Bool.false_eq_true,if_false,run_load,hc,Result.ok.injEq,and_true] at q1;rw [← q1,← z2]; exact h8 off z1
       | some n =>
        simp only [ho,Jd] at Ce
        obtain ⟨z1,z2,-⟩:=Ce
        obtain ⟨y1,i,y2,y3⟩:=IZ (w:=w) hn
        have TY:=run_loadCells (P:=P) w ⟨b,off,none⟩ n (fun j=>c.getD (off+j) undef) (fun j hj=>by
         rw [Addr.add_lit,cell_of_row w b (off+j) c el _ h5]; exact getD_some (by omega))
        simp only [Instr.loadAt,Instr.sureAddr,loadVar,Sem.run_bind,Sem.run_pure,Result.andThen_ok,y1,if_true,sizeOf,typeInfo,run_program,y2,y3] at q1;simp only [TY,Result.andThen_ok,Sem.run_pure',Sem.run_pure,Result.ok.injEq,and_true] at q1;rw [← q1,← z2];refine .agg _ _ (by simp; omega) fun j hj=>?_
        have RF : j<n:=by simp at hj; omega
        have e1 : ((cs.drop off).take n).getD j nv=cs.getD (off+j) nv:=by simp [Go.AW.gE,RF]
        have e2 : (((List.range n).map fun j=>c.getD (off+j) undef).toArray).getD j undef=c.getD (off+j) undef:=by simp [Array.getD,RF]
        rw [e1,e2];exact h8 _ (by omega)
    refine ⟨u, ?_,PY⟩
    obtain ⟨b,o,XY⟩ : ∃ b o,a.tmps.getD t undef=.pointer (some ⟨b,o,none⟩):=by
     generalize a.tmps.getD t undef=uv at h2
     cases h2; exact ⟨_,_,rfl⟩
    show ((do loadVar ty (← asAddr (a.tmps.getD t undef))) : Sem Value).run P w=_
    rw [XY] at q1 ⊢
    simpa [asAddr,Instr.loadAt,Instr.sureAddr] using q1
theorem Vf {g : Gh} {H : AA} {w : World} {σ : Env} {a : Act} (hW : Ao g B H w) (hE : Cr g σ a.tmps) : ∀ {rs : List ResultVar} {rvs : List RV} {vs : List AV},Eu P rs=some rvs →
  NO σ H rvs=some vs→∃ us : List Value,(rs.mapM fun r=>(match r with
   | .tmp t=>pure (a.tmps.getD t undef)
   | .cell ad t=>do loadVar t (← asAddr (a.tmps.getD ad undef)) : Sem Value)).run P w=.ok us w∧us.length=vs.length∧∀ i,i<vs.length→Aa g (vs.getD i nv) (us.getD i undef)
 | [],rvs,vs,h,hv=>by
  cases h; cases hv;exact ⟨[],by simp,rfl,by simp⟩
 | r::rs,rvs,vs,h,hv=>by
  unfold Eu at h
  split at h
  ·rename_i x y h1 h2
   cases h
   obtain ⟨v,vs',q1,q2,rfl⟩:=F9 hv
   obtain ⟨u,p1,p2⟩:=gZ (P:=P) hW hE h1 q1
   obtain ⟨us,p3,p4,p5⟩:=Vf hW hE h2 q2;refine ⟨u::us, ?_,by simp [p4],fun i hi=>?_⟩
   ·simp only [List.mapM_cons,Sem.run_bind,p1,Result.andThen_ok,p3,Sem.run_pure]
   ·cases i with
    | zero=>exact p2
    | succ i=>simpa using p5 i (by simpa using hi)
  ·cases h
theorem B9.kD {f : FuncId} {fn : Func} {c : Code} {s : SC} {hs : Hints} {rvs : List RV} (hf : P.funcs[f]? = some fn) (hb : fn.body = some c) (hn : (fn.name == "runtime.NumGoroutine") = false)
  (hc : B3 P fn.ntmps hs c=some s.strip) (hr : Eu P fn.results.toList=some rvs) {args : List AV} (gF : args.length≤fn.ntmps) {H : AA} {K : Ak}
  (hk : Dx P B s (U9 rvs K) (HM 0 args) H) : B9 P B f args H K:=by
 refine ⟨⟨fn,hf,by simp [hb],hn⟩,fun g w vs hW hv=>?_⟩;refine calls_of_wp hf hb ?_
 have CW : (vs++Array.replicate (fn.ntmps - vs.size) undef).size=fn.ntmps:=by simp [hv.1]; omega
 have hE : Cr g (HM 0 args) (vs++Array.replicate (fn.ntmps - vs.size) undef):=by
  intro t v ht
  obtain ⟨h1,h2,h3⟩:=P1 args 0 t v ht;simp only [Nat.zero_add,Nat.sub_zero] at h2 h3;refine ⟨by rw [CW]; omega, ?_⟩
  have : (vs++Array.replicate (fn.ntmps - vs.size) undef).getD t undef=vs.getD t undef:=by
   simp only [Array.getD_eq_getD_getElem?];rw [Array.getElem?_append_left (by rw [hv.1]; exact h2)]
  rw [this,h3];exact hv.2 t h2
 have hwp:=WG (df:=[]) s c hc (U9 rvs K) g H w (HM 0 args) { tmps:=vs++Array.replicate (fn.ntmps - vs.size) undef,defers:=[] } hW hE CW rfl hk
 have Nm : ∀ (e : AEx) σ' H' g' (a' : Act) w',U9 rvs K e σ' H'→g.le g'→Ao g' B H' w'→Cr g' σ' a'.tmps→Below B w w'→∃ v,(results fn a'.tmps).run P w'=.ok v w'∧Cz g B w K v w':=by
  intro e σ' H' g' a' w' hq hle tN hE' xP
  have RI : O8 (NO σ' H' rvs) (Lc K) H':=by cases e <;> first | exact hq | exact hq.elim
  cases TL : NO σ' H' rvs with
  | none=>simp [TL,O8] at RI
  | some avs =>
   rw [TL] at RI
   obtain ⟨us,p1,p2,p3⟩:=Vf (P:=P) tN hE' hr TL
   have Nl : (results fn a'.tmps).run P w'=.ok (if h : us.toArray.size=1 then us.toArray[0] else .tuple us.toArray) w':=by
    unfold results;rw [Array.mapM_eq_mapM_toList]
    have p1' : ((fn.results.toList.mapM fun r=>(match r with
     | .tmp t=>pure (a'.tmps.getD t undef)
     | .cell ad t=>do loadVar t (← asAddr (a'.tmps.getD ad undef)) : Sem Value)) : Sem (List Value)).run P w'=.ok us w':=p1
    simp only [Sem.run_bind,Sem.run_map];refine Eq.trans (congrArg (fun r=>Result.andThen (Result.andThen r _) _) p1') ?_
    rfl
   refine ⟨_,Nl, ?_⟩
   by_cases HY : avs.length=1
   ·obtain ⟨v,rfl⟩:=List.length_eq_one_iff.1 HY;simp only [O8] at RI
    obtain ⟨H2,mC,TS⟩:=RI
    obtain ⟨u,rfl⟩:=List.length_eq_one_iff.1 (p2.trans rfl);refine ⟨g',v,H2,hle,TS, ?_,tN.sub mC,xP⟩
    simpa using p3 0 (by simp)
   ·have Oo : Lc K (.CQ avs) H':=by
     cases avs with
     | nil=>exact RI
     | cons v1 r=>cases r with
      | nil=>exact absurd rfl HY
      | cons v2 r=>exact RI
    obtain ⟨H2,mC,TS⟩:=Oo
    have Bg : ¬ us.toArray.size=1:=by simp; omega
    refine ⟨g',.CQ avs,H2,hle,TS, ?_,tN.sub mC,xP⟩;rw [dif_neg Bg];exact .CQ avs us.toArray (by simp [p2]) fun i hi=>by simpa using p3 i hi
 refine wp_mono hwp fun e a' w' hp=>?_
 cases e with
 | normal =>
  obtain ⟨g',σ',H',q1,q2,q3,q4,q5,q6,q7⟩:=hp
  obtain ⟨v,r1,r2⟩:=Nm .norm σ' H' g' a' w' q2 q1 q3 q4 q5;exact ⟨q7,v,r1,v,rfl,r2⟩
 | ret =>
  obtain ⟨g',σ',H',q1,q2,q3,q4,q5,q6,q7⟩:=hp
  obtain ⟨v,r1,r2⟩:=Nm .ret σ' H' g' a' w' q2 q1 q3 q4 q5;exact ⟨q7,v,r1,v,rfl,r2⟩
 | exit id =>
  obtain ⟨g',σ',H',q1,q2,_⟩:=hp;exact q2.elim
 | goto l=>exact hp.elim
 | panic ch=>exact hp.elim
 | outgrown=>exact hp.elim
end
end Go.AW
namespace Go.AW
section
variable {P : Program} {B : Nat} {Q : AQ} {F : Env→AA→Prop} {σ : Env} {H : AA} {d : Option Nat}
@[go_sem] theorem rL : Dx P B .skip Q σ H=Q .norm σ H:=rfl
@[go_sem] theorem zG (t : Pz) : Dx P B (.aQ t) Q σ H=MD P B t (Q .norm) σ H:=rfl
@[go_sem] theorem zK (l : List Cq) (F : Env→AA→Prop) : MD P B (.fin l) F σ H=Bm P B l F σ H:=rfl
@[go_sem] theorem kg (l : List Cq) (ts : Pz) (F : Env→AA→Prop) : MD P B (.br l ts) F σ H=Bm P B l (MD P B ts F) σ H:=rfl
@[go_sem] theorem cq (F : Env→AA→Prop) : MD P B .nil F σ H=True:=rfl
@[go_sem] theorem gh (h : Cq) (t ts : Pz) (F : Env→AA→Prop) : MD P B (.alt h t ts) F σ H=(Bm P B [h] (MD P B t F) σ H∧MD P B ts F σ H):=rfl
@[go_sem] theorem eh (p l l' : List Cq) : Dx P B (.two p l l') Q σ H=Bm P B p (fun σ H=>Bm P B l (Q .norm) σ H∧Bm P B l' (Q .norm) σ H) σ H:=rfl
@[go_sem] theorem gw (l : List Cq) : Dx P B (.XW l) Q σ H=Bm P B l (Q .norm) σ H:=rfl
@[go_sem] theorem ae (a b : SC) : Dx P B (.seq a b) Q σ H=Dx P B a (Qg (Dx P B b Q) Q) σ H:=rfl
@[go_sem] theorem vM (x : X) (a b : SC) : Dx P B (.cond x a b) Q σ H=YL (val σ x) (Dx P B a Q) (Dx P B b Q) σ H:=rfl
@[go_sem] theorem mX (id : Nat) (c : SC) : Dx P B (.block id c) Q σ H=Dx P B c (QU id Q) σ H:=rfl
@[go_sem] theorem qK (id : Nat) : Dx P B (.exit id) Q σ H=Q (.exit id) σ H:=rfl
@[go_sem] theorem ko (c : SC) : Dx P B (.Uy c) Q σ H=Dx P B c Q σ H:=rfl
@[go_sem] theorem zF : Dx P B .ret Q σ H=Q .ret σ H:=rfl
@[go_sem] theorem tC (l : List Nat) (c : SC) : Dx P B (.BF l c) Q σ H=Dx P B c Q (Env.BF l σ) H:=rfl
@[go_sem] theorem lh (t : Nat) (c : SC) : Dx P B (.fz t c) Q σ H=YI t (Dx P B c Q) σ H (σ.get t):=rfl
@[go_sem] theorem mK : Qg F Q .norm σ H=F σ H:=rfl
@[go_sem] theorem j3 : Qg F Q .norm=F:=rfl
@[go_sem] theorem nQ (i : Nat) : Qg F Q (.exit i) σ H=Q (.exit i) σ H:=rfl
@[go_sem] theorem rX : Qg F Q .ret σ H=Q .ret σ H:=rfl
@[go_sem] theorem n7 (i : Nat) : QU i Q .norm σ H=Q .norm σ H:=rfl
@[go_sem] theorem sJ (i : Nat) : QU i Q .norm=Q .norm:=rfl
@[go_sem] theorem nY (i j : Nat) : QU j Q (.exit i) σ H=(match Nat.beq i j with | true=>Q .norm σ H | false=>Q (.exit i) σ H):=by
 show (if i=j then Q .norm σ H else Q (.exit i) σ H)=_
 by_cases h : i=j
 ·subst h; simp
 ·rw [if_neg h,show Nat.beq i j=false from Bool.eq_false_iff.mpr fun e=>h (Nat.eq_of_beq_eq_true e)]
@[go_sem] theorem wM (i : Nat) : QU i Q .ret σ H=Q .ret σ H:=rfl
@[go_sem] theorem qI (l : List Nat) (I : Nat→Env→AA→Prop) (n : Nat) : iA l I n Q .norm σ H=∃ m σ' H',m<n∧I m σ' H'∧Wk (Env.BF l σ) H σ' H':=rfl
@[go_sem] theorem uA (l : List Nat) (I : Nat→Env→AA→Prop) (n i : Nat) : iA l I n Q (.exit i) σ H=Q (.exit i) σ H:=rfl
@[go_sem] theorem dt (l : List Nat) (I : Nat→Env→AA→Prop) (n : Nat) : iA l I n Q .ret σ H=Q .ret σ H:=rfl
@[go_sem] theorem xJ (l : List Nat) (M : Env→AA→Prop) : n9 l M Q .norm σ H=EX M (Env.BF l σ) H:=rfl
@[go_sem] theorem wP (l : List Nat) (M : Env→AA→Prop) (i : Nat) : n9 l M Q (.exit i) σ H=Q (.exit i) σ H:=rfl
@[go_sem] theorem zQ (l : List Nat) (M : Env→AA→Prop) : n9 l M Q .ret σ H=Q .ret σ H:=rfl
@[go_sem] theorem vO (rs : List RV) (K : Ak) : U9 rs K .ret σ H=O8 (NO σ H rs) (Lc K) H:=rfl
@[go_sem] theorem mT (rs : List RV) (K : Ak) : U9 rs K .norm σ H=O8 (NO σ H rs) (Lc K) H:=rfl
@[go_sem] theorem wE : NO σ H []=some []:=rfl
@[go_sem] theorem uF (r : RV) (rs : List RV) : NO σ H (r::rs)=LK (tU σ H r) (NO σ H rs):=rfl
@[go_sem] theorem zZ (t : Nat) : tU σ H (.tmp t)=σ.get t:=rfl
@[go_sem] theorem qN (t : Nat) (n : Option Nat) : tU σ H (.cell t n)=aJ n (σ.get t) H:=rfl
@[go_sem] theorem uM (v : AV) (K : Ak) : O8 (some [v]) K H=K v H:=rfl
@[go_sem] theorem oG (K : Ak) : O8 (some []) K H=K (.CQ []) H:=rfl
@[go_sem] theorem vY (u v : AV) (r : List AV) (K : Ak) : O8 (some (u::v::r)) K H=K (.CQ (u::v::r)) H:=rfl
@[go_sem] theorem get_nil (t : Nat) : Env.get [] t=none:=rfl
@[go_sem] theorem Rj (s : Nat) (v : Option AV) (r : Env) (t : Nat) : Env.get ((s,v)::r) t=(match Nat.beq t s with | true=>v | false=>Env.get r t):=by
 rw [Env.Rj]
 by_cases h : t=s
 ·subst h; simp
 ·rw [if_neg h,show Nat.beq t s=false from Bool.eq_false_iff.mpr fun e=>h (Nat.eq_of_beq_eq_true e)]
@[go_sem] theorem vP : Env.BF [] σ=[]:=rfl
@[go_sem] theorem Wt (t : Nat) (r : List Nat) : Env.BF (t::r) σ=(t,σ.get t)::Env.BF r σ:=rfl
@[go_sem] theorem put_eq (t : Nat) (v : AV) : Env.put σ t v=(t,some v)::σ:=rfl
@[go_sem] theorem nJ (t : Nat) : Env.forget σ t=(t,none)::σ:=rfl
@[go_sem] theorem dE (t : Nat) : Ge (some t) σ=(t,some nv)::σ:=rfl
@[go_sem] theorem dg (b : Bool) (cs : List AV) (A C : Env→AA→Prop) : aF (some (.CQ cs)) b A C σ H=C σ H:=rfl
@[go_sem] theorem dD : Ge none σ=σ:=rfl
@[go_sem] theorem nE (k : Nat) : HM k []=[]:=rfl
@[go_sem] theorem jH (k : Nat) (a : AV) (r : List AV) : HM k (a::r)=(k,some a)::HM (k+1) r:=rfl
@[go_sem] theorem val_t (n : Nat) : val σ (.t n)=σ.get n:=rfl
@[go_sem] theorem val_c (v : AV) : val σ (.c v)=some v:=rfl
@[go_sem] theorem u9 : Cj σ []=some []:=rfl
@[go_sem] theorem oH (x : X) (r : List X) : Cj σ (x::r)=LK (val σ x) (Cj σ r):=rfl
@[go_sem] theorem tR (a : AV) (r : List AV) : LK (some a) (some r)=some (a::r):=rfl
@[go_sem] theorem rU : Bm P B [] F σ H=F σ H:=rfl
@[go_sem] theorem tJ (i : Jt) (r : List Cq) : Bm P B (⟨d,none,i⟩::r) F σ H=EB P B d i (Bm P B r F) σ H:=rfl
@[go_sem] theorem uh (t : Nat) (b : Bool) (i : Jt) (r : List Cq) :
  Bm P B (⟨d,some (t,b),i⟩::r) F σ H=aF (σ.get t) b (EB P B d i (Bm P B r F)) (wG d (Bm P B r F)) σ H:=rfl
@[go_sem] theorem ry : wG d F σ H=F (Ge d σ) H:=rfl
structure Br (c : Bool) (p q : Prop) : Prop where
 t : c=true→p
 f : c=false→q
structure Bn (c : Bool) (p q : Prop) : Prop where
 f : c=false→p
 t : c=true→q
@[go_sem] theorem Br_t (A C : Env→AA→Prop) : Br true (At A σ H) (At C σ H)=A σ H:=propext ⟨fun h=>h.t rfl,fun h=>⟨fun _=>h,fun e=>by cases e⟩⟩
@[go_sem] theorem Br_f (A C : Env→AA→Prop) : Br false (At A σ H) (At C σ H)=C σ H:=propext ⟨fun h=>h.f rfl,fun h=>⟨fun e=>(by cases e),fun _=>h⟩⟩
@[go_sem] theorem Bn_t (A C : Env→AA→Prop) : Bn true (At A σ H) (At C σ H)=C σ H:=propext ⟨fun h=>h.t rfl,fun h=>⟨fun e=>(by cases e),fun _=>h⟩⟩
@[go_sem] theorem Bn_f (A C : Env→AA→Prop) : Bn false (At A σ H) (At C σ H)=A σ H:=propext ⟨fun h=>h.f rfl,fun h=>⟨fun _=>h,fun e=>by cases e⟩⟩
@[go_sem] theorem mg (c : Bool) (A C : Env→AA→Prop) : aF (some (.bool c)) true A C σ H=Br c (At A σ H) (At C σ H):=propext ⟨fun h=>⟨h.1,h.2⟩,fun h=>⟨h.t,h.f⟩⟩
@[go_sem] theorem qx (c : Bool) (A C : Env→AA→Prop) : aF (some (.bool c)) false A C σ H=Bn c (At A σ H) (At C σ H):=propext ⟨fun h=>⟨h.1,h.2⟩,fun h=>⟨h.f,h.t⟩⟩
@[go_sem] theorem ke (c : Bool) (A C : Env→AA→Prop) : YL (some (.bool c)) A C σ H=Br c (At A σ H) (At C σ H):=propext ⟨fun h=>⟨h.1,h.2⟩,fun h=>⟨h.t,h.f⟩⟩
def pE (d : Option Nat) (F : Env→AA→Prop) (σ : Env) (H : AA) (e : PV) : Prop:=pW e (CR d F σ) H
@[go_sem] theorem nU (t : Nat) (v : AV) : CR (some t) F σ v H=F ((t,some v)::σ) H:=rfl
@[go_sem] theorem n4 (v : AV) : CR none F σ v H=F σ H:=rfl
@[go_sem] theorem zC (p : Prop) (r : AV) : pE d F σ H (some (p,r))=(p∧CR d F σ r H):=rfl
attribute [go_sem] true_and
@[go_sem] theorem rj (x : X) : EB P B d (.mv x) F σ H=pE d F σ H (Tz (val σ x)):=rfl
@[go_sem] theorem pR (c a b : X) : EB P B d (.pick c a b) F σ H=pE d F σ H (M3 (val σ c) (val σ a) (val σ b)):=rfl
@[go_sem] theorem sa (op : BinOp) (k : IntKind) (x y : X) : EB P B d (.ar op k x y) F σ H=pE d F σ H (Gc op k (val σ x) (val σ y)):=rfl
@[go_sem] theorem tz (n : Bool) (x y : X) : EB P B d (.bq n x y) F σ H=pE d F σ H (cD n (val σ x) (val σ y)):=rfl
@[go_sem] theorem qh (n : Bool) (x : X) : EB P B d (.nq n x) F σ H=pE d F σ H (cC n (val σ x)):=rfl
@[go_sem] theorem qw (n : Bool) (m : Nat) (x y : X) : EB P B d (.aq n m x y) F σ H=pE d F σ H (aE n m (val σ x) (val σ y)):=rfl
@[go_sem] theorem nc (x : X) : EB P B d (.nt x) F σ H=pE d F σ H (nZ (val σ x)):=rfl
@[go_sem] theorem qD (k : IntKind) (x : X) : EB P B d (.conv k x) F σ H=pE d F σ H (PQ k (val σ x)):=rfl
@[go_sem] theorem cz (x : X) : EB P B d (.len x) F σ H=pE d F σ H (Ds (val σ x)):=rfl
@[go_sem] theorem uQ (x : X) : EB P B d (.XP x) F σ H=pE d F σ H (T3 (val σ x)):=rfl
@[go_sem] theorem sD (x : X) : EB P B d (.R9 x) F σ H=n8 (val σ x) (CR d F σ) H:=rfl
@[go_sem] theorem tD (id : Nat) (K : Ak) : n8 (some (.Fa id)) K H=vh (H.get id) K H:=rfl
@[go_sem] theorem bw (ks vs : List AV) (K : Ak) : vh (some (.map ks vs)) K H=K (.int .i64 ks.length) H:=rfl
@[go_sem] theorem lj (s : Nat) (x : X) (lo hi : Option X) : EB P B d (.dK s x lo hi) F σ H=UW s (val σ x) (lo.map (val σ)) (hi.map (val σ)) (CR d F σ) H:=rfl
@[go_sem] theorem vG (s id n : Nat) (lo hi : Option (Option AV)) (K : Ak) : UW s (some (.buf id n)) lo hi K H=cX s n (Iu s id n lo hi) (H.get id) K H:=rfl
@[go_sem] theorem ft (s id n : Nat) (k : IntKind) (a : Int) : Iu s id n (some (some (.int k a))) none=some (0≤a∧a.toNat<n,.sub id (a.toNat*s) (n - a.toNat)):=rfl
@[go_sem] theorem z6 (s id n : Nat) (k : IntKind) (b : Int) : Iu s id n none (some (some (.int k b)))=some (0≤b∧b.toNat≤n∧0<n,.buf id b.toNat):=rfl
@[go_sem] theorem z9 (x y : X) : EB P B d (.lD x y) F σ H=Uk (val σ x) (val σ y) (CR d F σ) H:=rfl
@[go_sem] theorem vC (id n : Nat) (es : List AV) (K : Ak) : Uk (some (.buf id n)) (some (.sl es)) K H=((0<n∧es.length=n)∧Ka (H.get id) id 0 n es (fun _ H'=>K (.int .i64 n) H') H):=rfl
@[go_sem] theorem fc (s : Nat) (x a b : X) : EB P B d (.oZ s x a b) F σ H=YF s (val σ x) (val σ a) (val σ b) (CR d F σ) H:=rfl
@[go_sem] theorem uP (s id n : Nat) (k l : IntKind) (a b : Int) (K : Ak) : YF s (some (.buf id n)) (some (.int k a)) (some (.int l b)) K H=cX s n (jK id n a b) (H.get id) K H:=rfl
@[go_sem] theorem cn (z : List AV) (x : X) : EB P B d (.lK z x) F σ H=Wg z (val σ x) (CR d F σ) H:=rfl
@[go_sem] theorem sA (z : List AV) (id off n : Nat) (K : Ak) : Wg z (some (.sub id off n)) K H=(0<n∧Ka (H.get id) id off (n*z.length) (rep n z) K H):=rfl
@[go_sem] theorem uL (i o n : Nat) : Ds (some (.sub i o n))=some (True,.int .i64 n):=rfl
@[go_sem] theorem wD (n id o m : Nat) (k : IntKind) (i : Int) : Gn n (some (.sub id o m)) (some (.int k i))=some (0≤i∧i.toNat<m,.ref id (o+i.toNat*n)):=rfl
@[go_sem] theorem bg (n : Nat) (x i : X) : EB P B d (.idx n x i) F σ H=pE d F σ H (Gn n (val σ x) (val σ i)):=rfl
@[go_sem] theorem ck (o n : Nat) (x : X) : EB P B d (.oN o n x) F σ H=pE d F σ H (SJ o n (val σ x)):=rfl
@[go_sem] theorem kq (n : Option Nat) (x : X) : EB P B d (.u6 n x) F σ H=pE d F σ H (Wb n (val σ x)):=rfl
@[go_sem] theorem bz (x : X) : EB P B d (.pH x) F σ H=pE d F σ H (U8 (val σ x)):=rfl
@[go_sem] theorem zP (z : List AV) (ps : List (Nat × Nat × X)) : EB P B d (.pJ z ps) F σ H=pE d F σ H (Wf (IH σ ps z)):=rfl
@[go_sem] theorem au (o : Nat) (n : Option Nat) (x : X) : EB P B d (.oW o n x) F σ H=pE d F σ H (RM o n (val σ x)):=rfl
@[go_sem] theorem aj (x : X) (i : Nat) : EB P B d (.ext x i) F σ H=pE d F σ H (XM i (val σ x)):=rfl
@[go_sem] theorem bp (f : Fn) (l : List X) : EB P B d (.o7 f l) F σ H=pE d F σ H (ZC f (Cj σ l)):=rfl
@[go_sem] theorem ir (t : TypeId) (x : X) : EB P B d (.kW t x) F σ H=pE d F σ H (ZA t (val σ x)):=rfl
@[go_sem] theorem vW (n : Nat) (l : List X) : EB P B d (.XT n l) F σ H=pE d F σ H (Y1 n (Cj σ l)):=rfl
@[go_sem] theorem mG (o n id : Nat) (cs : List AV) : SJ o n (some (.FX cs id))=some (True,if o+n≤cs.length then .ptr ((cs.drop o).take n) else .ref id o):=rfl
@[go_sem] theorem mP (id : Nat) (cs : List AV) : U8 (some (.FX cs id))=some (True,.FX cs id):=rfl
@[go_sem] theorem zL : EB P B d .emp F σ H=pE d F σ H (some (True,.Dg)):=rfl
@[go_sem] theorem aw : Ds (some .Dg)=some (True,.int .i64 0):=rfl
@[go_sem] theorem qP (n : Nat) (x : X) : EB P B d (.Xa n x) F σ H=pE d F σ H (Zb n (val σ x)):=rfl
@[go_sem] theorem ur (b : Bool) (x y : X) : EB P B d (.mx b x y) F σ H=pE d F σ H (bC b (val σ x) (val σ y)):=rfl
@[go_sem] theorem kk (x : X) : EB P B d (.pB x) F σ H=pE d F σ H (QB (val σ x)):=rfl
@[go_sem] theorem tK (v : AV) : Tz (some v)=some (True,v):=rfl
@[go_sem] theorem dw (a b : Option AV) : M3 (some (.bool true)) a b=Tz a:=rfl
@[go_sem] theorem fu (a b : Option AV) : M3 (some (.bool false)) a b=Tz b:=rfl
@[go_sem] theorem ba (k : IntKind) (a b : Int) : Gc .add k (some (.int k a)) (some (.int k b))=some (True,.int k (k.wrap (a+b))):=by simp [Gc,O6]
@[go_sem] theorem pS (k : IntKind) (a b : List UInt8) : Gc .add k (some (.str a)) (some (.str b))=some (a.length+b.length≤AN,.str (a++b)):=rfl
@[go_sem] theorem uI (k : IntKind) (a b : List UInt8) : Gc .eql k (some (.str a)) (some (.str b))=some (True,.bool (decide (a=b))):=rfl
@[go_sem] theorem xE (k : IntKind) (a b : List UInt8) : Gc .neq k (some (.str a)) (some (.str b))=some (True,.bool (!decide (a=b))):=rfl
@[go_sem] theorem uE (l : List UInt8) (k : IntKind) (a : Int) : JH 0 (some (.str l)) (some (some (.int k a))) none=some (0≤a∧a≤l.length,.str (l.drop a.toNat)):=rfl
@[go_sem] theorem ay (k : IntKind) (a b : Int) : Gc .sub k (some (.int k a)) (some (.int k b))=some (True,.int k (k.wrap (a - b))):=by simp [Gc,O6]
@[go_sem] theorem zO (k : IntKind) (a b : Int) : Gc .mul k (some (.int k a)) (some (.int k b))=some (True,.int k (k.wrap (a*b))):=by simp [Gc,O6]
@[go_sem] theorem ja (k : IntKind) (a b : Int) : Gc .quo k (some (.int k a)) (some (.int k b))=some (b≠0,.int k (k.wrap (a.tdiv b))):=by simp [Gc,O6]
@[go_sem] theorem cp (k : IntKind) (a b : Int) : Gc .rem k (some (.int k a)) (some (.int k b))=some (b≠0,.int k (a.tmod b)):=by simp [Gc,O6]
@[go_sem] theorem zJ (k : IntKind) (a b : Int) : Gc .eql k (some (.int k a)) (some (.int k b))=some (True,.bool (decide (a=b))):=by simp [Gc,O6]
@[go_sem] theorem zW (k : IntKind) (a b : Int) : Gc .neq k (some (.int k a)) (some (.int k b))=some (True,.bool (!decide (a=b))):=by simp [Gc,O6]
@[go_sem] theorem gr (k : IntKind) (a b : Int) : Gc .lss k (some (.int k a)) (some (.int k b))=some (True,.bool (decide (a<b))):=by simp [Gc,O6]
@[go_sem] theorem zI (k : IntKind) (a b : Int) : Gc .leq k (some (.int k a)) (some (.int k b))=some (True,.bool (decide (a≤b))):=by simp [Gc,O6]
@[go_sem] theorem aa (k : IntKind) (a b : Int) : Gc .gtr k (some (.int k a)) (some (.int k b))=some (True,.bool (decide (b<a))):=by simp [Gc,O6]
@[go_sem] theorem zH (k : IntKind) (a b : Int) : Gc .geq k (some (.int k a)) (some (.int k b))=some (True,.bool (decide (b≤a))):=by simp [Gc,O6]
@[go_sem] theorem zV (k : IntKind) (a b : Int) : Gc .and k (some (.int k a)) (some (.int k b))=some (True,.int k (k.wrap (BitVec.ofInt k.bits a &&& BitVec.ofInt k.bits b).toNat)):=by simp [Gc,O6]
@[go_sem] theorem gj (k k' : IntKind) (a b : Int) : Gc .shr k (some (.int k a)) (some (.int k' b))=some (0≤b,.int k (a.fdiv (2 ^ min b.toNat k.bits))):=by simp [Gc,O6,Yl]
@[go_sem] theorem map_n {α β : Type} (f : α→β) : Option.map f none=none:=rfl
@[go_sem] theorem map_s {α β : Type} (f : α→β) (a : α) : Option.map f (some a)=some (f a):=rfl
@[go_sem] theorem nk (n a b : Bool) : cD n (some (.bool a)) (some (.bool b))=some (True,.bool (n ^^ (a == b))):=rfl
@[go_sem] theorem cb (n : Bool) : cC n (some .Ix)=some (True,.bool (!n)):=rfl
@[go_sem] theorem fh (n : Bool) (cs : List AV) : cC n (some (.ptr cs))=some (True,.bool n):=rfl
@[go_sem] theorem cy (n : Bool) (i o : Nat) : cC n (some (.ref i o))=some (True,.bool n):=rfl
@[go_sem] theorem ntE_b (a : Bool) : nZ (some (.bool a))=some (True,.bool (!a)):=rfl
@[go_sem] theorem mV (k k' : IntKind) (a : Int) : PQ k (some (.int k' a))=some (True,.int k (k.wrap a)):=rfl
@[go_sem] theorem gq (es : List AV) : Ds (some (.sl es))=some (True,.int .i64 es.length):=rfl
@[go_sem] theorem wN (i n : Nat) : Ds (some (.buf i n))=some (True,.int .i64 n):=rfl
@[go_sem] theorem sX (n : Nat) : Ds (some (.TU n))=some (True,.int .i64 n):=rfl
@[go_sem] theorem wI : Ds (some .A0)=some (True,.int .i64 0):=rfl
@[go_sem] theorem oF (l : List UInt8) : T3 (some (.str l))=some (True,.int .i64 l.length):=rfl
@[go_sem] theorem z8 (n : Nat) (es : List AV) (k : IntKind) (i : Int) :
  Gn n (some (.sl es)) (some (.int k i))=some (0≤i∧i.toNat<es.length∧(es.getD i.toNat nv).cells.length=n,.ptr (es.getD i.toNat nv).cells):=rfl
@[go_sem] theorem sK (n id m : Nat) (k : IntKind) (i : Int) : Gn n (some (.buf id m)) (some (.int k i))=some (0≤i∧i.toNat<m,.ref id (i.toNat*n)):=rfl
@[go_sem] theorem wX (o n : Nat) (cs : List AV) : SJ o n (some (.ptr cs))=some (o+n≤cs.length,.ptr ((cs.drop o).take n)):=rfl
@[go_sem] theorem rQ (o n id off : Nat) : SJ o n (some (.ref id off))=some (True,.ref id (off+o)):=rfl
@[go_sem] theorem ldE_1 (c : AV) (cs : List AV) : Wb none (some (.ptr (c::cs)))=some (True,c):=rfl
@[go_sem] theorem ldE_n (n : Nat) (cs : List AV) : Wb (some n) (some (.ptr cs))=some (cs.length=n,.agg cs):=rfl
@[go_sem] theorem wU (cs : List AV) : U8 (some (.ptr cs))=some (True,.ptr cs):=rfl
@[go_sem] theorem vK (i o : Nat) : U8 (some (.ref i o))=some (True,.ref i o):=rfl
@[go_sem] theorem rI (cs : List AV) : IH σ [] cs=some (True,cs):=rfl
@[go_sem] theorem nP (o n : Nat) (x : X) (r : List (Nat × Nat × X)) (cs : List AV) : IH σ ((o,n,x)::r) cs=Yd n o (val σ x) cs (IH σ r):=rfl
@[go_sem] theorem nK (n o : Nat) (a : AV) (cs : List AV) (G : List AV→Option (Prop × List AV)) : Yd n o (some a) cs G=Y4 (a.cells.length=n∧o+n≤cs.length) (G (wr cs o a.cells)):=rfl
@[go_sem] theorem n6 (p q : Prop) (r : List AV) : Y4 p (some (q,r))=some (p∧q,r):=rfl
@[go_sem] theorem nI (p : Prop) (r : List AV) : Wf (some (p,r))=some (p,.agg r):=rfl
@[go_sem] theorem Gv (cs : List AV) (o : Nat) : wr cs o []=cs:=rfl
@[go_sem] theorem Ej (cs : List AV) (o : Nat) (v : AV) (r : List AV) : wr cs o (v::r)=wr (cs.set o v) (o+1) r:=rfl
@[go_sem] theorem oz (o : Nat) (cs : List AV) : RM o none (some (.agg cs))=some (o<cs.length,cs.getD o nv):=rfl
@[go_sem] theorem qc (o n : Nat) (cs : List AV) : RM o (some n) (some (.agg cs))=some (o+n≤cs.length,.agg ((cs.drop o).take n)):=rfl
@[go_sem] theorem tS (i : Nat) (vs : List AV) : XM i (some (.CQ vs))=some (i<vs.length,vs.getD i nv):=rfl
@[go_sem] theorem nD (f : Fn) (l : List AV) : ZC f (some l)=some (True,.fn f l):=rfl
@[go_sem] theorem mM (t : TypeId) (v : AV) : ZA t (some v)=some (True,.R4 t v):=rfl
@[go_sem] theorem mQ (n : Nat) (l : List AV) : Y1 n (some l)=some (Cc n l∧l.length≤AN,.sl l):=rfl
@[go_sem] theorem u4 (n : Nat) (a : AV) : Zb n (some a)=some (a.cells.length=n∧∀ c,c∈a.cells→c.one=true,.ptr a.cells):=rfl
@[go_sem] theorem jw (b : Bool) (k1 k2 : IntKind) (x y : Int) : bC b (some (.int k1 x)) (some (.int k2 y))=some (k1=k2,.int k1 (if b then (if y > x then y else x) else (if y<x then y else x))):=rfl
@[go_sem] theorem a7 (es : List AV) : QB (some (.sl es))=some (∀ e,e∈es→e.isByte=true,.str (es.map AV.byte)):=rfl
@[go_sem] theorem qW : QB (some .A0)=some (True,.str []):=rfl
@[go_sem] theorem vm (n : Bool) (m : Nat) (k1 k2 : IntKind) (a b c e : Int) : aE n m (some (.agg [.int k1 a,.int k2 b])) (some (.agg [.int k1 c,.int k2 e])) =
  some (True,.bool (n ^^ (decide (a=c) && decide (b=e)))):=by
 simp only [aE,wB,Bool.and_true,Option.some.injEq,Prod.mk.injEq,and_true,eq_iff_iff,iff_true];exact ⟨k1,k2,a,b,c,e,rfl,rfl⟩
@[go_sem] theorem dc (b : Bool) (x : X) : EB P B d (.aP b x) F σ H=ZY b (val σ x) (CR d F σ) H:=rfl
@[go_sem] theorem kl (t : TypeId) (x : X) : EB P B d (.kR t x) F σ H=WT P t (val σ x) (CR d F σ) H:=rfl
@[go_sem] theorem vJ (t u : TypeId) (v : AV) (K : Ak) : WT P u (some (.R4 t v)) K H=(uU P t u∧K (.CQ [.R4 t v,.bool true]) H):=rfl
@[go_sem] theorem ak (x : X) (n : String) (l : List X) : EB P B d (.inv x n l) F σ H=jX P B n (val σ x) (Cj σ l) (CR d F σ) H:=rfl
@[go_sem] theorem uD (n : String) (t : TypeId) (v : AV) (as : List AV) (K : Ak) : jX P B n (some (.R4 t v)) (some as) K H=∃ f,wV P t n f∧B9 P B f (v::as) H K:=rfl
@[go_sem] theorem ug (n : Option Nat) (x : X) : EB P B d (.ld n x) F σ H=Tu n (val σ x) (CR d F σ) H:=rfl
@[go_sem] theorem s7 (c : AV) (cs : List AV) (K : Ak) : Tu none (some (.ptr (c::cs))) K H=K c H:=by simp [Tu,Wb,pW]
@[go_sem] theorem vU (n : Nat) (cs : List AV) (K : Ak) : Tu (some n) (some (.ptr cs)) K H=(cs.length=n∧K (.agg cs) H):=rfl
@[go_sem] theorem zN (n : Option Nat) (id off : Nat) (K : Ak) : Tu n (some (.ref id off)) K H=Jd (H.get id) n off K H:=rfl
@[go_sem] theorem Ve (sz f : Nat) (cs : List AV) (off : Nat) (K : Ak) : Jd (some (.cells sz cs f)) none off K H=(off<cs.length∧K (cs.getD off nv) H):=rfl
@[go_sem] theorem fJ (sz f n : Nat) (cs : List AV) (off : Nat) (K : Ak) : Jd (some (.cells sz cs f)) (some n) off K H=(off+n≤cs.length∧K (.agg ((cs.drop off).take n)) H):=rfl
@[go_sem] theorem jv (n : Nat) (p v : X) : EB P B d (.st n p v) F σ H=kL n (val σ p) (val σ v) (CR d F σ) H:=rfl
@[go_sem] theorem zD (n id off : Nat) (v : AV) (K : Ak) : kL n (some (.ref id off)) (some v) K H=Ka (H.get id) id off n v.cells K H:=rfl
@[go_sem] theorem VV (sz f n id off : Nat) (cs vs : List AV) (K : Ak) : Ka (some (.cells sz cs f)) id off n vs K H =
  ((f≤off∧off+n≤cs.length∧vs.length=n∧∀ c,c∈vs→c.one=true)∧K nv (H.set id (.cells sz (wr cs off vs) f))):=rfl
@[go_sem] theorem uY (n : Nat) (l : List X) : EB P B d (.QF n l) F σ H=P3 n (Cj σ l) (CR d F σ) H:=rfl
@[go_sem] theorem iS (n : Nat) (l : List AV) (K : Ak) : P3 n (some l) K H=((Cc n l∧l.length≤AN)∧DX l.length n (flat l) K H):=rfl
@[go_sem] theorem uV (n : Nat) (x : X) : EB P B d (.R3 n x) F σ H=SN n (val σ x) (CR d F σ) H:=rfl
@[go_sem] theorem j9 (n : Nat) (a : AV) (K : Ak) : SN n (some a) K H=((a.cells.length=n∧n≤AN)∧G5 n a.cells K H):=rfl
@[go_sem] theorem zR (z : List AV) : EB P B d (.gG z) F σ H=(z.length≤AN∧G5 z.length z (CR d F σ) H):=rfl
@[go_sem] theorem gp (s b : Nat) (x y : X) : EB P B d (.app s b x y) F σ H=Co s (val σ x) (val σ y) (CR d F σ) H:=rfl
@[go_sem] theorem wZ (s : Nat) (es : List AV) : C5 s (some (.sl es)) H=some (Cc s es,es.length,flat es):=rfl
@[go_sem] theorem nB (s : Nat) : C5 s (some .A0) H=some (True,0,[]):=rfl
@[go_sem] theorem nO (s s' f id n m : Nat) (cs new : List AV) (p : Prop) (K : Ak) : Fh s (some (.cells s' cs f)) id n (some (p,m,new)) K H =
  ((s'=s∧cs.length=n*s∧n+m≤AN∧(n+m)*s≤AN∧p)∧∀ Bz,H.get Bz=none→K (.buf Bz (n+m)) ((H.del id).set Bz (.cells s (cs++new) f))):=rfl
@[go_sem] theorem mD (s m : Nat) (new : List AV) (p : Prop) (K : Ak) : RN s (some (p,m,new)) K H=((m≤AN∧m*s≤AN∧p)∧DX m s new K H):=rfl
@[go_sem] theorem im (s : Nat) (z : List AV) (l c : X) : EB P B d (.dP s z l c) F σ H=Q7 s z (val σ l) (val σ c) (CR d F σ) H:=rfl
@[go_sem] theorem jm (s : Nat) (z : List AV) (k1 k2 : IntKind) (l c : Int) (K : Ak) : Q7 s z (some (.int k1 l)) (some (.int k2 c)) K H =
  ((0≤l∧l≤c∧c.toNat≤AN∧l.toNat*s≤AN)∧DX l.toNat s (rep l.toNat z) K H):=rfl
@[go_sem] theorem gf : EB P B d .pM F σ H=Ur (CR d F σ) H:=rfl
@[go_sem] theorem ff (s : Nat) (ok : Bool) (z : AV) (m k : X) : EB P B d (.Xn s ok z m k) F σ H=VA s ok z (val σ m) (val σ k) (CR d F σ) H:=rfl
@[go_sem] theorem qZ (s : Nat) (ok : Bool) (z k : AV) (ks vs : List AV) (K : Ak) : VA s ok z (some (.CS ks vs)) (some k) K H=(KH s k ks∧K (eJ ok z (Hw k ks vs)) H):=rfl
@[go_sem] theorem rW (s : Nat) (ok : Bool) (z k : AV) (id : Nat) (K : Ak) : VA s ok z (some (.Fa id)) (some k) K H=mJ s ok z (H.get id) k K H:=rfl
@[go_sem] theorem eo (s : Nat) (ok : Bool) (z k : AV) (ks vs : List AV) (K : Ak) : mJ s ok z (some (.map ks vs)) k K H=(KH s k ks∧K (eJ ok z (Hw k ks vs)) H):=rfl
@[go_sem] theorem ku (s : Nat) (m k v : X) : EB P B d (.aA s m k v) F σ H=bW s (val σ m) (val σ k) (val σ v) (CR d F σ) H:=rfl
@[go_sem] theorem rR (s : Nat) (id : Nat) (k x : AV) (K : Ak) : bW s (some (.Fa id)) (some k) (some x) K H=nC s (H.get id) id k x K H:=rfl
@[go_sem] theorem js (s : Nat) (id : Nat) (k x : AV) (ks vs : List AV) (K : Ak) : nC s (some (.map ks vs)) id k x K H =
  (KH s k ks∧K nv (H.set id (.map (HT k x ks vs).1 (HT k x ks vs).2))):=rfl
@[go_sem] theorem tW (f : X) (l : List X) : EB P B d (.call f l) F σ H=Jq P B (val σ f) (Cj σ l) (CR d F σ) H:=rfl
@[go_sem] theorem vZ (f : FuncId) (ca as : List AV) (K : Ak) : Jq P B (some (.fn (.func f) ca)) (some as) K H=B9 P B f (as++ca) H K:=rfl
@[go_sem] theorem nS (y : Nat) (f : X) (l : List X) : EB P B d (.KT y f l) F σ H=Jq P B (val σ f) (Cj σ l) (fun r H'=>(∀ z,z≠y→H.N9 z H')∧CR d F σ r H') H:=rfl
@[go_sem] theorem ki (z : Nat) (n : Option Nat) (x : X) : EB P B d (.aR z n x) F σ H=Wj z n (val σ x) (CR d F σ) H:=rfl
@[go_sem] theorem pP (z : Nat) (n : Option Nat) (id off : Nat) (K : Ak) : Wj z n (some (.ref id off)) K H=((∃ cs f,H.get id=some (.cells z cs f))∧Jd (H.get id) n off K H):=rfl
@[go_sem] theorem mS (f : X) (l : List X) : EB P B d (.KW f l) F σ H=Jq P B (val σ f) (Cj σ l) (fun r H'=>H.sub H'∧CR d F σ r H') H:=rfl
@[go_sem] theorem uR (f : X) (l : List X) : EB P B d (.M7 f l) F σ H=∃ r,QK P B (val σ f) (Cj σ l) r∧CR d F σ r H:=rfl
@[go_sem] theorem nR (f : FuncId) (ca as : List AV) (r : AV) : QK P B (some (.fn (.func f) ca)) (some as) r=HG P B f (as++ca) r:=rfl
@[go_sem] theorem wF (l : List AV) : l++[]=l:=by simp
@[go_sem] theorem nT (a : AV) (l r : List AV) : (a::l)++r=a::(l++r):=rfl
@[go_sem] theorem mI (l : List AV) : []++l=l:=rfl
@[go_sem] theorem zE (t id n : Nat) : YI t F σ H (some (.buf id n))=Vq t id n F σ H (H.get id):=rfl
@[go_sem] theorem fj (t : Nat) : YI t F σ H (some .A0)=F ((t,some (.sl []))::σ) H:=rfl
@[go_sem] theorem vf (t : Nat) (es : List AV) : YI t F σ H (some (.sl es))=F σ H:=rfl
theorem Ez : ∀ (n : Nat) (cs : List AV),cs.length=n→chunk 1 n cs=cs
 | 0,cs,h=>by simp [chunk,List.eq_nil_of_length_eq_zero h]
 | n+1,[],h=>by simp at h
 | n+1,c::cs,h=>by simp [chunk,Ez n cs (by simpa using h)]
@[go_sem] theorem dG (t id n f : Nat) (cs : List AV) : Vq t id n F σ H (some (.cells 1 cs f)) =
  ((cs.length=n∧∀ c,c∈cs→c.one=true)∧F ((t,some (.sl cs))::σ) (H.set id (.cells 1 cs cs.length))):=by
 simp only [Vq,Nat.mul_one];rw [eq_iff_iff]
 constructor
 ·rintro ⟨⟨h1,h2,h3⟩,h4⟩; rw [Ez _ _ h1] at h4; exact ⟨⟨h1,h3⟩,h4⟩
 ·rintro ⟨⟨h1,h3⟩,h4⟩; rw [← Ez _ _ h1] at h4; exact ⟨⟨h1,by omega,h3⟩,by rwa [Ez _ _ h1] at h4 ⊢⟩
@[go_sem] theorem fz1_n (t id n f sz : Nat) (cs : List AV) : Vq t id n F σ H (some (.cells (sz+2) cs f)) =
  ((cs.length=n*(sz+2)∧0<sz+2∧∀ c,c∈cs→c.one=true)∧F ((t,some (.sl (chunk (sz+2) n cs)))::σ) (H.set id (.cells (sz+2) cs cs.length))):=rfl
end
@[go_sem] theorem mE (k : IntKind) (n : Int) : (AV.int k n).cells=[.int k n]:=rfl
@[go_sem] theorem iK (b : Bool) : (AV.bool b).cells=[.bool b]:=rfl
@[go_sem] theorem mU (b : List UInt8) : (AV.str b).cells=[.str b]:=rfl
@[go_sem] theorem sB (es : List AV) : (AV.sl es).cells=[.sl es]:=rfl
@[go_sem] theorem nM (i n : Nat) : (AV.buf i n).cells=[.buf i n]:=rfl
@[go_sem] theorem fG : AV.A0.cells=[.A0]:=rfl
@[go_sem] theorem nG (cs : List AV) : (AV.ptr cs).cells=[.ptr cs]:=rfl
@[go_sem] theorem mO (i o : Nat) : (AV.ref i o).cells=[.ref i o]:=rfl
@[go_sem] theorem nV (cs : List AV) : (AV.agg cs).cells=cs:=rfl
@[go_sem] theorem vE : flat []=[]:=rfl
@[go_sem] theorem oE (e : AV) (r : List AV) : flat (e::r)=e.cells++flat r:=rfl
@[go_sem] theorem wrap_i64 {x : Int} (h1 : -9223372036854775808≤x) (h2 : x≤9223372036854775807) : IntKind.i64.wrap x=x:=by
 rw [IntKind.wrap_i64]; omega
theorem A5 {H0 H : AA} {r v : AV} (h1 : v=r) (h2 : H0.sub H) : Lc (fun r' H'=>r'=r∧H'=H0) v H:=⟨H0,h2,h1,rfl⟩
theorem Wk.refl (σ : Env) (H : AA) : Wk σ H σ H:=fun g _ _ _ a b=>⟨g,.refl g,a,b⟩
theorem SY {P : Program} {B : Nat} {l : List Nat} {c : SC} {Q : AQ} {σ : Env} {H : AA} (I : Nat→Env→AA→Prop) (n : Nat) (h0 : I n (Env.BF l σ) H)
  (h : ∀ n σ H,I n σ H→Dx P B c (iA l I n Q) σ H) : Dx P B (.loop l c) Q σ H :=
 ⟨I,n,_,_,h0,.refl _ _,h⟩
end Go.AW
namespace Go.AW
def AV.Dn (a : AV) : Prop:=∃ g v,Aa g a v
theorem AV.Dn.v7 {es : List AV} (h : AV.Dn (.sl es)) : es.length≤AN:=by
 obtain ⟨g,v,h⟩:=h
 cases h with
 | slnil a cap=>simp
 | sl _ b o sz cap vs hm _ _ _ _=>exact hm
theorem AV.Dn.cB {es : List AV} (h : AV.Dn (.sl es)) {i j : Nat} (hi : i<es.length) (hj : j<(es.getD i nv).cells.length) :
  AV.Dn ((es.getD i nv).cells.getD j nv):=by
 obtain ⟨g,v,h⟩:=h
 cases h with
 | slnil a cap=>simp at hi
 | sl _ b o sz cap vs hm OK CW hf hv=>exact ⟨g,_,hv i j hi (by rw [← CW i hi]; exact hj)⟩
theorem AV.Dn.iP {es : List AV} (h : AV.Dn (.sl es)) {e : AV} (he : e∈es) (h1 : e.cells=[e]) : AV.Dn e:=by
 obtain ⟨i,hi,rfl⟩:=List.getElem_of_mem he
 have hg : es.getD i nv=es[i]:=by simp [Go.AW.gE,hi]
 have:=h.cB (i:=i) (j:=0) hi (by rw [hg,h1]; simp);rw [hg,h1] at this;exact this
theorem AV.Dn.agg {cs : List AV} (h : AV.Dn (.agg cs)) {c : AV} (hc : c∈cs) : AV.Dn c:=by
 obtain ⟨g,v,h⟩:=h
 obtain ⟨i,hi,rfl⟩:=List.getElem_of_mem hc
 have hg : cs.getD i nv=cs[i]:=by simp [Go.AW.gE,hi]
 cases h with
 | agg _ vs hs hv=>exact ⟨g,_,hg ▸ hv i hi⟩
theorem AV.Dn.ptr {cs : List AV} (h : AV.Dn (.ptr cs)) {c : AV} (hc : c∈cs) : AV.Dn c:=by
 obtain ⟨g,v,h⟩:=h
 obtain ⟨i,hi,rfl⟩:=List.getElem_of_mem hc
 have hg : cs.getD i nv=cs[i]:=by simp [Go.AW.gE,hi]
 cases h with
 | ptr _ b o vs hf hv=>exact ⟨g,_,hg ▸ hv i hi⟩
def VW : List AV→Prop
 | []=>True
 | a::r=>a.Dn∧VW r
theorem Sq : ∀ {l : List AV},(∀ a,a∈l→a.Dn)→VW l
 | [],_=>trivial
 | a::r,h=>⟨h a (by simp),Sq fun b hb=>h b (by simp [hb])⟩
variable {P : Program} {B : Nat}
theorem B9.kM {f : FuncId} {fn : Func} {c : Code} {s : SC} {hs : Hints} {rvs : List RV} (hf : P.funcs[f]? = some fn) (hb : fn.body = some c) (hn : (fn.name == "runtime.NumGoroutine") = false)
  (hc : B3 P fn.ntmps hs c=some s.strip) (hr : Eu P fn.results.toList=some rvs) {args : List AV} (gF : args.length≤fn.ntmps) {H : AA} {K : Ak}
  (hk : VW args→Dx P B s (U9 rvs K) (HM 0 args) H) : B9 P B f args H K:=by
 refine ⟨⟨fn,hf,by simp [hb],hn⟩,fun g w vs hW hv=>?_⟩
 have xR : ∀ a,a∈args→a.Dn:=by
  intro a ha
  obtain ⟨i,hi,rfl⟩:=List.getElem_of_mem ha
  have:=hv.2 i hi;rw [show args.getD i nv=args[i] by simp [Go.AW.gE,hi]] at this;exact ⟨g,_,this⟩
 exact (B9.kD hf hb hn hc hr gF (hk (Sq xR))).2 g w vs hW hv
theorem B9.IG {f : FuncId} {args : List AV} {H : AA} {K K' : Ak} (h : B9 P B f args H K) (hk : ∀ r H,r.Dn→K r H→K' r H) : B9 P B f args H K' :=
 ⟨h.1,fun g w vs hw hv=>(h.2 g w vs hw hv).mono fun _ _ ⟨v,e,g',r,H',a,b,c,d,k⟩=>⟨v,e,g',r,H',a,hk _ _ ⟨g',v,c⟩ b,c,d,k⟩⟩
theorem HG.go {f : FuncId} {args : List AV} {r : AV} {H : AA} {K : Ak} (h : HG P B f args r) (hk : r.Dn→K r H) : B9 P B f args H K :=
 (h H).IG fun _ _ hf ⟨a,b⟩=>by subst a; subst b; exact hk hf
end Go.AW
