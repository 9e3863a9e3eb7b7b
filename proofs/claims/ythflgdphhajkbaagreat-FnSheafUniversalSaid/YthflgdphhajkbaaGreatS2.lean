/- Sound steps and walks over abstract values. -/
import Derived.Test.YthflgdphhajkbaaGreatS1
import Derived.Orders
import Derived.Scope
set_option linter.unusedVariables false
set_option linter.unusedSimpArgs false
set_option linter.unusedSectionVars false
namespace Go.AW
open Go.RowKit
section
variable {P : Program} {g : Gh} {B : Nat} {H : AB} {w : World}
def Fits (P : Program) (g : Gh) (B : Nat) (w : World) (K : Am) : Result Next→Prop
 | .ok (.value v) w'=>Dk g B w K v w'
 | .ok .skip w'=>Dk g B w K undef w'
 | .ok (.enter f args) w'=>w'=w∧Calls P f args w fun e w''=>∃ v,e=.returned v∧Dk g B w K v w''
 | _=>False
theorem Fits.val {K : Am} {s : Sem Value} (h : ∃ u w',s.run P w=.ok u w'∧Dk g B w K u w') : Fits P g B w K ((do pure (.value (← s)) : Sem Next).run P w):=by
 obtain ⟨u,w',h1,h2⟩:=h;simp only [Sem.run_bind,h1,Result.andThen_ok,Sem.run_pure];exact h2
theorem Fits.unit {K : Am} {s : Sem Unit} (h : ∃ w',s.run P w=.ok () w'∧Dk g B w K undef w') : Fits P g B w K ((do s; pure .skip : Sem Next).run P w):=by
 obtain ⟨w',h1,h2⟩:=h;simp only [Sem.run_bind,h1,Result.andThen_ok,Sem.run_pure];exact h2
theorem pv {K : Am} {e : PV} {s : Sem Value} (hW : Ao g B H w) (hk : pW e K H) (h : ∀ p r,e=some (p,r)→p→∃ u,s.run P w=.ok u w∧Ab g r u) :
  ∃ u w',s.run P w=.ok u w'∧Dk g B w K u w':=by
 obtain ⟨p,r,rfl,hp,hk⟩:=DV hk
 obtain ⟨u,h1,h2⟩:=h p r rfl hp;exact ⟨u,w,h1,.same hW h2 hk⟩
theorem Fi.append {as bs : List AV} {vs us : Array Value} (h : Fi g as vs) (k : Fi g bs us) : Fi g (as++bs) (vs++us):=by
 refine ⟨by simp [h.1,k.1],fun i hi=>?_⟩;rw [Bf];simp only [Array.getD_eq_getD_getElem?]
 by_cases Fh : i<as.length
 ·rw [if_pos Fh,Array.getElem?_append_left (by rw [h.1]; exact Fh)]
  simpa [Array.getD_eq_getD_getElem?] using h.2 i Fh
 ·rw [if_neg Fh,Array.getElem?_append_right (by rw [h.1]; omega),h.1]
  have:=k.2 (i - as.length) (by simp at hi; omega)
  simpa [Array.getD_eq_getD_getElem?] using this
theorem R8 {f : FuncId} {as : List AV} {vs : Array Value} {K : Am} (hW : Ao g B H w) (hv : Fi g as vs) (hk : B7 P B f as H K) : Fits P g B w K ((callFunc f vs).run P w):=by
 obtain ⟨⟨fn,h1,h2,h3⟩,hc⟩:=hk
 have : (callFunc f vs).run P w=.ok (.enter f vs) w:=by
  simp only [callFunc,Sem.run_bind,run_program,Result.andThen_ok,h1,h2,h3,Bool.false_eq_true,if_false,Sem.run_pure]
 rw [this];exact ⟨rfl,hc g w vs hW hv⟩
theorem Z4 {x : Operand} (h : PN x=true) (a : Act) : a.eval x=.pointer none:=by
 unfold PN at h
 split at h
 ·rfl
 ·cases h
theorem WH {x : Operand} (h : PZ x=true) (a : Act) : a.eval x=.slice none 0 0:=by
 unfold PZ at h
 split at h
 ·rfl
 ·cases h
theorem Y8 {op : BinOp} {k : IntKind} {t : TypeId} {x y : Operand} {v1 v2 : AV} {u1 u2 : Value} (r1 : Ab g v1 u1) (r2 : Ab g v2 u2) {p : Prop} {r : AV}
  (he : Hz op k (some v1) (some v2)=some (p,r)) (hp : p) : ∃ u,((do eqGuard op t x y u1 u2; binOp op t u1 u2) : Sem Value).run P w=.ok u w∧Ab g r u:=by
 cases r1 <;> try (simp [Hz] at he; done)
 all_goals (cases r2 <;> try (simp [Hz] at he; done))
 all_goals simp only [Hz] at he
 rotate_left 1
 ·rename_i a b
  have hg : (eqGuard op t x y (.string ⟨a.toArray⟩) (.string ⟨b.toArray⟩)).run P w=.ok () w:=by cases op <;> simp [eqGuard]
  cases op <;> simp only [gk,reduceCtorEq,Option.some.injEq,Prod.mk.injEq] at he
  all_goals obtain ⟨rfl,rfl⟩:=he
  ·refine ⟨_,by simp only [Sem.run_bind,hg,Result.andThen_ok,binOp_string_add]; exact run_string_add_sum w _ _ (by simp only [AL] at hp; simp [ByteArray.size]; omega), ?_⟩;rw [ByteArray.mk_append_mk]; exact .str _
  ·refine ⟨.bool (decide (a=b)), ?_,.bool _⟩
   simp [hg,binOp_string_eql,Bool.beq_eq_decide_eq]
  ·refine ⟨.bool (!decide (a=b)), ?_,.bool _⟩
   simp [hg,binOp_string_neq];rw [Bool.eq_iff_iff]; simp
 split at he
 ·rename_i Nl
  have hg : ∀ (a b : Int) (k k' : IntKind),(eqGuard op t x y (.int k a) (.int k' b)).run P w=.ok () w:=by
   intro a b k k'; cases op <;> simp [eqGuard]
  obtain ⟨rfl,h2⟩:=Nl
  rcases h2 with h2 | h2
  ·subst h2
   obtain ⟨u,q1,q2⟩:=ZG (P:=P) (g:=g) (w:=w) t he hp;exact ⟨u,by simp [hg,q1],q2⟩
  ·cases op <;> simp [eH] at h2
   simp only [Uc,Option.some.injEq,Prod.mk.injEq] at he
   obtain ⟨rfl,rfl⟩:=he;exact ⟨_,by simp only [Sem.run_bind,hg,Result.andThen_ok]; exact lL t hp,.int _ _⟩
 ·cases he
def Jp (neg : Bool) : BinOp:=if neg then .neq else .eql
theorem kF {t e : TypeId} (hu : P.underlying t=some (.slice e)) (d : Nat) (p : Option Addr) (n c : Nat) : (Op.equalIn (d+1) t (.slice p n c) (.slice none 0 0)).run P w=.ok p.isNone w:=by
 cases p <;> simp [Op.equalIn,run_underlying hu]
theorem WG {neg : Bool} {t : TypeId} {fs : Array Field} (hu : P.underlying t=some (.struct fs)) (h1 : FH P 0 fs.toList=true) (h2 : P.stoodInHeld t=false)
  (h3 : P.eqGuardType P.depth t=false) (h4 : fs.size=2) {x y : Operand} {v1 v2 : AV} {u1 u2 : Value} (r1 : Ab g v1 u1) (r2 : Ab g v2 u2) {p : Prop} {r : AV}
  (he : iS neg 2 (some v1) (some v2)=some (p,r)) (hp : p) : ∃ u,((do eqGuard (Jp neg) t x y u1 u2; binOp (Jp neg) t u1 u2) : Sem Value).run P w=.ok u w∧Ab g r u:=by
 cases r1 <;> try (simp [iS] at he; done)
 cases r2 <;> try (simp [iS] at he; done)
 rename_i as vs hs N5 bs us Hl vn
 simp only [iS,Option.some.injEq,Prod.mk.injEq] at he
 obtain ⟨rfl,rfl⟩:=he
 obtain ⟨k1,k2,a1,a2,b1,b2,rfl,rfl⟩:=hp
 have e1 : vs=#[.int k1 a1,.int k2 a2]:=by
  have q0:=N5 0 (by simp)
  have q1:=N5 1 (by simp)
  obtain ⟨l⟩:=vs
  match l,hs with
  | [z0,z1],_=>simp at q0 q1; cases q0; cases q1; rfl
 have e2 : us=#[.int k1 b1,.int k2 b2]:=by
  have q0:=vn 0 (by simp)
  have q1:=vn 1 (by simp)
  obtain ⟨l⟩:=us
  match l,Hl with
  | [z0,z1],_=>simp at q0 q1; cases q0; cases q1; rfl
 subst e1 e2
 have hq:=VE (P:=P) (w:=w) hu h1 h2 h4 k1 k2 a1 a2 b1 b2;refine ⟨.bool (neg ^^ (decide (a1=b1) && decide (a2=b2))), ?_,by rw [show dv [.int k1 a1,.int k2 a2] [.int k1 b1,.int k2 b2]=(decide (a1=b1) && decide (a2=b2)) by simp [dv]]; exact .bool _⟩
 cases neg
 ·simp [Jp,eqGuard,binOp,hq,h3]
 ·simp [Jp,eqGuard,binOp,hq,h3]
inductive OR (g : Gh) : Option (Option AV)→Option Value→Prop
 | no : OR g none none
 | sH (u : Value) : OR g (some none) (some u)
 | so (a : AV) (u : Value) (h : Ab g a u) : OR g (some (some a)) (some u)
theorem LF {es : List AV} {a : Option Addr} {n c sz : Nat} (hv : Ab g (.sl es) (.slice a n c)) (hk : DK sz es) {l h : Nat} (h1 : l≤h) (h2 : h≤es.length) :
  Ab g (.sl ((es.take h).drop l)) (sliced a l h c sz):=by
 by_cases hl : l=h
 ·subst hl
  have : (es.take l).drop l=[]:=by simp
  rw [this];simp only [sliced,Nat.sub_self];exact .slnil _ _
 ·cases hv with
  | slnil _ _=>simp at h2; omega
  | sl _ b o sz' cap vs hm Qh CU hf hv =>
   have hz : sz'=sz:=by
    rw [← CU 0 (by omega)]
    have : es.getD 0 nv∈es:=by
     rw [gE,List.getElem?_eq_getElem (by omega)]; exact List.getElem_mem _
    exact (hk _ this).1
   subst hz
   have Bp : ¬ c=l:=by omega
   have hlen : ((es.take h).drop l).length=h - l:=by simp; omega
   have Cj : ∀ i,i<h - l→((es.take h).drop l).getD i nv=es.getD (l+i) nv:=by
    intro i hi;simp only [gE,List.getElem?_drop];rw [List.getElem?_take_of_lt (by omega)]
   have hmul : ∀ i j,(l+i)*sz'+j=l*sz'+(i*sz'+j):=by intro i j; rw [Nat.add_mul]; omega
   simp only [sliced,Bp,if_false,Option.map,Addr.add_lit];rw [← hlen];refine .sl _ b (o+l*sz') sz' (c - l) (fun k=>vs (l*sz'+k)) (by omega) (by omega) (fun i hi=>?_) (fun i j hi hj=>?_) (fun i j hi hj=>?_)
   ·rw [hlen] at hi; rw [Cj i hi]; exact CU _ (by omega)
   ·rw [hlen] at hi
    have:=hf (l+i) j (by omega) hj;rw [hmul] at this;rw [Nat.add_assoc]; exact this
   ·rw [hlen] at hi
    have:=hv (l+i) j (by omega) hj;rw [hmul] at this;rw [Cj i hi]; exact this
theorem ZE {t : TypeId} {x : TypeId × TypeInfo} (h : Bv P t=some x) {av : AV} {v : Value} (hv : Ab g av v) {lo hi : Option (Option AV)} {lo' Fh : Option Value} (hl : OR g lo lo') (hh : OR g hi Fh)
  {p : Prop} {r : AV} (he : KE x.2.size (some av) lo hi=some (p,r)) (hp : p) : ∃ u,(Instr.sliceAt t v lo' Fh none).run P w=.ok u w∧Ab g r u:=by
 obtain ⟨h1,h2,h3⟩:=Ck h;rw [KE,if_neg h3] at he
 have iU : P.elem t=x.1:=by simp [Program.elem,h1]
 have hu : P.underlying t=some (.slice (P.elem t)):=by rw [iU]; exact h1
 have hs : (sizeOf (P.elem t)).run P w=.ok x.2.size w:=by simp [iU,sizeOf,typeInfo,h2]
 have Fg : ∃ es,av=.sl es:=by
  cases hv <;> cases hl <;> simp [NO] at he
  all_goals first | exact ⟨_,rfl⟩ | skip
 obtain ⟨es,rfl⟩:=Fg
 obtain ⟨a,n,c,rfl,hn,hc⟩ : ∃ a n c,v=.slice a n c∧n=es.length∧n≤c:=by
  cases hv with
  | slnil a c=>exact ⟨_,_,_,rfl,rfl,Nat.zero_le _⟩
  | sl _ b o sz cap vs hm Qh CU hf hv=>exact ⟨_,_,_,rfl,rfl,Qh⟩
 rw [run_sliceAt_slice w t _ _ _ _ hu]
 cases hl with
 | sH u=>simp [NO] at he
 | no =>
  cases hh with
  | sH u=>simp [NO,Nv] at he
  | no =>
   simp only [NO,Nv,S8,Option.some.injEq,Prod.mk.injEq] at he
   obtain ⟨rfl,rfl⟩:=he;refine ⟨_,by rw [run_slice_all w t a n c hu,hs]; rfl, ?_⟩
   have:=LF (h:=es.length) (l:=0) hv hp.2 (by omega) (by omega);rw [hn]; simpa using this
  | so b u hb =>
   cases hb <;> simp only [NO,Nv,S8,Option.some.injEq,Prod.mk.injEq,reduceCtorEq] at he
   obtain ⟨rfl,rfl⟩:=he
   rename_i k b
   refine ⟨_,by rw [run_slice_h w t a n c hu k b (by omega) (by omega),hs]; rfl, ?_⟩;exact LF (h:=b.toNat) (l:=0) hv hp.2 (by omega) (by omega)
 | so b u hb =>
  cases hb <;> simp only [NO,reduceCtorEq] at he
  rename_i k b
  cases hh with
  | sH u=>simp [Nv] at he
  | no =>
   simp only [Nv,S8,Option.some.injEq,Prod.mk.injEq] at he
   obtain ⟨rfl,rfl⟩:=he;refine ⟨_,by rw [run_slice_l w t a n c hu k b (by omega) (by omega),hs]; rfl, ?_⟩
   have:=LF (h:=es.length) (l:=b.toNat) hv hp.2 (by omega) (by omega);rw [hn]; simpa using this
  | so d u hd =>
   cases hd <;> simp only [Nv,S8,Option.some.injEq,Prod.mk.injEq,reduceCtorEq] at he
   obtain ⟨rfl,rfl⟩:=he
   rename_i k' d
   refine ⟨_,by rw [run_slice_lh w t a n c hu k k' b d (by omega) (by omega) (by omega),hs]; rfl, ?_⟩;exact LF (h:=d.toNat) (l:=b.toNat) hv hp.2 (by omega) (by omega)
theorem Jc {σ : Env} {a : Act} (hE : Cc g σ a.tmps) {o : Option Operand} {x : Option X} (h : pO o=some x) : OR g (x.map (val σ)) (o.map a.eval):=by
 cases o with
 | none=>simp [pO] at h; subst h; exact .no
 | some o =>
  simp only [pO] at h
  cases hx : cx o with
  | none=>simp [hx] at h
  | some y =>
   simp [hx] at h; subst h;simp only [Option.map]
   cases hv : val σ y with
   | none=>exact .sH _
   | some v=>exact .so _ _ (Ar hE hx hv)
set_option maxHeartbeats 1000000 in
theorem UA {o : Oper} {h : Nat} {i : Ins} (hc : Dz P h o.op=some i) {σ : Env} {a : Act} (hW : Ao g B H w) (hE : Cc g σ a.tmps) {K : Am} (hk : Dx P B K σ H i) :
  Fits P g B w K ((execOp a.eval o).run P w):=by
 cases ho : o.op <;> simp only [ho,Dz] at hc <;> try (cases hc; done)
 all_goals simp only [execOp,ho]
 case move x =>
  cases hx : cx x with
  | none=>simp [hx] at hc
  | some x' =>
   simp [hx] at hc; subst hc
   obtain ⟨p,r,he,hp,hk⟩:=DV hk
   cases hv : val σ x' with
   | none=>simp [KI,hv,W0] at he
   | some v =>
    simp [KI,hv,W0] at he; obtain ⟨-,rfl⟩:=he;exact .same hW (Ar hE hx hv) hk
 case assign x =>
  cases hx : cx x with
  | none=>simp [hx] at hc
  | some x' =>
   simp [hx] at hc; subst hc
   obtain ⟨p,r,he,hp,hk⟩:=DV hk
   cases hv : val σ x' with
   | none=>simp [KI,hv,W0] at he
   | some v =>
    simp [KI,hv,W0] at he; obtain ⟨-,rfl⟩:=he;exact .same hW (Ar hE hx hv) hk
 case pick c x y =>
  cases hc1 : cx c <;> cases gW : cx x <;> cases ke : cx y <;> simp [hc1,gW,ke] at hc
  rename_i c' x' y'
  subst hc
  obtain ⟨p,r,he,hp,hk⟩:=DV hk;simp only [KI] at he
  cases mH : val σ c' with
  | none=>simp [mH,Mt] at he
  | some vc =>
   have hrc:=Ar hE hc1 mH
   generalize a.eval c=uc at hrc ⊢
   cases hrc <;> try (simp [mH,Mt] at he; done)
   rename_i b
   cases b
   ·simp only [mH,Mt] at he
    cases hv : val σ y' with
    | none=>simp [hv,W0] at he
    | some v =>
     simp [hv,W0] at he; obtain ⟨-,rfl⟩:=he;simp only [asBool,Sem.run_bind,Sem.run_pure,Result.andThen_ok,Bool.false_eq_true,if_false];exact .same hW (Ar hE ke hv) hk
   ·simp only [mH,Mt] at he
    cases hv : val σ x' with
    | none=>simp [hv,W0] at he
    | some v =>
     simp [hv,W0] at he; obtain ⟨-,rfl⟩:=he;simp only [asBool,Sem.run_bind,Sem.run_pure,Result.andThen_ok,if_true];exact .same hW (Ar hE gW hv) hk
 case alloc t =>
  cases hz : C6 P t with
  | none=>simp [hz] at hc
  | some z =>
   simp [hz] at hc; subst hc
   obtain ⟨k1,k2⟩:=hk;exact .val (Tf hW hz k1 k2)
 case box t x =>
  cases h1 : HB P t <;> cases h2 : P.info? t <;> cases h3 : cx x <;> simp [h1,h2,h3] at hc
  rename_i ao ti x'
  split at hc
  ·cases hc;simp only [Dx] at hk
   cases hv : val σ x' with
   | none=>simp [hv,Ud] at hk
   | some v=>exact .val (WS hW hv (Ar hE h3 hv) hk)
  ·cases hc;refine .val ?_
   obtain ⟨p,r,he,hp,hk⟩:=DV hk;simp only [KI] at he
   cases hv : val σ x' with
   | none=>simp [hv,dE] at he
   | some v =>
    simp only [hv,dE,Option.some.injEq,Prod.mk.injEq] at he
    obtain ⟨rfl,rfl⟩:=he
    obtain ⟨u,w',r1,r2⟩:=Wi (P:=P) hW (t:=t) (Ar hE h3 hv);exact ⟨u,w',r1,r2.mono fun r H' ⟨a,b⟩=>by subst a; subst b; exact hk⟩
 case build t parts =>
  cases h1 : C6 P t <;> cases h2 : fieldsOf P t <;> cases h3 : partsOf P t parts.toList <;> simp only [h1,h2,h3,reduceCtorEq] at hc
  rename_i z fs ps
  split at hc
  ·rename_i Ak
   cases hc;refine .val (pv hW hk fun p r he hp=>?_);exact UX hE h1 h2 h3 (fun f hf=>by rw [Array.all_eq_true_iff_forall_mem] at Ak; exact Ak f hf) he hp
  ·cases hc
 case buildSlice t n parts =>
  cases h1 : Bv P t with
  | none=>simp [h1] at hc
  | some e =>
   obtain ⟨hu,hi,hs⟩:=Ck h1;simp only [h1,hu,Option.elim_some] at hc
   cases h2 : Fq 0 parts.toList <;> cases h3 : C6 P e.1 <;> simp [h2,h3] at hc
   rename_i xs z
   obtain ⟨⟨hn,Xc⟩,hc⟩:=hc
   split at hc
   ·rename_i h0
    cases hc;refine .val ?_
    have hk : True∧K .FG H:=hk
    have hk:=hk.2
    obtain ⟨-,rfl⟩:=h0
    obtain ⟨u,w',r1,r2⟩:=Zt (P:=P) hW hE h1 h3 h2 hn;exact ⟨u,w',r1,r2.mono fun r H' ⟨a,b⟩=>by subst a; subst b; exact hk⟩
   split at hc
   ·cases hc;refine .val ?_
    obtain ⟨p,r,he,hp,hk⟩:=DV hk;simp only [KI] at he
    cases hv : D9 σ xs with
    | none=>simp [hv,bO] at he
    | some as =>
     simp only [hv,bO,Option.some.injEq,Prod.mk.injEq] at he
     obtain ⟨rfl,rfl⟩:=he
     obtain ⟨u,w',r1,r2⟩:=WJ (P:=P) hW hE h1 h3 h2 hn Xc hv hp.1 hp.2;exact ⟨u,w',r1,r2.mono fun r H' ⟨a,b⟩=>by subst a; subst b; exact hk⟩
   ·cases hc;exact .val (Wq hW hE h1 h3 h2 hn Xc hk)
 case load t x =>
  cases h1 : HB P t <;> cases h2 : cx x <;> simp [h1,h2] at hc
  rename_i n x'
  split at hc
  ·cases hc;refine .val (pv hW hk fun p r he hp=>?_);simp only [KI] at he
   cases hv : val σ x' with
   | none=>cases n <;> simp [hv,aB] at he
   | some v=>rw [hv] at he; exact KU hW h1 (Ar hE h2 hv) he hp
  ·split at hc
   ·cases hc;simp only [Dx] at hk
    cases hv : val σ x' with
    | none=>rw [hv] at hk; exact hk.elim
    | some v =>
     have hr:=Ar hE h2 hv;rw [hv] at hk
     cases v <;> try exact hk.elim
     obtain ⟨u,r1,r2⟩:=OS (P:=P) hW h1 hr hk.2;exact .val ⟨u,w,r1,r2⟩
   cases hc;simp only [Dx] at hk
   cases hv : val σ x' with
   | none=>cases n <;> simp [hv,WU,aB,pW] at hk
   | some v =>
    have hr:=Ar hE h2 hv;rw [hv] at hk
    by_cases gT : ∃ id off,v=.ref id off
    ·obtain ⟨id,off,rfl⟩:=gT;simp only [WU] at hk
     obtain ⟨u,r1,r2⟩:=OS (P:=P) hW h1 hr hk;exact .val ⟨u,w,r1,r2⟩
    ·have Lu : pW (aB n (some v)) K H:=by
      unfold WU at hk
      split at hk
      ·rename_i id off heq; cases heq; exact absurd ⟨_,_,rfl⟩ gT
      ·exact hk
     exact .val (pv hW Lu fun p r he hp=>KU hW h1 hr he hp)
 case store t p v =>
  cases h1 : P.info? t <;> cases h2 : cx p <;> cases h3 : cx v <;> simp [h1,h2,h3] at hc
  rename_i ti p' v'
  subst hc;simp only [Dx] at hk
  cases CF : val σ p' with
  | none=>simp [CF,oQ] at hk
  | some pv' =>
   cases FZ : val σ v' with
   | none=>cases pv' <;> simp [CF,FZ,oQ] at hk
   | some vv =>
    rw [CF,FZ] at hk
    cases pv' <;> try (simp [oQ] at hk; done)
    simp only [oQ] at hk
    obtain ⟨w',r1,r2⟩:=Yv (P:=P) hW h1 (Ar hE h2 CF) (Ar hE h3 FZ) hk;exact .unit ⟨w',r1,r2⟩
 case nilCheck x =>
  cases hx : cx x with
  | none=>simp [hx] at hc
  | some x' =>
   simp [hx] at hc; subst hc
   obtain ⟨p,r,he,hp,hk⟩:=DV hk;simp only [KI] at he
   cases hv : val σ x' with
   | none=>simp [hv,Wc] at he
   | some v =>
    have hr:=Ar hE hx hv
    generalize a.eval x=ux at hr ⊢
    cases hr <;> simp [hv,Wc] at he
    ·obtain ⟨-,rfl⟩:=he
     rename_i cs b o vs hf TN
     exact .same hW (.ptr cs b o vs hf TN) hk
    ·obtain ⟨-,rfl⟩:=he
     rename_i id off b cap D3
     exact .same hW (.ref id off b cap D3) hk
    ·obtain ⟨-,rfl⟩:=he
     rename_i cs id b cap vs D3 hf TN
     exact .same hW (.Gd cs id b cap vs D3 hf TN) hk
 case binOp op t x y yt =>
  cases hu : P.underlying t with
  | none=>simp [hu] at hc
  | some d =>
   cases d <;> simp only [hu,reduceCtorEq] at hc
   case int k =>
    cases h1 : cx x <;> cases h2 : cx y <;> simp [h1,h2] at hc
    rename_i x' y'
    obtain ⟨hgood,rfl⟩:=hc;refine .val (pv hW hk fun p r he hp=>?_);simp only [KI] at he
    cases CF : val σ x' with
    | none=>simp [CF,Hz] at he
    | some v1 =>
     cases FZ : val σ y' with
     | none=>cases v1 <;> simp [CF,FZ,Hz] at he
     | some v2 =>
      rw [CF,FZ] at he;exact Y8 (Ar hE h1 CF) (Ar hE h2 FZ) he hp
   case slice e =>
    have key : ∀ (neg : Bool) x',cx x=some x'→PZ y=true→i=.iV neg x'→op=Jp neg →
      Fits P g B w K ((do pure (.value (← (do eqGuard op t x y (a.eval x) (a.eval y); binOp op t (a.eval x) (a.eval y) : Sem Value))) : Sem Next).run P w):=by
     intro neg x' h1 h2 hi Km;subst hi
     have hy:=WH h2 a;simp only [Dx] at hk
     have hq : ∀ (p : Option Addr) (n c : Nat),(Op.equal t (.slice p n c) (.slice none 0 0)).run P w=.ok p.isNone w:=kF hu 9999
     have Ip : ∀ (p : Option Addr) (n c : Nat),a.eval x=.slice p n c→((do eqGuard op t x y (a.eval x) (a.eval y); binOp op t (a.eval x) (a.eval y) : Sem Value)).run P w=.ok (.bool (neg ^^ p.isNone)) w:=by
      intro p n c e;subst Km;rw [e,hy]
      cases neg <;> simp [Jp,eqGuard,binOp,hq]
     have fin : ∀ (p : Option Addr) (n c : Nat),a.eval x=.slice p n c→K (.bool (neg ^^ p.isNone)) H →
       Fits P g B w K ((do pure (.value (← (do eqGuard op t x y (a.eval x) (a.eval y); binOp op t (a.eval x) (a.eval y) : Sem Value))) : Sem Next).run P w):=by
      intro p n c e Nl;exact .val ⟨_,w,Ip p n c e,g,_,H,.refl g,Nl,.bool _,hW,.refl B w⟩
     cases hv : val σ x' with
     | none=>simp [hv,WA] at hk
     | some v =>
      have hr:=Ar hE h1 hv;rw [hv] at hk
      have all : ∀ ux,a.eval x=ux→Ab g v ux→Fits P g B w K ((do pure (.value (← (do eqGuard op t x y (a.eval x) (a.eval y); binOp op t (a.eval x) (a.eval y) : Sem Value))) : Sem Next).run P w):=by
       intro ux vl hr
       cases hr <;> try (simp [WA] at hk; done)
       ·exact fin _ _ _ vl (by simpa [WA] using hk)
       ·exact fin _ _ _ vl ((hk : (([] : List AV)=[]→∀ b,K (.bool b) H)∧(([] : List AV)≠[]→K (.bool neg) H)).1 rfl _)
       ·refine fin _ _ _ vl ?_
        rename_i es b o sz cap vs hm _ CU hf TN
        have Lu : (es=[]→∀ b,K (.bool b) H)∧(es≠[]→K (.bool neg) H):=hk
        by_cases he : es=[]
        ·exact Lu.1 he _
        ·simpa using Lu.2 he
      exact all _ rfl hr
    cases h1 : cx x <;> cases h2 : PZ y <;> cases op <;> simp only [h1,h2,reduceCtorEq,Option.some.injEq] at hc
    ·exact key false _ h1 h2 hc.symm rfl
    ·exact key true _ h1 h2 hc.symm rfl
   case struct fs =>
    have key : ∀ (neg : Bool) x' y',cx x=some x'→cx y=some y'→i=.aq neg fs.size x' y'→op=Jp neg →
      (FH P 0 fs.toList && !P.stoodInHeld t && !P.eqGuardType P.depth t && fs.size == 2)=true →
      Fits P g B w K ((do pure (.value (← (do eqGuard op t x y (a.eval x) (a.eval y); binOp op t (a.eval x) (a.eval y) : Sem Value))) : Sem Next).run P w):=by
     intro neg x' y' h1 h2 hi Km Ak;subst hi;simp only [Bool.and_eq_true,Bool.not_eq_true',beq_iff_eq] at Ak
     obtain ⟨⟨⟨a1,a2⟩,a3⟩,a4⟩:=Ak;refine .val (pv hW hk fun p r he hp=>?_);simp only [KI] at he
     cases CF : val σ x' with
     | none=>simp [CF,iS] at he
     | some v1 =>
      cases FZ : val σ y' with
      | none=>cases v1 <;> simp [CF,FZ,iS] at he
      | some v2 =>
       rw [CF,FZ,a4] at he;subst Km;exact WG hu a1 a2 a3 a4 (Ar hE h1 CF) (Ar hE h2 FZ) he hp
    cases h1 : cx x <;> cases h2 : cx y <;> cases op <;> simp only [h1,h2,reduceCtorEq,Option.some.injEq] at hc
    ·split at hc
     ·rename_i Ak; cases hc; exact key false _ _ h1 h2 rfl rfl Ak
     ·cases hc
    ·split at hc
     ·rename_i Ak; cases hc; exact key true _ _ h1 h2 rfl rfl Ak
     ·cases hc
 case unOp op t x =>
  cases op <;> simp only [reduceCtorEq] at hc
  cases hx : cx x with
  | none=>simp [hx] at hc
  | some x' =>
   simp [hx] at hc; subst hc;refine .val (pv hW hk fun p r he hp=>?_);simp only [KI] at he
   cases hv : val σ x' with
   | none=>simp [hv,uW] at he
   | some v =>
    have hr:=Ar hE hx hv;rw [hv] at he
    generalize a.eval x=ux at hr ⊢
    cases hr <;> try (simp [uW] at he; done)
    simp [uW] at he; obtain ⟨-,rfl⟩:=he;exact ⟨_,by simp [Op.unary],.bool _⟩
 case convert s d x =>
  cases hs : P.underlying s <;> cases hd : P.underlying d <;> simp only [hs,hd,reduceCtorEq] at hc
  rename_i ds dd
  split at hc
  ·rename_i ks kd tA sE
   cases tA; cases sE
   cases hx : cx x with
   | none=>simp [hx] at hc
   | some x' =>
    simp [hx] at hc; subst hc;refine .val (pv hW hk fun p r he hp=>?_);simp only [KI] at he
    cases hv : val σ x' with
    | none=>simp [hv,Qo] at he
    | some v =>
     have hr:=Ar hE hx hv;rw [hv] at he
     generalize a.eval x=ux at hr ⊢
     cases hr <;> try (simp [Qo] at he; done)
     simp [Qo] at he; obtain ⟨-,rfl⟩:=he;exact ⟨_,by simp [convert,run_underlying hs,run_underlying hd,Conv.intToInt],.int _ _⟩
  ·rename_i e tA sE
   cases tA; cases sE
   split at hc
   ·rename_i hint
    have hu8 : P.underlying e=some (.int .u8):=by
     unfold cW at hint
     split at hint
     ·rename_i hk8; cases hint; exact hk8
     ·cases hint
    cases hx : cx x with
    | none=>simp [hx] at hc
    | some x' =>
     simp [hx] at hc; subst hc;refine .val (pv hW hk fun p r he hp=>?_);simp only [KI] at he
     cases hv : val σ x' with
     | none=>simp [hv,Ss] at he
     | some v =>
      have hr:=Ar hE hx hv;rw [hv] at he
      obtain ⟨u,q1,q2⟩:=TT (P:=P) hW hr he hp;refine ⟨u, ?_,q2⟩
      generalize a.eval x=ux at hr q1 ⊢
      cases hr <;> simp [Ss] at he
      all_goals simp [convert,run_underlying hs,run_underlying hd,run_underlying hu8,q1]
   ·cases hc
  ·cases hc
 case makeInterface t x =>
  cases hu : P.underlying t with
  | none=>simp [hu] at hc
  | some d =>
   have tG : ∀ ms,d≠.interface ms:=by rintro ms rfl; simp [hu] at hc
   have jI : (cx x).map (Ins.oA t)=some i:=by
    rw [hu] at hc
    cases d <;> first | exact hc | exact absurd rfl (tG _)
   cases hx : cx x with
   | none=>simp [hx] at jI
   | some x' =>
    simp [hx] at jI; subst jI;refine .val (pv hW hk fun p r he hp=>?_);simp only [KI] at he
    cases hv : val σ x' with
    | none=>simp [hv,eY] at he
    | some v =>
     simp [hv,eY] at he; obtain ⟨-,rfl⟩:=he;refine ⟨.iface t (a.eval x), ?_,.Rk t v _ (Ar hE hx hv)⟩;simp only [Instr.makeInterface,Sem.run_bind,run_underlying hu,Result.andThen_ok]
     cases d <;> first | rfl | exact absurd rfl (tG _)
 case typeAssert x xT asserted ok =>
  cases ok <;> simp only [reduceCtorEq] at hc
  cases hx : cx x with
  | none=>simp [hx] at hc
  | some x' =>
   simp [hx] at hc; subst hc;simp only [Dx] at hk
   cases hv : val σ x' with
   | none=>simp [hv,Z0] at hk
   | some v =>
    have hr:=Ar hE hx hv;rw [hv] at hk
    generalize vl : a.eval x=ux at hr
    cases hr <;> try (simp [Z0] at hk; done)
    rename_i t v u h
    simp only [Z0] at hk;refine .val ⟨_,w,hk.1 u xT w,g,_,H,.refl g,hk.2,.CG _ _ rfl fun i hi=>?_,hW,.refl B w⟩;simp only [List.length_cons,List.length_nil] at hi
    obtain rfl | rfl : i=0∨i=1:=by omega
    ·exact .Rk t v u h
    ·exact .bool _
 case makeFunc f first ca =>
  split at hc
  ·rename_i hf
   have XW : first=#[]:=Array.eq_empty_of_size_eq_zero hf;subst XW
   cases hx : c9 ca.toList with
   | none=>simp [hx] at hc
   | some xs =>
    simp [hx] at hc; subst hc;refine .val (pv hW hk fun p r he hp=>?_);simp only [KI] at he
    cases hv : D9 σ xs with
    | none=>simp [hv,dF] at he
    | some vs =>
     simp [hv,dF] at he; obtain ⟨-,rfl⟩:=he
     obtain ⟨q1,q2⟩:=Jk hE hx hv;refine ⟨.func f #[] (ca.map a.eval),by simp [Instr.makeFunc],.fn f vs _ ?_ ?_⟩
     ·simpa using q1
     ·intro j hj
      have:=q2 j hj;rw [show (List.map a.eval ca.toList).toArray=ca.map a.eval by apply Array.ext'; simp] at this;exact this
  ·cases hc
 case makeMap t r =>
  cases hu : P.underlying t with
  | none=>simp [hu] at hc
  | some d =>
   cases d <;> simp only [hu,reduceCtorEq] at hc
   cases r with
   | some x=>simp at hc
   | none =>
    simp at hc; subst hc
    obtain ⟨j,h1,h2⟩:=hW.fresh
    obtain ⟨k1,k2⟩:=hW.Z3 j h1 0;exact .val ⟨.map (some w.heap.size),w.alloc (.map #[] 0),by simp [Instr.makeMap],_,_,_,k1,hk j h2,.Gg j _ (Gh.EE _ _ _),k2,(Below.refl B w).alloc hW.base _⟩
 case makeSlice t l c =>
  cases h1 : Bv P t with
  | none=>simp [h1] at hc
  | some e =>
   obtain ⟨hu,hi,hs⟩:=Ck h1;simp only [h1,hu,Option.elim_some] at hc
   cases h2 : cx l <;> cases h3 : cx c <;> cases h4 : C6 P e.1 <;> simp [h2,h3,h4] at hc
   rename_i l' c' z
   obtain ⟨hb,rfl⟩:=hc;simp only [Dx] at hk
   cases CF : val σ l' with
   | none=>simp [CF,Rr] at hk
   | some v1 =>
    cases FZ : val σ c' with
    | none=>cases v1 <;> simp [CF,FZ,Rr] at hk
    | some v2=>exact .val (Zl (P:=P) hW h1 h4 hb CF FZ (Ar hE h2 CF) (Ar hE h3 FZ) hk)
 case fieldAddr t x f =>
  cases h1 : Fy P t f <;> cases h2 : cx x <;> simp [h1,h2] at hc
  rename_i q x'
  obtain ⟨off,n,ao⟩:=q;subst hc;refine .val (pv hW hk fun p r he hp=>?_);simp only [KI] at he
  cases hv : val σ x' with
  | none=>simp [hv,TW] at he
  | some v=>rw [hv] at he; exact Qe h1 (Ar hE h2 hv) he hp
 case field t x f =>
  cases h1 : Fy P t f <;> cases h2 : cx x <;> simp [h1,h2] at hc
  rename_i q x'
  obtain ⟨off,n,ao⟩:=q;subst hc
  obtain ⟨fs,fl,j,g1,g2,g3,g4,g5,g6,g7⟩:=IP h1;refine .val (pv hW hk fun p r he hp=>?_);simp only [KI] at he
  cases hv : val σ x' with
  | none=>cases ao <;> simp [hv,Tc] at he
  | some v =>
   have hr:=Ar hE h2 hv;rw [hv] at he
   generalize a.eval x=ux at hr ⊢
   cases hr <;> try (cases ao <;> simp [Tc] at he; done)
   rename_i cs vs hs N5
   cases ao with
   | none =>
    simp only [Tc,Option.some.injEq,Prod.mk.injEq] at he
    obtain ⟨rfl,rfl⟩:=he
    have D1 : off<vs.size:=by omega
    exact ⟨vs.getD off undef,by simp [Instr.field,run_underlying g1,g2,asAgg,part,Fv g7,g6,D1,Array.getD],N5 _ hp⟩
   | some m =>
    simp only [Tc,Option.some.injEq,Prod.mk.injEq] at he
    obtain ⟨rfl,rfl⟩:=he
    obtain ⟨b1,ti,b2,b3⟩:=JX (w:=w) g7;refine ⟨.agg (vs.extract off (off+m)),by simp [Instr.field,run_underlying g1,g2,asAgg,part,b1,g6,sizeOf,typeInfo,b2,b3],.agg _ _ ?_ ?_⟩
    ·simp; omega
    ·intro k Lu
     have Hm : k<m:=by simp at Lu; omega
     have e1 : ((cs.drop off).take m).getD k nv=cs.getD (off+k) nv:=by simp [gE,Hm]
     have e2 : (vs.extract off (off+m)).getD k undef=vs.getD (off+k) undef:=by
      simp only [Array.getD_eq_getD_getElem?,Array.getElem?_extract];rw [if_pos (by omega)]
     rw [e1,e2]; exact N5 _ (by omega)
 case slice t x lo hi mx =>
  cases mx <;> simp only [reduceCtorEq] at hc
  cases h1 : Bv P t <;> cases h2 : cx x <;> cases h3 : pO lo <;> cases h4 : pO hi <;> simp [h1,h2,h3,h4] at hc
  rename_i q x' lo' Fh
  obtain ⟨e,ti⟩:=q
  cases hc;refine .val (pv hW hk fun p r he hp=>?_);simp only [KI] at he
  cases hv : val σ x' with
  | none=>simp [hv,KE,NO,fB] at he
  | some v=>rw [hv] at he; exact ZE h1 (Ar hE h2 hv) (Jc hE h3) (Jc hE h4) he hp
 case indexAddr t x ix =>
  cases h1 : Bv P t <;> cases h2 : cx x <;> cases h3 : cx ix <;> simp [h1,h2,h3] at hc
  rename_i q x' i'
  obtain ⟨e,ti⟩:=q;subst hc;refine .val (pv hW hk fun p r he hp=>?_);simp only [KI] at he
  cases hv : val σ x' with
  | none=>simp [hv,Hy] at he
  | some v =>
   cases FZ : val σ i' with
   | none=>cases v <;> simp [hv,FZ,Hy] at he
   | some v2=>rw [hv,FZ] at he; exact QP h1 (Ar hE h2 hv) (Ar hE h3 FZ) he hp
 case lookup t m k ok =>
  cases hu : P.underlying t with
  | none=>simp [hu] at hc
  | some d =>
   cases d <;> simp only [hu,reduceCtorEq] at hc
   rename_i kt et
   cases h1 : cx m <;> cases h2 : cx k <;> simp only [h1,h2,reduceCtorEq] at hc
   rename_i m' k'
   have key : ∀ (s : Nat) (z : AV),PM P s kt→zeroOf P et=some z→i=.bE s ok z m' k' →
     Fits P g B w K ((do pure (.value (← Instr.lookup t (a.eval m) (a.eval k) ok)) : Sem Next).run P w):=by
    intro s z hd hz hi;subst hi;simp only [Dx] at hk
    cases CF : val σ m' with
    | none=>simp [CF,Zk] at hk
    | some v1 =>
     cases FZ : val σ k' with
     | none=>cases v1 <;> simp [CF,FZ,Zk] at hk
     | some v2 =>
      obtain ⟨u,q1,q2⟩:=Ry (P:=P) hW hu hd hz CF FZ (Ar hE h1 CF) (Ar hE h2 FZ) ok hk;exact .val ⟨u,w,q1,q2⟩
   cases bF : P.underlying kt with
   | none=>simp [bF] at hc
   | some dk =>
    cases hz : zeroOf P et with
    | none=>cases dk <;> simp [bF,hz] at hc
    | some z =>
     cases dk <;> simp only [bF,hz,reduceCtorEq,Option.some.injEq] at hc
     ·exact key 0 z ⟨_,bF,.inl rfl⟩ hz hc.symm
     ·exact key 1 z ⟨_,bF,.inl rfl⟩ hz hc.symm
     ·split at hc
      ·exact key 2 z ⟨_,bF,.inr ⟨rfl,_,rfl,‹_›⟩⟩ hz (by simpa using hc.symm)
      ·cases hc
 case mapUpdate t m k x =>
  cases hu : P.underlying t with
  | none=>simp [hu] at hc
  | some d =>
   cases d <;> simp only [hu,reduceCtorEq] at hc
   rename_i kt et
   cases h1 : cx m <;> cases h2 : cx k <;> cases h3 : cx x <;> simp only [h1,h2,h3,reduceCtorEq] at hc
   rename_i m' k' x'
   have key : ∀ (s : Nat),PM P s kt→i=.gH s m' k' x' →
     Fits P g B w K ((do Instr.mapUpdate t (a.eval m) (a.eval k) (a.eval x); pure .skip : Sem Next).run P w):=by
    intro s hd hi;subst hi;simp only [Dx] at hk
    cases CF : val σ m' with
    | none=>simp [CF,lD] at hk
    | some v1 =>
     cases FZ : val σ k' with
     | none=>cases v1 <;> simp [CF,FZ,lD] at hk
     | some v2 =>
      cases jz : val σ x' with
      | none=>cases v1 <;> simp [CF,FZ,jz,lD] at hk
      | some v3=>exact .unit (Ro (P:=P) hW hu hd CF FZ jz (Ar hE h1 CF) (Ar hE h2 FZ) (Ar hE h3 jz) hk)
   cases bF : P.underlying kt with
   | none=>simp [bF] at hc
   | some dk =>
    cases dk <;> simp only [bF,reduceCtorEq,Option.some.injEq] at hc
    ·exact key 0 ⟨_,bF,.inl rfl⟩ hc.symm
    ·exact key 1 ⟨_,bF,.inl rfl⟩ hc.symm
    ·split at hc
     ·exact key 2 ⟨_,bF,.inr ⟨rfl,_,rfl,‹_›⟩⟩ (by simpa using hc.symm)
     ·cases hc
 case extract x ix =>
  cases hx : cx x with
  | none=>simp [hx] at hc
  | some x' =>
   simp [hx] at hc; subst hc;refine .val (pv hW hk fun p r he hp=>?_);simp only [KI] at he
   cases hv : val σ x' with
   | none=>simp [hv,Zv] at he
   | some v =>
    have hr:=Ar hE hx hv;rw [hv] at he
    generalize a.eval x=ux at hr ⊢
    cases hr <;> try (simp [Zv] at he; done)
    rename_i cs vs hs N5
    simp only [Zv,Option.some.injEq,Prod.mk.injEq] at he
    obtain ⟨rfl,rfl⟩:=he
    have D1 : ix<vs.size:=by omega
    exact ⟨vs.getD ix undef,by simp [Instr.extract,D1,Array.getD],N5 _ hp⟩
 case call c =>
  obtain ⟨callee,args,argTypes⟩:=c
  have VH : (args.toList.map a.eval).toArray=args.map a.eval:=by apply Array.ext'; simp
  cases callee with
  | value f =>
   simp only at hc
   cases h1 : cx f <;> cases h2 : c9 args.toList <;> simp [h1,h2] at hc
   rename_i f' xs
   have Lp : ∀ (fid : FuncId) (ca : List AV) (as : List AV) (K' : Am),val σ f'=some (.fn (.func fid) ca)→D9 σ xs=some as→B7 P B fid (as++ca) H K' →
     Fits P g B w K' ((do let d ← resolve a.eval { callee:=.value f,args:=args,argTypes:=argTypes } o.type; Go.invoke d.target d.args : Sem Next).run P w):=by
    intro fid ca as K' hvf hvx Fo
    have gT:=Ar hE h1 hvf
    have jF:=Jk hE h2 hvx;rw [VH] at jF
    obtain ⟨cv,TB,TH⟩ : ∃ cv,a.eval f=.func (.func fid) #[] cv∧Fi g ca cv:=by
     generalize a.eval f=uf at gT
     cases gT
     rename_i cv K6 Kl
     exact ⟨cv,rfl,K6,Kl⟩
    have:=R8 hW (jF.append TH) Fo;simp only [resolve,TB,Deferred.ofValue,Sem.run_bind,Sem.run_pure,Result.andThen_ok,Go.invoke,Array.empty_append];exact this
   have VK : ∀ (ov : Option AV) (oas : Option (List AV)) (K' : Am),LP P B ov oas K' H→∃ fid ca as,ov=some (.fn (.func fid) ca)∧oas=some as∧B7 P B fid (as++ca) H K':=by
    intro ov oas K' hh;unfold LP at hh
    split at hh
    ·exact ⟨_,_,_,rfl,rfl,hh⟩
    ·exact hh.elim
   split at hc
   ·cases hc;simp only [Dx] at hk
    obtain ⟨r,hr,hk⟩:=hk;unfold Sw at hr
    split at hr
    ·rename_i fid ca as CF FZ
     refine Lp fid ca as K ?_ ?_ ?_
     ·assumption
     ·assumption
     ·exact hr.use hk
    ·exact hr.elim
   ·split at hc
    ·cases hc;simp only [Dx] at hk
     obtain ⟨fid,ca,as,e1,e2,Fo⟩:=VK _ _ _ hk;exact Lp fid ca as K e1 e2 (Fo.mono fun _ _ h=>h.2)
    ·split at hc
     ·cases hc;simp only [Dx] at hk
      obtain ⟨fid,ca,as,e1,e2,Fo⟩:=VK _ _ _ hk;exact Lp fid ca as K e1 e2 (Fo.mono fun _ _ h=>h.2)
     cases hc;simp only [Dx] at hk
     obtain ⟨fid,ca,as,e1,e2,Fo⟩:=VK _ _ _ hk;exact Lp fid ca as K e1 e2 Fo
  | invoke x name =>
   simp only at hc
   cases h1 : cx x <;> cases h2 : c9 args.toList <;> simp [h1,h2] at hc
   rename_i x' xs
   subst hc;simp only [Dx] at hk;unfold j3 at hk
   split at hk
   ·rename_i t v as CF FZ
    obtain ⟨fid,hm,Fo⟩:=hk
    have gT:=Ar hE h1 CF
    have jF:=Jk hE h2 FZ;rw [VH] at jF
    obtain ⟨wv,TB,hwv⟩ : ∃ wv,a.eval x=.iface t wv∧Ab g v wv:=by
     generalize a.eval x=ux at gT
     cases gT;exact ⟨_,rfl,by assumption⟩
    have Iq : Fi g [v] #[wv]:=⟨rfl,fun i hi=>by
     have : i=0:=by simp at hi; omega
     subst this; exact hwv⟩
    have:=R8 hW (Iq.append jF) Fo
    have hex : (#[Value.iface t wv]++args.map a.eval).extract 1 (#[Value.iface t wv]++args.map a.eval).size=args.map a.eval:=by
     apply Array.ext'; simp [List.take_of_length_le]
    have h0 : (#[Value.iface t wv]++args.map a.eval)[0]? = some (Value.iface t wv):=by rw [Array.getElem?_append_left (by simp)]; rfl
    simp only [resolve,TB,Sem.run_bind,Sem.run_pure,Result.andThen_ok,Go.invoke,h0,hex,callMethod,run_program,hm wv w];exact this
   ·exact hk.elim
  | builtin b =>
   cases b <;> simp only [reduceCtorEq] at hc
   case len =>
    split at hc
    ·rename_i x t ha Hs
     have QE : args=#[x]:=by apply Array.ext'; simpa using ha
     have Qm : argTypes=#[t]:=by apply Array.ext'; simpa using Hs
     subst QE Qm
     cases hu : P.underlying t with
     | none=>simp [hu] at hc
     | some d =>
      cases d <;> simp only [hu,reduceCtorEq] at hc
      case slice e =>
       cases hx : cx x with
       | none=>simp [hx] at hc
       | some x' =>
        simp [hx] at hc; subst hc
        obtain ⟨p,r,he,hp,hk⟩:=DV hk;simp only [KI] at he
        cases hv : val σ x' with
        | none=>simp [hv,Ee] at he
        | some v =>
         have hr:=Ar hE hx hv;rw [hv] at he
         obtain ⟨ad,n,cap,TB,hn⟩ : ∃ ad n cap,a.eval x=.slice ad n cap∧r=.int .i64 n:=by
          generalize a.eval x=ux at hr
          cases hr <;> simp only [Ee,reduceCtorEq,Option.some.injEq,Prod.mk.injEq] at he
          all_goals (obtain ⟨-,rfl⟩:=he; exact ⟨_,_,_,rfl,rfl⟩)
         subst hn
         have Ip : ((do let d ← resolve a.eval { callee:=.builtin .len,args:=#[x],argTypes:=#[t] } o.type; Go.invoke d.target d.args : Sem Next)).run P w =
           .ok (.value (.int .i64 n)) w:=by
          simp [resolve,Go.invoke,builtin,Builtin.len_,run_underlying hu,TB,goInt]
         rw [Ip];exact .same hW (.int _ _) hk
    ·cases hc
   case append =>
    split at hc
    ·rename_i s x t t' ha Hs
     have QE : args=#[s,x]:=by apply Array.ext'; simpa using ha
     have Qm : argTypes=#[t,t']:=by apply Array.ext'; simpa using Hs
     subst QE Qm
     cases h1 : Bv P t with
     | none=>simp [h1] at hc
     | some e =>
      obtain ⟨hu,hi,hs⟩:=Ck h1;simp only [h1,hu,Option.elim_some] at hc
      cases h2 : cx s <;> cases h3 : cx x <;> cases h4 : C6 P e.1 <;> simp [h2,h3,h4] at hc
      rename_i s' x' z
      obtain ⟨⟨rfl,hb⟩,rfl⟩:=hc;simp only [Dx] at hk
      cases CF : val σ s' with
      | none=>simp [CF,DW] at hk
      | some v1 =>
       cases FZ : val σ x' with
       | none =>
        exfalso
        cases v1 <;> simp only [CF,FZ,DW] at hk
        ·simp [Ct,Sd] at hk
        ·simp [Ct,fR] at hk
        ·rename_i id n
         cases hg : H.get id with
         | none=>simp [hg,Gc] at hk
         | some ob=>cases ob <;> simp [hg,Ct,Gc] at hk
       | some v2 =>
        obtain ⟨v,w',q1,q2⟩:=Sc (P:=P) (ty:=o.type) hW h1 h4 hb CF FZ (Ar hE h2 CF) (Ar hE h3 FZ) hk;simp only [resolve,Sem.run_bind,Sem.run_pure,Result.andThen_ok,Go.invoke,builtin,List.map_toArray,List.map_cons,List.map_nil,q1];exact q2
    ·cases hc
   case max =>
    split at hc
    ·rename_i x y ha
     have QE : args=#[x,y]:=by apply Array.ext'; simpa using ha
     subst QE
     cases h2 : cx x <;> cases h3 : cx y <;> simp [h2,h3] at hc
     rename_i x' y'
     subst hc
     obtain ⟨p,r,he,hp,hk⟩:=DV hk;simp only [KI] at he
     cases CF : val σ x' with
     | none=>simp [CF,kX] at he
     | some v1 =>
      cases FZ : val σ y' with
      | none=>cases v1 <;> simp [CF,FZ,kX] at he
      | some v2 =>
       have r1:=Ar hE h2 CF
       have r2:=Ar hE h3 FZ;rw [CF,FZ] at he
       cases v1 <;> cases v2 <;> simp only [kX,reduceCtorEq,Option.some.injEq,Prod.mk.injEq] at he
       rename_i k1 n1 k2 n2
       obtain ⟨rfl,rfl⟩:=he;subst hp
       have e1 : a.eval x=.int k1 n1:=by
        generalize a.eval x=ux at r1
        cases r1; rfl
       have e2 : a.eval y=.int k1 n2:=by
        generalize a.eval y=uy at r2
        cases r2; rfl
       simp [resolve,Go.invoke,builtin,Builtin.max_,Builtin.max2,e1,e2];exact .same hW (.int _ _) (by simpa using hk)
    ·cases hc
   case min =>
    split at hc
    ·rename_i x y ha
     have QE : args=#[x,y]:=by apply Array.ext'; simpa using ha
     subst QE
     cases h2 : cx x <;> cases h3 : cx y <;> simp [h2,h3] at hc
     rename_i x' y'
     subst hc
     obtain ⟨p,r,he,hp,hk⟩:=DV hk;simp only [KI] at he
     cases CF : val σ x' with
     | none=>simp [CF,kX] at he
     | some v1 =>
      cases FZ : val σ y' with
      | none=>cases v1 <;> simp [CF,FZ,kX] at he
      | some v2 =>
       have r1:=Ar hE h2 CF
       have r2:=Ar hE h3 FZ;rw [CF,FZ] at he
       cases v1 <;> cases v2 <;> simp only [kX,reduceCtorEq,Option.some.injEq,Prod.mk.injEq] at he
       rename_i k1 n1 k2 n2
       obtain ⟨rfl,rfl⟩:=he;subst hp
       have e1 : a.eval x=.int k1 n1:=by
        generalize a.eval x=ux at r1
        cases r1; rfl
       have e2 : a.eval y=.int k1 n2:=by
        generalize a.eval y=uy at r2
        cases r2; rfl
       simp [resolve,Go.invoke,builtin,Builtin.min_,Builtin.min2,e1,e2];exact .same hW (.int _ _) (by simpa using hk)
    ·cases hc
end
end Go.AW
namespace Go.AW
open Go.RowKit
inductive Sp where
 | fin (l : List Cu)
 | br (l : List Cu) (ts : Sp)
 | nil
 | alt (h : Cu) (t ts : Sp)
 deriving Inhabited
inductive SC where
 | skip
 | Mb (ops : List Cu)
 | two (pre l l' : List Cu)
 | iW (t : Sp)
 | seq (a b : SC)
 | cond (x : X) (a b : SC)
 | block (id : Nat) (c : SC)
 | loop (l : List Nat) (c : SC)
 | exit (id : Nat)
 | ret
 | Xd (c : SC)
 | B6 (l : List Nat) (c : SC)
 | wk (c : SC)
 | fz (t : Nat) (c : SC)
 | cut (l : List Nat) (a b : SC)
 deriving Inhabited
def SC.strip : SC→SC
 | .seq a b=>.seq a.strip b.strip
 | .cut _ a b=>.seq a.strip b.strip
 | .cond x a b=>.cond x a.strip b.strip
 | .block id c=>.block id c.strip
 | .loop _ c=>.loop [] c.strip
 | .B6 _ c=>c.strip
 | .fz _ c=>c.strip
 | .wk c=>c.strip
 | .Xd c=>.Xd c.strip
 | c=>c
inductive AEx where
 | norm
 | exit (id : Nat)
 | ret
abbrev AQ:=AEx→Env→AB→Prop
def QW (F : Env→AB→Prop) (Q : AQ) : AQ
 | .norm,σ,H=>F σ H
 | e,σ,H=>Q e σ H
def QJ (id : Nat) (Q : AQ) : AQ
 | .exit i,σ,H=>if i=id then Q .norm σ H else Q (.exit i) σ H
 | e,σ,H=>Q e σ H
def Wk (σ : Env) (H : AB) (σ' : Env) (H' : AB) : Prop :=
 ∀ g B w tm,Ao g B H w→Cc g σ tm→∃ g',g.le g'∧Ao g' B H' w∧Cc g' σ' tm
def nO (l : List Nat) (I : Nat→Env→AB→Prop) (n : Nat) (Q : AQ) : AQ
 | .norm,σ,H=>∃ m σ' H',m<n∧I m σ' H'∧Wk (Env.B6 l σ) H σ' H'
 | e,σ,H=>Q e σ H
def mO (l : List Nat) (F : AQ→Env→AB→Prop) (Q : AQ) (σ : Env) (H : AB) : Prop :=
 ∃ (I : Nat→Env→AB→Prop) (n : Nat) (σ0 : Env) (H0 : AB),I n σ0 H0∧Wk σ H σ0 H0∧∀ n σ H,I n σ H→F (nO l I n Q) σ H
def O4 (o : Option AV) (A C : Env→AB→Prop) (σ : Env) (H : AB) : Prop :=
 match o with
 | some (.bool b)=>(b=true→At A σ H)∧(b=false→At C σ H)
 | _=>False
def Gj (F : Env→AB→Prop) (σ : Env) (H : AB) : Prop:=∃ σ' H',Wk σ H σ' H'∧F σ' H'
def au (l : List Nat) (M : Env→AB→Prop) (Q : AQ) : AQ
 | .norm,σ,H=>Gj M (Env.B6 l σ) H
 | e,σ,H=>Q e σ H
def cutW (l : List Nat) (F : AQ→Env→AB→Prop) (G : Env→AB→Prop) (Q : AQ) (σ : Env) (H : AB) : Prop :=
 ∃ M : Env→AB→Prop,F (au l M Q) σ H∧∀ σ' H',M σ' H'→G σ' H'
def YC (t id n : Nat) (F : Env→AB→Prop) (σ : Env) (H : AB) : Option AF→Prop
 | some (.cells sz cs _)=>(cs.length=n*sz∧0<sz∧∀ c,c∈cs→c.one=true)∧F (σ.put t (.sl (chunk sz n cs))) (H.set id (.cells sz cs cs.length))
 | _=>False
def dM (t : Nat) (F : Env→AB→Prop) (σ : Env) (H : AB) : Option AV→Prop
 | some (.buf id n)=>YC t id n F σ H (H.get id)
 | some .A1=>F (σ.put t (.sl [])) H
 | _=>F σ H
def Nf (P : Program) (B : Nat) : Sp→(Env→AB→Prop)→Env→AB→Prop
 | .fin l,F,σ,H=>C9 P B l F σ H
 | .br l ts,F,σ,H=>C9 P B l (Nf P B ts F) σ H
 | .nil,_,_,_=>True
 | .alt h t ts,F,σ,H=>C9 P B [h] (Nf P B t F) σ H∧Nf P B ts F σ H
def FW (P : Program) (B : Nat) : SC→AQ→Env→AB→Prop
 | .skip,Q,σ,H=>Q .norm σ H
 | .Mb ops,Q,σ,H=>C9 P B ops (Q .norm) σ H
 | .two p l l',Q,σ,H=>C9 P B p (fun σ H=>C9 P B l (Q .norm) σ H∧C9 P B l' (Q .norm) σ H) σ H
 | .iW t,Q,σ,H=>Nf P B t (Q .norm) σ H
 | .seq a b,Q,σ,H=>FW P B a (QW (FW P B b Q) Q) σ H
 | .cond x a b,Q,σ,H=>O4 (val σ x) (FW P B a Q) (FW P B b Q) σ H
 | .block id c,Q,σ,H=>FW P B c (QJ id Q) σ H
 | .loop l c,Q,σ,H=>mO l (FW P B c) Q (Env.B6 l σ) H
 | .exit id,Q,σ,H=>Q (.exit id) σ H
 | .ret,Q,σ,H=>Q .ret σ H
 | .Xd c,Q,σ,H=>FW P B c Q σ H
 | .B6 l c,Q,σ,H=>FW P B c Q (Env.B6 l σ) H
 | .wk c,Q,σ,H=>Gj (FW P B c Q) σ H
 | .cut l a b,Q,σ,H=>cutW l (FW P B a) (FW P B b Q) Q σ H
 | .fz t c,Q,σ,H=>dM t (FW P B c Q) σ H (σ.get t)
abbrev Hints:=List (Nat × List Nat × List Nat)
def JE : Option Cu→Option (List Cu)→Option (List Cu)
 | some a,some r=>some (a::r)
 | _,_=>none
def Be (P : Program) (N : Nat) (ops : Array Oper) (hs : List Nat) : List Nat→Option (List Cu)
 | []=>some []
 | i::r=>match ops[i]? with
  | some o=>JE (E8 P N ops (hs.getD i 0) o) (Be P N ops hs r)
  | none=>none
def qt (f : SC→SC→SC) : Option SC→Option SC→Option SC
 | some a,some b=>some (f a b)
 | _,_=>none
section
variable {P : Program} {B : Nat}
def GJ (F : Env→AB→Prop) (g : Gh) (B : Nat) (w0 : World) (N : Nat) (df : List Deferred) (a : Act) (w : World) : Prop :=
 ∃ g' σ' H',g.le g'∧F σ' H'∧Ao g' B H' w∧Cc g' σ' a.tmps∧Below B w0 w∧a.tmps.size=N∧a.defers=df
def Im (Q : AQ) (g : Gh) (B : Nat) (w0 : World) (N : Nat) (df : List Deferred) : Exit→Act→World→Prop
 | .normal=>GJ (Q .norm) g B w0 N df
 | .exit id=>GJ (Q (.exit id)) g B w0 N df
 | .ret=>GJ (Q .ret) g B w0 N df
 | _=>fun _ _=>False
theorem GJ.from {F : Env→AB→Prop} {g g1 : Gh} {w0 w1 : World} {N : Nat} {df : List Deferred} {a : Act} {w : World} (hg : g.le g1) (hb : Below B w0 w1) (h : GJ F g1 B w1 N df a w) : GJ F g B w0 N df a w:=by
 obtain ⟨g',σ',H',h1,h2,h3,h4,h5,h6⟩:=h;exact ⟨g',σ',H',hg.trans h1,h2,h3,h4,hb.trans h5,h6⟩
theorem Im.from {Q : AQ} {g g1 : Gh} {w0 w1 : World} {N : Nat} {df : List Deferred} {e : Exit} {a : Act} {w : World} (hg : g.le g1) (hb : Below B w0 w1) (h : Im Q g1 B w1 N df e a w) : Im Q g B w0 N df e a w:=by
 cases e <;> first | exact GJ.from hg hb h | exact h
theorem DL (a : Act) (d : Option Nat) (v : Value) : (a.put d v).tmps.size=a.tmps.size:=by
 cases d <;> simp [Act.put]
theorem put_defers (a : Act) (d : Option Nat) (v : Value) : (a.put d v).defers=a.defers:=by
 cases d <;> rfl
theorem R7 {g : Gh} {w : World} {K : Am} {o : Oper} {a : Act} {next : Act→World→Prop} {Q : Exit→Act→World→Prop} {r : Result Next} (h : Fits P g B w K r)
  (hn : ∀ v w',Dk g B w K v w'→next (a.put o.dst v) w') : o.upon P a next Q r:=by
 cases r with
 | halt h' w'=>exact h.elim
 | ok n w' =>
  cases n <;> first | exact h.elim | skip
  ·exact hn _ _ h
  ·exact hn _ _ h
  ·obtain ⟨rfl,hc⟩:=h;exact hc.mono fun e w'' ⟨v,he,hf⟩=>by subst he; exact hn _ _ hf
theorem G2 {N : Nat} {ops : Array Oper} {hs : List Nat} {df : List Deferred} : ∀ (l : List Nat) (sops : List Cu),Be P N ops hs l=some sops →
  ∀ (F : Env→AB→Prop) (g : Gh) (H : AB) (w : World) (σ : Env) (a : Act) (Q : Exit→Act→World→Prop),Ao g B H w→Cc g σ a.tmps→a.tmps.size=N→a.defers=df →
   C9 P B sops F σ H→(∀ a' w',GJ F g B w N df a' w'→Q .normal a' w')→wpOps P ops Q l a w
 | [],sops,hc=>by
  intro F g H w σ a Q hW hE hN hd hk hq
  cases hc;exact hq _ _ ⟨g,σ,H,.refl g,hk,hW,hE,.refl B w,hN,hd⟩
 | i::r,sops,hc=>by
  intro F g H w σ a Q hW hE hN hd hk hq;unfold Be at hc
  cases ho : ops[i]? with
  | none=>simp [ho] at hc
  | some o =>
   simp only [ho] at hc
   cases Rf : E8 P N ops (hs.getD i 0) o with
   | none=>simp only [Rf,JE,reduceCtorEq] at hc
   | some so =>
    cases TH : Be P N ops hs r with
    | none=>simp only [Rf,TH,JE,reduceCtorEq] at hc
    | some sr =>
     simp only [Rf,TH,JE,Option.some.injEq] at hc;subst hc;unfold E8 at Rf
     cases Km : Dz P (hs.getD i 0) o.op with
     | none=>simp only [Km,reduceCtorEq] at Rf
     | some ins =>
      cases hg : El ops o.guard with
      | none=>simp only [Km,hg,reduceCtorEq] at Rf
      | some gd =>
       simp only [Km,hg] at Rf
       split at Rf
       ·rename_i aK
        cases Rf
        have ih:=G2 (df:=df) r sr TH
        have jH : Dx P B (DN o.dst (C9 P B sr F) σ) σ H ins→o.wp P a w (wpOps P ops Q r) Q:=by
         intro Nl
         have hf:=UA (a:=a) Km hW hE Nl;refine R7 hf fun v w' hfv=>?_
         obtain ⟨g',rv,H',h1,h2,h3,h4,h5⟩:=hfv
         cases Mj : o.dst with
         | none =>
          rw [Mj] at h2;exact ih _ _ _ _ _ _ _ h4 (hE.mono h1) hN hd h2 fun a' w'' hp=>hq _ _ (hp.from h1 h5)
         | some d =>
          rw [Mj] at h2 aK;simp only [PW,Bool.and_eq_true,decide_eq_true_eq] at aK
          have D1 : d<a.tmps.size:=by rw [hN]; exact aK.1
          refine ih _ _ _ _ _ (a.put (some d) v) _ h4 ((hE.mono h1).put D1 h3) (by rw [DL]; exact hN) hd h2 fun a' w'' hp=>hq _ _ (hp.from h1 h5)
        have Re : C9 P B sr F (IL o.dst σ) H→wpOps P ops Q r (a.put o.dst undef) w:=by
         intro Nl
         cases Mj : o.dst with
         | none=>rw [Mj] at Nl; exact ih _ _ _ _ _ _ _ hW hE hN hd Nl hq
         | some d =>
          rw [Mj] at Nl;rw [Mj] at aK;simp only [PW,Bool.and_eq_true,decide_eq_true_eq] at aK
          have D1 : d<a.tmps.size:=by rw [hN]; exact aK.1
          exact ih _ _ _ _ _ (a.put (some d) undef) _ hW (hE.put D1 (.CG [] #[] rfl (fun i hi=>by simp at hi))) (by rw [DL]; exact hN) hd Nl hq
        simp only [wpOps,ho]
        cases Ve : o.guard with
        | none =>
         rw [Ve] at hg
         simp [El] at hg;subst hg;simp only [C9,Fb] at hk;simp only [Region.wanted,Ve,if_true];exact .inl (jH hk)
        | some jb =>
         obtain ⟨j,b⟩:=jb;rw [Ve] at hg;simp only [El] at hg
         cases hj : (ops[j]?).bind (·.dst) with
         | none=>simp [hj] at hg
         | some t =>
          simp only [hj,Option.some.injEq] at hg;subst hg;simp only [C9] at hk
          cases Cj : σ.get t with
          | none=>simp [Cj,iQ] at hk
          | some tv =>
           obtain ⟨D1,Mg⟩:=hE t tv Cj;rw [Cj] at hk
           by_cases nS : ∃ cs,tv=.CG cs
           ·obtain ⟨cs,rfl⟩:=nS;simp only [iQ,At,fg] at hk
            have hy : yielded ops a.tmps j=none:=by
             unfold yielded;rw [hj]
             have e:=getD_some D1
             generalize a.tmps.getD t undef=u at Mg e
             cases Mg
             simp [e]
            simp only [Region.wanted,Ve,hy];exact Re hk
           cases tv <;> try (simp [iQ] at hk; done)
           rotate_left
           ·exact absurd ⟨_,rfl⟩ nS
           rename_i c
           simp only [iQ,At,Fb,fg] at hk
           have hy : yielded ops a.tmps j=some c:=by
            unfold yielded;rw [hj]
            have : a.tmps[t]? = some (.bool c):=by
             have e:=getD_some D1;rw [e]
             generalize a.tmps.getD t undef=u at Mg
             cases Mg; rfl
            simp [this]
           simp only [Region.wanted,Ve,hy]
           by_cases hcb : c=b
           ·subst hcb;simp only [beq_self_eq_true,if_true];exact .inl (jH (hk.1 rfl))
           ·have Bp : (some c == some b)=false:=by simpa using hcb
            rw [Bp];simp only [Bool.false_eq_true,if_false];exact Re (hk.2 (by cases c <;> cases b <;> simp_all))
       ·cases Rf
end
end Go.AW
namespace Go.AW
open Go.RowKit
def cls : Ins→Nat
 | .ld .. | .jD .. | .bE ..=>1
 | .st .. | .TD .. | .TI .. | .lV .. | .app .. | .l8 .. | .nR | .gH .. | .call .. | .Lr .. | .Ll .. | .inv .. | .iV .. | .oE ..=>2
 | _=>0
def keeps : Ins→Bool
 | .TD .. | .TI .. | .lV .. | .l8 .. | .nR | .Lr ..=>true
 | _=>false
def mV (z : Nat) : Ins→Bool
 | .app s ..=>s != z
 | .Ll y ..=>y != z
 | i=>keeps i
def pj : Ins→Option Nat
 | .jD z ..=>some z
 | _=>none
def kp (i i' : Ins) : Bool:=keeps i' || (match pj i with | some z=>mV z i' | none=>false)
def Rw : X→List Nat
 | .t n=>[n]
 | .c _=>[]
def Wh : List X→List Nat
 | []=>[]
 | x::r=>Rw x++Wh r
def dO : List (Nat × Nat × X)→List Nat
 | []=>[]
 | (_,_,x)::r=>Rw x++dO r
def qa : Option X→List Nat
 | some x=>Rw x
 | none=>[]
def Gx : Ins→List Nat
 | .mv a | .nt a | .conv _ a | .len a | .oL _ _ a | .v8 _ a | .n0 a | .prt _ _ a | .ext a _ | .oA _ a | .aM _ a | .wR a | .ld _ a | .jD _ _ a | .TI _ a | .iV _ a | .oE _ a=>Rw a
 | .n5 _ a lo hi=>Rw a++(qa lo++qa hi)
 | .pick a b c=>Rw a++(Rw b++Rw c)
 | .ar _ _ a b | .aq _ _ a b | .idx _ a b | .mx _ a b | .st _ a b | .app _ _ a b | .l8 _ _ a b | .bE _ _ _ a b=>Rw a++Rw b
 | .rU _ ps=>dO ps
 | .tM _ l | .aS _ l | .TD _ l=>Wh l
 | .N8 f l | .call f l | .Lr f l | .Ll _ f l=>Rw f++Wh l
 | .gH _ a b c=>Rw a++(Rw b++Rw c)
 | .inv a _ l=>Rw a++Wh l
 | .lV _ | .nR | .emp=>[]
def looks (s : Cu) : List Nat:=(match s.g with | some (t,_)=>[t] | none=>[])++Gx s.i
section
variable {P : Program} {B : Nat} {σ σ' : Env} {H : AB} {K : Am}
theorem val_congr {x : X} (h : ∀ t,t∈Rw x→σ.get t=σ'.get t) : val σ x=val σ' x:=by
 cases x with
 | t n=>exact h n (by simp [Rw])
 | c v=>rfl
theorem D4 : ∀ {l : List X},(∀ t,t∈Wh l→σ.get t=σ'.get t)→D9 σ l=D9 σ' l
 | [],_=>rfl
 | x::r,h=>by
  simp only [D9];rw [val_congr fun t ht=>h t (by simp [Wh,ht]),D4 fun t ht=>h t (by simp [Wh,ht])]
theorem RD : ∀ {l : List (Nat × Nat × X)} {cs : List AV},(∀ t,t∈dO l→σ.get t=σ'.get t)→J6 σ l cs=J6 σ' l cs
 | [],_,_=>rfl
 | (o,n,x)::r,cs,h=>by
  simp only [J6];rw [val_congr fun t ht=>h t (by simp [dO,ht])]
  have : J6 σ r=J6 σ' r:=funext fun cs=>RD fun t ht=>h t (by simp [dO,ht]);rw [this]
theorem Yy {i : Ins} (h : ∀ t,t∈Gx i→σ.get t=σ'.get t) : Dx P B K σ H i=Dx P B K σ' H i:=by
 cases i <;> simp only [Dx,KI]
 case mv a=>rw [val_congr h]
 case pick a b c =>
  rw [val_congr fun t ht=>h t (by simp [Gx,ht]),val_congr (x:=b) fun t ht=>h t (by simp [Gx,ht]),val_congr (x:=c) fun t ht=>h t (by simp [Gx,ht])]
 case ar o k a b=>rw [val_congr fun t ht=>h t (by simp [Gx,ht]),val_congr (x:=b) fun t ht=>h t (by simp [Gx,ht])]
 case aq o n a b=>rw [val_congr fun t ht=>h t (by simp [Gx,ht]),val_congr (x:=b) fun t ht=>h t (by simp [Gx,ht])]
 case nt a=>rw [val_congr h]
 case conv k a=>rw [val_congr h]
 case len a=>rw [val_congr h]
 case idx n a b=>rw [val_congr fun t ht=>h t (by simp [Gx,ht]),val_congr (x:=b) fun t ht=>h t (by simp [Gx,ht])]
 case oL o n a=>rw [val_congr h]
 case v8 n a=>rw [val_congr h]
 case n0 a=>rw [val_congr h]
 case rU z ps=>rw [RD h]
 case prt o n a=>rw [val_congr h]
 case ext a n=>rw [val_congr h]
 case n5 n a lo hi =>
  have ho : ∀ (o : Option X),(∀ t,t∈qa o→σ.get t=σ'.get t)→o.map (val σ)=o.map (val σ'):=fun o q=>by
   cases o with
   | none=>rfl
   | some x=>exact congrArg some (val_congr q)
  rw [val_congr (x:=a) fun t ht=>h t (by simp [Gx,ht]),ho lo fun t ht=>h t (by simp [Gx,ht]),ho hi fun t ht=>h t (by simp [Gx,ht])]
 case tM f l=>rw [D4 h]
 case oA t a=>rw [val_congr h]
 case aS n l=>rw [D4 h]
 case aM n a=>rw [val_congr h]
 case N8 f l=>rw [val_congr fun t ht=>h t (by simp [Gx,ht]),D4 fun t ht=>h t (by simp [Gx,ht])]
 case mx o a b=>rw [val_congr fun t ht=>h t (by simp [Gx,ht]),val_congr (x:=b) fun t ht=>h t (by simp [Gx,ht])]
 case wR a=>rw [val_congr h]
 case ld n a=>rw [val_congr h]
 case jD z n a=>rw [val_congr h]
 case st n a b=>rw [val_congr fun t ht=>h t (by simp [Gx,ht]),val_congr (x:=b) fun t ht=>h t (by simp [Gx,ht])]
 case TD n l=>rw [D4 h]
 case TI n a=>rw [val_congr h]
 case app s b x y=>rw [val_congr fun t ht=>h t (by simp [Gx,ht]),val_congr (x:=y) fun t ht=>h t (by simp [Gx,ht])]
 case l8 s z x y=>rw [val_congr fun t ht=>h t (by simp [Gx,ht]),val_congr (x:=y) fun t ht=>h t (by simp [Gx,ht])]
 case bE s o z x y=>rw [val_congr fun t ht=>h t (by simp [Gx,ht]),val_congr (x:=y) fun t ht=>h t (by simp [Gx,ht])]
 case gH s a b c =>
  rw [val_congr fun t ht=>h t (by simp [Gx,ht]),val_congr (x:=b) fun t ht=>h t (by simp [Gx,ht]),val_congr (x:=c) fun t ht=>h t (by simp [Gx,ht])]
 case call f l=>rw [val_congr fun t ht=>h t (by simp [Gx,ht]),D4 fun t ht=>h t (by simp [Gx,ht])]
 case Lr f l=>rw [val_congr fun t ht=>h t (by simp [Gx,ht]),D4 fun t ht=>h t (by simp [Gx,ht])]
 case Ll z f l=>rw [val_congr fun t ht=>h t (by simp [Gx,ht]),D4 fun t ht=>h t (by simp [Gx,ht])]
 case inv a n l=>rw [val_congr fun t ht=>h t (by simp [Gx,ht]),D4 fun t ht=>h t (by simp [Gx,ht])]
 case iV b a=>rw [val_congr h]
 case oE b a=>rw [val_congr h]
theorem det {i : Ins} (hc : cls i<2) (h : Dx P B K σ H i) : ∃ r,Dx P B (fun r' H'=>r'=r∧H'=H) σ H i∧K r H:=by
 have pv : ∀ (e : PV),pW e K H→∃ r,pW e (fun r' H'=>r'=r∧H'=H) H∧K r H:=by
  intro e he
  obtain ⟨p,r,rfl,hp,hk⟩:=DV he;exact ⟨r,⟨hp,rfl,rfl⟩,hk⟩
 cases i <;> simp only [cls] at hc <;> try omega
 case ld n x =>
  simp only [Dx] at h ⊢
  cases hv : val σ x with
  | none=>rw [hv] at h; unfold WU at h ⊢; exact pv _ h
  | some v =>
   rw [hv] at h
   cases v <;> try (unfold WU at h ⊢; exact pv _ h)
   rename_i id off
   simp only [WU] at h ⊢
   cases ho : H.get id with
   | none=>rw [ho] at h; cases n <;> exact h.elim
   | some o =>
    rw [ho] at h
    cases o with
    | map _ _=>cases n <;> exact h.elim
    | cells sz cs f=>cases n <;> exact ⟨_,⟨h.1,rfl,rfl⟩,h.2⟩
 case jD z n x =>
  simp only [Dx] at h ⊢
  cases hv : val σ x with
  | none=>rw [hv] at h; exact h.elim
  | some v =>
   rw [hv] at h
   cases v <;> try exact h.elim
   rename_i id off
   simp only [Zj] at h ⊢
   obtain ⟨⟨cs,f,ho⟩,h⟩:=h;rw [ho] at h ⊢
   cases n <;> exact ⟨_,⟨⟨cs,f,rfl⟩,h.1,rfl,rfl⟩,h.2⟩
 case bE s ok z m k =>
  simp only [Dx] at h ⊢
  cases hm : val σ m with
  | none=>rw [hm] at h; exact h.elim
  | some mv =>
   cases hk : val σ k with
   | none=>rw [hm,hk] at h; cases mv <;> exact h.elim
   | some kv =>
    rw [hm,hk] at h
    cases mv <;> try exact h.elim
    ·exact ⟨_,⟨h.1,rfl,rfl⟩,h.2⟩
    ·rename_i id
     simp only [Zk] at h ⊢
     cases ho : H.get id with
     | none=>rw [ho] at h; exact h.elim
     | some o =>
      rw [ho] at h
      cases o with
      | cells _ _ _=>exact h.elim
      | map _ _=>exact ⟨_,⟨h.1,rfl,rfl⟩,h.2⟩
 case N8 f l =>
  obtain ⟨r,h1,h2⟩:=h;exact ⟨r,⟨r,h1,rfl,rfl⟩,h2⟩
 case emp=>exact pv (some (True,.FG)) h
 all_goals exact pv _ h
theorem AB.sub.Qf {H H' : AB} (h : H.sub H') (z : Nat) : H.Qf z H':=fun i cs f e=>h i _ e
def Kp (i : Ins) (H H' : AB) : Prop:=(keeps i=true→H.sub H')∧∀ z,mV z i=true→H.Qf z H'
theorem V5 {i : Ins} (h : Dx P B K σ H i) : Dx P B (fun r H'=>Kp i H H'∧K r H') σ H i:=by
 by_cases hk : keeps i=true
 ·have hq : ∀ (i : Ins),keeps i=true→Dx P B K σ H i→∀ (K' : Am),(∀ r H',H.sub H'→K r H'→K' r H')→Dx P B K' σ H i:=by
   intro i hk h K' hK
   have nb : ∀ n sz cs,Ef n sz cs K H→Ef n sz cs K' H:=fun n sz cs h id hn=>hK _ _ (AB.C7 _ hn (.refl H)) (h id hn)
   have nr : ∀ sz cs,HF sz cs K H→HF sz cs K' H:=fun sz cs h id hn=>hK _ _ (AB.C7 _ hn (.refl H)) (h id hn)
   cases i <;> simp only [keeps,Bool.false_eq_true] at hk
   case TD n l =>
    simp only [Dx] at h ⊢
    cases hv : D9 σ l with
    | none=>rw [hv] at h; exact h.elim
    | some as=>rw [hv] at h; exact ⟨h.1,nb _ _ _ h.2⟩
   case TI n x =>
    simp only [Dx] at h ⊢
    cases hv : val σ x with
    | none=>rw [hv] at h; exact h.elim
    | some a=>rw [hv] at h; exact ⟨h.1,nr _ _ h.2⟩
   case lV z=>exact ⟨h.1,nr _ _ h.2⟩
   case l8 s z l c =>
    simp only [Dx] at h ⊢
    cases h1 : val σ l with
    | none=>rw [h1] at h; exact h.elim
    | some a =>
     cases h2 : val σ c with
     | none=>rw [h1,h2] at h; cases a <;> exact h.elim
     | some b =>
      rw [h1,h2] at h
      cases a <;> cases b <;> first | exact h.elim | exact ⟨h.1,nb _ _ _ h.2⟩
   case nR=>exact fun id hn=>hK _ _ (AB.C7 _ hn (.refl H)) (h id hn)
   case Lr f l =>
    simp only [Dx] at h ⊢
    generalize val σ f=a at h ⊢
    generalize D9 σ l=b at h ⊢
    rcases a with _ | a
    ·exact h.elim
    ·cases a <;> try exact h.elim
     rename_i fn ca
     cases fn <;> try exact h.elim
     rcases b with _ | b
     ·exact h.elim
     ·exact B7.mono (show B7 P B _ (b++ca) H _ from h) fun r H' q=>⟨q.1,hK r H' q.1 q.2⟩
  exact hq i hk h _ fun r H' hs Lu=>⟨⟨fun _=>hs,fun z _=>hs.Qf z⟩,Lu⟩
 ·have triv : (∀ z,mV z i=false)→∀ H',Kp i H H':=fun hz H'=>⟨fun e=>absurd e hk,fun z e=>by rw [hz z] at e; cases e⟩
  have gen : (∀ z,mV z i=false)→Dx P B (fun r H'=>Kp i H H'∧K r H') σ H i:=fun hz=>by
   have : (fun r H'=>Kp i H H'∧K r H')=K:=funext fun r=>funext fun H'=>propext ⟨fun q=>q.2,fun q=>⟨triv hz H',q⟩⟩;rw [this]; exact h
  have other : (∀ z,mV z i=keeps i)→Dx P B (fun r H'=>Kp i H H'∧K r H') σ H i:=fun e=>gen fun z=>by rw [e z]; simpa using hk
  cases i <;> try exact other fun z=>rfl
  case app s b x y =>
   simp only [Dx] at h ⊢
   have ju : ∀ {id : Nat} {o : AF},H.get id=none→Kp (.app s b x y) H (H.set id o):=fun hn=>⟨fun e=>by simp [keeps] at e,fun z _=>(AB.C7 _ hn (.refl H)).Qf z⟩
   generalize val σ x=va at h ⊢
   generalize val σ y=xv at h ⊢
   rcases va with _ | va
   ·exact h.elim
   cases va <;> try exact h.elim
   case A1 =>
    simp only [DW] at h ⊢
    cases Ew : Ct s xv H with
    | none=>rw [Ew] at h; exact h.elim
    | some q =>
     obtain ⟨p,m,new⟩:=q;rw [Ew] at h;exact ⟨h.1,fun id hn=>⟨ju hn,h.2 id hn⟩⟩
   case FG =>
    simp only [DW] at h ⊢
    cases Ew : Ct s xv H with
    | none=>rw [Ew] at h; exact h.elim
    | some q =>
     obtain ⟨p,m,new⟩:=q;rw [Ew] at h;exact ⟨h.1,fun id hn=>⟨ju hn,h.2 id hn⟩⟩
   case buf id n =>
    simp only [DW] at h ⊢
    cases hg : H.get id with
    | none=>rw [hg] at h; simp [Gc] at h
    | some o =>
     cases o with
     | map ks vs=>rw [hg] at h; simp [Gc] at h
     | cells sz' cs f =>
      rw [hg] at h
      cases Ew : Ct s xv H with
      | none=>rw [Ew] at h; simp [Gc] at h
      | some q =>
       obtain ⟨p,m,new⟩:=q;rw [Ew] at h;simp only [Gc] at h ⊢;refine ⟨h.1,fun CT hn=>⟨⟨fun e=>by simp [keeps] at e,fun z hz j cs' f' e=>?_⟩,h.2 CT hn⟩⟩
       have CU:=h.1.1;simp only [mV,bne_iff_ne,ne_eq] at hz
       have h1 : j≠id:=by
        rintro rfl; rw [hg] at e; cases e; exact hz CU.symm
       have h2 : j≠CT:=by
        rintro rfl; rw [hn] at e; cases e
       rw [AB.B1 _ _ h2,AB.C3 _ h1]; exact e
  case Ll y f l =>
   simp only [Dx] at h ⊢
   generalize val σ f=a at h ⊢
   generalize D9 σ l=b at h ⊢
   rcases a with _ | a
   ·exact h.elim
   ·cases a <;> try exact h.elim
    rename_i fn ca
    cases fn <;> try exact h.elim
    rcases b with _ | b
    ·exact h.elim
    ·exact B7.mono (show B7 P B _ (b++ca) H _ from h) fun r H' q=>⟨q.1,⟨fun e=>by simp [keeps] at e,fun z hz=>q.1 z (by simp only [mV,bne_iff_ne,ne_eq] at hz; exact fun e=>hz e.symm)⟩,q.2⟩
theorem bQ {i : Ins} (hc : cls i=0) {r : AV} {H H' : AB} (h : Dx P B (fun r' H''=>r'=r∧H''=H) σ H i) : Dx P B (fun r' H''=>r'=r∧H''=H') σ H' i:=by
 have pv : ∀ (e : PV),pW e (fun r' H''=>r'=r∧H''=H) H→pW e (fun r' H''=>r'=r∧H''=H') H':=by
  intro e he
  obtain ⟨p,r',rfl,hp,hk,-⟩:=DV he;exact ⟨hp,hk,rfl⟩
 cases i <;> simp only [cls] at hc <;> try omega
 case N8 f l =>
  obtain ⟨r',h1,h2,-⟩:=h;exact ⟨r',h1,h2,rfl⟩
 case emp=>exact pv (some (True,.FG)) h
 all_goals exact pv _ h
theorem eU {i : Ins} (hc : cls i<2) {r : AV} {H H' : AB} (hs : H.sub H') (h : Dx P B (fun r' H''=>r'=r∧H''=H) σ H i) : Dx P B (fun r' H''=>r'=r∧H''=H') σ H' i:=by
 by_cases h0 : cls i=0
 ·exact bQ h0 h
 ·have pv : ∀ (e : PV),pW e (fun r' H''=>r'=r∧H''=H) H→pW e (fun r' H''=>r'=r∧H''=H') H':=by
   intro e he
   obtain ⟨p,r',rfl,hp,hk,-⟩:=DV he;exact ⟨hp,hk,rfl⟩
  cases i <;> simp only [cls] at hc h0 <;> try (first | omega | exact absurd trivial h0)
  case ld n x =>
   simp only [Dx] at h ⊢
   cases hv : val σ x with
   | none=>rw [hv] at h; unfold WU at h ⊢; exact pv _ h
   | some v =>
    rw [hv] at h
    cases v <;> try (unfold WU at h ⊢; exact pv _ h)
    rename_i id off
    simp only [WU] at h ⊢
    cases ho : H.get id with
    | none=>rw [ho] at h; cases n <;> exact h.elim
    | some o =>
     rw [ho] at h;rw [hs _ _ ho]
     cases o with
     | map _ _=>cases n <;> exact h.elim
     | cells sz cs f=>cases n <;> exact ⟨h.1,h.2.1,rfl⟩
  case jD z n x =>
   simp only [Dx] at h ⊢
   cases hv : val σ x with
   | none=>rw [hv] at h; exact h.elim
   | some v =>
    rw [hv] at h
    cases v <;> try exact h.elim
    rename_i id off
    simp only [Zj] at h ⊢
    obtain ⟨⟨cs,f,ho⟩,h⟩:=h;rw [ho] at h;rw [hs _ _ ho]
    cases n <;> exact ⟨⟨cs,f,rfl⟩,h.1,h.2.1,rfl⟩
  case bE s ok z m k =>
   simp only [Dx] at h ⊢
   cases hm : val σ m with
   | none=>rw [hm] at h; exact h.elim
   | some mv =>
    cases hk : val σ k with
    | none=>rw [hm,hk] at h; cases mv <;> exact h.elim
    | some kv =>
     rw [hm,hk] at h
     cases mv <;> try exact h.elim
     ·exact ⟨h.1,h.2.1,rfl⟩
     ·rename_i id
      simp only [Zk] at h ⊢
      cases ho : H.get id with
      | none=>rw [ho] at h; exact h.elim
      | some o =>
       rw [ho] at h;rw [hs _ _ ho]
       cases o with
       | cells _ _ _=>exact h.elim
       | map _ _=>exact ⟨h.1,h.2.1,rfl⟩
theorem zB {i : Ins} {z : Nat} (hz : pj i=some z) {r : AV} {H H' : AB} (hs : H.Qf z H') (h : Dx P B (fun r' H''=>r'=r∧H''=H) σ H i) : Dx P B (fun r' H''=>r'=r∧H''=H') σ H' i:=by
 cases i <;> simp only [pj,reduceCtorEq] at hz
 rename_i z' n x
 cases hz;simp only [Dx] at h ⊢
 cases hv : val σ x with
 | none=>rw [hv] at h; exact h.elim
 | some v =>
  rw [hv] at h
  cases v <;> try exact h.elim
  rename_i id off
  simp only [Zj] at h ⊢
  obtain ⟨⟨cs,f,ho⟩,h⟩:=h;rw [ho] at h;rw [hs _ _ _ ho]
  cases n <;> exact ⟨⟨cs,f,rfl⟩,h.1,h.2.1,rfl⟩
theorem qC {i i' : Ins} (hc : cls i<2) (hk : kp i i'=true) {r : AV} {H H' : AB} (hs : Kp i' H H') (h : Dx P B (fun r' H''=>r'=r∧H''=H) σ H i) : Dx P B (fun r' H''=>r'=r∧H''=H') σ H' i:=by
 simp only [kp,Bool.or_eq_true] at hk
 rcases hk with hk | hk
 ·exact eU hc (hs.1 hk) h
 ·cases hz : pj i with
  | none=>rw [hz] at hk; cases hk
  | some z=>rw [hz] at hk; exact zB hz (hs.2 z hk) h
end
def Cl (ops : Array Oper) (i : Nat) : List Nat :=
 match ops[i]? with
 | some o=>(o.after.toList.filter (Region.binds .any ·)).map (·.on)
 | none=>[]
def Vk (ops : Array Oper) : Nat→Nat→List (List Nat)→List (List Nat)
 | 0,_,acc=>acc
 | n+1,i,acc=>Vk ops n (i+1) (acc++[((Cl ops i).flatMap fun j=>j::acc.getD j []).eraseDups])
def UC (ops : Array Oper) : List Nat→List Nat→Bool
 | _,[]=>true
 | done,i::r=>(Cl ops i).all (done.contains ·) && UC ops (i::done) r
def iT (s : Cu) : List Nat:=match s.d with | some d=>[d] | none=>[]
def KN (s s' : Cu) : Bool :=
 cls s.i == 2 || (cls s.i == 1 && (cls s'.i == 2 && !kp s.i s'.i)) || (iT s).any ((looks s').contains ·) || (iT s').any ((looks s).contains ·)
def MW (cl : List (List Nat)) (i : Nat) (s : Cu) (j : Nat) (s' : Cu) : Bool :=
 (i != j) && !((iT s).any ((iT s').contains ·)) && (!KN s s' || (cl.getD j []).contains i)
def Xi (cl : List (List Nat)) : List Nat→List Cu→Bool
 | i::r,s::rs=>((r.zip rs).all fun x=>MW cl i s x.1 x.2) && Xi cl r rs
 | _,_=>true
def SN (ops : Array Oper) (sops : List Cu) (perm : List Nat) : Bool :=
 perm.length == ops.size && perm.all (fun i=>decide (i<ops.size)) && (List.range ops.size).all (perm.contains ·) && UC ops [] perm && Xi (Vk ops ops.size 0 []) perm sops
end Go.AW
namespace Go.AW
open Go.RowKit
def Fl (D : Array Bool) (i : Nat) : Prop:=D.getD i true=true
def Down (ops : Array Oper) (D : Array Bool) : Prop:=∀ i,i<ops.size→Fl D i→∀ j,j∈Cl ops i→Fl D j
theorem G5 {ops : Array Oper} {D : Array Bool} (hs : D.size=ops.size) {i : Nat} : i∈Region.ready .any ops D↔i<ops.size∧¬ Fl D i∧∀ j,j∈Cl ops i→D.getD j false=true:=by
 simp only [Region.ready,List.mem_filter,List.mem_range,Bool.and_eq_true,Bool.not_eq_true',Fl]
 constructor
 ·rintro ⟨h1,h2,h3⟩;refine ⟨h1,by simp [h2],fun j hj=>?_⟩;unfold Cl at hj
  cases ho : ops[i]? with
  | none=>simp [ho] at hj
  | some o =>
   simp only [ho,List.mem_map,List.mem_filter] at hj
   obtain ⟨e,⟨iU,jJ⟩,rfl⟩:=hj;simp only [ho,Option.map_some,Option.getD_some,Array.all_eq_true_iff_forall_mem] at h3
   have:=h3 e (by simpa using iU);rw [jJ] at this
   simpa using this
 ·rintro ⟨h1,h2,h3⟩;refine ⟨h1,by simpa using h2, ?_⟩
  have ho : ops[i]? = some ops[i]:=by simp [h1]
  simp only [ho,Option.map_some,Option.getD_some,Array.all_eq_true_iff_forall_mem]
  intro e he
  cases hb : Region.binds .any e with
  | false=>simp
  | true =>
   have:=h3 e.on (by
    unfold Cl;rw [ho];simp only [List.mem_map,List.mem_filter];exact ⟨e,⟨by simpa using he,hb⟩,rfl⟩)
   simpa using this
theorem G8 {ops : Array Oper} {D : Array Bool} (hd : Down ops D) : ∀ (n i : Nat) (acc : List (List Nat)),acc.length=i →
  (∀ k,k<i→∀ j,j∈acc.getD k []→(∀ e,e∈Cl ops k→Fl D e)→Fl D j) →
  i+n≤ops.size→∀ k,k<i+n→∀ j,j∈(Vk ops n i acc).getD k []→(∀ e,e∈Cl ops k→Fl D e)→Fl D j
 | 0,i,acc,hl,lX,_,k,hk,j,hj,he=>lX k (by omega) j hj he
 | n+1,i,acc,hl,lX,hn,k,hk,j,hj,he=>by
  refine G8 hd n (i+1) _ (by simp [hl]) ?_ (by omega) k (by omega) j hj he
  intro k' Lu j' VM uk;rw [gE] at VM
  by_cases tI : k'=i
  ·subst tI;rw [List.getElem?_append_right (by omega)] at VM;simp only [hl,Nat.sub_self,List.getElem?_cons_zero,Option.getD_some,List.mem_eraseDups,List.mem_flatMap,List.mem_cons] at VM
   obtain ⟨e,h1,h2⟩:=VM
   have hle:=uk e h1
   rcases h2 with rfl | h2
   ·exact hle
   ·have D1 : e<k':=by
     rcases Nat.lt_or_ge e k' with h | h
     ·exact h
     ·rw [gE,List.getElem?_eq_none (by omega)] at h2
      simp at h2
    exact lX e D1 j' h2 fun e' jJ=>hd e (by omega) hle e' jJ
  ·rw [List.getElem?_append_left (by omega),← gE] at VM;exact lX k' (by omega) j' VM uk
section
variable {P : Program} {B N : Nat} {ops : Array Oper} {hs : List Nat}
def Of (P : Program) (N : Nat) (ops : Array Oper) (hs : List Nat) (i : Nat) (s : Cu) : Prop:=∃ o,ops[i]? = some o∧E8 P N ops (hs.getD i 0) o=some s
theorem IG : ∀ {l : List Nat} {sops : List Cu},Be P N ops hs l=some sops→sops.length=l.length∧∀ v,v<l.length→Of P N ops hs (l.getD v 0) (sops.getD v default)
 | [],sops,h=>by cases h; simp
 | i::r,sops,h=>by
  unfold Be at h
  cases ho : ops[i]? with
  | none=>simp [ho] at h
  | some o =>
   simp only [ho] at h
   cases Rf : E8 P N ops (hs.getD i 0) o with
   | none=>simp only [Rf,JE,reduceCtorEq] at h
   | some so =>
    cases TH : Be P N ops hs r with
    | none=>simp only [Rf,TH,JE,reduceCtorEq] at h
    | some sr =>
     simp only [Rf,TH,JE,Option.some.injEq] at h;subst h
     obtain ⟨h1,h2⟩:=IG TH;refine ⟨by simp [h1],fun v hv=>?_⟩
     cases v with
     | zero=>exact ⟨o,ho,Rf⟩
     | succ v=>simpa using h2 v (by simpa using hv)
theorem Of.dst {i : Nat} {s : Cu} (h : Of P N ops hs i s) : ∃ o,ops[i]? = some o∧o.dst=s.d∧Dz P (hs.getD i 0) o.op=some s.i∧El ops o.guard=some s.g∧PW N s.i s.d=true:=by
 obtain ⟨o,ho,hc⟩:=h;unfold E8 at hc
 cases Km : Dz P (hs.getD i 0) o.op with
 | none=>simp only [Km,reduceCtorEq] at hc
 | some ins =>
  cases hg : El ops o.guard with
  | none=>simp only [Km,hg,reduceCtorEq] at hc
  | some gd =>
   simp only [Km,hg] at hc
   split at hc
   ·rename_i hd; cases hc; exact ⟨o,ho,rfl,Km,hg,hd⟩
   ·cases hc
theorem GZ {i : Nat} {s : Cu} (Jt : Of P N ops hs i s) {σ : Env} {H : AB} {g : Gh} {w : World} {a : Act} {Q : Exit→Act→World→Prop} {next : Act→World→Prop} {K : Am}
  (hW : Ao g B H w) (hE : Cc g (Env.B6 (looks s) σ) a.tmps)
  (hk : match s.g with | none=>Dx P B K σ H s.i | some (t,b)=>∃ q,σ.get t=some q∧(q=.bool b∨Vq b q)∧(q=.bool b→Dx P B K σ H s.i))
  (Ip : ∀ v w',Dk g B w K v w'→(match s.g with | none=>True | some (t,b)=>σ.get t=some (.bool b))→next (a.put s.d v) w')
  (Re : ∀ t b,s.g=some (t,b)→(∃ q,σ.get t=some q∧Vq b q)→next (a.put s.d undef) w) : wpOp P ops Q i next a w:=by
 obtain ⟨o,ho,hd,Km,hg,aP⟩:=Jt.dst;unfold wpOp;simp only [ho]
 have oD : ∀ t,t∈looks s→(Env.B6 (looks s) σ).get t=σ.get t:=by
  intro t ht
  generalize looks s=l at ht
  induction l with
  | nil=>simp at ht
  | cons x r ih =>
   simp only [Env.B6,Env.get]
   split
   ·rename_i e; rw [e]
   ·rename_i e
    rcases List.mem_cons.1 ht with h | h
    ·exact absurd h e
    ·exact ih h
 have mi : ∀ K',Dx P B K' σ H s.i=Dx P B K' (Env.B6 (looks s) σ) H s.i:=fun K'=>Yy fun t ht=>(oD t (by unfold looks; exact List.mem_append_right _ ht)).symm
 have jH : Dx P B K σ H s.i→(match s.g with | none=>True | some (t,b)=>σ.get t=some (.bool b))→o.wp P a w next Q:=by
  intro Nl wC;rw [mi] at Nl
  have hf:=UA (a:=a) Km hW hE Nl;refine R7 hf fun v w' hfv=>?_;rw [hd];exact Ip v w' hfv wC
 cases Ve : o.guard with
 | none =>
  rw [Ve] at hg
  simp [El] at hg;rw [← hg] at hk jH;simp only [Region.wanted,Ve,if_true];exact .inl (jH hk trivial)
 | some jb =>
  obtain ⟨j,b⟩:=jb;rw [Ve] at hg;simp only [El] at hg
  cases hj : (ops[j]?).bind (·.dst) with
  | none=>simp [hj] at hg
  | some t =>
   simp only [hj,Option.some.injEq] at hg;rw [← hg] at hk jH
   obtain ⟨q,RZ,wN,Mf⟩:=hk
   have ht : t∈looks s:=by unfold looks; rw [← hg]; simp
   obtain ⟨D1,Mg⟩:=hE t q (by rw [oD t ht]; exact RZ)
   have Cj : a.tmps[t]? = some (a.tmps.getD t undef):=getD_some D1;simp only [Region.wanted,Ve]
   rcases wN with rfl | gZ
   ·have hy : yielded ops a.tmps j=some b:=by
     unfold yielded;rw [hj]
     generalize a.tmps.getD t undef=u at Mg Cj
     cases Mg
     simp [Cj]
    rw [hy];simp only [beq_self_eq_true,if_true];exact .inl (jH (Mf rfl) RZ)
   ·have hy : (yielded ops a.tmps j == some b)=false:=by
     unfold yielded;rw [hj]
     generalize a.tmps.getD t undef=u at Mg Cj
     rcases gZ with rfl | ⟨cs,rfl⟩ <;> cases Mg <;> simp [Cj]
    rw [hy];simp only [Bool.false_eq_true,if_false];rw [hd];exact Re t b hg.symm ⟨q,RZ,gZ⟩
end
end Go.AW
namespace Go.AW
open Go.RowKit
structure Iw (P : Program) (N : Nat) (ops : Array Oper) (hs : List Nat) (n : Nat) (p : Nat→Nat) (s : Nat→Cu) (ex : Nat→Bool) : Prop where
 size : ops.size=n
 lt : ∀ u,u<n→p u<n
 inj : ∀ u u',u<n→u'<n→p u=p u'→u=u'
 sG : ∀ i,i<n→∃ u,u<n∧p u=i
 of : ∀ u,u<n→Of P N ops hs (p u) (s u)
 topo : ∀ u,u<n→∀ j,j∈Cl ops (p u)→∃ u',u'<u∧p u'=j
 iA : ∀ u u',u<u'→u'<n→∀ d,(s u).d=some d→(s u').d≠some d
 kc : ∀ u,u<n→ex u=true→cls (s u).i=2
 KN : ∀ u u',u<u'→u'<n→ex u=false→KN (s u) (s u')=true→∀ D,Down ops D→(∀ e,e∈Cl ops (p u')→Fl D e)→Fl D (p u)
section
variable {P : Program} {B N : Nat} {ops : Array Oper} {hs : List Nat} {n : Nat} {p : Nat→Nat} {s : Nat→Cu} {ex : Nat→Bool} {kx : Nat} {F : Env→AB→Prop} {σ0 : Env}
def mR (P : Program) (B : Nat) (s : Cu) (σu σ : Env) (H : AB) (r : AV) : Prop:=Dx P B (fun r' H'=>r'=r∧H'=H) σu H s.i∧∀ d,s.d=some d→σ.get d=some r
def jS (P : Program) (B : Nat) (s : Nat→Cu) (σ0 : Env) (u : Nat) (σ : Env) (H : AB) : Prop :=
 ∃ σu : Env,(∀ t,t∈looks (s u)→(∀ u',u'<u→(s u').d=some t→σu.get t=σ.get t)∧((∀ u',u'<u→(s u').d≠some t)→σu.get t=σ0.get t)) ∧
  match (s u).g with
  | none=>∃ r,mR P B (s u) σu σ H r
  | some (t,b)=>(σu.get t=some (.bool b)∧∃ r,mR P B (s u) σu σ H r)∨((∃ q,σu.get t=some q∧Vq b q)∧∀ d,(s u).d=some d→σ.get d=some nv)
structure Inv (P : Program) (B N : Nat) (ops : Array Oper) (n : Nat) (p : Nat→Nat) (s : Nat→Cu) (ss : List Cu) (F : Env→AB→Prop) (σ0 : Env)
  (D : Array Bool) (v : Nat) (σ : Env) (g : Gh) (H : AB) (w : World) (a : Act) : Prop where
 dsz : D.size=ops.size
 down : Down ops D
 vle : v≤n
 pre : ∀ u,u<n→Fl D (p u)→u<v
 wr : ∀ u,u<v→cls (s u).i=2→Fl D (p u)
 Jr : ∀ t x,σ0.get t=some x→(∀ u,u<n→(s u).d=some t→¬ Fl D (p u))→t<a.tmps.size∧Ab g x (a.tmps.getD t undef)
 new : ∀ u,u<v→Fl D (p u)→∀ t,(s u).d=some t→∀ x,σ.get t=some x→t<a.tmps.size∧Ab g x (a.tmps.getD t undef)
 pend : ∀ u,u<v→¬ Fl D (p u)→jS P B s σ0 u σ H
 same : ∀ t,(∀ u,u<v→(s u).d≠some t)→σ.get t=σ0.get t
 go : C9 P B (ss.drop v) F σ H
 rel : Ao g B H w
 size : a.tmps.size=N
theorem Qy {ss : List Cu} {u : Nat} {x : Cu} (h : ss[u]? = some x) : ss.drop u=x::ss.drop (u+1):=by
 obtain ⟨hu,rfl⟩:=List.getElem?_eq_some_iff.mp h;exact List.drop_eq_getElem_cons hu
def DC (d : Option Nat) (σ : Env) (r : Option AV) : Env :=
 match d with
 | some d=>(d,r)::σ
 | none=>σ
theorem IF {d : Option Nat} {σ : Env} {r : Option AV} {t : Nat} (h : d≠some t) : (DC d σ r).get t=σ.get t:=by
 cases d with
 | none=>rfl
 | some d =>
  have : t≠d:=by rintro rfl; exact h rfl
  simp [DC,Env.get,this]
theorem Hw {d : Nat} {σ : Env} {r : Option AV} : (DC (some d) σ r).get d=r:=by simp [DC,Env.get]
theorem RP {so : Cu} {rest : List Cu} {σ : Env} {H : AB} (h : C9 P B (so::rest) F σ H) :
  match so.g with
  | none=>Dx P B (DN so.d (C9 P B rest F) σ) σ H so.i
  | some (t,b)=>∃ q,σ.get t=some q∧(q=.bool b∨Vq b q)∧(q=.bool b→Dx P B (DN so.d (C9 P B rest F) σ) σ H so.i)∧(Vq b q→C9 P B rest F (IL so.d σ) H):=by
 obtain ⟨d,gd,i⟩:=so
 cases gd with
 | none=>exact h
 | some tb =>
  obtain ⟨t,b⟩:=tb;simp only [C9] at h;unfold iQ at h
  split at h
  ·rename_i c hc
   refine ⟨_,hc, ?_,fun e=>h.1 (by cases e; rfl),fun e=>h.2 (by rcases e with e | ⟨cs,e⟩ <;> cases e; rfl)⟩
   by_cases e : c=b
   ·exact .inl (by rw [e])
   ·exact .inr (.inl (by cases c <;> cases b <;> simp_all))
  ·rename_i cs hc
   exact ⟨_,hc,.inr (.inr ⟨cs,rfl⟩),fun e=>(by cases e),fun _=>h⟩
  ·exact h.elim
theorem G3 {d : Option Nat} {σ : Env} {r : AV} {H : AB} {G : Env→AB→Prop} (h : DN d G σ r H) : G (DC d σ (some r)) H:=by
 cases d <;> exact h
theorem LD (d : Option Nat) (σ : Env) : IL d σ=DC d σ (some nv):=by cases d <;> rfl
theorem fX (g : Gh) : Ab g nv undef:=.CG [] #[] rfl (fun i hi=>by simp at hi)
theorem advance {ss : List Cu} (pl : Iw P N ops hs n p s ex) (lim : Nat) (tH : lim≤n) (hle : lim<n→cls (s lim).i=2) (Hl : ∀ u,u<lim→ss[u]? = some (s u)) {D : Array Bool} {g : Gh} {H : AB} {w : World} {a : Act} :
  ∀ (m v : Nat) (σ : Env),n - v=m→v≤lim→Inv P B N ops n p s ss F σ0 D v σ g H w a→∃ v' σ',Inv P B N ops n p s ss F σ0 D v' σ' g H w a∧v≤v'∧v'≤lim∧(v'<n→cls (s v').i=2)
 | 0,v,σ,hm,VZ,I=>⟨v,σ,I,Nat.le_refl _,VZ,fun h=>by omega⟩
 | m+1,v,σ,hm,VZ,I=>by
  have hv : v<n:=by omega
  by_cases hc : cls (s v).i=2
  ·exact ⟨v,σ,I,Nat.le_refl _,VZ,fun _=>hc⟩
  ·have jI : cls (s v).i<2:=by
    have : cls (s v).i≤2:=by
     generalize (s v).i=i
     cases i <;> simp [cls]
    omega
   have hvl' : v<lim:=by
    rcases Nat.lt_or_ge v lim with h | h
    ·exact h
    ·have e : v=lim:=by omega
     subst e;exact absurd (hle hv) hc
   have gB:=Qy (Hl v hvl')
   have Q3:=I.go;rw [gB] at Q3
   have Lt:=RP Q3
   have hnv : ¬ Fl D (p v):=fun h=>by have:=I.pre v hv h; omega
   have key : ∃ ro : Option AV,C9 P B (ss.drop (v+1)) F (DC (s v).d σ ro) H ∧
     (match (s v).g with
     | none=>∃ r,ro=some r∧Dx P B (fun r' H'=>r'=r∧H'=H) σ H (s v).i
     | some (t,b)=>(σ.get t=some (.bool b)∧∃ r,ro=some r∧Dx P B (fun r' H'=>r'=r∧H'=H) σ H (s v).i)∨((∃ q,σ.get t=some q∧Vq b q)∧ro=some nv)):=by
    cases hg : (s v).g with
    | none =>
     rw [hg] at Lt
     obtain ⟨r,h1,h2⟩:=det jI Lt;exact ⟨some r,G3 h2,r,rfl,h1⟩
    | some tb =>
     obtain ⟨t,b⟩:=tb;rw [hg] at Lt
     obtain ⟨q,e1,e0,e2,e3⟩:=Lt
     rcases e0 with rfl | gZ
     ·obtain ⟨r,h1,h2⟩:=det jI (e2 rfl);exact ⟨some r,G3 h2,.inl ⟨e1,r,rfl,h1⟩⟩
     ·exact ⟨some nv,by rw [← LD]; exact e3 gZ,.inr ⟨⟨q,e1,gZ⟩,rfl⟩⟩
   obtain ⟨ro,k1,k2⟩:=key
   have Bp : ∀ u,u<v→∀ t,(s u).d=some t→(DC (s v).d σ ro).get t=σ.get t:=fun u hu t ht=>IF (pl.iA u v hu hv t ht)
   suffices hI : Inv P B N ops n p s ss F σ0 D (v+1) (DC (s v).d σ ro) g H w a by
    obtain ⟨v',σ',I',h1,h2,h3⟩:=advance pl lim tH hle Hl m (v+1) _ (by omega) (by omega) hI;exact ⟨v',σ',I',by omega,h2,h3⟩
   refine ⟨I.dsz,I.down,hv,fun u hu h=>by have:=I.pre u hu h; omega, ?_,I.Jr, ?_, ?_, ?_,k1,I.rel,I.size⟩
   ·intro u hu h2
    by_cases e : u=v
    ·subst e; omega
    ·exact I.wr u (by omega) h2
   ·intro u hu hl t ht x hx
    by_cases e : u=v
    ·subst e; exact absurd hl hnv
    ·rw [Bp u (by omega) t ht] at hx;exact I.new u (by omega) hl t ht x hx
   ·intro u hu hl
    by_cases e : u=v
    ·subst e;refine ⟨σ,fun t ht=>⟨fun u' Lx Mj=>(Bp u' Lx t Mj).symm,fun ES=>I.same t ES⟩, ?_⟩
     cases hg : (s u).g with
     | none =>
      rw [hg] at k2
      obtain ⟨r,rfl,h1⟩:=k2;exact ⟨r,h1,fun d hd=>by rw [hd]; exact Hw⟩
     | some tb =>
      obtain ⟨t,b⟩:=tb;rw [hg] at k2
      rcases k2 with ⟨h1,r,rfl,h2⟩ | ⟨h1,rfl⟩
      ·exact .inl ⟨h1,r,h2,fun d hd=>by rw [hd]; exact Hw⟩
      ·exact .inr ⟨h1,fun d hd=>by rw [hd]; exact Hw⟩
    ·have Lx : u<v:=by omega
     obtain ⟨σu,q1,q2⟩:=I.pend u Lx hl;refine ⟨σu,fun t ht=>⟨fun u' hu'' Mj=>by rw [Bp u' (by omega) t Mj]; exact (q1 t ht).1 u' hu'' Mj,(q1 t ht).2⟩, ?_⟩
     cases hg : (s u).g with
     | none =>
      rw [hg] at q2
      obtain ⟨r,h1,h2⟩:=q2;exact ⟨r,h1,fun d hd=>by rw [Bp u Lx d hd]; exact h2 d hd⟩
     | some tb =>
      obtain ⟨t,b⟩:=tb;rw [hg] at q2
      rcases q2 with ⟨h1,r,h2,h3⟩ | ⟨h1,h2⟩
      ·exact .inl ⟨h1,r,h2,fun d hd=>by rw [Bp u Lx d hd]; exact h3 d hd⟩
      ·exact .inr ⟨h1,fun d hd=>by rw [Bp u Lx d hd]; exact h2 d hd⟩
   ·intro t ES;rw [IF (ES v (by omega))];exact I.same t fun u hu=>ES u (by omega)
theorem Dm {D : Array Bool} {i j : Nat} (hi : i<D.size) : Fl (D.setIfInBounds i true) j↔j=i∨Fl D j:=by
 unfold Fl;simp only [Array.getD_eq_getD_getElem?,Array.getElem?_setIfInBounds]
 by_cases h : i=j
 ·subst h; simp [hi]
 ·simp [h,Ne.symm h]
theorem UY {D : Array Bool} {i : Nat} (hd : Down ops D) (hi : i<D.size) (he : ∀ j,j∈Cl ops i→Fl D j) : Down ops (D.setIfInBounds i true):=by
 intro k hk hl j hj;rw [Dm hi] at hl ⊢
 rcases hl with rfl | hl
 ·exact .inr (he j hj)
 ·exact .inr (hd k hk hl j hj)
theorem bS {s s' : Cu} {d : Nat} (hd : s.d=some d) (hl : d∈looks s') : KN s s'=true:=by
 simp [KN,iT,hd,hl]
theorem fT {s s' : Cu} {d : Nat} (hd : s'.d=some d) (hl : d∈looks s) : KN s s'=true:=by
 simp [KN,iT,hd,hl]
theorem MA {ss : List Cu} (pl : Iw P N ops hs n p s ex) {D : Array Bool} {v : Nat} {σ σu : Env} {g : Gh} {H : AB} {w : World} {a : Act} (I : Inv P B N ops n p s ss F σ0 D v σ g H w a) {u : Nat} (hu : u<n) (aE : u≤v)
  (KA : ¬ Fl D (p u)) (E2 : ∀ e,e∈Cl ops (p u)→Fl D e)
  (oF : ∀ t,t∈looks (s u)→(∀ u',u'<u→(s u').d=some t→σu.get t=σ.get t)∧((∀ u',u'<u→(s u').d≠some t)→σu.get t=σ0.get t)) :
  Cc g (Env.B6 (looks (s u)) σu) a.tmps:=by
 intro t x hx
 have ht : t∈looks (s u):=by
  generalize looks (s u)=l at hx
  induction l with
  | nil=>simp [Env.B6,Env.get] at hx
  | cons y r ih =>
   simp only [Env.B6,Env.get] at hx
   split at hx
   ·rename_i e; rw [e]; simp
   ·exact List.mem_cons_of_mem _ (ih hx)
 have IX:=Env.Uz _ _ _ _ hx
 by_cases hw : ∃ u',u'<u∧(s u').d=some t
 ·obtain ⟨u',h1,h2⟩:=hw
  have hl : Fl D (p u'):=by
   cases hx : ex u' with
   | true=>exact I.wr u' (by omega) (pl.kc u' (by omega) hx)
   | false=>exact pl.KN u' u h1 hu hx (bS h2 ht) D I.down E2
  rw [(oF t ht).1 u' h1 h2] at IX;exact I.new u' (by omega) hl t h2 x IX
 ·have ES : ∀ u',u'<u→(s u').d≠some t:=fun u' h1 h2=>hw ⟨u',h1,h2⟩;rw [(oF t ht).2 ES] at IX;refine I.Jr t x IX fun u'' h1 h2 hl=>?_
  rcases Nat.lt_trichotomy u'' u with h | h | h
  ·exact ES u'' h h2
  ·subst h; exact KA hl
  ·cases hx : ex u with
   | true=>exact KA (I.wr u (by have:=I.pre u'' h1 hl; omega) (pl.kc u hu hx))
   | false=>exact KA (pl.KN u u'' h h1 hx (fT h2 ht) D I.down (I.down (p u'') (by rw [pl.size]; exact pl.lt u'' h1) hl))
theorem Pb {ss : List Cu} (pl : Iw P N ops hs n p s ex) {D : Array Bool} {v : Nat} {σ : Env} {g g' : Gh} {H : AB} {w w' : World} {a : Act} (I : Inv P B N ops n p s ss F σ0 D v σ g H w a) {u : Nat} (hu : u<n) (aE : u<v)
  (KA : ¬ Fl D (p u)) (E2 : ∀ e,e∈Cl ops (p u)→Fl D e) (x : Value) (hg : g.le g') (hW : Ao g' B H w')
  (hx : ∀ d,(s u).d=some d→∀ r,σ.get d=some r→Ab g' r x) : Inv P B N ops n p s ss F σ0 (D.setIfInBounds (p u) true) v σ g' H w' (a.put (s u).d x):=by
 have CU : p u<D.size:=by rw [I.dsz,pl.size]; exact pl.lt u hu
 have Ql : ∀ t,(s u).d≠some t→(a.put (s u).d x).tmps.getD t undef=a.tmps.getD t undef:=by
  intro t ht
  cases hd : (s u).d with
  | none=>rfl
  | some d =>
   have : d≠t:=by rintro rfl; exact ht hd
   simp only [Act.put,Array.getD_eq_getD_getElem?];rw [Array.getElem?_setIfInBounds_ne this]
 refine ⟨by simp [I.dsz],UY I.down CU E2,I.vle, ?_, ?_, ?_, ?_, ?_,I.same,I.go,hW,by rw [DL]; exact I.size⟩
 ·intro u' h1 h2;rw [Dm CU] at h2
  rcases h2 with h2 | h2
  ·rw [pl.inj u' u h1 hu h2]; exact aE
  ·exact I.pre u' h1 h2
 ·intro u' h1 h2;rw [Dm CU]; exact .inr (I.wr u' h1 h2)
 ·intro t y hy ES
  have Bp : (s u).d≠some t:=fun e=>ES u hu e (by rw [Dm CU]; exact .inl rfl)
  obtain ⟨q1,q2⟩:=I.Jr t y hy fun u' h1 h2 h3=>ES u' h1 h2 (by rw [Dm CU]; exact .inr h3);rw [DL,Ql t Bp];exact ⟨q1,q2.mono hg⟩
 ·intro u' h1 h2 t ht y hy;rw [Dm CU] at h2
  by_cases e : u'=u
  ·subst e
   have Eb:=(pl.of u' hu).dst
   obtain ⟨o,ho,hd,Km,IY,aP⟩:=Eb;rw [ht] at aP;simp only [PW,Bool.and_eq_true,decide_eq_true_eq] at aP
   have D1 : t<a.tmps.size:=by rw [I.size]; exact aP.1
   refine ⟨by rw [DL]; exact D1, ?_⟩
   have : (a.put (s u').d x).tmps.getD t undef=x:=by
    rw [ht]; simp [Act.put,Array.getD_eq_getD_getElem?,D1]
   rw [this];exact hx t ht y hy
  ·rcases h2 with h2 | h2
   ·exact absurd (pl.inj u' u (by have:=I.vle; omega) hu h2) e
   ·have Bp : (s u).d≠some t:=by
     intro e2
     have hu'n : u'<n:=by have:=I.vle; omega
     rcases Nat.lt_trichotomy u' u with h | h | h
     ·exact pl.iA u' u h hu t ht e2
     ·exact e h
     ·exact pl.iA u u' h hu'n t e2 ht
    obtain ⟨q1,q2⟩:=I.new u' h1 h2 t ht y hy;rw [DL,Ql t Bp];exact ⟨q1,q2.mono hg⟩
 ·intro u' h1 h2;rw [Dm CU] at h2;exact I.pend u' h1 fun h=>h2 (.inr h)
theorem MH {ss : List Cu} (pl : Iw P N ops hs n p s ex) {D : Array Bool} {v : Nat} {σ : Env} {g g' : Gh} {H H' : AB} {w w' : World} {a : Act} (I : Inv P B N ops n p s ss F σ0 D v σ g H w a) (hv : v<n)
  (hc : cls (s v).i=2) (KA : ¬ Fl D (p v)) (E2 : ∀ e,e∈Cl ops (p v)→Fl D e) (x : Value) (ro : Option AV) (hg : g.le g') (hW : Ao g' B H' w')
  (hx : ∀ r,ro=some r→Ab g' r x) (Xf : Kp (s v).i H H') (Q3 : C9 P B (ss.drop (v+1)) F (DC (s v).d σ ro) H') :
  Inv P B N ops n p s ss F σ0 (D.setIfInBounds (p v) true) (v+1) (DC (s v).d σ ro) g' H' w' (a.put (s v).d x):=by
 have CU : p v<D.size:=by rw [I.dsz,pl.size]; exact pl.lt v hv
 have Ql : ∀ t,(s v).d≠some t→(a.put (s v).d x).tmps.getD t undef=a.tmps.getD t undef:=by
  intro t ht
  cases hd : (s v).d with
  | none=>rfl
  | some d =>
   have : d≠t:=by rintro rfl; exact ht hd
   simp only [Act.put,Array.getD_eq_getD_getElem?];rw [Array.getElem?_setIfInBounds_ne this]
 have Bp : ∀ u,u<v→∀ t,(s u).d=some t→(DC (s v).d σ ro).get t=σ.get t:=fun u hu t ht=>IF (pl.iA u v hu hv t ht);refine ⟨by simp [I.dsz],UY I.down CU E2,hv, ?_, ?_, ?_, ?_, ?_, ?_,Q3,hW,by rw [DL]; exact I.size⟩
 ·intro u' h1 h2;rw [Dm CU] at h2
  rcases h2 with h2 | h2
  ·rw [pl.inj u' v h1 hv h2]; omega
  ·have:=I.pre u' h1 h2; omega
 ·intro u' h1 h2;rw [Dm CU]
  by_cases e : u'=v
  ·subst e; exact .inl rfl
  ·exact .inr (I.wr u' (by omega) h2)
 ·intro t y hy ES
  have hne' : (s v).d≠some t:=fun e=>ES v hv e (by rw [Dm CU]; exact .inl rfl)
  obtain ⟨q1,q2⟩:=I.Jr t y hy fun u' h1 h2 h3=>ES u' h1 h2 (by rw [Dm CU]; exact .inr h3);rw [DL,Ql t hne'];exact ⟨q1,q2.mono hg⟩
 ·intro u' h1 h2 t ht y hy;rw [Dm CU] at h2
  by_cases e : u'=v
  ·subst e
   obtain ⟨o,ho,hd,Km,IY,aP⟩:=(pl.of u' hv).dst;rw [ht] at aP;simp only [PW,Bool.and_eq_true,decide_eq_true_eq] at aP
   have D1 : t<a.tmps.size:=by rw [I.size]; exact aP.1
   refine ⟨by rw [DL]; exact D1, ?_⟩
   have : (a.put (s u').d x).tmps.getD t undef=x:=by
    rw [ht]; simp [Act.put,Array.getD_eq_getD_getElem?,D1]
   rw [this];rw [ht,Hw] at hy;exact hx y hy
  ·have hu'v : u'<v:=by omega
   rcases h2 with h2 | h2
   ·exact absurd (pl.inj u' v (by omega) hv h2) e
   ·rw [Bp u' hu'v t ht] at hy
    obtain ⟨q1,q2⟩:=I.new u' hu'v h2 t ht y hy;rw [DL,Ql t (pl.iA u' v hu'v hv t ht)];exact ⟨q1,q2.mono hg⟩
 ·intro u' h1 h2;rw [Dm CU] at h2
  have hne2 : u'≠v:=by rintro rfl; exact h2 (.inl rfl)
  have hu'v : u'<v:=by omega
  have rT : ¬ Fl D (p u'):=fun h=>h2 (.inr h)
  have nT : ∀ {σ' : Env} {r : AV},Dx P B (fun r' H''=>r'=r∧H''=H) σ' H (s u').i→Dx P B (fun r' H''=>r'=r∧H''=H') σ' H' (s u').i:=by
   intro σ' r h1
   have h3 : cls (s u').i≤2:=by
    generalize (s u').i=i
    cases i <;> simp [cls]
   have h4 : cls (s u').i≠2:=fun h=>rT (I.wr u' hu'v h)
   by_cases h5 : cls (s u').i=1
   ·have iG : kp (s u').i (s v).i=true:=by
     cases hk : kp (s u').i (s v).i with
     | true=>rfl
     | false =>
      refine absurd (pl.KN u' v hu'v hv ?_ (by simp [KN,h5,hc,hk]) D I.down E2) rT
      cases hx : ex u' with
      | false=>rfl
      | true=>exact absurd (pl.kc u' (by omega) hx) h4
    exact qC (by omega) iG Xf h1
   ·exact bQ (by omega) h1
  obtain ⟨σu,q1,q2⟩:=I.pend u' hu'v rT;refine ⟨σu,fun t ht=>⟨fun u'' hu'' Mj=>by rw [Bp u'' (by omega) t Mj]; exact (q1 t ht).1 u'' hu'' Mj,(q1 t ht).2⟩, ?_⟩
  cases IY : (s u').g with
  | none =>
   rw [IY] at q2
   obtain ⟨r,h1,h2⟩:=q2;exact ⟨r,nT h1,fun d hd=>by rw [Bp u' hu'v d hd]; exact h2 d hd⟩
  | some tb =>
   obtain ⟨t,b⟩:=tb;rw [IY] at q2
   rcases q2 with ⟨h1,r,h2,h3⟩ | ⟨h1,h2⟩
   ·exact .inl ⟨h1,r,nT h2,fun d hd=>by rw [Bp u' hu'v d hd]; exact h3 d hd⟩
   ·exact .inr ⟨h1,fun d hd=>by rw [Bp u' hu'v d hd]; exact h2 d hd⟩
 ·intro t ES;rw [IF (ES v (by omega))];exact I.same t fun u hu=>ES u (by omega)
theorem S0 {ss : List Cu} (pl : Iw P N ops hs n p s ex) (gG : ss.length=n) {D : Array Bool} {v : Nat} {σ : Env} {g : Gh} {H : AB} {w : World} {a : Act} (I : Inv P B N ops n p s ss F σ0 D v σ g H w a)
  (Ak : ∀ i,i<n→Fl D i) : F σ H∧Ao g B H w∧Cc g σ a.tmps:=by
 have rN : v=n:=by
  rcases Nat.lt_or_ge v n with h | h
  ·have:=I.pre v h (Ak _ (pl.lt v h)); omega
  ·have:=I.vle; omega
 subst rN
 have Q3:=I.go;rw [List.drop_eq_nil_of_le (by omega)] at Q3;refine ⟨Q3,I.rel,fun t x hx=>?_⟩
 by_cases hw : ∃ u,u<v∧(s u).d=some t
 ·obtain ⟨u,h1,h2⟩:=hw;exact I.new u h1 (Ak _ (pl.lt u h1)) t h2 x hx
 ·have ES : ∀ u,u<v→(s u).d≠some t:=fun u h1 h2=>hw ⟨u,h1,h2⟩;rw [I.same t ES] at hx;exact I.Jr t x hx fun u h1 h2=>absurd h2 (ES u h1)
theorem HG (pl : Iw P N ops hs n p s ex) {D : Array Bool} (hd : D.size=ops.size) (h : Region.ready .any ops D=[]) : ∀ u,u<n→Fl D (p u):=by
 intro u
 induction u using Nat.strongRecOn with
 | _ u ih =>
  intro hu;refine Classical.byContradiction fun KA=>?_
  have : p u∈Region.ready .any ops D:=by
   rw [G5 hd];refine ⟨by rw [pl.size]; exact pl.lt u hu,KA,fun j hj=>?_⟩
   obtain ⟨u',h1,rfl⟩:=pl.topo u hu j hj
   have hl:=ih u' h1 (by omega)
   have D1 : p u'<D.size:=by rw [hd,pl.size]; exact pl.lt u' (by omega)
   unfold Fl at hl;simp only [Array.getD_eq_getD_getElem?] at hl ⊢
   simpa [D1] using hl
  rw [h] at this; cases this
theorem count_set {D : Array Bool} {i : Nat} (hi : i<D.size) (hf : D.getD i true=false) : (D.setIfInBounds i true).toList.count false+1=D.toList.count false:=by
 have D1 : i<D.toList.length:=by simpa using hi
 have hg : D.toList[i]=false:=by simpa [Array.getD,hi] using hf
 rw [Array.toList_setIfInBounds,List.count_set D1]
 have : 0<D.toList.count false:=List.count_pos_iff.2 (by rw [← hg]; simp);rw [hg];simp only [beq_self_eq_true,if_true,show (true == false)=false from rfl,Bool.false_eq_true,if_false];omega
theorem SV {ss : List Cu} (pl : Iw P N ops hs n p s ex) {Q : Exit→Act→World→Prop} {fuel : Nat} {D : Array Bool} {v : Nat} {σ : Env} {g : Gh} {H : AB} {w : World} {a : Act}
  (I : Inv P B N ops n p s ss F σ0 D v σ g H w a) {u : Nat} (hu : u<n) (aE : u<v) (KA : ¬ Fl D (p u)) (E2 : ∀ e,e∈Cl ops (p u)→Fl D e)
  (fin : ∀ x g' w',g.le g'→Ao g' B H w'→Below B w w'→(∀ d,(s u).d=some d→∀ r,σ.get d=some r→Ab g' r x) →
      wpAny P .any ops Q fuel (D.setIfInBounds (p u) true) (a.put (s u).d x) w') : wpOp P ops Q (p u) (wpAny P .any ops Q fuel (D.setIfInBounds (p u) true)) a w:=by
 have kq:=I.pend u aE KA
 obtain ⟨σu,q1,q2⟩:=kq
 have hE:=MA pl I hu (by omega) KA E2 q1
 cases IY : (s u).g with
 | none =>
  rw [IY] at q2
  obtain ⟨r,h1,h2⟩:=q2;refine GZ (K:=fun r' H'=>r'=r∧H'=H) (pl.of u hu) I.rel hE (by rw [IY]; exact h1) ?_ (fun t b e=>by rw [IY] at e; cases e)
  rintro x w' ⟨g',r',H',a1,⟨rfl,rfl⟩,a3,a4,a5⟩ -;exact fin x g' w' a1 a4 a5 fun d Mj r2 BV=>by rw [h2 d Mj] at BV; cases BV; exact a3
 | some tb =>
  obtain ⟨t,b⟩:=tb;rw [IY] at q2
  rcases q2 with ⟨h1,r,h2,h3⟩ | ⟨h1,h2⟩
  ·refine GZ (K:=fun r' H'=>r'=r∧H'=H) (pl.of u hu) I.rel hE (by rw [IY]; exact ⟨_,h1,.inl rfl,fun _=>h2⟩) ?_ ?_
   ·rintro x w' ⟨g',r',H',a1,⟨rfl,rfl⟩,a3,a4,a5⟩ -;exact fin x g' w' a1 a4 a5 fun d Mj r2 BV=>by rw [h3 d Mj] at BV; cases BV; exact a3
   ·intro t' b' e Bp;rw [IY] at e; cases e
    obtain ⟨q,RZ,Mf⟩:=Bp;rw [h1] at RZ; cases RZ
    rcases Mf with Mf | ⟨cs,Mf⟩
    ·cases b <;> cases Mf
    ·cases Mf
  ·refine GZ (K:=fun _ _=>True) (pl.of u hu) I.rel hE (by rw [IY]; obtain ⟨q,q1,q2⟩:=h1; exact ⟨q,q1,.inr q2,fun e=>by subst e; rcases q2 with q2 | ⟨cs,q2⟩ <;> cases b <;> cases q2⟩) ?_ ?_
   ·intro x w' _ wC;rw [IY] at wC;simp only at wC
    obtain ⟨q,q1,q2⟩:=h1;rw [q1] at wC; cases wC
    rcases q2 with q2 | ⟨cs,q2⟩ <;> cases b <;> cases q2
   ·intro t' b' e Bp;exact fin undef g w (.refl g) I.rel (.refl B w) fun d Mj r2 BV=>by rw [h2 d Mj] at BV; cases BV; exact fX g
theorem V2 {ss : List Cu} (pl : Iw P N ops hs n p s ex) {Q : Exit→Act→World→Prop} {fuel : Nat} {D : Array Bool} {u : Nat} {σ : Env} {g : Gh} {H : AB} {w : World} {a : Act}
  (I : Inv P B N ops n p s ss F σ0 D u σ g H w a) (hu : u<n) (wM : ss[u]? = some (s u)) (KA : ¬ Fl D (p u)) (E2 : ∀ e,e∈Cl ops (p u)→Fl D e)
  (fin : ∀ x ro g' H' w',g.le g'→Ao g' B H' w'→Below B w w'→(∀ r,ro=some r→Ab g' r x)→Kp (s u).i H H'→C9 P B (ss.drop (u+1)) F (DC (s u).d σ ro) H' →
      wpAny P .any ops Q fuel (D.setIfInBounds (p u) true) (a.put (s u).d x) w') : wpOp P ops Q (p u) (wpAny P .any ops Q fuel (D.setIfInBounds (p u) true)) a w:=by
 have gB:=Qy wM
 have Q3:=I.go;rw [gB] at Q3
 have Lt:=RP Q3
 have hE : Cc g (Env.B6 (looks (s u)) σ) a.tmps:=MA pl I hu (Nat.le_refl _) KA E2 fun t ht=>⟨fun _ _ _=>rfl,fun ES=>I.same t ES⟩
 cases IY : (s u).g with
 | none =>
  rw [IY] at Lt;refine GZ (K:=fun r' H'=>Kp (s u).i H H'∧DN (s u).d (C9 P B (ss.drop (u+1)) F) σ r' H') (pl.of u hu) I.rel hE (by rw [IY]; exact V5 Lt) ?_ (fun t b e=>by rw [IY] at e; cases e)
  rintro x w' ⟨g',r',H',a1,a2,a3,a4,a5⟩ -;exact fin x (some r') g' H' w' a1 a4 a5 (fun r hr=>by cases hr; exact a3) a2.1 (G3 a2.2)
 | some tb =>
  obtain ⟨t,b⟩:=tb;rw [IY] at Lt
  obtain ⟨q,e1,e0,e2,e3⟩:=Lt
  have Re : ∀ t' b',(s u).g=some (t',b')→(∃ q,σ.get t'=some q∧Vq b' q)→wpAny P .any ops Q fuel (D.setIfInBounds (p u) true) (a.put (s u).d undef) w:=by
   intro t' b' e Bp;rw [IY] at e; cases e
   obtain ⟨q',RZ,Mf⟩:=Bp;rw [e1] at RZ; cases RZ;exact fin undef (some nv) g H w (.refl g) I.rel (.refl B w) (fun r hr=>by cases hr; exact fX g) ⟨fun _=>.refl H,fun z _=>(AB.sub.refl H).Qf z⟩ (by rw [← LD]; exact e3 Mf)
  refine GZ (K:=fun r' H'=>Kp (s u).i H H'∧DN (s u).d (C9 P B (ss.drop (u+1)) F) σ r' H') (pl.of u hu) I.rel hE (by rw [IY]; exact ⟨q,e1,e0,fun h=>V5 (e2 h)⟩) ?_ Re
  rintro x w' ⟨g',r',H',a1,a2,a3,a4,a5⟩ -;exact fin x (some r') g' H' w' a1 a4 a5 (fun r hr=>by cases hr; exact a3) a2.1 (G3 a2.2)
theorem Vn {D : Array Bool} {l : List Nat} (rM : ∀ j,j∈l→D.getD j false=true) : ∀ e,e∈l→Fl D e:=by
 intro e he
 have:=rM e he;unfold Fl;simp only [Array.getD_eq_getD_getElem?] at this ⊢
 cases hx : D[e]? with
 | none=>simp
 | some b=>simpa [hx] using this
theorem M6 {D : Array Bool} {i fuel : Nat} (CU : i<D.size) (KA : ¬ Fl D i) (hc : D.toList.count false=fuel+1) : (D.setIfInBounds i true).toList.count false=fuel:=by
 have hf : D.getD i true=false:=by
  cases hx : D.getD i true with
  | true=>exact absurd hx KA
  | false=>rfl
 have:=count_set CU hf;omega
theorem Rq {D : Array Bool} (hd : D.size=n) (hc : D.toList.count false=0) : ∀ i,i<n→Fl D i:=by
 intro i hi
 have D1 : i<D.size:=by omega
 unfold Fl
 have jr : false ∉ D.toList:=List.count_eq_zero.1 hc
 cases Nb : D.getD i true with
 | true=>rfl
 | false =>
  exfalso
  apply jr
  have : D[i]=false:=by simpa [Array.getD,D1] using Nb
  rw [← this]; simp
theorem Jh {ss : List Cu} (pl : Iw P N ops hs n p s ex) (gG : ss.length=n) (Hl : ∀ u,u<n→ss[u]? = some (s u)) {g0 : Gh} {w0 : World} {df : List Deferred} {Q : Exit→Act→World→Prop}
  (hq : ∀ a' w',GJ F g0 B w0 N df a' w'→Q .normal a' w') : ∀ (fuel : Nat) (D : Array Bool) (v : Nat) (σ : Env) (g : Gh) (H : AB) (w : World) (a : Act),D.toList.count false=fuel →
   Inv P B N ops n p s ss F σ0 D v σ g H w a→(v<n→cls (s v).i=2)→(∀ u,v≤u→u<n→ex u=false)→g0.le g→Below B w0 w→a.defers=df→wpAny P .any ops Q fuel D a w
 | 0,D,v,σ,g,H,w,a,hc,I,hv,jG,hg,hb,hd=>by
  have Ak:=Rq (I.dsz.trans pl.size) hc
  obtain ⟨e1,e2,e3⟩:=S0 pl gG I Ak;refine ⟨?_,hq a w ⟨g,σ,H,hg,e1,e2,e3,hb,I.size,hd⟩⟩
  cases hr : Region.ready .any ops D with
  | nil=>rfl
  | cons i r =>
   have : i∈Region.ready .any ops D:=by rw [hr]; simp
   rw [G5 I.dsz] at this;exact absurd (Ak i (by rw [← pl.size]; exact this.1)) this.2.1
 | fuel+1,D,v,σ,g,H,w,a,hc,I,hv,jG,hg,hb,hd=>by
  refine ⟨fun hr=>?_,fun i hi=>?_⟩
  ·have lu:=HG pl I.dsz hr
   have Ak : ∀ i,i<n→Fl D i:=fun i hi=>by
    obtain ⟨u,h1,rfl⟩:=pl.sG i hi;exact lu u h1
   obtain ⟨e1,e2,e3⟩:=S0 pl gG I Ak;exact hq a w ⟨g,σ,H,hg,e1,e2,e3,hb,I.size,hd⟩
  ·rw [G5 I.dsz] at hi
   obtain ⟨XX,KA,rM⟩:=hi
   obtain ⟨u,hu,rfl⟩:=pl.sG i (by rw [← pl.size]; exact XX)
   have E2:=Vn rM
   have VN:=M6 (by rw [I.dsz]; exact XX) KA hc
   by_cases aE : u<v
   ·refine SV pl I hu aE KA E2 fun x g' w' h1 h2 h3 h4=>?_;exact Jh pl gG Hl hq fuel _ v σ g' H w' _ VN (Pb pl I hu aE KA E2 x h1 h2 h4) hv jG (hg.trans h1) (hb.trans h3) (by rw [put_defers]; exact hd)
   ·have rN : v<n:=by omega
    have huv' : u=v:=by
     refine Classical.byContradiction fun Bp=>?_
     have:=pl.KN v u (by omega) hu (jG v (Nat.le_refl _) rN) (by simp [KN,hv rN]) D I.down E2
     have:=I.pre v rN this;omega
    subst huv';refine V2 pl I hu (Hl u hu) KA E2 fun x ro g' H' w' h1 h2 h3 h4 Xf h5=>?_
    have I':=MH pl I rN (hv rN) KA E2 x ro h1 h2 h4 Xf h5
    obtain ⟨v',σ',I'',hle,-,TN⟩:=advance pl n (Nat.le_refl _) (fun h=>absurd h (Nat.lt_irrefl _)) Hl _ (u+1) _ rfl (by omega) I';exact Jh pl gG Hl hq fuel _ v' σ' g' H' w' _ VN I'' TN (fun u h1 h2=>jG u (by omega) h2) (hg.trans h1) (hb.trans h3) (by rw [put_defers]; exact hd)
theorem jS.congr {s2 : Nat→Cu} {u : Nat} {σ : Env} {H : AB} (h : ∀ u',u'≤u→s2 u'=s u') (q : jS P B s σ0 u σ H) : jS P B s2 σ0 u σ H:=by
 obtain ⟨σu,q1,q2⟩:=q;refine ⟨σu,fun t ht=>?_, ?_⟩
 ·rw [h u (Nat.le_refl _)] at ht;refine ⟨fun u' Lx hd=>(q1 t ht).1 u' Lx (by rw [← h u' (by omega)]; exact hd),fun ES=>(q1 t ht).2 fun u' Lx=>by rw [← h u' (by omega)]; exact ES u' Lx⟩
 ·rw [h u (Nat.le_refl _)]; exact q2
theorem Inv.move {p2 : Nat→Nat} {s2 : Nat→Cu} {ex2 : Nat→Bool} (pl : Iw P N ops hs n p s ex) (pl2 : Iw P N ops hs n p2 s2 ex2) (Xa : ∀ u,u<kx→p2 u=p u∧s2 u=s u) {ss ss2 : List Cu} {F2 : Env→AB→Prop} {D : Array Bool} {σ : Env} {g : Gh} {H : AB} {w : World} {a : Act} (hk : kx<n)
  (I : Inv P B N ops n p s ss F σ0 D kx σ g H w a) (Q3 : C9 P B (ss2.drop kx) F2 σ H) : Inv P B N ops n p2 s2 ss2 F2 σ0 D kx σ g H w a:=by
 refine ⟨I.dsz,I.down,I.vle,fun u hu hl=>?_,fun u hu hc=>?_,fun t x hx ES=>?_,fun u hu=>?_,fun u hu hl=>?_,fun t ES=>?_,Q3,I.rel,I.size⟩
 ·obtain ⟨u1,h1,e⟩:=pl.sG (p2 u) (pl2.lt u hu)
  have h2:=I.pre u1 h1 (by rw [e]; exact hl)
  have h3:=(Xa u1 h2).1
  have:=pl2.inj u u1 hu h1 (by rw [h3,e]);omega
 ·rw [(Xa u hu).2] at hc;rw [(Xa u hu).1]; exact I.wr u hu hc
 ·refine I.Jr t x hx fun u hu hd hl=>?_
  have h2:=I.pre u hu hl;exact ES u hu (by rw [(Xa u h2).2]; exact hd) (by rw [(Xa u h2).1]; exact hl)
 ·rw [(Xa u hu).1,(Xa u hu).2]; exact I.new u hu
 ·rw [(Xa u hu).1] at hl;exact (I.pend u hu hl).congr fun u' Lx=>(Xa u' (by omega)).2
 ·exact I.same t fun u hu=>by rw [← (Xa u hu).2]; exact ES u hu
end
end Go.AW
namespace Go.AW
open Go.RowKit
section
variable {P : Program} {B N : Nat} {ops : Array Oper} {hs : List Nat}
theorem JN : ∀ (r done : List Nat),UC ops done r=true→∀ u,u<r.length→∀ j,j∈Cl ops (r.getD u 0)→j∈done∨∃ u',u'<u∧r.getD u' 0=j
 | [],_,_,u,hu,_,_=>by simp at hu
 | i::r,done,h,u,hu,j,hj=>by
  simp only [UC,Bool.and_eq_true,List.all_eq_true] at h
  cases u with
  | zero =>
   have:=h.1 j hj;exact .inl (by simpa using this)
  | succ u =>
   rcases JN r (i::done) h.2 u (by simpa using hu) j (by simpa using hj) with h1 | ⟨u',h1,h2⟩
   ·rcases List.mem_cons.1 h1 with rfl | h1
    ·exact .inr ⟨0,by omega,by simp⟩
    ·exact .inl h1
   ·exact .inr ⟨u'+1,by omega,by simpa using h2⟩
theorem Ms {cl : List (List Nat)} : ∀ (p : List Nat) (s : List Cu),Xi cl p s=true→p.length=s.length→∀ u u',u<u'→u'<p.length →
  MW cl (p.getD u 0) (s.getD u default) (p.getD u' 0) (s.getD u' default)=true
 | [],_,_,_,u,u',_,h=>by simp at h
 | _::_,[],_,hl,_,_,_,_=>by simp at hl
 | i::p,x::s,h,hl,u,u',h1,h2=>by
  simp only [Xi,Bool.and_eq_true,List.all_eq_true] at h
  have oH : p.length=s.length:=by simpa using hl
  cases u' with
  | zero=>omega
  | succ u' =>
   have h2' : u'<p.length:=by simpa using h2
   cases u with
   | zero =>
    have hz : (p.zip s)[u']? = some (p.getD u' 0,s.getD u' default):=by
     rw [List.getElem?_zip_eq_some]
     simp [gE,h2',show u'<s.length by omega]
    have:=h.1 (p.getD u' 0,s.getD u' default) (List.mem_of_getElem? hz)
    simpa using this
   | succ u =>
    have:=Ms p s h.2 oH u u' (by omega) h2'
    simpa using this
theorem j4 {perm : List Nat} {ss : List Cu} (hc : Be P N ops hs perm=some ss) (hk : SN ops ss perm=true) :
  Iw P N ops hs ops.size (fun u=>perm.getD u 0) (fun u=>ss.getD u default) (fun _=>false)∧ss.length=ops.size:=by
 simp only [SN,Bool.and_eq_true,beq_iff_eq,List.all_eq_true,decide_eq_true_eq] at hk
 obtain ⟨⟨⟨⟨h1,h2⟩,h3⟩,h4⟩,h5⟩:=hk
 obtain ⟨c1,c2⟩:=IG hc
 have Yk:=Ms perm ss h5 (by omega)
 have CJ : ∀ u,u<ops.size→perm.getD u 0∈perm:=fun u hu=>by
  rw [gE,List.getElem?_eq_getElem (by omega)]
  simp
 refine ⟨⟨rfl,fun u hu=>h2 _ (CJ u hu), ?_, ?_,fun u hu=>c2 u (by omega), ?_, ?_,fun _ _ h=>(by cases h), ?_⟩,by omega⟩
 ·intro u u' hu Lx he
  rcases Nat.lt_trichotomy u u' with h | h | h
  ·have:=Yk u u' h (by omega);simp only [MW,Bool.and_eq_true,bne_iff_ne] at this;exact absurd he this.1.1
  ·exact h
  ·have:=Yk u' u h (by omega);simp only [MW,Bool.and_eq_true,bne_iff_ne] at this;exact absurd he.symm this.1.1
 ·intro i hi
  have:=h3 i (by simpa using hi)
  have hm : i∈perm:=by simpa using this
  obtain ⟨u,hu,rfl⟩:=List.getElem_of_mem hm;exact ⟨u,by omega,by simp [gE,hu]⟩
 ·intro u hu j hj
  rcases JN perm [] h4 u (by omega) j hj with h | h
  ·simp at h
  ·exact h
 ·intro u u' h Lx d hd Mj
  have:=Yk u u' h (by omega);simp only [MW,Bool.and_eq_true] at this
  have h6:=this.1.2;simp only [iT,hd,Mj] at h6
  simp at h6
 ·intro u u' h Lx _ hn D lh E2
  have:=Yk u u' h (by omega);simp only [MW,Bool.and_eq_true] at this
  have h6:=this.2;rw [hn] at h6;simp only [Bool.not_true,Bool.false_or,List.contains_iff_mem] at h6;exact G8 lh ops.size 0 [] rfl (fun k hk=>by omega) (by omega) _ (by rw [Nat.zero_add]; exact h2 _ (CJ u' Lx)) _ h6 E2
end
end Go.AW
namespace Go.AW
open Go.RowKit
inductive IT where
 | fin (l : List Nat)
 | br (l : List Nat) (ts : IT)
 | nil
 | alt (h : Nat) (t ts : IT)
def IT.ot (f : Nat→Cu) : IT→Sp
 | .fin l=>.fin (l.map f)
 | .br l ts=>.br (l.map f) (ts.ot f)
 | .nil=>.nil
 | .alt h t ts=>.alt (f h) (t.ot f) (ts.ot f)
def IT.first : IT→List Nat
 | .fin l=>l
 | .br l ts=>l++ts.first
 | .nil=>[]
 | .alt h t _=>h::t.first
def IT.Y7 : IT→List Nat
 | .alt h _ ts=>h::ts.Y7
 | _=>[]
def IT.node : IT→Bool
 | .fin _=>true
 | .br _ _=>true
 | _=>false
def IT.O1 : IT→Bool
 | .alt ..=>true
 | _=>false
def prT (cl : List (List Nat)) (f : Nat→Cu) (p : List Nat) (m u u' : Nat) : Bool :=
 (p.getD u 0 != p.getD u' 0) && !((iT (f (p.getD u 0))).any ((iT (f (p.getD u' 0))).contains ·)) &&
  ((decide (u<m) && cls (f (p.getD u 0)).i == 2) || !KN (f (p.getD u 0)) (f (p.getD u' 0)) || (cl.getD (p.getD u' 0) []).contains (p.getD u 0))
def St (ops : Array Oper) (f : Nat→Cu) (p : List Nat) (m : Nat) : Bool :=
 p.length == ops.size && p.all (fun i=>decide (i<ops.size)) && (List.range ops.size).all (p.contains ·) && UC ops [] p &&
  (List.range ops.size).all fun u'=>(List.range u').all fun u=>prT (Vk ops ops.size 0 []) f p m u u'
def fM (ops : Array Oper) (q hs : List Nat) : Bool :=
 (List.range ops.size).all fun i=>q.contains i || hs.contains i || ((Vk ops ops.size 0 []).getD i []).any (hs.contains ·)
def Hx (ops : Array Oper) (f : Nat→Cu) : List Nat→IT→Bool
 | q,.fin l=>St ops f (q++l) q.length
 | q,.br l ts=>l.all (fun i=>decide (cls (f i).i<2)) && ts.O1 && fM ops (q++l) ts.Y7 && Hx ops f (q++l) ts
 | _,.nil=>true
 | q,.alt h t ts=>cls (f h).i == 2 && t.node && Hx ops f (q++[h]) t && Hx ops f q ts
def Vi (P : Program) (N : Nat) (ops : Array Oper) (hs : List Nat) (i : Nat) : Cu :=
 match ops[i]? with
 | some o=>(E8 P N ops (hs.getD i 0) o).getD default
 | none=>default
def mkT (ops : Array Oper) (f : Nat→Cu) (pm : List Nat) : Nat→List Nat→IT
 | 0,_=>.fin []
 | k+1,q =>
  let rest:=pm.filter fun i=>!q.contains i
  if St ops f (q++rest) q.length then .fin rest
  else
   let l:=rest.takeWhile fun i=>decide (cls (f i).i<2)
   .br l (((rest.drop l.length).filter fun h=>cls (f h).i == 2 && (Cl ops h).all (fun j=>(q++l).contains j)).foldr (fun h ts=>.alt h (mkT ops f pm k (q++l++[h])) ts) .nil)
def fo (f : Nat→Cu) : IT→SC
 | .fin l=>.Mb (l.map f)
 | .br l (.alt h (.fin r) (.alt h' (.fin r') .nil))=>.two (l.map f) (f h::r.map f) (f h'::r'.map f)
 | t=>.iW (t.ot f)
def fV (P : Program) (N : Nat) (ops : Array Oper) (hs : List Nat) (perm : List Nat) : Option IT :=
 if (List.range ops.size).all (fun i=>(ops[i]?.bind fun o=>E8 P N ops (hs.getD i 0) o).isSome) && P.follows .mixedOrders then
  let t:=mkT ops (Vi P N ops hs) (if perm.isEmpty then List.range ops.size else perm) 5 []
  if t.node && Hx ops (Vi P N ops hs) [] t then some t else none
 else none
section
variable {P : Program} {B N : Nat} {ops : Array Oper} {hs : List Nat} {f : Nat→Cu}
abbrev pT (p : List Nat) : Nat→Nat:=fun u=>p.getD u 0
abbrev sT (f : Nat→Cu) (p : List Nat) : Nat→Cu:=fun u=>f (p.getD u 0)
theorem JT (Jt : ∀ i,i<ops.size→Of P N ops hs i (f i)) {p : List Nat} {m : Nat} (h : St ops f p m=true) :
  Iw P N ops hs ops.size (pT p) (sT f p) (fun u=>decide (u<m) && cls (f (p.getD u 0)).i == 2)∧p.length=ops.size:=by
 simp only [St,Bool.and_eq_true,beq_iff_eq,List.all_eq_true,decide_eq_true_eq,List.mem_range] at h
 obtain ⟨⟨⟨⟨h1,h2⟩,h3⟩,h4⟩,h5⟩:=h
 have CJ : ∀ u,u<ops.size→p.getD u 0∈p:=fun u hu=>by
  rw [gE,List.getElem?_eq_getElem (by omega)]; simp
 have hp : ∀ u u',u<u'→u'<ops.size→p.getD u 0≠p.getD u' 0∧(∀ d,(f (p.getD u 0)).d=some d→(f (p.getD u' 0)).d≠some d) ∧
   ((decide (u<m) && cls (f (p.getD u 0)).i == 2)=false→KN (f (p.getD u 0)) (f (p.getD u' 0))=true→p.getD u 0∈(Vk ops ops.size 0 []).getD (p.getD u' 0) []):=fun u u' hu Lx=>by
  have:=h5 u' Lx u hu;rw [prT,Bool.and_eq_true,Bool.and_eq_true,bne_iff_ne,Bool.not_eq_true',Bool.or_eq_true,Bool.or_eq_true,Bool.not_eq_true',List.contains_iff_mem] at this
  obtain ⟨⟨a,b⟩,c⟩:=this;refine ⟨a,fun d hd Mj=>?_,fun hx hn=>?_⟩
  ·simp only [iT,hd,Mj] at b
   simp at b
  ·rcases c with (c | c) | c
   ·rw [hx] at c; cases c
   ·rw [hn] at c; cases c
   ·exact c
 refine ⟨⟨rfl,fun u hu=>h2 _ (CJ u hu),fun u u' hu Lx he=>?_,fun i hi=>?_,fun u hu=>Jt _ (h2 _ (CJ u hu)),fun u hu j hj=>?_,fun u u' h Lx d hd=>(hp u u' h Lx).2.1 d hd,fun u hu e=>?_,fun u u' h Lx hx hn D lh E2=>?_⟩,h1⟩
 ·rcases Nat.lt_trichotomy u u' with h | h | h
  ·exact absurd he (hp u u' h (by omega)).1
  ·exact h
  ·exact absurd he.symm (hp u' u h (by omega)).1
 ·have hm : i∈p:=by simpa using h3 i hi
  obtain ⟨u,hu,rfl⟩:=List.getElem_of_mem hm;exact ⟨u,by omega,by simp [gE,hu]⟩
 ·rcases JN p [] h4 u (by omega) j hj with h | h
  ·simp at h
  ·exact h
 ·rw [Bool.and_eq_true,beq_iff_eq] at e; exact e.2
 ·exact G8 lh ops.size 0 [] rfl (fun k hk=>by omega) (by omega) _ (by rw [Nat.zero_add]; exact h2 _ (CJ u' Lx)) _ ((hp u u' h Lx).2.2 hx hn) E2
theorem FA (Jt : ∀ i,i<ops.size→Of P N ops hs i (f i)) : ∀ (t : IT) (q : List Nat),Hx ops f q t=true→(t.node=true∨t.O1=true) →
  (∃ ex,Iw P N ops hs ops.size (pT (q++t.first)) (sT f (q++t.first)) ex)∧(q++t.first).length=ops.size
 | .fin l,q,h,_=>⟨⟨_,(JT Jt h).1⟩,(JT Jt h).2⟩
 | .br l ts,q,h,_=>by
  simp only [Hx,Bool.and_eq_true] at h
  have:=FA Jt ts (q++l) h.2 (.inr h.1.1.2);rw [List.append_assoc] at this;exact this
 | .nil,q,h,hn=>by rcases hn with hn | hn <;> cases hn
 | .alt h t ts,q,hc,_=>by
  simp only [Hx,Bool.and_eq_true] at hc
  have:=FA Jt t (q++[h]) hc.1.2 (.inl hc.1.1.2);rw [List.append_assoc] at this;exact this
theorem Xq {F : Env→AB→Prop} {σ : Env} {H : AB} {i : Nat} : ∀ (ts : IT) (q : List Nat),Hx ops f q ts=true→i∈ts.Y7→Nf P B (ts.ot f) F σ H →
  ∃ t,t.node=true∧Hx ops f (q++[i]) t=true∧cls (f i).i=2∧C9 P B [f i] (Nf P B (t.ot f) F) σ H
 | .fin l,q,_,h,_=>by cases h
 | .br l ts,q,_,h,_=>by cases h
 | .nil,q,_,h,_=>by cases h
 | .alt h t ts,q,hc,hi,ho=>by
  simp only [Hx,Bool.and_eq_true,beq_iff_eq] at hc
  rcases List.mem_cons.mp hi with rfl | hi
  ·exact ⟨t,hc.1.1.2,hc.1.2,hc.1.1.1,ho.1⟩
  ·exact Xq ts q hc.2 hi ho.2
theorem V0 {i : Nat} : ∀ (ts : IT) (q : List Nat),Hx ops f q ts=true→i∈ts.Y7→∃ t,t.node=true∧Hx ops f (q++[i]) t=true
 | .fin l,q,_,h=>by cases h
 | .br l ts,q,_,h=>by cases h
 | .nil,q,_,h=>by cases h
 | .alt h t ts,q,hc,hi=>by
  simp only [Hx,Bool.and_eq_true,beq_iff_eq] at hc
  rcases List.mem_cons.mp hi with rfl | hi
  ·exact ⟨t,hc.1.1.2,hc.1.2⟩
  ·exact V0 ts q hc.2 hi
theorem H5 {a b : List Nat} {u : Nat} (h : u<a.length) : (a++b).getD u 0=a.getD u 0:=by
 rw [gE,List.getElem?_append_left h,← gE]
theorem Sf {a b : List Nat} {i : Nat} : (a++i::b).getD a.length 0=i:=by simp [gE]
theorem O2 {a b : List Nat} {k : Nat} (h : a.length=k) : ((a++b).map f).drop k=b.map f:=by
 rw [List.map_append]; exact List.drop_left' (by simpa using h)
theorem SS {p : List Nat} {a b : List Nat} (h : p=a++b) {u : Nat} (hu : u<a.length) : (a.map f)[u]? = some (f (p.getD u 0)):=by
 rw [h,H5 hu,List.getElem?_map,gE,List.getElem?_eq_getElem hu]; rfl
theorem Inv.re {n : Nat} {p : Nat→Nat} {s : Nat→Cu} {ss ss2 : List Cu} {F F2 : Env→AB→Prop} {σ0 : Env} {D : Array Bool} {v : Nat} {σ : Env} {g : Gh} {H : AB} {w : World} {a : Act}
  (I : Inv P B N ops n p s ss F σ0 D v σ g H w a) (Q3 : C9 P B (ss2.drop v) F2 σ H) : Inv P B N ops n p s ss2 F2 σ0 D v σ g H w a :=
 ⟨I.dsz,I.down,I.vle,I.pre,I.wr,I.Jr,I.new,I.pend,I.same,Q3,I.rel,I.size⟩
theorem MV (Jt : ∀ i,i<ops.size→Of P N ops hs i (f i)) {F : Env→AB→Prop} {σ0 : Env} {g0 : Gh} {w0 : World} {df : List Deferred} {Q : Exit→Act→World→Prop}
  (hq : ∀ a' w',GJ F g0 B w0 N df a' w'→Q .normal a' w') : ∀ (fuel : Nat) (q l : List Nat) (ts : IT) (D : Array Bool) (σ : Env) (g : Gh) (H : AB) (w : World) (a : Act),D.toList.count false=fuel →
   Hx ops f q (.br l ts)=true →
   Inv P B N ops ops.size (pT ((q++l)++ts.first)) (sT f ((q++l)++ts.first)) ((q++l).map f) (Nf P B (ts.ot f) F) σ0 D (q++l).length σ g H w a→g0.le g→Below B w0 w→a.defers=df→wpAny P .any ops Q fuel D a w
 | fuel,q,l,ts,D,σ,g,H,w,a,hc,Q7,I,hg,hb,hd=>by
  have RY:=Q7;simp only [Hx,Bool.and_eq_true] at Q7
  obtain ⟨⟨⟨hl,nZ⟩,Ev⟩,gK⟩:=Q7
  obtain ⟨⟨ex,pl⟩,hlen⟩:=FA Jt ts (q++l) gK (.inr nZ)
  have hk : (q++l).length<ops.size:=by
   cases ts <;> simp only [IT.O1,Bool.false_eq_true] at nZ
   simp only [IT.first,List.length_append,List.length_cons] at hlen ⊢;omega
  have hkc : ¬ Fl D (pT ((q++l)++ts.first) (q++l).length):=fun h=>by
   have:=I.pre _ hk h; omega
  cases fuel with
  | zero=>exact absurd (Rq (I.dsz.trans pl.size) hc _ (pl.lt _ hk)) hkc
  | succ fuel =>
   refine ⟨fun hr=>absurd (HG pl I.dsz hr _ hk) hkc,fun i hi=>?_⟩;rw [G5 I.dsz] at hi
   obtain ⟨XX,KA,rM⟩:=hi
   obtain ⟨u,hu,rfl⟩:=pl.sG i (by rw [← pl.size]; exact XX)
   have E2:=Vn rM
   have VN:=M6 (by rw [I.dsz]; exact XX) KA hc
   by_cases aE : u<(q++l).length
   ·refine SV pl I hu aE KA E2 fun x g' w' e1 e2 e3 e4=>?_;exact MV Jt hq fuel q l ts _ σ g' H w' _ VN RY (Pb pl I hu aE KA E2 x e1 e2 e4) (hg.trans e1) (hb.trans e3) (by rw [put_defers]; exact hd)
   ·have tG : pT ((q++l)++ts.first) u ∉ q++l:=fun hm=>by
     obtain ⟨u1,h1,e⟩:=List.getElem_of_mem hm
     have h2 : pT ((q++l)++ts.first) u1=pT ((q++l)++ts.first) u:=by
      show ((q++l)++ts.first).getD u1 0=_
      rw [H5 h1,gE,List.getElem?_eq_getElem h1]; exact e
     have:=pl.inj u1 u (by omega) hu h2;omega
    have Kl:=Ev;simp only [fM,List.all_eq_true,List.mem_range,Bool.or_eq_true,List.contains_iff_mem,List.any_eq_true] at Kl
    have Q3:=I.go;rw [List.drop_eq_nil_of_le (by simp)] at Q3
    replace Q3 : Nf P B (ts.ot f) F σ H:=Q3
    rcases Kl _ XX with (Eo | Eo) | ⟨j,hj1,mF⟩
    ·exact absurd Eo tG
    ·generalize hiu : pT ((q++l)++ts.first) u=i at *
     obtain ⟨t,Pz,Ra,ly,hgo2⟩:=Xq ts (q++l) gK Eo Q3
     have key : ∀ {p2 : List Nat} {ex2 : Nat→Bool} (_ : p2=((q++l)++[i])++t.first) (pl2 : Iw P N ops hs ops.size (pT p2) (sT f p2) ex2)
       (fin : ∀ (x : Value) (σ' : Env) (g' : Gh) (H' : AB) (w' : World),g.le g'→Below B w w'→Inv P B N ops ops.size (pT p2) (sT f p2) (((q++l)++[i]).map f) (Nf P B (t.ot f) F) σ0 (D.setIfInBounds i true) ((q++l).length+1) σ' g' H' w' (a.put (f i).d x) →
        wpAny P .any ops Q fuel (D.setIfInBounds i true) (a.put (f i).d x) w'),wpOp P ops Q i (wpAny P .any ops Q fuel (D.setIfInBounds i true)) a w:=by
      intro p2 ex2 Er pl2 fin
      have ji : p2=(q++l)++(i::t.first):=by rw [Er,List.append_assoc]; rfl
      have Xa : ∀ u,u<(q++l).length→pT p2 u=pT ((q++l)++ts.first) u∧sT f p2 u=sT f ((q++l)++ts.first) u:=fun u hu=>by
       have : p2.getD u 0=((q++l)++ts.first).getD u 0:=by rw [ji,H5 hu,H5 hu]
       exact ⟨this,congrArg f this⟩
      have Qg : pT p2 (q++l).length=i:=by show p2.getD _ 0=i; rw [ji,Sf]
      have n8 : sT f p2 (q++l).length=f i:=congrArg f Qg
      have I2 : Inv P B N ops ops.size (pT p2) (sT f p2) (((q++l)++[i]).map f) (Nf P B (t.ot f) F) σ0 D (q++l).length σ g H w a :=
       I.move (ex2:=ex2) pl pl2 Xa hk (by rw [O2 rfl]; exact hgo2)
      have K8 : (((q++l)++[i]).map f)[(q++l).length]? = some (sT f p2 (q++l).length):=by rw [n8]; simp
      have hw:=V2 (Q:=Q) (fuel:=fuel) pl2 I2 hk K8 (by rw [Qg]; exact KA) (by rw [Qg]; exact E2) fun x ro g' H' w' e1 e2 e3 e4 Xf h5=>by
       have I3:=MH pl2 I2 hk (by rw [n8]; exact ly) (by rw [Qg]; exact KA) (by rw [Qg]; exact E2) x ro e1 e2 e4 Xf h5;rw [n8,Qg] at I3 ⊢;exact fin x _ g' H' w' e1 e3 I3
      rw [Qg] at hw;exact hw
     cases t with
     | nil=>cases Pz
     | alt _ _ _=>cases Pz
     | fin l' =>
      obtain ⟨pl2,Q1⟩:=JT Jt (p:=((q++l)++[i])++l') (m:=((q++l)++[i]).length) Ra;refine key rfl pl2 fun x σ' g' H' w' e1 e3 I3=>?_
      have I4 : Inv P B N ops ops.size _ _ ((((q++l)++[i])++l').map f) F σ0 _ _ _ _ _ _ _:=I3.re (F2:=F) (by
       have:=I3.go;rw [List.drop_eq_nil_of_le (by simp only [List.length_map,List.length_append,List.length_cons,List.length_nil]; omega)] at this;rw [O2 (by simp only [List.length_append,List.length_cons,List.length_nil])]; exact this)
      have Hl : ∀ u,u<ops.size→((((q++l)++[i])++l').map f)[u]? = some (sT f (((q++l)++[i])++l') u):=fun u hu=>SS (b:=[]) (by simp) (by omega)
      obtain ⟨v',σ2,I5,hle,-,TN⟩:=advance pl2 ops.size (Nat.le_refl _) (fun h=>absurd h (Nat.lt_irrefl _)) Hl _ _ _ rfl (by omega) I4;exact Jh pl2 (by rw [List.length_map]; exact Q1) Hl hq fuel _ v' σ2 g' H' w' _ VN I5 TN (fun u h1 h2=>by rw [Bool.and_eq_false_iff]; exact .inl (decide_eq_false (by simp only [List.length_append,List.length_cons,List.length_nil] at hle ⊢; omega))) (hg.trans e1) (hb.trans e3) (by rw [put_defers]; exact hd)
     | br l' ts' =>
      obtain ⟨⟨ex2,pl2⟩,Q1⟩:=FA Jt (.br l' ts') ((q++l)++[i]) Ra (.inl rfl)
      have kh:=Ra;simp only [Hx,Bool.and_eq_true,List.all_eq_true,decide_eq_true_eq] at kh
      have jl : ((q++l)++[i])++(IT.br l' ts').first=(((q++l)++[i])++l')++ts'.first:=by simp only [IT.first,List.append_assoc]
      refine key rfl pl2 fun x σ' g' H' w' e1 e3 I3=>?_
      have I4 : Inv P B N ops ops.size _ _ ((((q++l)++[i])++l').map f) (Nf P B (ts'.ot f) F) σ0 _ _ _ _ _ _ _:=I3.re (F2:=Nf P B (ts'.ot f) F) (by
       have:=I3.go;rw [List.drop_eq_nil_of_le (by simp only [List.length_map,List.length_append,List.length_cons,List.length_nil]; omega)] at this;rw [O2 (by simp only [List.length_append,List.length_cons,List.length_nil])]; exact this)
      have tH : (((q++l)++[i])++l').length<ops.size:=by
       have h1:=kh.1.1.2
       cases ts' <;> simp only [IT.O1,Bool.false_eq_true] at h1
       rw [jl] at Q1;simp only [IT.first,List.length_append,List.length_cons] at Q1 ⊢;omega
      have Hl : ∀ u,u<(((q++l)++[i])++l').length→((((q++l)++[i])++l').map f)[u]? = some (sT f (((q++l)++[i])++(IT.br l' ts').first) u):=fun u hu=>SS jl hu
      have rR : (((q++l)++[i])++l').length<ops.size→cls (sT f (((q++l)++[i])++(IT.br l' ts').first) (((q++l)++[i])++l').length).i=2:=fun _=>by
       have h1:=kh.1.1.2
       have h2:=kh.2
       cases ts' <;> simp only [IT.O1,Bool.false_eq_true] at h1
       simp only [Hx,Bool.and_eq_true,beq_iff_eq] at h2
       show cls (f ((((q++l)++[i])++(IT.br l' _).first).getD _ 0)).i=2
       rw [jl];simp only [IT.first];rw [Sf];exact h2.1.1.1
      obtain ⟨v',σ2,I5,hle,hle3,TN⟩:=advance pl2 (((q++l)++[i])++l').length (by omega) rR Hl _ _ _ rfl (by simp only [List.length_map,List.length_append,List.length_cons,List.length_nil]; omega) I4
      have iz : v'=(((q++l)++[i])++l').length:=by
       refine Classical.byContradiction fun Bp=>?_
       have h2:=TN (by omega)
       have h3 : (((q++l)++[i])++(IT.br l' ts').first).getD v' 0∈l':=by
        rw [jl,H5 (by omega),gE,List.getElem?_append_right (by simp only [List.length_append,List.length_cons,List.length_nil] at hle ⊢; omega)];rw [List.getElem?_eq_getElem (by simp only [List.length_append,List.length_cons,List.length_nil] at hle hle3 Bp ⊢; omega)]
        simp
       have h4:=kh.1.1.1 _ h3
       have h5 : cls (f ((((q++l)++[i])++(IT.br l' ts').first).getD v' 0)).i=2:=h2;omega
      subst iz;rw [jl] at I5;exact MV Jt hq fuel ((q++l)++[i]) l' ts' _ σ2 g' H' w' _ VN Ra I5 (hg.trans e1) (hb.trans e3) (by rw [put_defers]; exact hd)
    ·exfalso
     have hlj:=G8 I.down ops.size 0 [] rfl (fun k hk=>by omega) (by omega) _ (by rw [Nat.zero_add]; exact XX) _ hj1 E2
     obtain ⟨t,Pz,Ra⟩:=V0 ts (q++l) gK mF
     obtain ⟨⟨ex2,pl2⟩,Q1⟩:=FA Jt t ((q++l)++[j]) Ra (.inl Pz)
     have Er : ((q++l)++[j])++t.first=(q++l)++(j::t.first):=by rw [List.append_assoc]; rfl
     rw [Er] at pl2
     have jK : pT ((q++l)++(j::t.first)) (q++l).length=j:=by show List.getD _ _ 0=j; rw [Sf]
     have hjn : j<ops.size:=by rw [← jK]; exact pl2.lt _ hk
     obtain ⟨u1,h1,e1⟩:=pl.sG j hjn
     have h2:=I.pre u1 h1 (by rw [e1]; exact hlj)
     have h3 : pT ((q++l)++(j::t.first)) u1=j:=by
      rw [← e1]
      show List.getD _ _ 0=List.getD _ _ 0
      rw [H5 h2,H5 h2]
     have:=pl2.inj u1 (q++l).length h1 hk (by rw [h3,jK]);omega
theorem Xg (s : Cu) (r : List Cu) (F : Env→AB→Prop) : C9 P B (s::r) F=C9 P B [s] (C9 P B r F):=by
 obtain ⟨d,g,i⟩:=s
 cases g <;> rfl
theorem kL {Q : AQ} {σ : Env} {H : AB} : ∀ {t : IT},FW P B (fo f t) Q σ H→Nf P B (t.ot f) (Q .norm) σ H:=by
 intro t h;unfold fo at h
 split at h
 ·exact h
 ·rename_i l h1 r h2 r'
  have e : (fun (σ : Env) (H : AB)=>C9 P B (f h1::r.map f) (Q .norm) σ H∧C9 P B (f h2::r'.map f) (Q .norm) σ H)=Nf P B ((IT.alt h1 (.fin r) (.alt h2 (.fin r') .nil)).ot f) (Q .norm):=by
   funext σ H
   show (_∧_)=(_∧_∧True)
   rw [and_true,Xg,Xg (f h2)]; rfl
  have h : C9 P B (l.map f) (fun σ H=>C9 P B (f h1::r.map f) (Q .norm) σ H∧C9 P B (f h2::r'.map f) (Q .norm) σ H) σ H:=h;rw [e] at h;exact h
 ·exact h
theorem Td {perm : List Nat} {df : List Deferred} {t : IT} (hc : fV P N ops hs perm=some t)
  (F : Env→AB→Prop) (g : Gh) (H : AB) (w : World) (σ : Env) (a : Act) (Q : Exit→Act→World→Prop) (hW : Ao g B H w) (hE : Cc g σ a.tmps) (hN : a.tmps.size=N) (hd : a.defers=df)
  (hk : Nf P B (t.ot (Vi P N ops hs)) F σ H) (hq : ∀ a' w',GJ F g B w N df a' w'→Q .normal a' w') (id : Nat) : (Code.region id ops true).wp P Q a w:=by
 unfold fV at hc;dsimp only at hc
 generalize (if perm.isEmpty then List.range ops.size else perm)=pm at hc
 split at hc
 ·rename_i Ak
  rw [Bool.and_eq_true] at Ak
  obtain ⟨Ak,tC⟩:=Ak;simp only [List.all_eq_true,List.mem_range,Option.isSome_iff_exists] at Ak
  split at hc
  ·rename_i Q7
   simp only [Option.some.injEq] at hc;rw [hc,Bool.and_eq_true] at Q7
   obtain ⟨Pz,RY⟩:=Q7;clear hc
   have Jt : ∀ i,i<ops.size→Of P N ops hs i (Vi P N ops hs i):=fun i hi=>by
    obtain ⟨s,Hl⟩:=Ak i hi
    cases ho : ops[i]? with
    | none=>rw [ho] at Hl; cases Hl
    | some o =>
     rw [ho] at Hl;refine ⟨o,ho, ?_⟩
     have QD : E8 P N ops (hs.getD i 0) o=some s:=Hl;rw [Vi,ho];simp only [QD,Option.getD_some]
   generalize Vi P N ops hs=f at *;refine wp_region_any tC ?_
   have hD : ∀ i,i<ops.size→¬ Fl (Array.replicate ops.size false) i:=by
    intro i hi h
    simp [Fl,Array.getD,hi] at h
   have I0 : ∀ {p : List Nat} {ex : Nat→Bool} {ss : List Cu} {F : Env→AB→Prop},Iw P N ops hs ops.size (pT p) (sT f p) ex→C9 P B ss F σ H→Inv P B N ops ops.size (pT p) (sT f p) ss F σ (Array.replicate ops.size false) 0 σ g H { w with drawn:=w.drawn+1 } a :=
    fun pl hk=>⟨by simp,fun i hi h=>absurd h (hD i hi),Nat.zero_le _,fun u hu h=>absurd h (hD _ (pl.lt u hu)),fun u hu=>by omega,fun t x hx _=>hE t x hx,fun u hu=>by omega,fun u hu=>by omega,
     fun t _=>rfl,hk,hW.drew,hN⟩
   cases t with
   | nil=>cases Pz
   | alt _ _ _=>cases Pz
   | fin l =>
    obtain ⟨pl,hlen⟩:=JT Jt (p:=[]++l) (m:=0) RY
    have Hl : ∀ u,u<ops.size→(([]++l).map f)[u]? = some (sT f ([]++l) u):=fun u hu=>SS (b:=[]) (by simp) (by omega)
    obtain ⟨v',σ',I',-,-,TN⟩:=advance pl ops.size (Nat.le_refl _) (fun h=>absurd h (Nat.lt_irrefl _)) Hl _ 0 σ rfl (Nat.zero_le _) (I0 pl hk);exact Jh pl (by rw [List.length_map]; exact hlen) Hl hq ops.size _ v' σ' g H _ a (by simp) I' TN (fun u h1 h2=>by rw [Bool.and_eq_false_iff]; exact .inl (decide_eq_false (by omega))) (.refl g) ((Below.refl B w).drew) hd
   | br l ts =>
    have Q7:=RY;simp only [Hx,Bool.and_eq_true,List.all_eq_true,decide_eq_true_eq] at Q7
    obtain ⟨⟨⟨hl,nZ⟩,Ev⟩,gK⟩:=Q7
    obtain ⟨⟨ex,pl⟩,hlen⟩:=FA Jt (.br l ts) [] RY (.inl rfl)
    have hp : []++(IT.br l ts).first=([]++l)++ts.first:=rfl;rw [hp] at pl hlen
    have I : Inv P B N ops ops.size (pT (([]++l)++ts.first)) (sT f (([]++l)++ts.first)) (([]++l).map f) (Nf P B (ts.ot f) F) σ (Array.replicate ops.size false) 0 σ g H { w with drawn:=w.drawn+1 } a:=I0 pl hk
    have tH : ([]++l).length<ops.size:=by
     cases ts <;> simp only [IT.O1,Bool.false_eq_true] at nZ
     simp only [IT.first,List.length_append,List.length_cons] at hlen ⊢;omega
    have rR : ([]++l).length<ops.size→cls (sT f (([]++l)++ts.first) ([]++l).length).i=2:=fun _=>by
     cases ts <;> simp only [IT.O1,Bool.false_eq_true] at nZ
     simp only [Hx,Bool.and_eq_true,beq_iff_eq] at gK
     show cls (f (List.getD _ _ 0)).i=2
     simp only [IT.first];rw [Sf];exact gK.1.1.1
    obtain ⟨v',σ',I',-,hle,TN⟩:=advance pl ([]++l).length (by omega) rR (fun u hu=>SS rfl hu) _ 0 σ rfl (Nat.zero_le _) I
    have iz : v'=([]++l).length:=by
     refine Classical.byContradiction fun Bp=>?_
     have h2:=TN (by omega)
     have h3 : (([]++l)++ts.first).getD v' 0∈l:=by
      rw [H5 (by omega),gE,List.getElem?_eq_getElem (by omega)]
      simp
     have h4:=hl _ h3
     have h5 : cls (f ((([]++l)++ts.first).getD v' 0)).i=2:=h2;omega
    subst iz;exact MV Jt hq ops.size [] l ts _ σ' g H _ a (by simp) RY I' (.refl g) ((Below.refl B w).drew) hd
  ·cases hc
 ·cases hc
end
end Go.AW
namespace Go.AW
open Go.RowKit
def rA (P : Program) (N : Nat) (ops : Array Oper) (draw : Bool) (vs pm : List Nat) : Option SC :=
 if draw then (fV P N ops vs pm).map (fo (Vi P N ops vs)) else (Be P N ops vs (List.range ops.size)).map .Mb
def SC.kO : SC→Bool
 | .Mb _=>true
 | .two _ _ _=>true
 | .iW _=>true
 | _=>false
theorem pB (f : Nat→Cu) (t : IT) : (fo f t).kO=true:=by unfold fo; split <;> rfl
theorem oT {P : Program} {N : Nat} {ops : Array Oper} {d : Bool} {vs pm : List Nat} {s : SC} (h : rA P N ops d vs pm=some s) : s.kO=true:=by
 cases d <;> simp only [rA,Bool.false_eq_true,if_false,if_true,Option.map_eq_some_iff] at h <;> obtain ⟨t,_,rfl⟩:=h
 ·rfl
 ·exact pB _ t
theorem JI {P : Program} {N : Nat} {ops : Array Oper} {d : Bool} {vs pm : List Nat} {s : SC} (h : rA P N ops d vs pm=some s) (h1 : s.kO=false) : False:=by
 rw [oT h] at h1; cases h1
theorem O6 {P : Program} {B N : Nat} {ops : Array Oper} {d : Bool} {vs pm : List Nat} {s : SC} (h : rA P N ops d vs pm=some s) (Q : AQ) (g : Gh) (H : AB) (w : World) (σ : Env) (a : Act) {df : List Deferred} (hW : Ao g B H w) (hE : Cc g σ a.tmps) (hN : a.tmps.size=N) (hd : a.defers=df)
  (hk : FW P B s Q σ H) (id : Nat) : (Code.region id ops d).wp P (Im Q g B w N df) a w:=by
 cases d <;> simp only [rA,Bool.false_eq_true,if_false,if_true,Option.map_eq_some_iff] at h <;> obtain ⟨t,h,rfl⟩:=h
 ·exact wp_region (G2 _ _ h (Q .norm) g H w σ a _ hW hE hN hd hk fun a' w' hp=>hp)
 ·exact Td h (Q .norm) g H w σ a _ hW hE hN hd (kL hk) (fun a' w' hp=>hp) id
def B4 (P : Program) (N : Nat) (hs : Hints) : Code→Option SC
 | .skip=>some .skip
 | .region id ops draw =>
  rA P N ops draw ((hs.lookup id).elim [] (·.2)) ((hs.lookup id).elim [] (·.1))
 | .seq a b=>qt .seq (B4 P N hs a) (B4 P N hs b)
 | .cond c a b=>match cx c with
  | some x=>qt (.cond x) (B4 P N hs a) (B4 P N hs b)
  | none=>none
 | .block id c=>(B4 P N hs c).map (.block id)
 | .loop c=>(B4 P N hs c).map (.loop [])
 | .exit id=>some (.exit id)
 | .scope c=>(B4 P N hs c).map .Xd
 | .label _=>some .skip
 | .ret=>some .ret
 | _=>none
theorem CD {f : SC→SC→SC} {a b : Option SC} {s : SC} (h : qt f a b=some s) : ∃ x y,a=some x∧b=some y∧s=f x y:=by
 cases a <;> cases b <;> simp [qt] at h
 exact ⟨_,_,rfl,rfl,h.symm⟩
section
variable {P : Program} {B : Nat}
theorem Up {c : Code} {Q : Exit→Act→World→Prop} (I : Nat→Act→World→Prop) {n : Nat} {a : Act} {w : World} (h₀ : I n a w)
  (round : ∀ n a w,I n a w→c.wp P (Exit.then (fun a' w'=>∃ m,m<n∧I m a' w') Q) a w) : (Code.loop c).wp P Q a w:=by
 intro b k cs
 have key : ∀ n a w,I n a w →
   ∃ e a' w',Q e a' w'∧Arrives P (lone (b.at a (.code c::.inLoop c::k)) cs w) b k cs e a' w':=by
  intro n
  induction n using Nat.strongRecOn with
  | _ n ih =>
   intro a w hI
   obtain ⟨e,a₁,w₁,hq,VI⟩:=round n a w hI b (.inLoop c::k) cs
   cases e with
   | normal =>
    obtain ⟨m,D1,hI₁⟩:=hq
    obtain ⟨e₂,a₂,w₂,hq₂,kb⟩:=ih m D1 a₁ w₁ hI₁;exact ⟨e₂,a₂,w₂,hq₂,.of_steps (Steps.trans VI (.one step_inLoop)) kb⟩
   | exit id=>exact ⟨_,a₁,w₁,hq,.pass (x:=.inLoop c) rfl (fun _ _=>.inl (by simp)) VI⟩
   | goto l=>exact ⟨_,a₁,w₁,hq,.pass (x:=.inLoop c) rfl (fun _ _=>.inl (by simp)) VI⟩
   | ret=>exact ⟨_,a₁,w₁,hq,.pass (x:=.inLoop c) rfl (fun _ _=>.inl (by simp)) VI⟩
   | panic ch=>exact ⟨_,a₁,w₁,hq,.pass (x:=.inLoop c) rfl (fun _ _=>.inl (by simp)) VI⟩
   | outgrown=>exact ⟨_,a₁,w₁,hq,.pass (x:=.inLoop c) rfl (fun _ _=>.inl (by simp)) VI⟩
 obtain ⟨e,a',w',hq,VI⟩:=key n a w h₀;exact ⟨e,a',w',hq,.of_steps (.one step_loop) VI⟩
theorem bU {N : Nat} {hs : Hints} {c : Code} (h : B4 P N hs c=some .skip) : c=.skip∨∃ l,c=.label l:=by
 cases c <;> simp only [B4,reduceCtorEq] at h <;> first | exact .inl rfl | exact .inr ⟨_,rfl⟩ | skip
 all_goals exfalso
 ·exact JI h rfl
 ·obtain ⟨_,_,_,_,h⟩:=CD h; cases h
 ·split at h
  ·obtain ⟨_,_,_,_,h⟩:=CD h; cases h
  ·cases h
 ·rw [Option.map_eq_some_iff] at h; obtain ⟨_,_,h⟩:=h; cases h
 ·rw [Option.map_eq_some_iff] at h; obtain ⟨_,_,h⟩:=h; cases h
 ·cases h
 ·rw [Option.map_eq_some_iff] at h; obtain ⟨_,_,h⟩:=h; cases h
 ·cases h
theorem WW {N : Nat} {hs : Hints} {c : Code} {s : SC} (h : B4 P N hs c=some s) (hr : s.kO=true) : ∃ id ops d,c=.region id ops d∧rA P N ops d ((hs.lookup id).elim [] (·.2)) ((hs.lookup id).elim [] (·.1))=some s:=by
 cases c <;> simp only [B4,reduceCtorEq] at h
 case region id ops d=>exact ⟨id,ops,d,rfl,h⟩
 all_goals exfalso
 all_goals first
  | (obtain ⟨_,_,_,_,h⟩:=CD h; subst h; cases hr)
  | (rw [Option.map_eq_some_iff] at h; obtain ⟨_,_,h⟩:=h; subst h; cases hr)
  | (split at h <;> first | (obtain ⟨_,_,_,_,h⟩:=CD h; subst h; cases hr) | cases h)
  | (cases h; cases hr)
theorem Xo {N : Nat} {hs : Hints} {c : Code} {x y : SC} (h : B4 P N hs c=some (.seq x y)) : ∃ a b,c=.seq a b∧B4 P N hs a=some x∧B4 P N hs b=some y:=by
 cases c <;> simp only [B4,reduceCtorEq] at h
 ·cases h
 ·exfalso; exact JI h rfl
 ·obtain ⟨_,_,h1,h2,h⟩:=CD h; cases h; exact ⟨_,_,rfl,h1,h2⟩
 all_goals exfalso
 ·split at h
  ·obtain ⟨_,_,_,_,h⟩:=CD h; cases h
  ·cases h
 ·rw [Option.map_eq_some_iff] at h; obtain ⟨_,_,h⟩:=h; cases h
 ·rw [Option.map_eq_some_iff] at h; obtain ⟨_,_,h⟩:=h; cases h
 ·cases h
 ·rw [Option.map_eq_some_iff] at h; obtain ⟨_,_,h⟩:=h; cases h
 ·cases h
 ·cases h
theorem fE {N : Nat} {hs : Hints} {c : Code} {z : X} {x y : SC} (h : B4 P N hs c=some (.cond z x y)) :
  ∃ o a b,c=.cond o a b∧cx o=some z∧B4 P N hs a=some x∧B4 P N hs b=some y:=by
 cases c <;> simp only [B4,reduceCtorEq] at h
 ·cases h
 ·exfalso; exact JI h rfl
 ·exfalso; obtain ⟨_,_,h1,h2,h⟩:=CD h; cases h
 ·split at h
  ·rename_i hz; obtain ⟨_,_,h1,h2,h⟩:=CD h; cases h; exact ⟨_,_,_,rfl,hz,h1,h2⟩
  ·cases h
 all_goals exfalso
 ·rw [Option.map_eq_some_iff] at h; obtain ⟨_,_,h⟩:=h; cases h
 ·rw [Option.map_eq_some_iff] at h; obtain ⟨_,_,h⟩:=h; cases h
 ·cases h
 ·rw [Option.map_eq_some_iff] at h; obtain ⟨_,_,h⟩:=h; cases h
 ·cases h
 ·cases h
theorem Zo {N : Nat} {hs : Hints} {c : Code} {id : Nat} {x : SC} (h : B4 P N hs c=some (.block id x)) : ∃ a,c=.block id a∧B4 P N hs a=some x:=by
 cases c <;> simp only [B4,reduceCtorEq] at h
 ·cases h
 ·exfalso; exact JI h rfl
 ·exfalso; obtain ⟨_,_,h1,h2,h⟩:=CD h; cases h
 ·exfalso
  split at h
  ·obtain ⟨_,_,_,_,h⟩:=CD h; cases h
  ·cases h
 ·rw [Option.map_eq_some_iff] at h; obtain ⟨_,h1,h⟩:=h; cases h; exact ⟨_,rfl,h1⟩
 all_goals exfalso
 ·rw [Option.map_eq_some_iff] at h; obtain ⟨_,_,h⟩:=h; cases h
 ·cases h
 ·rw [Option.map_eq_some_iff] at h; obtain ⟨_,_,h⟩:=h; cases h
 ·cases h
 ·cases h
theorem cC {N : Nat} {hs : Hints} {c : Code} {x : SC} (h : B4 P N hs c=some (.loop [] x)) : ∃ a,c=.loop a∧B4 P N hs a=some x:=by
 cases c <;> simp only [B4,reduceCtorEq] at h
 ·cases h
 ·exfalso; exact JI h rfl
 ·exfalso; obtain ⟨_,_,h1,h2,h⟩:=CD h; cases h
 ·exfalso
  split at h
  ·obtain ⟨_,_,_,_,h⟩:=CD h; cases h
  ·cases h
 ·exfalso; rw [Option.map_eq_some_iff] at h; obtain ⟨_,_,h⟩:=h; cases h
 ·rw [Option.map_eq_some_iff] at h; obtain ⟨_,h1,h⟩:=h; cases h; exact ⟨_,rfl,h1⟩
 all_goals exfalso
 ·cases h
 ·rw [Option.map_eq_some_iff] at h; obtain ⟨_,_,h⟩:=h; cases h
 ·cases h
 ·cases h
theorem cG {N : Nat} {hs : Hints} {c : Code} {id : Nat} (h : B4 P N hs c=some (.exit id)) : c=.exit id:=by
 cases c <;> simp only [B4,reduceCtorEq] at h
 ·cases h
 ·exfalso; exact JI h rfl
 ·exfalso; obtain ⟨_,_,h1,h2,h⟩:=CD h; cases h
 ·exfalso
  split at h
  ·obtain ⟨_,_,_,_,h⟩:=CD h; cases h
  ·cases h
 ·exfalso; rw [Option.map_eq_some_iff] at h; obtain ⟨_,_,h⟩:=h; cases h
 ·exfalso; rw [Option.map_eq_some_iff] at h; obtain ⟨_,_,h⟩:=h; cases h
 ·cases h; rfl
 ·exfalso; rw [Option.map_eq_some_iff] at h; obtain ⟨_,_,h⟩:=h; cases h
 ·cases h
 ·cases h
theorem lM {N : Nat} {hs : Hints} {c : Code} (h : B4 P N hs c=some .ret) : c=.ret:=by
 cases c <;> simp only [B4,reduceCtorEq] at h
 ·cases h
 ·exfalso; exact JI h rfl
 ·exfalso; obtain ⟨_,_,h1,h2,h⟩:=CD h; cases h
 ·exfalso
  split at h
  ·obtain ⟨_,_,_,_,h⟩:=CD h; cases h
  ·cases h
 ·exfalso; rw [Option.map_eq_some_iff] at h; obtain ⟨_,_,h⟩:=h; cases h
 ·exfalso; rw [Option.map_eq_some_iff] at h; obtain ⟨_,_,h⟩:=h; cases h
 ·cases h
 ·exfalso; rw [Option.map_eq_some_iff] at h; obtain ⟨_,_,h⟩:=h; cases h
 ·cases h
 ·rfl
theorem lB {N : Nat} {hs : Hints} {c : Code} {x : SC} (h : B4 P N hs c=some (.Xd x)) : ∃ a,c=.scope a∧B4 P N hs a=some x:=by
 cases c <;> simp only [B4,reduceCtorEq] at h
 ·cases h
 ·exfalso; exact JI h rfl
 ·exfalso; obtain ⟨_,_,h1,h2,h⟩:=CD h; cases h
 ·exfalso
  split at h
  ·obtain ⟨_,_,_,_,h⟩:=CD h; cases h
  ·cases h
 ·exfalso; rw [Option.map_eq_some_iff] at h; obtain ⟨_,_,h⟩:=h; cases h
 ·exfalso; rw [Option.map_eq_some_iff] at h; obtain ⟨_,_,h⟩:=h; cases h
 ·cases h
 ·rw [Option.map_eq_some_iff] at h; obtain ⟨_,h1,h⟩:=h; cases h; exact ⟨_,rfl,h1⟩
 ·cases h
 ·cases h
theorem Le (sz : Nat) : ∀ (n : Nat) (cs : List AV),(chunk sz n cs).length=n
 | 0,_=>rfl
 | n+1,cs=>by simp [chunk,Le sz n]
theorem AV.cells_one {c : AV} (h : c.one=true) : c.cells=[c]:=by
 cases c <;> first | rfl | (simp [AV.one] at h)
theorem H6 {sz : Nat} (hz : 0<sz) : ∀ (n : Nat) (cs : List AV) (i : Nat),i<n→n*sz≤cs.length→(∀ c,c∈cs→c.one=true) →
  ((chunk sz n cs).getD i nv).cells.length=sz∧∀ j,j<sz→((chunk sz n cs).getD i nv).cells.getD j nv=cs.getD (i*sz+j) nv
 | 0,_,i,hi,_,_=>by omega
 | n+1,cs,i,hi,hl,ho=>by
  have oH : n*sz+sz≤cs.length:=by rw [Nat.add_mul] at hl; omega
  cases i with
  | zero =>
   simp only [chunk,List.getD_cons_zero]
   by_cases h1 : sz=1
   ·subst h1;rw [if_pos rfl]
    cases cs with
    | nil=>simp at oH
    | cons c cs =>
     simp only [List.headD_cons];rw [AV.cells_one (ho c (by simp))];refine ⟨rfl,fun j hj=>?_⟩
     have kz : j=0:=by omega
     subst kz; rfl
   ·rw [if_neg h1];simp only [AV.cells,Nat.zero_mul,Nat.zero_add];refine ⟨by simp; omega,fun j hj=>?_⟩
    simp [gE,hj]
  | succ i =>
   simp only [chunk,List.getD_cons_succ]
   obtain ⟨h1,h2⟩:=H6 hz n (cs.drop sz) i (by omega) (by simp; omega) (fun c hc=>ho c (List.mem_of_mem_drop hc));refine ⟨h1,fun j hj=>?_⟩;rw [h2 j hj];simp only [gE,List.getElem?_drop];rw [show sz+(i*sz+j)=(i+1)*sz+j by rw [Nat.add_mul]; omega]
theorem cJ {t : Nat} {F : Env→AB→Prop} {σ : Env} {H : AB} (h : dM t F σ H (σ.get t)) : ∃ σ' H',Wk σ H σ' H'∧F σ' H':=by
 cases hg : σ.get t with
 | none=>rw [hg] at h; exact ⟨σ,H,fun g B w tm a b=>⟨g,.refl g,a,b⟩,h⟩
 | some v =>
  rw [hg] at h
  by_cases hn : v=.A1
  ·subst hn;refine ⟨_,H,fun g B w tm a b=>⟨g,.refl g,a,fun s x e=>?_⟩,h⟩;simp only [Env.put,Env.get] at e
   split at e
   ·rename_i hs; cases e; subst hs
    obtain ⟨q1,q2⟩:=b s _ hg;refine ⟨q1, ?_⟩
    generalize tm.getD s undef=u at q2
    cases q2; exact .slnil none 0
   ·exact b s x e
  ·by_cases hb : ∃ id n,v=.buf id n
   ·obtain ⟨id,n,rfl⟩:=hb;simp only [dM] at h
    cases ho : H.get id with
    | none=>simp [ho,YC] at h
    | some o =>
     cases o with
     | map _ _=>simp [ho,YC] at h
     | cells sz cs f =>
      simp only [ho,YC] at h
      obtain ⟨⟨h1,hz,VO⟩,h3⟩:=h;refine ⟨_,_,fun g B w tm hW hE=>?_,h3⟩
      have h2 : ∀ i,i<n→((chunk sz n cs).getD i nv).cells.length=sz:=fun i hi=>(H6 hz n cs i hi (by omega) VO).1
      obtain ⟨q1,q2⟩:=hE t _ hg
      generalize hu : tm.getD t undef=u at q2
      cases q2 with
      | DX _ D3 =>
       obtain ⟨p,hp,hr⟩:=hW.ob id _ ho;rw [D3] at hp; cases hp;simp only [Aj] at hr
       obtain ⟨rfl,rfl⟩:=hr;refine ⟨g,.refl g,hW.sub ?_,fun s x e=>?_⟩
       ·intro k o e
        by_cases hk : k=id
        ·subst hk; simp at e; subst e; exact ho
        ·rwa [AB.B1 _ _ hk] at e
       ·simp only [Env.put,Env.get] at e
        split at e
        ·rename_i hs; cases e; subst hs
         refine ⟨q1, ?_⟩;rw [hu]; exact .slnil none 0
        ·exact hE s x e
      | buf _ _ b cap D3 =>
       obtain ⟨c,g',r1,r2,r3,r4,r5,r6⟩:=hW.Zb id b cap sz cs f ho D3
       obtain ⟨_,_,_,_,_,ub,K6,Md,_⟩:=hW.obj D3 ho;refine ⟨g',r1,r2,fun s x e=>?_⟩;simp only [Env.put,Env.get] at e
       split at e
       ·rename_i hs; cases e; subst hs
        refine ⟨q1, ?_⟩;rw [hu]
        have hlen:=Le sz n cs
        have key : Ab g' (.sl (chunk sz n cs)) (.slice (some ⟨b,0,none⟩) (chunk sz n cs).length cap):=by
         refine .sl _ b 0 sz cap (fun k=>c.getD k undef) ?_ ?_ ?_ ?_ ?_
         ·rw [hlen]
          have : n*1≤n*sz:=Nat.mul_le_mul_left _ hz;omega
         ·rw [hlen]
          have q : n*sz≤cap*sz:=by rw [← K6,← h1]; exact Md
          exact Nat.le_of_mul_le_mul_right q hz
         ·intro i hi; rw [hlen] at hi; exact h2 i hi
         ·intro i j hi hj;rw [hlen] at hi
          have D1 : i*sz+j<cs.length:=by
           rw [h1]
           have : (i+1)*sz≤n*sz:=Nat.mul_le_mul_right _ hi;rw [Nat.add_mul] at this; omega
          rw [Nat.zero_add]; exact r5 _ D1
         ·intro i j hi hj;rw [hlen] at hi
          have D1 : i*sz+j<cs.length:=by
           rw [h1]
           have : (i+1)*sz≤n*sz:=Nat.mul_le_mul_right _ hi;rw [Nat.add_mul] at this; omega
          rw [(H6 hz n cs i hi (by omega) VO).2 j hj];exact r6 _ D1
        rw [hlen] at key; exact key
       ·obtain ⟨z1,z2⟩:=hE s x e; exact ⟨z1,z2.mono r1⟩
   ·refine ⟨σ,H,fun g B w tm a b=>⟨g,.refl g,a,b⟩, ?_⟩;unfold dM at h
    split at h
    ·rename_i heq; cases heq; exact absurd ⟨_,_,rfl⟩ hb
    ·rename_i heq; cases heq; exact absurd rfl hn
    ·exact h
theorem Pc {N : Nat} {hs : Hints} {df : List Deferred} {x y : Code} {A : Env→AB→Prop} {Q : AQ} {g : Gh} {w : World} {a : Act}
  (h1 : x.wp P (Im (QW A Q) g B w N df) a w)
  (h2 : ∀ g' σ' H' w' a',Ao g' B H' w'→Cc g' σ' a'.tmps→a'.tmps.size=N→a'.defers=df→A σ' H'→y.wp P (Im Q g' B w' N df) a' w') :
  (Code.seq x y).wp P (Im Q g B w N df) a w:=by
 refine wp_seq (wp_mono h1 fun e a' w' hp=>?_)
 cases e with
 | normal =>
  obtain ⟨g',σ',H',q1,q2,q3,q4,q5,q6,q7⟩:=hp;exact wp_mono (h2 g' σ' H' w' a' q3 q4 q6 q7 q2) fun e2 a2 w2 Er=>Er.from q1 q5
 | exit id=>exact hp
 | ret=>exact hp
 | goto l=>exact hp.elim
 | panic ch=>exact hp.elim
 | outgrown=>exact hp.elim
theorem Hb {N : Nat} {hs : Hints} {df : List Deferred} : ∀ (s : SC) (c : Code),B4 P N hs c=some s.strip →
  ∀ (Q : AQ) (g : Gh) (H : AB) (w : World) (σ : Env) (a : Act),Ao g B H w→Cc g σ a.tmps→a.tmps.size=N→a.defers=df →
   FW P B s Q σ H→c.wp P (Im Q g B w N df) a w:=by
 intro s
 induction s with
 | skip =>
  intro c hc Q g H w σ a hW hE hN hd hk
  rcases bU hc with rfl | ⟨_,rfl⟩
  ·exact wp_skip ⟨g,σ,H,.refl g,hk,hW,hE,.refl B w,hN,hd⟩
  ·exact wp_label ⟨g,σ,H,.refl g,hk,hW,hE,.refl B w,hN,hd⟩
 | Mb l =>
  intro c hc Q g H w σ a hW hE hN hd hk
  obtain ⟨id,ops,d,rfl,h⟩:=WW hc rfl;exact O6 h Q g H w σ a hW hE hN hd hk id
 | two p l l' =>
  intro c hc Q g H w σ a hW hE hN hd hk
  obtain ⟨id,ops,d,rfl,h⟩:=WW hc rfl;exact O6 h Q g H w σ a hW hE hN hd hk id
 | iW t =>
  intro c hc Q g H w σ a hW hE hN hd hk
  obtain ⟨id,ops,d,rfl,h⟩:=WW hc rfl;exact O6 h Q g H w σ a hW hE hN hd hk id
 | seq x y ihx ihy =>
  intro c hc Q g H w σ a hW hE hN hd hk
  obtain ⟨c1,c2,rfl,h1,h2⟩:=Xo hc;exact Pc (hs:=hs) (ihx c1 h1 _ g H w σ a hW hE hN hd hk) fun g' σ' H' w' a' p1 p2 p3 p4 p5=>ihy c2 h2 Q g' H' w' σ' a' p1 p2 p3 p4 p5
 | fz t x ih =>
  intro c hc Q g H w σ a hW hE hN hd hk;simp only [FW] at hk
  obtain ⟨σ1,H1,aH,hM⟩:=cJ hk
  obtain ⟨g1,r1,r2,r3⟩:=aH g B w a.tmps hW hE;exact wp_mono (ih c hc Q g1 H1 w σ1 a r2 r3 hN hd hM) fun e2 a2 w2 Er=>Er.from r1 (.refl B w)
 | cut l x y ihx ihy =>
  intro c hc Q g H w σ a hW hE hN hd hk
  obtain ⟨c1,c2,rfl,h1,h2⟩:=Xo hc
  obtain ⟨M,k1,k2⟩:=hk
  have hx:=ihx c1 h1 _ g H w σ a hW hE hN hd k1;refine Pc (hs:=hs) (A:=fun σ H=>Gj M (Env.B6 l σ) H) (wp_mono hx fun e a' w' hp=>?_) fun g' σ' H' w' a' p1 p2 p3 p4 p5=>?_
  ·cases e <;> exact hp
  ·obtain ⟨σ1,H1,aH,hM⟩:=p5
   obtain ⟨g1,r1,r2,r3⟩:=aH g' B w' a'.tmps p1 (p2.B6 l);exact wp_mono (ihy c2 h2 Q g1 H1 w' σ1 a' r2 r3 p3 p4 (k2 _ _ hM)) fun e2 a2 w2 Er=>Er.from r1 (.refl B w')
 | cond z x y ihx ihy =>
  intro c hc Q g H w σ a hW hE hN hd hk
  obtain ⟨o,c1,c2,rfl,hz,h1,h2⟩:=fE hc;simp only [FW] at hk
  cases hv : val σ z with
  | none=>simp [hv,O4] at hk
  | some v =>
   have hr:=Ar hE hz hv;rw [hv] at hk
   cases v <;> try (simp [O4] at hk; done)
   rename_i b
   have hb : a.eval o=.bool b:=by
    generalize a.eval o=u at hr
    cases hr; rfl
   simp only [O4,At] at hk;refine wp_cond_split hb (fun ht=>?_) (fun hf=>?_)
   ·exact ihx c1 h1 Q g H w σ a hW hE hN hd (hk.1 ht)
   ·exact ihy c2 h2 Q g H w σ a hW hE hN hd (hk.2 hf)
 | block id x ih =>
  intro c hc Q g H w σ a hW hE hN hd hk
  obtain ⟨c1,rfl,h1⟩:=Zo hc;refine wp_block (wp_mono (ih c1 h1 _ g H w σ a hW hE hN hd hk) fun e a' w' hp=>?_)
  cases e with
  | normal=>exact hp
  | exit CT =>
   simp only [Exit.inBlock];simp only [Im,GJ,QJ] at hp
   by_cases h : CT=id
   ·rw [if_pos h]; simp only [h,if_true] at hp; exact hp
   ·rw [if_neg h]; simp only [h,if_false] at hp; exact hp
  | ret=>exact hp
  | goto l=>exact hp.elim
  | panic ch=>exact hp.elim
  | outgrown=>exact hp.elim
 | loop l x ih =>
  intro c hc Q g H w σ a hW hE hN hd hk
  obtain ⟨c1,rfl,h1⟩:=cC hc
  obtain ⟨I,n,σ0,H0,k1,k2,k3⟩:=hk
  obtain ⟨g0,r1,r2,r3⟩:=k2 g B w a.tmps hW (hE.B6 l);refine Up (fun n a' w'=>GJ (I n) g B w N df a' w') (n:=n) ⟨g0,σ0,H0,r1,k1,r2,r3,.refl B w,hN,hd⟩ ?_
  intro n a' w' ⟨g',σ',H',q1,q2,q3,q4,q5,q6,q7⟩;refine wp_mono (ih c1 h1 _ g' H' w' σ' a' q3 q4 q6 q7 (k3 n σ' H' q2)) fun e a2 w2 hp=>?_
  cases e with
  | normal =>
   obtain ⟨g2,σ2,H2,p1,⟨m,σ3,H3,hm,hI,aH⟩,p3,p4,p5,p6,p7⟩:=hp
   obtain ⟨g3,s1,s2,s3⟩:=aH g2 B w2 a2.tmps p3 (p4.B6 l);exact ⟨m,hm,g3,σ3,H3,q1.trans (p1.trans s1),hI,s2,s3,q5.trans p5,p6,p7⟩
  | exit CT=>exact Im.from (e:=.exit CT) q1 q5 hp
  | ret=>exact Im.from (e:=.ret) q1 q5 hp
  | goto l=>exact hp.elim
  | panic ch=>exact hp.elim
  | outgrown=>exact hp.elim
 | exit id =>
  intro c hc Q g H w σ a hW hE hN hd hk
  have:=cG hc; subst this;exact wp_exit ⟨g,σ,H,.refl g,hk,hW,hE,.refl B w,hN,hd⟩
 | ret =>
  intro c hc Q g H w σ a hW hE hN hd hk
  have:=lM hc; subst this;exact wp_ret ⟨g,σ,H,.refl g,hk,hW,hE,.refl B w,hN,hd⟩
 | Xd x ih =>
  intro c hc Q g H w σ a hW hE hN hd hk
  obtain ⟨c1,rfl,h1⟩:=lB hc;refine wp_scope_straight (wp_mono (ih c1 h1 Q g H w σ a hW hE hN hd hk) fun e a2 w2 hp=>?_)
  cases e <;> exact hp
 | B6 l x ih =>
  intro c hc Q g H w σ a hW hE hN hd hk;exact ih c hc Q g H w _ a hW (hE.B6 l) hN hd hk
 | wk x ih =>
  intro c hc Q g H w σ a hW hE hN hd hk
  obtain ⟨σ1,H1,aH,hM⟩:=hk
  obtain ⟨g1,r1,r2,r3⟩:=aH g B w a.tmps hW hE;exact wp_mono (ih c hc Q g1 H1 w σ1 a r2 r3 hN hd hM) fun e2 a2 w2 Er=>Er.from r1 (.refl B w)
inductive RV where
 | tmp (t : Nat)
 | cell (t : Nat) (n : Option Nat)
def OQ (P : Program) : ResultVar→Option RV
 | .tmp t=>some (.tmp t)
 | .cell t ty=>(HB P ty).map (.cell t)
def EU (P : Program) : List ResultVar→Option (List RV)
 | []=>some []
 | r::rs=>match OQ P r,EU P rs with
  | some a,some b=>some (a::b)
  | _,_=>none
def aV (n : Option Nat) : Option AV→AB→Option AV
 | some (.ref id off),H=>match H.get id,n with
  | some (.cells _ cs _),none=>if off<cs.length then some (cs.getD off nv) else none
  | some (.cells _ cs _),some n=>if off+n≤cs.length then some (.agg ((cs.drop off).take n)) else none
  | _,_=>none
 | some (.ptr cs),_=>match n with
  | none=>match cs with
   | c::_=>some c
   | []=>none
  | some n=>if cs.length=n then some (.agg cs) else none
 | _,_=>none
def vW (σ : Env) (H : AB) : RV→Option AV
 | .tmp t=>σ.get t
 | .cell t n=>aV n (σ.get t) H
def MU (σ : Env) (H : AB) : List RV→Option (List AV)
 | []=>some []
 | r::rs=>Mp (vW σ H r) (MU σ H rs)
def MP : Option (List AV)→Am→AB→Prop
 | some [v],K,H=>K v H
 | some vs,K,H=>K (.CG vs) H
 | none,_,_=>False
def Ik (K : Am) : Am:=fun v H=>∃ H',AB.sub H' H∧K v H'
def Qa (rs : List RV) (K : Am) : AQ
 | .norm,σ,H=>MP (MU σ H rs) (Ik K) H
 | .ret,σ,H=>MP (MU σ H rs) (Ik K) H
 | _,_,_=>False
def GV : Nat→List AV→Env
 | _,[]=>[]
 | k,a::r=>(k,some a)::GV (k+1) r
theorem MG : ∀ (as : List AV) (k t : Nat) (v : AV),(GV k as).get t=some v→k≤t∧t<k+as.length∧v=as.getD (t - k) nv
 | [],k,t,v,h=>by simp [GV,Env.get] at h
 | a::r,k,t,v,h=>by
  simp only [GV,Env.get] at h
  split at h
  ·rename_i e; cases h; subst e; simp
  ·obtain ⟨h1,h2,h3⟩:=MG r (k+1) t v h
   have e1 : t - k=(t - (k+1))+1:=by omega
   exact ⟨by omega,by simp; omega,by rw [e1]; simpa using h3⟩
theorem qA {g : Gh} {H : AB} {w : World} {σ : Env} {a : Act} (hW : Ao g B H w) (hE : Cc g σ a.tmps) {r : ResultVar} {rv : RV} (hr : OQ P r=some rv) {v : AV} (hv : vW σ H rv=some v) :
  ∃ u,(match r with
   | .tmp t=>pure (a.tmps.getD t undef)
   | .cell ad t=>do loadVar t (← asAddr (a.tmps.getD ad undef)) : Sem Value).run P w=.ok u w∧Ab g v u:=by
 cases r with
 | tmp t =>
  cases hr;exact ⟨_,rfl,(hE t v hv).2⟩
 | cell t ty =>
  simp only [OQ,Option.map_eq_some_iff] at hr
  obtain ⟨n,hn,rfl⟩:=hr;simp only [vW] at hv
  cases hg : σ.get t with
  | none=>cases n <;> simp [hg,aV] at hv
  | some av =>
   obtain ⟨h1,h2⟩:=hE t av hg;rw [hg] at hv
   cases av <;> try (cases n <;> simp [aV] at hv; done)
   case ptr cs =>
    have hl : ∃ p r,aB n (some (.ptr cs))=some (p,r)∧p∧r=v:=by
     cases n with
     | none =>
      cases cs with
      | nil=>simp [aV] at hv
      | cons c cs=>simp [aV] at hv; exact ⟨True,c,rfl,trivial,hv⟩
     | some n =>
      simp only [aV] at hv
      split at hv
      ·rename_i hlen; cases hv; exact ⟨_,_,rfl,hlen,rfl⟩
      ·cases hv
    obtain ⟨p,r,e1,e2,rfl⟩:=hl
    obtain ⟨u,q1,q2⟩:=KU (P:=P) hW hn h2 e1 e2;refine ⟨u, ?_,q2⟩
    obtain ⟨b,o,TB⟩ : ∃ b o,a.tmps.getD t undef=.pointer (some ⟨b,o,none⟩):=by
     generalize a.tmps.getD t undef=uv at h2
     cases h2; exact ⟨_,_,rfl⟩
    show ((do loadVar ty (← asAddr (a.tmps.getD t undef))) : Sem Value).run P w=_
    rw [TB] at q1 ⊢
    simpa [asAddr,Instr.loadAt,Instr.sureAddr] using q1
   case ref id off =>
    have hl : M3 (H.get id) n off (fun r H'=>r=v∧H'=H) H:=by
     simp only [aV] at hv
     cases ho : H.get id with
     | none=>simp [ho] at hv
     | some o =>
      cases o with
      | map _ _=>cases n <;> simp [ho] at hv
      | cells sz cs f =>
       cases n with
       | none=>simp only [ho] at hv; split at hv <;> simp_all [M3]
       | some n=>simp only [ho] at hv; split at hv <;> simp_all [M3]
    obtain ⟨u,q1,q2⟩:=OS (P:=P) hW hn h2 hl
    obtain ⟨g',r,H',p1,⟨rfl,rfl⟩,p3,p4,p5⟩:=q2
    have gS : Ab g r u:=by
     have Ii : M3 (H'.get id) n off (fun r' H''=>r'=r∧H''=H') H':=hl
     generalize hk0 : a.tmps.getD t undef=uv at h2 q1
     cases h2
     rename_i b cap D3
     cases ho : H'.get id with
     | none=>simp [ho,M3] at Ii
     | some o =>
      cases o with
      | map _ _=>cases n <;> simp [ho,M3] at Ii
      | cells sz cs f =>
       obtain ⟨c,el,h5,_,_,_,h6,h7,h8⟩:=hW.obj D3 ho
       cases n with
       | none =>
        simp only [ho,M3] at Ii
        obtain ⟨z1,z2,-⟩:=Ii
        have hc : w.cell? ⟨b,off,none⟩=some (c.getD off undef):=by rw [cell_of_row w b off c el _ h5]; exact getD_some (by omega)
        simp only [Instr.loadAt,Instr.sureAddr,loadVar,Sem.run_bind,Sem.run_pure,Result.andThen_ok,Fv hn] at q1;simp only [Bool.false_eq_true,if_false,run_load,hc,Result.ok.injEq,and_true] at q1;rw [← q1,← z2]; exact h8 off z1
       | some n =>
        simp only [ho,M3] at Ii
        obtain ⟨z1,z2,-⟩:=Ii
        obtain ⟨y1,i,y2,y3⟩:=JX (w:=w) hn
        have Qi:=run_loadCells (P:=P) w ⟨b,off,none⟩ n (fun j=>c.getD (off+j) undef) (fun j hj=>by
         rw [Addr.add_lit,cell_of_row w b (off+j) c el _ h5]; exact getD_some (by omega))
        simp only [Instr.loadAt,Instr.sureAddr,loadVar,Sem.run_bind,Sem.run_pure,Result.andThen_ok,y1,if_true,sizeOf,typeInfo,run_program,y2,y3] at q1;simp only [Qi,Result.andThen_ok,Sem.run_pure',Sem.run_pure,Result.ok.injEq,and_true] at q1;rw [← q1,← z2];refine .agg _ _ (by simp; omega) fun j hj=>?_
        have VM : j<n:=by simp at hj; omega
        have e1 : ((cs.drop off).take n).getD j nv=cs.getD (off+j) nv:=by simp [gE,VM]
        have e2 : (((List.range n).map fun j=>c.getD (off+j) undef).toArray).getD j undef=c.getD (off+j) undef:=by simp [Array.getD,VM]
        rw [e1,e2];exact h8 _ (by omega)
    refine ⟨u, ?_,gS⟩
    obtain ⟨b,o,TB⟩ : ∃ b o,a.tmps.getD t undef=.pointer (some ⟨b,o,none⟩):=by
     generalize a.tmps.getD t undef=uv at h2
     cases h2; exact ⟨_,_,rfl⟩
    show ((do loadVar ty (← asAddr (a.tmps.getD t undef))) : Sem Value).run P w=_
    rw [TB] at q1 ⊢
    simpa [asAddr,Instr.loadAt,Instr.sureAddr] using q1
theorem Sj {g : Gh} {H : AB} {w : World} {σ : Env} {a : Act} (hW : Ao g B H w) (hE : Cc g σ a.tmps) : ∀ {rs : List ResultVar} {rvs : List RV} {vs : List AV},EU P rs=some rvs →
  MU σ H rvs=some vs→∃ us : List Value,(rs.mapM fun r=>(match r with
   | .tmp t=>pure (a.tmps.getD t undef)
   | .cell ad t=>do loadVar t (← asAddr (a.tmps.getD ad undef)) : Sem Value)).run P w=.ok us w∧us.length=vs.length∧∀ i,i<vs.length→Ab g (vs.getD i nv) (us.getD i undef)
 | [],rvs,vs,h,hv=>by
  cases h; cases hv;exact ⟨[],by simp,rfl,by simp⟩
 | r::rs,rvs,vs,h,hv=>by
  unfold EU at h
  split at h
  ·rename_i x y h1 h2
   cases h
   obtain ⟨v,vs',q1,q2,rfl⟩:=GA hv
   obtain ⟨u,p1,p2⟩:=qA (P:=P) hW hE h1 q1
   obtain ⟨us,p3,p4,p5⟩:=Sj hW hE h2 q2;refine ⟨u::us, ?_,by simp [p4],fun i hi=>?_⟩
   ·simp only [List.mapM_cons,Sem.run_bind,p1,Result.andThen_ok,p3,Sem.run_pure]
   ·cases i with
    | zero=>exact p2
    | succ i=>simpa using p5 i (by simpa using hi)
  ·cases h
theorem B7.o0 {f : FuncId} {fn : Func} {c : Code} {s : SC} {hs : Hints} {rvs : List RV} (hf : P.funcs[f]? = some fn) (hb : fn.body = some c) (hn : (fn.name == "runtime.NumGoroutine") = false)
  (hc : B4 P fn.ntmps hs c=some s.strip) (hr : EU P fn.results.toList=some rvs) {args : List AV} (VJ : args.length≤fn.ntmps) {H : AB} {K : Am}
  (hk : FW P B s (Qa rvs K) (GV 0 args) H) : B7 P B f args H K:=by
 refine ⟨⟨fn,hf,by simp [hb],hn⟩,fun g w vs hW hv=>?_⟩;refine calls_of_wp hf hb ?_
 have CU : (vs++Array.replicate (fn.ntmps - vs.size) undef).size=fn.ntmps:=by simp [hv.1]; omega
 have hE : Cc g (GV 0 args) (vs++Array.replicate (fn.ntmps - vs.size) undef):=by
  intro t v ht
  obtain ⟨h1,h2,h3⟩:=MG args 0 t v ht;simp only [Nat.zero_add,Nat.sub_zero] at h2 h3;refine ⟨by rw [CU]; omega, ?_⟩
  have : (vs++Array.replicate (fn.ntmps - vs.size) undef).getD t undef=vs.getD t undef:=by
   simp only [Array.getD_eq_getD_getElem?];rw [Array.getElem?_append_left (by rw [hv.1]; exact h2)]
  rw [this,h3];exact hv.2 t h2
 have hwp:=Hb (df:=[]) s c hc (Qa rvs K) g H w (GV 0 args) { tmps:=vs++Array.replicate (fn.ntmps - vs.size) undef,defers:=[] } hW hE CU rfl hk
 have Lp : ∀ (e : AEx) σ' H' g' (a' : Act) w',Qa rvs K e σ' H'→g.le g'→Ao g' B H' w'→Cc g' σ' a'.tmps→Below B w w'→∃ v,(results fn a'.tmps).run P w'=.ok v w'∧Dk g B w K v w':=by
  intro e σ' H' g' a' w' hq hle sU hE' iH
  have NX : MP (MU σ' H' rvs) (Ik K) H':=by cases e <;> first | exact hq | exact hq.elim
  cases N5 : MU σ' H' rvs with
  | none=>simp [N5,MP] at NX
  | some avs =>
   rw [N5] at NX
   obtain ⟨us,p1,p2,p3⟩:=Sj (P:=P) sU hE' hr N5
   have Ip : (results fn a'.tmps).run P w'=.ok (if h : us.toArray.size=1 then us.toArray[0] else .tuple us.toArray) w':=by
    unfold results;rw [Array.mapM_eq_mapM_toList]
    have p1' : ((fn.results.toList.mapM fun r=>(match r with
     | .tmp t=>pure (a'.tmps.getD t undef)
     | .cell ad t=>do loadVar t (← asAddr (a'.tmps.getD ad undef)) : Sem Value)) : Sem (List Value)).run P w'=.ok us w':=p1
    simp only [Sem.run_bind,Sem.run_map];refine Eq.trans (congrArg (fun r=>Result.andThen (Result.andThen r _) _) p1') ?_
    rfl
   refine ⟨_,Ip, ?_⟩
   by_cases Iq : avs.length=1
   ·obtain ⟨v,rfl⟩:=List.length_eq_one_iff.1 Iq;simp only [MP] at NX
    obtain ⟨H2,QD,Hm⟩:=NX
    obtain ⟨u,rfl⟩:=List.length_eq_one_iff.1 (p2.trans rfl);refine ⟨g',v,H2,hle,Hm, ?_,sU.sub QD,iH⟩
    simpa using p3 0 (by simp)
   ·have Mf : Ik K (.CG avs) H':=by
     cases avs with
     | nil=>exact NX
     | cons v1 r=>cases r with
      | nil=>exact absurd rfl Iq
      | cons v2 r=>exact NX
    obtain ⟨H2,QD,Hm⟩:=Mf
    have Bp : ¬ us.toArray.size=1:=by simp; omega
    refine ⟨g',.CG avs,H2,hle,Hm, ?_,sU.sub QD,iH⟩;rw [dif_neg Bp];exact .CG avs us.toArray (by simp [p2]) fun i hi=>by simpa using p3 i hi
 refine wp_mono hwp fun e a' w' hp=>?_
 cases e with
 | normal =>
  obtain ⟨g',σ',H',q1,q2,q3,q4,q5,q6,q7⟩:=hp
  obtain ⟨v,r1,r2⟩:=Lp .norm σ' H' g' a' w' q2 q1 q3 q4 q5;exact ⟨q7,v,r1,v,rfl,r2⟩
 | ret =>
  obtain ⟨g',σ',H',q1,q2,q3,q4,q5,q6,q7⟩:=hp
  obtain ⟨v,r1,r2⟩:=Lp .ret σ' H' g' a' w' q2 q1 q3 q4 q5;exact ⟨q7,v,r1,v,rfl,r2⟩
 | exit id =>
  obtain ⟨g',σ',H',q1,q2,_⟩:=hp;exact q2.elim
 | goto l=>exact hp.elim
 | panic ch=>exact hp.elim
 | outgrown=>exact hp.elim
end
end Go.AW
namespace Go.AW
section
variable {P : Program} {B : Nat} {Q : AQ} {F : Env→AB→Prop} {σ : Env} {H : AB} {d : Option Nat}
@[go_sem] theorem xW : FW P B .skip Q σ H=Q .norm σ H:=rfl
@[go_sem] theorem nu (t : Sp) : FW P B (.iW t) Q σ H=Nf P B t (Q .norm) σ H:=rfl
@[go_sem] theorem ru (l : List Cu) (F : Env→AB→Prop) : Nf P B (.fin l) F σ H=C9 P B l F σ H:=rfl
@[go_sem] theorem otW_br (l : List Cu) (ts : Sp) (F : Env→AB→Prop) : Nf P B (.br l ts) F σ H=C9 P B l (Nf P B ts F) σ H:=rfl
@[go_sem] theorem rk (F : Env→AB→Prop) : Nf P B .nil F σ H=True:=rfl
@[go_sem] theorem sx (h : Cu) (t ts : Sp) (F : Env→AB→Prop) : Nf P B (.alt h t ts) F σ H=(C9 P B [h] (Nf P B t F) σ H∧Nf P B ts F σ H):=rfl
@[go_sem] theorem sk (p l l' : List Cu) : FW P B (.two p l l') Q σ H=C9 P B p (fun σ H=>C9 P B l (Q .norm) σ H∧C9 P B l' (Q .norm) σ H) σ H:=rfl
@[go_sem] theorem rl (l : List Cu) : FW P B (.Mb l) Q σ H=C9 P B l (Q .norm) σ H:=rfl
@[go_sem] theorem rj (a b : SC) : FW P B (.seq a b) Q σ H=FW P B a (QW (FW P B b Q) Q) σ H:=rfl
@[go_sem] theorem ia (x : X) (a b : SC) : FW P B (.cond x a b) Q σ H=O4 (val σ x) (FW P B a Q) (FW P B b Q) σ H:=rfl
@[go_sem] theorem vF (id : Nat) (c : SC) : FW P B (.block id c) Q σ H=FW P B c (QJ id Q) σ H:=rfl
@[go_sem] theorem zS (id : Nat) : FW P B (.exit id) Q σ H=Q (.exit id) σ H:=rfl
@[go_sem] theorem sd (c : SC) : FW P B (.Xd c) Q σ H=FW P B c Q σ H:=rfl
@[go_sem] theorem tx : FW P B .ret Q σ H=Q .ret σ H:=rfl
@[go_sem] theorem zL (l : List Nat) (c : SC) : FW P B (.B6 l c) Q σ H=FW P B c Q (Env.B6 l σ) H:=rfl
@[go_sem] theorem awp_fz (t : Nat) (c : SC) : FW P B (.fz t c) Q σ H=dM t (FW P B c Q) σ H (σ.get t):=rfl
@[go_sem] theorem uU : QW F Q .norm σ H=F σ H:=rfl
@[go_sem] theorem qH : QW F Q .norm=F:=rfl
@[go_sem] theorem uA (i : Nat) : QW F Q (.exit i) σ H=Q (.exit i) σ H:=rfl
@[go_sem] theorem gy : QW F Q .ret σ H=Q .ret σ H:=rfl
@[go_sem] theorem u9 (i : Nat) : QJ i Q .norm σ H=Q .norm σ H:=rfl
@[go_sem] theorem pY (i : Nat) : QJ i Q .norm=Q .norm:=rfl
@[go_sem] theorem vS (i j : Nat) : QJ j Q (.exit i) σ H=(match Nat.beq i j with | true=>Q .norm σ H | false=>Q (.exit i) σ H):=by
 show (if i=j then Q .norm σ H else Q (.exit i) σ H)=_
 by_cases h : i=j
 ·subst h; simp
 ·rw [if_neg h,show Nat.beq i j=false from Bool.eq_false_iff.mpr fun e=>h (Nat.eq_of_beq_eq_true e)]
@[go_sem] theorem fx (i : Nat) : QJ i Q .ret σ H=Q .ret σ H:=rfl
@[go_sem] theorem yI (l : List Nat) (I : Nat→Env→AB→Prop) (n : Nat) : nO l I n Q .norm σ H=∃ m σ' H',m<n∧I m σ' H'∧Wk (Env.B6 l σ) H σ' H':=rfl
@[go_sem] theorem du (l : List Nat) (I : Nat→Env→AB→Prop) (n i : Nat) : nO l I n Q (.exit i) σ H=Q (.exit i) σ H:=rfl
@[go_sem] theorem tc (l : List Nat) (I : Nat→Env→AB→Prop) (n : Nat) : nO l I n Q .ret σ H=Q .ret σ H:=rfl
@[go_sem] theorem xB (l : List Nat) (M : Env→AB→Prop) : au l M Q .norm σ H=Gj M (Env.B6 l σ) H:=rfl
@[go_sem] theorem bu (l : List Nat) (M : Env→AB→Prop) (i : Nat) : au l M Q (.exit i) σ H=Q (.exit i) σ H:=rfl
@[go_sem] theorem qb (l : List Nat) (M : Env→AB→Prop) : au l M Q .ret σ H=Q .ret σ H:=rfl
@[go_sem] theorem bo (rs : List RV) (K : Am) : Qa rs K .ret σ H=MP (MU σ H rs) (Ik K) H:=rfl
@[go_sem] theorem vY (rs : List RV) (K : Am) : Qa rs K .norm σ H=MP (MU σ H rs) (Ik K) H:=rfl
@[go_sem] theorem bw : MU σ H []=some []:=rfl
@[go_sem] theorem tX (r : RV) (rs : List RV) : MU σ H (r::rs)=Mp (vW σ H r) (MU σ H rs):=rfl
@[go_sem] theorem nn (t : Nat) : vW σ H (.tmp t)=σ.get t:=rfl
@[go_sem] theorem ab (t : Nat) (n : Option Nat) : vW σ H (.cell t n)=aV n (σ.get t) H:=rfl
@[go_sem] theorem eo (v : AV) (K : Am) : MP (some [v]) K H=K v H:=rfl
@[go_sem] theorem uJ (K : Am) : MP (some []) K H=K (.CG []) H:=rfl
@[go_sem] theorem zZ (u v : AV) (r : List AV) (K : Am) : MP (some (u::v::r)) K H=K (.CG (u::v::r)) H:=rfl
@[go_sem] theorem get_nil (t : Nat) : Env.get [] t=none:=rfl
@[go_sem] theorem He (s : Nat) (v : Option AV) (r : Env) (t : Nat) : Env.get ((s,v)::r) t=(match Nat.beq t s with | true=>v | false=>Env.get r t):=by
 rw [Env.He]
 by_cases h : t=s
 ·subst h; simp
 ·rw [if_neg h,show Nat.beq t s=false from Bool.eq_false_iff.mpr fun e=>h (Nat.eq_of_beq_eq_true e)]
@[go_sem] theorem cb : Env.B6 [] σ=[]:=rfl
@[go_sem] theorem uK (t : Nat) (r : List Nat) : Env.B6 (t::r) σ=(t,σ.get t)::Env.B6 r σ:=rfl
@[go_sem] theorem put_eq (t : Nat) (v : AV) : Env.put σ t v=(t,some v)::σ:=rfl
@[go_sem] theorem uF (t : Nat) : Env.forget σ t=(t,none)::σ:=rfl
@[go_sem] theorem kN (t : Nat) : IL (some t) σ=(t,some nv)::σ:=rfl
@[go_sem] theorem su (b : Bool) (cs : List AV) (A C : Env→AB→Prop) : iQ (some (.CG cs)) b A C σ H=C σ H:=rfl
@[go_sem] theorem jN : IL none σ=σ:=rfl
@[go_sem] theorem uN (k : Nat) : GV k []=[]:=rfl
@[go_sem] theorem pL (k : Nat) (a : AV) (r : List AV) : GV k (a::r)=(k,some a)::GV (k+1) r:=rfl
@[go_sem] theorem val_t (n : Nat) : val σ (.t n)=σ.get n:=rfl
@[go_sem] theorem val_c (v : AV) : val σ (.c v)=some v:=rfl
@[go_sem] theorem dh : D9 σ []=some []:=rfl
@[go_sem] theorem vI (x : X) (r : List X) : D9 σ (x::r)=Mp (val σ x) (D9 σ r):=rfl
@[go_sem] theorem fh (a : AV) (r : List AV) : Mp (some a) (some r)=some (a::r):=rfl
@[go_sem] theorem eu : C9 P B [] F σ H=F σ H:=rfl
@[go_sem] theorem yK (i : Ins) (r : List Cu) : C9 P B (⟨d,none,i⟩::r) F σ H=Fb P B d i (C9 P B r F) σ H:=rfl
@[go_sem] theorem opsW_g (t : Nat) (b : Bool) (i : Ins) (r : List Cu) :
  C9 P B (⟨d,some (t,b),i⟩::r) F σ H=iQ (σ.get t) b (Fb P B d i (C9 P B r F)) (fg d (C9 P B r F)) σ H:=rfl
@[go_sem] theorem xD : fg d F σ H=F (IL d σ) H:=rfl
structure Br (c : Bool) (p q : Prop) : Prop where
 t : c=true→p
 f : c=false→q
structure Bn (c : Bool) (p q : Prop) : Prop where
 f : c=false→p
 t : c=true→q
@[go_sem] theorem Br_t (A C : Env→AB→Prop) : Br true (At A σ H) (At C σ H)=A σ H:=propext ⟨fun h=>h.t rfl,fun h=>⟨fun _=>h,fun e=>by cases e⟩⟩
@[go_sem] theorem Br_f (A C : Env→AB→Prop) : Br false (At A σ H) (At C σ H)=C σ H:=propext ⟨fun h=>h.f rfl,fun h=>⟨fun e=>(by cases e),fun _=>h⟩⟩
@[go_sem] theorem Bn_t (A C : Env→AB→Prop) : Bn true (At A σ H) (At C σ H)=C σ H:=propext ⟨fun h=>h.t rfl,fun h=>⟨fun e=>(by cases e),fun _=>h⟩⟩
@[go_sem] theorem Bn_f (A C : Env→AB→Prop) : Bn false (At A σ H) (At C σ H)=A σ H:=propext ⟨fun h=>h.f rfl,fun h=>⟨fun _=>h,fun e=>by cases e⟩⟩
@[go_sem] theorem zl (c : Bool) (A C : Env→AB→Prop) : iQ (some (.bool c)) true A C σ H=Br c (At A σ H) (At C σ H):=propext ⟨fun h=>⟨h.1,h.2⟩,fun h=>⟨h.t,h.f⟩⟩
@[go_sem] theorem yk (c : Bool) (A C : Env→AB→Prop) : iQ (some (.bool c)) false A C σ H=Bn c (At A σ H) (At C σ H):=propext ⟨fun h=>⟨h.1,h.2⟩,fun h=>⟨h.f,h.t⟩⟩
@[go_sem] theorem cndW_b (c : Bool) (A C : Env→AB→Prop) : O4 (some (.bool c)) A C σ H=Br c (At A σ H) (At C σ H):=propext ⟨fun h=>⟨h.1,h.2⟩,fun h=>⟨h.t,h.f⟩⟩
def pE (d : Option Nat) (F : Env→AB→Prop) (σ : Env) (H : AB) (e : PV) : Prop:=pW e (DN d F σ) H
@[go_sem] theorem vC (t : Nat) (v : AV) : DN (some t) F σ v H=F ((t,some v)::σ) H:=rfl
@[go_sem] theorem tZ (v : AV) : DN none F σ v H=F σ H:=rfl
@[go_sem] theorem rh (p : Prop) (r : AV) : pE d F σ H (some (p,r))=(p∧DN d F σ r H):=rfl
attribute [go_sem] true_and
@[go_sem] theorem opE_mv (x : X) : Fb P B d (.mv x) F σ H=pE d F σ H (W0 (val σ x)):=rfl
@[go_sem] theorem gj (c a b : X) : Fb P B d (.pick c a b) F σ H=pE d F σ H (Mt (val σ c) (val σ a) (val σ b)):=rfl
@[go_sem] theorem jT (op : BinOp) (k : IntKind) (x y : X) : Fb P B d (.ar op k x y) F σ H=pE d F σ H (Hz op k (val σ x) (val σ y)):=rfl
@[go_sem] theorem zq (n : Bool) (m : Nat) (x y : X) : Fb P B d (.aq n m x y) F σ H=pE d F σ H (iS n m (val σ x) (val σ y)):=rfl
@[go_sem] theorem ZU (x : X) : Fb P B d (.nt x) F σ H=pE d F σ H (uW (val σ x)):=rfl
@[go_sem] theorem cj (k : IntKind) (x : X) : Fb P B d (.conv k x) F σ H=pE d F σ H (Qo k (val σ x)):=rfl
@[go_sem] theorem pq (x : X) : Fb P B d (.len x) F σ H=pE d F σ H (Ee (val σ x)):=rfl
@[go_sem] theorem pa (ks vs : List AV) (K : Am) : lm1 (some (.map ks vs)) K H=K (.int .i64 ks.length) H:=rfl
@[go_sem] theorem nk (s id n : Nat) (k : IntKind) (a : Int) : Js s id n (some (some (.int k a))) none=some (0≤a∧a.toNat<n,.sub id (a.toNat*s) (n - a.toNat)):=rfl
@[go_sem] theorem nz (s id n : Nat) (k : IntKind) (b : Int) : Js s id n none (some (some (.int k b)))=some (0≤b∧b.toNat≤n∧0<n,.buf id b.toNat):=rfl
@[go_sem] theorem af (i o n : Nat) : Ee (some (.sub i o n))=some (True,.int .i64 n):=rfl
@[go_sem] theorem yU (n id o m : Nat) (k : IntKind) (i : Int) : Hy n (some (.sub id o m)) (some (.int k i))=some (0≤i∧i.toNat<m,.ref id (o+i.toNat*n)):=rfl
@[go_sem] theorem qg (n : Nat) (x i : X) : Fb P B d (.idx n x i) F σ H=pE d F σ H (Hy n (val σ x) (val σ i)):=rfl
@[go_sem] theorem ns (o n : Nat) (x : X) : Fb P B d (.oL o n x) F σ H=pE d F σ H (TW o n (val σ x)):=rfl
@[go_sem] theorem tp (n : Option Nat) (x : X) : Fb P B d (.v8 n x) F σ H=pE d F σ H (aB n (val σ x)):=rfl
@[go_sem] theorem py (x : X) : Fb P B d (.n0 x) F σ H=pE d F σ H (Wc (val σ x)):=rfl
@[go_sem] theorem qv (z : List AV) (ps : List (Nat × Nat × X)) : Fb P B d (.rU z ps) F σ H=pE d F σ H (ZL (J6 σ ps z)):=rfl
@[go_sem] theorem tg (o : Nat) (n : Option Nat) (x : X) : Fb P B d (.prt o n x) F σ H=pE d F σ H (Tc o n (val σ x)):=rfl
@[go_sem] theorem tr (x : X) (i : Nat) : Fb P B d (.ext x i) F σ H=pE d F σ H (Zv i (val σ x)):=rfl
@[go_sem] theorem si (f : Fn) (l : List X) : Fb P B d (.tM f l) F σ H=pE d F σ H (dF f (D9 σ l)):=rfl
@[go_sem] theorem oq (t : TypeId) (x : X) : Fb P B d (.oA t x) F σ H=pE d F σ H (eY t (val σ x)):=rfl
@[go_sem] theorem gp (n : Nat) (l : List X) : Fb P B d (.aS n l) F σ H=pE d F σ H (bO n (D9 σ l)):=rfl
@[go_sem] theorem tU (o n id : Nat) (cs : List AV) : TW o n (some (.Gd cs id))=some (True,if o+n≤cs.length then .ptr ((cs.drop o).take n) else .ref id o):=rfl
@[go_sem] theorem uD (id : Nat) (cs : List AV) : Wc (some (.Gd cs id))=some (True,.Gd cs id):=rfl
@[go_sem] theorem sy : Fb P B d .emp F σ H=pE d F σ H (some (True,.FG)):=rfl
@[go_sem] theorem px : Ee (some .FG)=some (True,.int .i64 0):=rfl
@[go_sem] theorem aj (n : Nat) (x : X) : Fb P B d (.aM n x) F σ H=pE d F σ H (dE n (val σ x)):=rfl
@[go_sem] theorem ze (b : Bool) (x y : X) : Fb P B d (.mx b x y) F σ H=pE d F σ H (kX b (val σ x) (val σ y)):=rfl
@[go_sem] theorem se (x : X) : Fb P B d (.wR x) F σ H=pE d F σ H (Ss (val σ x)):=rfl
@[go_sem] theorem dq (v : AV) : W0 (some v)=some (True,v):=rfl
@[go_sem] theorem ry (a b : Option AV) : Mt (some (.bool true)) a b=W0 a:=rfl
@[go_sem] theorem nw (a b : Option AV) : Mt (some (.bool false)) a b=W0 b:=rfl
@[go_sem] theorem rp (k : IntKind) (a b : Int) : Hz .add k (some (.int k a)) (some (.int k b))=some (True,.int k (k.wrap (a+b))):=by simp [Hz,Uc]
@[go_sem] theorem bz (k : IntKind) (a b : List UInt8) : Hz .add k (some (.str a)) (some (.str b))=some (a.length+b.length≤AL,.str (a++b)):=rfl
@[go_sem] theorem xP (k : IntKind) (a b : List UInt8) : Hz .eql k (some (.str a)) (some (.str b))=some (True,.bool (decide (a=b))):=rfl
@[go_sem] theorem en (k : IntKind) (a b : List UInt8) : Hz .neq k (some (.str a)) (some (.str b))=some (True,.bool (!decide (a=b))):=rfl
@[go_sem] theorem iq (l : List UInt8) (k : IntKind) (a : Int) : KE 0 (some (.str l)) (some (some (.int k a))) none=some (0≤a∧a≤l.length,.str (l.drop a.toNat)):=rfl
@[go_sem] theorem pd (k : IntKind) (a b : Int) : Hz .sub k (some (.int k a)) (some (.int k b))=some (True,.int k (k.wrap (a - b))):=by simp [Hz,Uc]
@[go_sem] theorem pc (k : IntKind) (a b : Int) : Hz .mul k (some (.int k a)) (some (.int k b))=some (True,.int k (k.wrap (a*b))):=by simp [Hz,Uc]
@[go_sem] theorem nc (k : IntKind) (a b : Int) : Hz .quo k (some (.int k a)) (some (.int k b))=some (b≠0,.int k (k.wrap (a.tdiv b))):=by simp [Hz,Uc]
@[go_sem] theorem qj (k : IntKind) (a b : Int) : Hz .rem k (some (.int k a)) (some (.int k b))=some (b≠0,.int k (a.tmod b)):=by simp [Hz,Uc]
@[go_sem] theorem sj (k : IntKind) (a b : Int) : Hz .eql k (some (.int k a)) (some (.int k b))=some (True,.bool (decide (a=b))):=by simp [Hz,Uc]
@[go_sem] theorem qc (k : IntKind) (a b : Int) : Hz .neq k (some (.int k a)) (some (.int k b))=some (True,.bool (!decide (a=b))):=by simp [Hz,Uc]
@[go_sem] theorem tu (k : IntKind) (a b : Int) : Hz .lss k (some (.int k a)) (some (.int k b))=some (True,.bool (decide (a<b))):=by simp [Hz,Uc]
@[go_sem] theorem tf (k : IntKind) (a b : Int) : Hz .leq k (some (.int k a)) (some (.int k b))=some (True,.bool (decide (a≤b))):=by simp [Hz,Uc]
@[go_sem] theorem tk (k : IntKind) (a b : Int) : Hz .gtr k (some (.int k a)) (some (.int k b))=some (True,.bool (decide (b<a))):=by simp [Hz,Uc]
@[go_sem] theorem nf (k : IntKind) (a b : Int) : Hz .geq k (some (.int k a)) (some (.int k b))=some (True,.bool (decide (b≤a))):=by simp [Hz,Uc]
@[go_sem] theorem pf (k : IntKind) (a b : Int) : Hz .and k (some (.int k a)) (some (.int k b))=some (True,.int k (k.wrap (BitVec.ofInt k.bits a &&& BitVec.ofInt k.bits b).toNat)):=by simp [Hz,Uc]
@[go_sem] theorem ri (k k' : IntKind) (a b : Int) : Hz .shr k (some (.int k a)) (some (.int k' b))=some (0≤b,.int k (a.fdiv (2 ^ min b.toNat k.bits))):=by simp [Hz,Uc,eH]
@[go_sem] theorem map_n {α β : Type} (f : α→β) : Option.map f none=none:=rfl
@[go_sem] theorem map_s {α β : Type} (f : α→β) (a : α) : Option.map f (some a)=some (f a):=rfl
@[go_sem] theorem ntE_b (a : Bool) : uW (some (.bool a))=some (True,.bool (!a)):=rfl
@[go_sem] theorem vU (k k' : IntKind) (a : Int) : Qo k (some (.int k' a))=some (True,.int k (k.wrap a)):=rfl
@[go_sem] theorem te (es : List AV) : Ee (some (.sl es))=some (True,.int .i64 es.length):=rfl
@[go_sem] theorem ie (i n : Nat) : Ee (some (.buf i n))=some (True,.int .i64 n):=rfl
@[go_sem] theorem aa (n : Nat) : Ee (some (.VU n))=some (True,.int .i64 n):=rfl
@[go_sem] theorem cn : Ee (some .A1)=some (True,.int .i64 0):=rfl
@[go_sem] theorem ni (n : Nat) (es : List AV) (k : IntKind) (i : Int) :
  Hy n (some (.sl es)) (some (.int k i))=some (0≤i∧i.toNat<es.length∧(es.getD i.toNat nv).cells.length=n,.ptr (es.getD i.toNat nv).cells):=rfl
@[go_sem] theorem xL (n id m : Nat) (k : IntKind) (i : Int) : Hy n (some (.buf id m)) (some (.int k i))=some (0≤i∧i.toNat<m,.ref id (i.toNat*n)):=rfl
@[go_sem] theorem zT (o n : Nat) (cs : List AV) : TW o n (some (.ptr cs))=some (o+n≤cs.length,.ptr ((cs.drop o).take n)):=rfl
@[go_sem] theorem zQ (o n id off : Nat) : TW o n (some (.ref id off))=some (True,.ref id (off+o)):=rfl
@[go_sem] theorem ldE_1 (c : AV) (cs : List AV) : aB none (some (.ptr (c::cs)))=some (True,c):=rfl
@[go_sem] theorem ldE_n (n : Nat) (cs : List AV) : aB (some n) (some (.ptr cs))=some (cs.length=n,.agg cs):=rfl
@[go_sem] theorem ev (cs : List AV) : Wc (some (.ptr cs))=some (True,.ptr cs):=rfl
@[go_sem] theorem cy (i o : Nat) : Wc (some (.ref i o))=some (True,.ref i o):=rfl
@[go_sem] theorem bc (cs : List AV) : J6 σ [] cs=some (True,cs):=rfl
@[go_sem] theorem vX (o n : Nat) (x : X) (r : List (Nat × Nat × X)) (cs : List AV) : J6 σ ((o,n,x)::r) cs=dN n o (val σ x) cs (J6 σ r):=rfl
@[go_sem] theorem vH (n o : Nat) (a : AV) (cs : List AV) (G : List AV→Option (Prop × List AV)) : dN n o (some a) cs G=bK (a.cells.length=n∧o+n≤cs.length) (G (wr cs o a.cells)):=rfl
@[go_sem] theorem tQ (p q : Prop) (r : List AV) : bK p (some (q,r))=some (p∧q,r):=rfl
@[go_sem] theorem uM (p : Prop) (r : List AV) : ZL (some (p,r))=some (p,.agg r):=rfl
@[go_sem] theorem HE (cs : List AV) (o : Nat) : wr cs o []=cs:=rfl
@[go_sem] theorem FI (cs : List AV) (o : Nat) (v : AV) (r : List AV) : wr cs o (v::r)=wr (cs.set o v) (o+1) r:=rfl
@[go_sem] theorem prtE_1 (o : Nat) (cs : List AV) : Tc o none (some (.agg cs))=some (o<cs.length,cs.getD o nv):=rfl
@[go_sem] theorem zn (o n : Nat) (cs : List AV) : Tc o (some n) (some (.agg cs))=some (o+n≤cs.length,.agg ((cs.drop o).take n)):=rfl
@[go_sem] theorem gq (i : Nat) (vs : List AV) : Zv i (some (.CG vs))=some (i<vs.length,vs.getD i nv):=rfl
@[go_sem] theorem tS (f : Fn) (l : List AV) : dF f (some l)=some (True,.fn f l):=rfl
@[go_sem] theorem uS (t : TypeId) (v : AV) : eY t (some v)=some (True,.Rk t v):=rfl
@[go_sem] theorem vQ (n : Nat) (l : List AV) : bO n (some l)=some (DK n l∧l.length≤AL,.sl l):=rfl
@[go_sem] theorem u0 (n : Nat) (a : AV) : dE n (some a)=some (a.cells.length=n∧∀ c,c∈a.cells→c.one=true,.ptr a.cells):=rfl
@[go_sem] theorem mxE_ii (b : Bool) (k1 k2 : IntKind) (x y : Int) : kX b (some (.int k1 x)) (some (.int k2 y))=some (k1=k2,.int k1 (if b then (if y > x then y else x) else (if y<x then y else x))):=rfl
@[go_sem] theorem kC (es : List AV) : Ss (some (.sl es))=some (∀ e,e∈es→e.isByte=true,.str (es.map AV.byte)):=rfl
@[go_sem] theorem yJ : Ss (some .A1)=some (True,.str []):=rfl
@[go_sem] theorem aqE_aa (n : Bool) (m : Nat) (k1 k2 : IntKind) (a b c e : Int) : iS n m (some (.agg [.int k1 a,.int k2 b])) (some (.agg [.int k1 c,.int k2 e])) =
  some (True,.bool (n ^^ (decide (a=c) && decide (b=e)))):=by
 simp only [iS,dv,Bool.and_true,Option.some.injEq,Prod.mk.injEq,and_true,eq_iff_iff,iff_true];exact ⟨k1,k2,a,b,c,e,rfl,rfl⟩
@[go_sem] theorem rb (b : Bool) (x : X) : Fb P B d (.iV b x) F σ H=WA b (val σ x) (DN d F σ) H:=rfl
@[go_sem] theorem qi (t : TypeId) (x : X) : Fb P B d (.oE t x) F σ H=Z0 P t (val σ x) (DN d F σ) H:=rfl
@[go_sem] theorem yD (t u : TypeId) (v : AV) (K : Am) : Z0 P u (some (.Rk t v)) K H=(oW P t u∧K (.CG [.Rk t v,.bool true]) H):=rfl
@[go_sem] theorem og (x : X) (n : String) (l : List X) : Fb P B d (.inv x n l) F σ H=j3 P B n (val σ x) (D9 σ l) (DN d F σ) H:=rfl
@[go_sem] theorem fc (n : String) (t : TypeId) (v : AV) (as : List AV) (K : Am) : j3 P B n (some (.Rk t v)) (some as) K H=∃ f,qF P t n f∧B7 P B f (v::as) H K:=rfl
@[go_sem] theorem xb (n : Option Nat) (x : X) : Fb P B d (.ld n x) F σ H=WU n (val σ x) (DN d F σ) H:=rfl
@[go_sem] theorem zG (c : AV) (cs : List AV) (K : Am) : WU none (some (.ptr (c::cs))) K H=K c H:=by simp [WU,aB,pW]
@[go_sem] theorem ak (n : Nat) (cs : List AV) (K : Am) : WU (some n) (some (.ptr cs)) K H=(cs.length=n∧K (.agg cs) H):=rfl
@[go_sem] theorem qe (n : Option Nat) (id off : Nat) (K : Am) : WU n (some (.ref id off)) K H=M3 (H.get id) n off K H:=rfl
@[go_sem] theorem YL (sz f : Nat) (cs : List AV) (off : Nat) (K : Am) : M3 (some (.cells sz cs f)) none off K H=(off<cs.length∧K (cs.getD off nv) H):=rfl
@[go_sem] theorem mP (sz f n : Nat) (cs : List AV) (off : Nat) (K : Am) : M3 (some (.cells sz cs f)) (some n) off K H=(off+n≤cs.length∧K (.agg ((cs.drop off).take n)) H):=rfl
@[go_sem] theorem xj (n : Nat) (p v : X) : Fb P B d (.st n p v) F σ H=oQ n (val σ p) (val σ v) (DN d F σ) H:=rfl
@[go_sem] theorem qp (n id off : Nat) (v : AV) (K : Am) : oQ n (some (.ref id off)) (some v) K H=OZ (H.get id) id off n v.cells K H:=rfl
@[go_sem] theorem Mk (sz f n id off : Nat) (cs vs : List AV) (K : Am) : OZ (some (.cells sz cs f)) id off n vs K H =
  ((f≤off∧off+n≤cs.length∧vs.length=n∧∀ c,c∈vs→c.one=true)∧K nv (H.set id (.cells sz (wr cs off vs) f))):=rfl
@[go_sem] theorem xA (n : Nat) (l : List X) : Fb P B d (.TD n l) F σ H=RH n (D9 σ l) (DN d F σ) H:=rfl
@[go_sem] theorem rD (n : Nat) (l : List AV) (K : Am) : RH n (some l) K H=((DK n l∧l.length≤AL)∧Ef l.length n (flat l) K H):=rfl
@[go_sem] theorem cr (n : Nat) (x : X) : Fb P B d (.TI n x) F σ H=Ud n (val σ x) (DN d F σ) H:=rfl
@[go_sem] theorem pV (n : Nat) (a : AV) (K : Am) : Ud n (some a) K H=((a.cells.length=n∧n≤AL)∧HF n a.cells K H):=rfl
@[go_sem] theorem qm (z : List AV) : Fb P B d (.lV z) F σ H=(z.length≤AL∧HF z.length z (DN d F σ) H):=rfl
@[go_sem] theorem rn (s b : Nat) (x y : X) : Fb P B d (.app s b x y) F σ H=DW s (val σ x) (val σ y) (DN d F σ) H:=rfl
@[go_sem] theorem yR (s : Nat) (es : List AV) : Ct s (some (.sl es)) H=some (DK s es,es.length,flat es):=rfl
@[go_sem] theorem vM (s : Nat) : Ct s (some .A1) H=some (True,0,[]):=rfl
@[go_sem] theorem uH (s s' f id n m : Nat) (cs new : List AV) (p : Prop) (K : Am) : Gc s (some (.cells s' cs f)) id n (some (p,m,new)) K H =
  ((s'=s∧cs.length=n*s∧n+m≤AL∧(n+m)*s≤AL∧p)∧∀ CT,H.get CT=none→K (.buf CT (n+m)) ((H.del id).set CT (.cells s (cs++new) f))):=rfl
@[go_sem] theorem tV (s m : Nat) (new : List AV) (p : Prop) (K : Am) : Sd s (some (p,m,new)) K H=((m≤AL∧m*s≤AL∧p)∧Ef m s new K H):=rfl
@[go_sem] theorem sa (s : Nat) (z : List AV) (l c : X) : Fb P B d (.l8 s z l c) F σ H=Rr s z (val σ l) (val σ c) (DN d F σ) H:=rfl
@[go_sem] theorem sn (s : Nat) (z : List AV) (k1 k2 : IntKind) (l c : Int) (K : Am) : Rr s z (some (.int k1 l)) (some (.int k2 c)) K H =
  ((0≤l∧l≤c∧c.toNat≤AL∧l.toNat*s≤AL)∧Ef l.toNat s (rep l.toNat z) K H):=rfl
@[go_sem] theorem qw : Fb P B d .nR F σ H=Vx (DN d F σ) H:=rfl
@[go_sem] theorem qy (s : Nat) (ok : Bool) (z : AV) (m k : X) : Fb P B d (.bE s ok z m k) F σ H=Zk s ok z (val σ m) (val σ k) (DN d F σ) H:=rfl
@[go_sem] theorem xK (s : Nat) (ok : Bool) (z k : AV) (ks vs : List AV) (K : Am) : Zk s ok z (some (.IU ks vs)) (some k) K H=(Li s k ks∧K (mX ok z (JG k ks vs)) H):=rfl
@[go_sem] theorem bb (s : Nat) (ok : Bool) (z k : AV) (id : Nat) (K : Am) : Zk s ok z (some (.Gg id)) (some k) K H=vB s ok z (H.get id) k K H:=rfl
@[go_sem] theorem mu (s : Nat) (ok : Bool) (z k : AV) (ks vs : List AV) (K : Am) : vB s ok z (some (.map ks vs)) k K H=(Li s k ks∧K (mX ok z (JG k ks vs)) H):=rfl
@[go_sem] theorem oj (s : Nat) (m k v : X) : Fb P B d (.gH s m k v) F σ H=lD s (val σ m) (val σ k) (val σ v) (DN d F σ) H:=rfl
@[go_sem] theorem zW (s : Nat) (id : Nat) (k x : AV) (K : Am) : lD s (some (.Gg id)) (some k) (some x) K H=tW s (H.get id) id k x K H:=rfl
@[go_sem] theorem rm (s : Nat) (id : Nat) (k x : AV) (ks vs : List AV) (K : Am) : tW s (some (.map ks vs)) id k x K H =
  (Li s k ks∧K nv (H.set id (.map (Il k x ks vs).1 (Il k x ks vs).2))):=rfl
@[go_sem] theorem w6 (f : X) (l : List X) : Fb P B d (.call f l) F σ H=LP P B (val σ f) (D9 σ l) (DN d F σ) H:=rfl
@[go_sem] theorem zH (f : FuncId) (ca as : List AV) (K : Am) : LP P B (some (.fn (.func f) ca)) (some as) K H=B7 P B f (as++ca) H K:=rfl
@[go_sem] theorem vN (y : Nat) (f : X) (l : List X) : Fb P B d (.Ll y f l) F σ H=LP P B (val σ f) (D9 σ l) (fun r H'=>(∀ z,z≠y→H.Qf z H')∧DN d F σ r H') H:=rfl
@[go_sem] theorem nj (z : Nat) (n : Option Nat) (x : X) : Fb P B d (.jD z n x) F σ H=Zj z n (val σ x) (DN d F σ) H:=rfl
@[go_sem] theorem z8 (z : Nat) (n : Option Nat) (id off : Nat) (K : Am) : Zj z n (some (.ref id off)) K H=((∃ cs f,H.get id=some (.cells z cs f))∧M3 (H.get id) n off K H):=rfl
@[go_sem] theorem uT (f : X) (l : List X) : Fb P B d (.Lr f l) F σ H=LP P B (val σ f) (D9 σ l) (fun r H'=>H.sub H'∧DN d F σ r H') H:=rfl
@[go_sem] theorem vO (f : X) (l : List X) : Fb P B d (.N8 f l) F σ H=∃ r,Sw P B (val σ f) (D9 σ l) r∧DN d F σ r H:=rfl
@[go_sem] theorem vV (f : FuncId) (ca as : List AV) (r : AV) : Sw P B (some (.fn (.func f) ca)) (some as) r=Iz P B f (as++ca) r:=rfl
@[go_sem] theorem gb (l : List AV) : l++[]=l:=by simp
@[go_sem] theorem uB (a : AV) (l r : List AV) : (a::l)++r=a::(l++r):=rfl
@[go_sem] theorem tP (l : List AV) : []++l=l:=rfl
@[go_sem] theorem nh (t id n : Nat) : dM t F σ H (some (.buf id n))=YC t id n F σ H (H.get id):=rfl
@[go_sem] theorem oe (t : Nat) : dM t F σ H (some .A1)=F ((t,some (.sl []))::σ) H:=rfl
@[go_sem] theorem fzW_sl (t : Nat) (es : List AV) : dM t F σ H (some (.sl es))=F σ H:=rfl
theorem G6 : ∀ (n : Nat) (cs : List AV),cs.length=n→chunk 1 n cs=cs
 | 0,cs,h=>by simp [chunk,List.eq_nil_of_length_eq_zero h]
 | n+1,[],h=>by simp at h
 | n+1,c::cs,h=>by simp [chunk,G6 n cs (by simpa using h)]
@[go_sem] theorem lE (t id n f : Nat) (cs : List AV) : YC t id n F σ H (some (.cells 1 cs f)) =
  ((cs.length=n∧∀ c,c∈cs→c.one=true)∧F ((t,some (.sl cs))::σ) (H.set id (.cells 1 cs cs.length))):=by
 simp only [YC,Nat.mul_one];rw [eq_iff_iff]
 constructor
 ·rintro ⟨⟨h1,h2,h3⟩,h4⟩; rw [G6 _ _ h1] at h4; exact ⟨⟨h1,h3⟩,h4⟩
 ·rintro ⟨⟨h1,h3⟩,h4⟩; rw [← G6 _ _ h1] at h4; exact ⟨⟨h1,by omega,h3⟩,by rwa [G6 _ _ h1] at h4 ⊢⟩
@[go_sem] theorem fz1_n (t id n f sz : Nat) (cs : List AV) : YC t id n F σ H (some (.cells (sz+2) cs f)) =
  ((cs.length=n*(sz+2)∧0<sz+2∧∀ c,c∈cs→c.one=true)∧F ((t,some (.sl (chunk (sz+2) n cs)))::σ) (H.set id (.cells (sz+2) cs cs.length))):=rfl
end
@[go_sem] theorem uV (k : IntKind) (n : Int) : (AV.int k n).cells=[.int k n]:=rfl
@[go_sem] theorem oM (b : Bool) : (AV.bool b).cells=[.bool b]:=rfl
@[go_sem] theorem vL (b : List UInt8) : (AV.str b).cells=[.str b]:=rfl
@[go_sem] theorem ij (es : List AV) : (AV.sl es).cells=[.sl es]:=rfl
@[go_sem] theorem uR (i n : Nat) : (AV.buf i n).cells=[.buf i n]:=rfl
@[go_sem] theorem mN : AV.A1.cells=[.A1]:=rfl
@[go_sem] theorem vA (cs : List AV) : (AV.ptr cs).cells=[.ptr cs]:=rfl
@[go_sem] theorem tY (i o : Nat) : (AV.ref i o).cells=[.ref i o]:=rfl
@[go_sem] theorem vR (cs : List AV) : (AV.agg cs).cells=cs:=rfl
@[go_sem] theorem cu : flat []=[]:=rfl
@[go_sem] theorem tR (e : AV) (r : List AV) : flat (e::r)=e.cells++flat r:=rfl
@[go_sem] theorem wrap_i64 {x : Int} (h1 : -9223372036854775808≤x) (h2 : x≤9223372036854775807) : IntKind.i64.wrap x=x:=by
 rw [IntKind.wrap_i64]; omega
theorem A6 {H0 H : AB} {r v : AV} (h1 : v=r) (h2 : H0.sub H) : Ik (fun r' H'=>r'=r∧H'=H0) v H:=⟨H0,h2,h1,rfl⟩
theorem Wk.refl (σ : Env) (H : AB) : Wk σ H σ H:=fun g _ _ _ a b=>⟨g,.refl g,a,b⟩
theorem TZ {P : Program} {B : Nat} {l : List Nat} {c : SC} {Q : AQ} {σ : Env} {H : AB} (I : Nat→Env→AB→Prop) (n : Nat) (h0 : I n (Env.B6 l σ) H)
  (h : ∀ n σ H,I n σ H→FW P B c (nO l I n Q) σ H) : FW P B (.loop l c) Q σ H :=
 ⟨I,n,_,_,h0,.refl _ _,h⟩
end Go.AW
namespace Go.AW
def AV.EY (a : AV) : Prop:=∃ g v,Ab g a v
theorem AV.EY.zX {es : List AV} (h : AV.EY (.sl es)) : es.length≤AL:=by
 obtain ⟨g,v,h⟩:=h
 cases h with
 | slnil a cap=>simp
 | sl _ b o sz cap vs hm _ _ _ _=>exact hm
theorem AV.EY.jR {es : List AV} (h : AV.EY (.sl es)) {i j : Nat} (hi : i<es.length) (hj : j<(es.getD i nv).cells.length) :
  AV.EY ((es.getD i nv).cells.getD j nv):=by
 obtain ⟨g,v,h⟩:=h
 cases h with
 | slnil a cap=>simp at hi
 | sl _ b o sz cap vs hm Qh CU hf hv=>exact ⟨g,_,hv i j hi (by rw [← CU i hi]; exact hj)⟩
theorem AV.EY.oP {es : List AV} (h : AV.EY (.sl es)) {e : AV} (he : e∈es) (h1 : e.cells=[e]) : AV.EY e:=by
 obtain ⟨i,hi,rfl⟩:=List.getElem_of_mem he
 have hg : es.getD i nv=es[i]:=by simp [gE,hi]
 have:=h.jR (i:=i) (j:=0) hi (by rw [hg,h1]; simp);rw [hg,h1] at this;exact this
theorem AV.EY.agg {cs : List AV} (h : AV.EY (.agg cs)) {c : AV} (hc : c∈cs) : AV.EY c:=by
 obtain ⟨g,v,h⟩:=h
 obtain ⟨i,hi,rfl⟩:=List.getElem_of_mem hc
 have hg : cs.getD i nv=cs[i]:=by simp [gE,hi]
 cases h with
 | agg _ vs hs hv=>exact ⟨g,_,hg ▸ hv i hi⟩
theorem AV.EY.ptr {cs : List AV} (h : AV.EY (.ptr cs)) {c : AV} (hc : c∈cs) : AV.EY c:=by
 obtain ⟨g,v,h⟩:=h
 obtain ⟨i,hi,rfl⟩:=List.getElem_of_mem hc
 have hg : cs.getD i nv=cs[i]:=by simp [gE,hi]
 cases h with
 | ptr _ b o vs hf hv=>exact ⟨g,_,hg ▸ hv i hi⟩
def Tt : List AV→Prop
 | []=>True
 | a::r=>a.EY∧Tt r
theorem PU : ∀ {l : List AV},(∀ a,a∈l→a.EY)→Tt l
 | [],_=>trivial
 | a::r,h=>⟨h a (by simp),PU fun b hb=>h b (by simp [hb])⟩
variable {P : Program} {B : Nat}
theorem B7.YQ {f : FuncId} {fn : Func} {c : Code} {s : SC} {hs : Hints} {rvs : List RV} (hf : P.funcs[f]? = some fn) (hb : fn.body = some c) (hn : (fn.name == "runtime.NumGoroutine") = false)
  (hc : B4 P fn.ntmps hs c=some s.strip) (hr : EU P fn.results.toList=some rvs) {args : List AV} (VJ : args.length≤fn.ntmps) {H : AB} {K : Am}
  (hk : Tt args→FW P B s (Qa rvs K) (GV 0 args) H) : B7 P B f args H K:=by
 refine ⟨⟨fn,hf,by simp [hb],hn⟩,fun g w vs hW hv=>?_⟩
 have gU : ∀ a,a∈args→a.EY:=by
  intro a ha
  obtain ⟨i,hi,rfl⟩:=List.getElem_of_mem ha
  have:=hv.2 i hi;rw [show args.getD i nv=args[i] by simp [gE,hi]] at this;exact ⟨g,_,this⟩
 exact (B7.o0 hf hb hn hc hr VJ (hk (PU gU))).2 g w vs hW hv
theorem B7.Iu {f : FuncId} {args : List AV} {H : AB} {K K' : Am} (h : B7 P B f args H K) (hk : ∀ r H,r.EY→K r H→K' r H) : B7 P B f args H K' :=
 ⟨h.1,fun g w vs hw hv=>(h.2 g w vs hw hv).mono fun _ _ ⟨v,e,g',r,H',a,b,c,d,k⟩=>⟨v,e,g',r,H',a,hk _ _ ⟨g',v,c⟩ b,c,d,k⟩⟩
theorem Iz.go {f : FuncId} {args : List AV} {r : AV} {H : AB} {K : Am} (h : Iz P B f args r) (hk : r.EY→K r H) : B7 P B f args H K :=
 (h H).Iu fun _ _ hf ⟨a,b⟩=>by subst a; subst b; exact hk hf
end Go.AW
