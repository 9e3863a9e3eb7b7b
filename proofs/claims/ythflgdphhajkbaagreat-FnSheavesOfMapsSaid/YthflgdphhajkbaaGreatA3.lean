/- Plain data, plain laws. -/
import Derived.Test.YthflgdphhajkbaaGreatA2
set_option linter.unusedVariables false
set_option linter.unusedSimpArgs false
set_option linter.unusedSectionVars false
namespace Go.AW
class One {α : Type} (f : α→AV) : Prop where
 cells : ∀ a,(f a).cells=[f a]
 one : ∀ a,(f a).one=true
def mL {α : Type} (f : α→AV) (l : List α) : AV:=.sl (l.map f)
abbrev iI : Int→AV:=AV.int .i64
abbrev iL : List Int→AV:=mL iI
abbrev BD : List (List Int)→AV:=mL iL
abbrev Gi : List (List (List Int))→AV:=mL BD
abbrev bL : List Bool→AV:=mL AV.bool
abbrev uW : List (List Bool)→AV:=mL bL
instance : One iI:=⟨fun _=>rfl,fun _=>rfl⟩
instance : One AV.bool:=⟨fun _=>rfl,fun _=>rfl⟩
instance : One AV.str:=⟨fun _=>rfl,fun _=>rfl⟩
instance {α : Type} (f : α→AV) : One (mL f):=⟨fun _=>rfl,fun _=>rfl⟩
def ix {α : Type} [Inhabited α] (l : List α) (i : Int) : α:=l.getD i.toNat default
theorem AJ {α : Type} [Inhabited α] (l : List α) (k : Nat) : ix l (k : Int)=l.getD k default:=by simp [ix]
section
variable {P : Program} {B : Nat} {F : Env→AA→Prop} {σ : Env} {H : AA} {d : Option Nat} {α : Type} [Inhabited α] {f : α→AV}
theorem getD_map (l : List α) {i : Nat} (h : i<l.length) : (l.map f).getD i nv=f (l.getD i default):=by
 simp [gE,h]
theorem CU [One f] (a : α) : (f a).cells=[f a]:=One.cells a
@[go_sem] theorem zO (l : List α) : (mL f l).cells=[mL f l]:=rfl
@[go_sem] theorem kP (l : List α) : FF (some (mL f l))=some (True,.int .i64 l.length):=by simp [mL,FF]
@[go_sem] theorem nx [One f] (l : List α) (k : IntKind) (i : Int) :
  pE d F σ H (Hl 1 (some (mL f l)) (some (.int k i)))=((0≤i∧i.toNat<l.length)∧DP d F σ (.ptr [f (ix l i)]) H):=by
 simp only [mL,Hl,pE,pW,List.length_map,eq_iff_iff]
 constructor
 ·rintro ⟨⟨h1,h2,h3⟩,h4⟩;rw [getD_map l h2,CU] at h4;exact ⟨⟨h1,h2⟩,h4⟩
 ·rintro ⟨⟨h1,h2⟩,h4⟩;rw [getD_map l h2,CU];exact ⟨⟨h1,h2,rfl⟩,h4⟩
theorem fJ [One f] (l : List α) : flat (l.map f)=l.map f:=by
 induction l with
 | nil=>rfl
 | cons a r ih=>simp [flat,CU,ih]
theorem Jb [One f] (l : List α) : Da 1 (l.map f):=by
 intro e he
 obtain ⟨a,_,rfl⟩:=List.mem_map.mp he;rw [CU];refine ⟨rfl,fun c hc=>?_⟩;rw [List.mem_singleton] at hc; subst hc; exact One.one a
@[go_sem] theorem aX [One f] (l : List α) : DD 1 (some (mL f l)) H=some (True,l.length,l.map f):=by
 simp [mL,DD,Jb,fJ]
@[go_sem] theorem lu [One f] (l : List α) (k : IntKind) (a : Int) : Ki 1 (some (mL f l)) (some (some (.int k a))) none=some (0≤a∧a≤l.length,mL f (l.drop a.toNat)):=by
 have : List.take l.length (l.map f)=l.map f:=List.take_of_length_le (by simp)
 simp [mL,Ki,NF,PL,Rk,Jb,this]
@[go_sem] theorem qc [One f] (l : List α) (k : IntKind) (b : Int) : Ki 1 (some (mL f l)) none (some (some (.int k b)))=some (0≤b∧b≤l.length,mL f (l.take b.toNat)):=by
 simp [mL,Ki,NF,PL,Rk,Jb,← List.map_take]
@[go_sem] theorem tY [One f] (l : List α) (k k' : IntKind) (a b : Int) : Ki 1 (some (mL f l)) (some (some (.int k a))) (some (some (.int k' b)))=some (0≤a∧a≤b∧b≤l.length,mL f ((l.take b.toNat).drop a.toNat)):=by
 simp [mL,Ki,NF,PL,Rk,Jb,← List.map_take,← List.map_drop]
@[go_sem] theorem u7 (n : Nat) : Da n []=True:=by simp [Da]
@[go_sem] theorem pJ (n : Nat) (a : AV) (r : List AV) : Da n (a::r)=((a.cells.length=n∧∀ c,c∈a.cells→c.one=true)∧Da n r):=by
 simp [Da]
theorem Lw [One f] (a : α) : Da 1 [f a]:=by
 intro e he;rw [List.mem_singleton] at he; subst he;rw [CU];refine ⟨rfl,fun c hc=>?_⟩;rw [List.mem_singleton] at hc; subst hc; exact One.one a
theorem AL {l : List α} (h : AV.Eb (mL f l)) : l.length≤AK:=by simpa using h.zX
theorem JD [One f] {l : List α} (h : AV.Eb (mL f l)) {a : α} (ha : a∈l) : AV.Eb (f a) :=
 h.pO (List.mem_map_of_mem ha) (CU a)
theorem Bi {l : List α} {i : Int} (h : i.toNat<l.length) : ix l i∈l:=by
 rw [ix,gE]; simp [h]
theorem IF [One f] {l : List α} (h : AV.Eb (mL f l)) {i : Int} (hi : i.toNat<l.length) : AV.Eb (f (ix l i)):=JD h (Bi hi)
theorem D8 (l : List α) {k : Nat} (h : k<l.length) : l.take (k+1)=l.take k++[l.getD k default]:=by
 rw [List.take_add_one]; simp [gE,h]
end
@[go_sem] theorem o9 (p : Prop) : (p∧True)=p:=and_true p
@[go_sem] theorem pG (p : Prop) : (True∧p)=p:=true_and p
@[go_sem] theorem zle (n : Nat) : (0≤n)=True:=by simp
@[go_sem] theorem wO : (1≤AK)=True:=by simp [AK]
@[go_sem] theorem wN : (2≤AK)=True:=by simp [AK]
@[go_sem] theorem mi (k : IntKind) (n : Int) : (AV.int k n).one=true:=rfl
@[go_sem] theorem EJ {α : Type} (f : α→AV) (l : List α) : (mL f l).one=true:=rfl
@[go_sem] theorem cn (b : Bool) : (AV.bool b).one=true:=rfl
@[go_sem] theorem np (b : List UInt8) : (AV.str b).one=true:=rfl
@[go_sem] theorem one_sl (b : List AV) : (AV.sl b).one=true:=rfl
@[go_sem] theorem oh (i n : Nat) : (AV.buf i n).one=true:=rfl
@[go_sem] theorem ll (b : List AV) : (AV.ptr b).one=true:=rfl
@[go_sem] theorem CZ (p : AV→Prop) : (∀ c,c∈([] : List AV)→p c)=True:=by simp
@[go_sem] theorem Bu (p : AV→Prop) (a : AV) (r : List AV) : (∀ c,c∈a::r→p c)=(p a∧∀ c,c∈r→p c):=by simp
@[go_sem] theorem len1 (a : AV) : [a].length=1:=rfl
@[go_sem] theorem len0 : ([] : List AV).length=0:=rfl
theorem AD {P : Program} {B : Nat} {l : List Nat} {c : SC} {Q : AQ} {σ : Env} {H : AA} (lf : List Nat) {G : Type} (E : Nat→G→Env) (J : Nat→G→AA→Prop) (n : Nat) (g : G)
  (h0 : J 0 g H) (he : Env.BA l σ=E 0 g++Env.BA lf σ)
  (h : ∀ k g H,k≤n→J k g H→FN P B c (mY l (fun m σ' H=>∃ k g,k≤n∧m=n - k∧J k g H∧σ'=E k g++Env.BA lf σ) (n - k) Q) (E k g++Env.BA lf σ) H) :
  FN P B (.loop l c) Q σ H :=
 UF (fun m σ' H=>∃ k g,k≤n∧m=n - k∧J k g H∧σ'=E k g++Env.BA lf σ) n ⟨0,g,by omega,rfl,h0,he⟩
  fun m σ H ⟨k,g,h1,h2,h3,h4⟩=>h2 ▸ h4 ▸ h k g H h1 h3
theorem A5 {G : Type} {S : Nat→G→Env} {J : Nat→G→AA→Prop} {n k : Nat} {σ : Env} {H : AA} (g : G) (h : k<n) (hj : J (k+1) g H) (he : σ=S (k+1) g) :
  ∃ m σ' H',m<n - k∧(∃ k g,k≤n∧m=n - k∧J k g H'∧σ'=S k g)∧Wk σ H σ' H' :=
 ⟨n - (k+1),σ,H,by omega,⟨k+1,g,h,rfl,hj,he⟩,.refl _ _⟩
theorem De {P : Program} {B : Nat} {l : List Nat} {c : SC} {Q : AQ} {σ : Env} {H : AA} (lf : List Nat) {G : Type} (E : G→Env) (J : Nat→G→AA→Prop) (n : Nat) (g : G)
  (h0 : J n g H) (he : Env.BA l σ=E g++Env.BA lf σ)
  (h : ∀ m g H,J m g H→FN P B c (mY l (fun m σ' H=>∃ g,J m g H∧σ'=E g++Env.BA lf σ) m Q) (E g++Env.BA lf σ) H) :
  FN P B (.loop l c) Q σ H :=
 UF (fun m σ' H=>∃ g,J m g H∧σ'=E g++Env.BA lf σ) n ⟨g,h0,he⟩
  fun m σ H ⟨g,h3,h4⟩=>h4 ▸ h m g H h3
theorem CY {G : Type} {S : G→Env} {J : Nat→G→AA→Prop} {m : Nat} {σ : Env} {H : AA} (m' : Nat) (g : G) (h : m'<m) (hj : J m' g H) (he : σ=S g) :
  ∃ m' σ' H',m'<m∧(∃ g,J m' g H'∧σ'=S g)∧Wk σ H σ' H' :=
 ⟨m',σ,H,h,⟨g,hj,he⟩,.refl _ _⟩
@[go_sem] theorem lL (a : Nat × Option AV) (l r : Env) : (a::l)++r=a::(l++r):=rfl
@[go_sem] theorem mZ (r : Env) : ([] : Env)++r=r:=rfl
structure AB (H0 H : AA) (l : List (Nat × AF)) : Prop where
 sub : H0.sub H
 get : ∀ x,x∈l→H.get x.1=some x.2
 nd : (l.map Prod.fst).Nodup
 out : ∀ x,x∈l→H0.get x.1=none
theorem AB.nil (H : AA) : AB H H []:=⟨.refl H,by simp,by simp,by simp⟩
theorem AB.h0 {H0 H : AA} {a : Nat × AF} {l : List (Nat × AF)} (h : AB H0 H (a::l)) : H.get a.1=some a.2:=h.get a (by simp)
theorem AB.tl {H0 H : AA} {a : Nat × AF} {l : List (Nat × AF)} (h : AB H0 H (a::l)) : AB H0 H l :=
 ⟨h.sub,fun x hx=>h.get x (by simp [hx]),(by simpa using h.nd : _∧_).2,fun x hx=>h.out x (by simp [hx])⟩
theorem AB.perm {H0 H : AA} {l r : List (Nat × AF)} (h : AB H0 H l) (hp : l.Perm r) : AB H0 H r :=
 ⟨h.sub,fun x hx=>h.get x (hp.mem_iff.mpr hx),((hp.map _).nodup_iff.mp h.nd),fun x hx=>h.out x (hp.mem_iff.mpr hx)⟩
theorem AB.swap {H0 H : AA} {a b : Nat × AF} {l : List (Nat × AF)} (h : AB H0 H (a::b::l)) : AB H0 H (b::a::l):=h.perm (List.Perm.swap b a l)
theorem AB.new {H0 H : AA} {l : List (Nat × AF)} (h : AB H0 H l) {id : Nat} (hn : H.get id=none) (o : AF) : AB H0 (H.set id o) ((id,o)::l):=by
 refine ⟨fun i x hx=>?_,fun x hx=>?_, ?_,fun x hx=>?_⟩
 ·have:=h.sub i x hx;rw [AA.B1]; exact this
  rintro rfl; rw [hn] at this; cases this
 ·simp only [List.mem_cons] at hx
  rcases hx with rfl | hx
  ·simp
  ·rw [AA.B1]; exact h.get x hx
   intro e; have:=h.get x hx; rw [e,hn] at this; cases this
 ·simp only [List.map_cons,List.nodup_cons];refine ⟨fun hm=>?_,h.nd⟩
  obtain ⟨x,hx,e⟩:=List.mem_map.mp hm
  have:=h.get x hx; rw [e,hn] at this; cases this
 ·simp only [List.mem_cons] at hx
  rcases hx with rfl | hx
  ·cases hh : H0.get id with
   | none=>rfl
   | some o'=>have:=h.sub _ _ hh; rw [hn] at this; cases this
  ·exact h.out x hx
theorem AB.put {H0 H : AA} {l : List (Nat × AF)} {id : Nat} {o : AF} (h : AB H0 H ((id,o)::l)) (o' : AF) : AB H0 (H.set id o') ((id,o')::l):=by
 have HK:=h.nd;simp only [List.map_cons,List.nodup_cons] at HK
 have Bq : ∀ x,x∈l→x.1≠id:=fun x hx e=>HK.1 (e ▸ List.mem_map_of_mem hx)
 have ho:=h.out (id,o) (by simp);refine ⟨fun i x hx=>?_,fun x hx=>?_,by simpa using HK,fun x hx=>?_⟩
 ·rw [AA.B1]; exact h.sub i x hx
  rintro rfl; simp only at ho; rw [ho] at hx; cases hx
 ·simp only [List.mem_cons] at hx
  rcases hx with rfl | hx
  ·simp
  ·rw [AA.B1 _ _ (Bq x hx)]; exact h.get x (by simp [hx])
 ·simp only [List.mem_cons] at hx
  rcases hx with rfl | hx
  ·exact ho
  ·exact h.out x (by simp [hx])
theorem AB.mv {H0 H : AA} {l : List (Nat × AF)} {id Ca : Nat} {o : AF} (h : AB H0 H ((id,o)::l)) (hn : H.get Ca=none) (o' : AF) : AB H0 ((H.del id).set Ca o') ((Ca,o')::l):=by
 have HK:=h.nd;simp only [List.map_cons,List.nodup_cons] at HK
 have Bq : ∀ x,x∈l→x.1≠id:=fun x hx e=>HK.1 (e ▸ List.mem_map_of_mem hx)
 have ho:=h.out (id,o) (by simp)
 have hd : AB H0 (H.del id) l:=by
  refine ⟨fun i x hx=>?_,fun x hx=>?_,HK.2,fun x hx=>h.out x (by simp [hx])⟩
  ·rw [AA.CA]; exact h.sub i x hx
   rintro rfl; simp only at ho; rw [ho] at hx; cases hx
  ·rw [AA.CA _ (Bq x hx)]; exact h.get x (by simp [hx])
 refine hd.new ?_ o'
 by_cases e : Ca=id
 ·subst e; exact AA.Ci _ _
 ·rw [AA.CA _ e]; exact hn
section
variable {α : Type} [Inhabited α] {f : α→AV} [One f] {H0 H : AA} {l : List (Nat × AF)} {K : Ap}
theorem Af {n sz : Nat} {cs : List AV} (h : AB H0 H l) (hk : ∀ id H',AB H0 H' ((id,.cells sz cs 0)::l)→K (.buf id n) H') : Eo n sz cs K H :=
 fun id hn=>hk id _ (h.new hn _)
theorem Am {sz : Nat} {cs : List AV} (h : AB H0 H l) (hk : ∀ id H',AB H0 H' ((id,.cells sz cs 0)::l)→K (.ref id 0) H') : HH sz cs K H :=
 fun id hn=>hk id _ (h.new hn _)
theorem PS (h : AB H0 H l) (hk : ∀ id H',AB H0 H' ((id,.map [] [])::l)→K (.GX id) H') : WJ K H :=
 fun id hn=>hk id _ (h.new hn _)
omit [Inhabited α] in
/-- An empty list of ours. -/
theorem Ae (f : α→AV) (h : AB H0 H l) (hk : ∀ id H',AB H0 H' ((id,.cells 1 (([] : List α).map f) 0)::l)→K (.buf id ([] : List α).length) H') : Eo 0 1 [] K H :=
 Af h hk
theorem Ac {id fr n : Nat} {out : List α} (a : α) {v : AV} (h : AB H0 H ((id,.cells 1 (out.map f) fr)::l)) (hv : v=f a) (hn : n=out.length) (hm : out.length+1≤AK)
  (hk : ∀ Ca H',AB H0 H' ((Ca,.cells 1 ((out++[a]).map f) fr)::l)→K (.buf Ca (out++[a]).length) H') :
  Ds 1 (some (.buf id n)) (some (.sl [v])) K H:=by
 subst hv hn
 have h0:=h.h0;simp only at h0;simp only [Ds,h0,DD,Gf];refine ⟨⟨trivial,by simp,by simpa using hm,by simpa using hm,Lw a⟩,fun Ca hn=>?_⟩
 have:=h.mv hn (.cells 1 ((out++[a]).map f) fr)
 have e : out.map f++flat [f a]=(out++[a]).map f:=by simp [flat,CU]
 rw [e]
 have:=hk Ca _ this
 simpa using this
theorem Eg {id fr n : Nat} {out r : List α} (h : AB H0 H ((id,.cells 1 (out.map f) fr)::l)) (hn : n=out.length) (hm : out.length+r.length≤AK)
  (hk : ∀ Ca H',AB H0 H' ((Ca,.cells 1 ((out++r).map f) fr)::l)→K (.buf Ca (out++r).length) H') :
  Ds 1 (some (.buf id n)) (some (mL f r)) K H:=by
 subst hn
 have h0:=h.h0;simp only at h0;simp only [Ds,h0,Gf,aX];refine ⟨⟨trivial,by simp,hm,by simpa using hm⟩,fun Ca hn=>?_⟩
 have:=h.mv hn (.cells 1 ((out++r).map f) fr)
 have e : out.map f++r.map f=(out++r).map f:=by simp
 rw [e]
 have:=hk Ca _ this
 simpa using this
theorem lA (a : α) {v : AV} (h : AB H0 H l) (hv : v=f a)
  (hk : ∀ Ca H',AB H0 H' ((Ca,.cells 1 ([a].map f) 0)::l)→K (.buf Ca [a].length) H') :
  Ds 1 (some .A1) (some (.sl [v])) K H:=by
 subst hv;simp only [Ds,DD,TU];refine ⟨⟨by simp [AK],by simp [AK],Lw a⟩,fun id hn=>?_⟩
 have:=hk id _ (h.new hn (.cells 1 ([a].map f) 0))
 simpa [flat,CU] using this
end
section
variable {α : Type} {f : α→AV} [One f] {H0 H : AA} {l : List (Nat × AF)}
theorem Ak {t id n fr : Nat} {out : List α} {F : Env→AA→Prop} {σ : Env} (h : AB H0 H ((id,.cells 1 (out.map f) fr)::l)) (hn : n=out.length)
  (hk : ∀ H',AB H0 H' l→F ((t,some (mL f out))::σ) H') : Xz t id n F σ H (H.get id):=by
 subst hn
 have h0:=h.h0;simp only at h0;rw [h0,lN];refine ⟨⟨by simp,fun c hc=>?_⟩,hk _ (h.put _).tl⟩
 obtain ⟨a,_,rfl⟩:=List.mem_map.mp hc;exact One.one a
end
theorem PK {k : Nat} (h : k<1125899906842624) : IntKind.i64.wrap ((k : Int)+1)=((k+1 : Nat) : Int):=by
 rw [wrap_i64 (by omega) (by omega)]; omega
theorem A7 {p : Prop} [Decidable p] (h : decide p=true) : p:=by simpa using h
theorem A9 {p : Prop} [Decidable p] (h : decide p=false) : ¬ p:=by simpa using h
end Go.AW
namespace Go.AW
structure pU (P : Program) (B : Nat) (f : FuncId) (args : List AV) (r : AV) : Prop where
 run : JC P B f args r
theorem pU.go {P : Program} {B : Nat} {f : FuncId} {args : List AV} {r : AV} {H : AA} {K : Ap} (h : pU P B f args r) (hk : r.Eb→K r H) : BG P B f args H K :=
 h.run.go hk
end Go.AW
namespace Go.AW
noncomputable def dec (p : Prop) : Bool:=@decide p (Classical.propDecidable p)
theorem Ay {p : Prop} (h : p) : dec p=true:=by simp [dec,h]
theorem Ab {p : Prop} (h : ¬ p) : dec p=false:=by simp [dec,h]
theorem FK {p : Prop} : dec p=true↔p:=by simp [dec]
theorem Oi {p : Prop} : dec p=false↔¬ p:=by simp [dec]
theorem Bc {p q : Prop} (h : p↔q) : dec p=dec q:=by rw [show p=q from propext h]
theorem BO (p : Prop) [Decidable p] : decide p=dec p:=by
 by_cases h : p
 ·rw [Ay h]; simpa using h
 ·rw [Ab h]; simpa using h
theorem AG {k : Nat} {p : Nat→Prop} (h : ∀ i,i<k→p i) (hk : p k) : ∀ i,i<k+1→p i:=fun i hi=>by
 by_cases e : i=k
 ·subst e; exact hk
 ·exact h i (by omega)
theorem AE {α : Type} [Inhabited α] {l : List α} {a : α} : a∈l↔∃ i,i<l.length∧l.getD i default=a:=by
 rw [List.mem_iff_getElem]
 constructor
 ·rintro ⟨i,h,e⟩; exact ⟨i,h,by simpa [gE,h] using e⟩
 ·rintro ⟨i,h,e⟩; exact ⟨i,h,by simpa [gE,h] using e⟩
theorem Db {α : Type} [Inhabited α] {l : List α} {p : α→Prop} : (∀ a,a∈l→p a)↔∀ i,i<l.length→p (l.getD i default):=by
 constructor
 ·intro h i hi; exact h _ (AE.mpr ⟨i,hi,rfl⟩)
 ·rintro h a ha; obtain ⟨i,hi,rfl⟩:=AE.mp ha; exact h i hi
@[go_sem] theorem mb {α : Type} [Inhabited α] (l : List α) (k : Nat) : ix l (k : Int)=l.getD k default:=AJ l k
@[go_sem] theorem HZ (k : Nat) : ((k : Int)).toNat=k:=Int.toNat_natCast k
@[go_sem] theorem oG (k : Nat) : (0≤(k : Int))=True:=by simp
@[go_sem] theorem uj (a b : Nat) : decide ((a : Int)<(b : Int))=decide (a<b):=by simp
theorem K2 {k : Nat} (h : 0<k) (h' : k<1125899906842624) : IntKind.i64.wrap ((k : Int) - 1)=((k - 1 : Nat) : Int):=by
 rw [wrap_i64 (by omega) (by omega)]; omega
def indexOf {α : Type} [DecidableEq α] (l : List α) (n : α) : Int:=match l.idxOf? n with
 | some i=>i
 | none=>-1
theorem EY {α : Type} [DecidableEq α] [Inhabited α] {l : List α} {n : α} {k : Nat} (hk : k<l.length) (Aj : ∀ i,i<k→l.getD i default≠n) (he : l.getD k default=n) : indexOf l n=k:=by
 have : l.idxOf? n=some k:=by
  rw [List.idxOf?_eq_some_iff];refine ⟨hk,by simpa [gE,hk] using he,fun j hj=>?_⟩
  have:=Aj j hj
  simpa [gE,show j<l.length by omega] using this
 simp [indexOf,this]
theorem El {α : Type} [DecidableEq α] [Inhabited α] {l : List α} {n : α} (Aj : ∀ i,i<l.length→l.getD i default≠n) : indexOf l n=-1:=by
 have : l.idxOf? n=none:=by
  rw [List.idxOf?_eq_none_iff]
  intro h; obtain ⟨i,hi,e⟩:=AE.mp h; exact Aj i hi e
 simp [indexOf,this]
end Go.AW
namespace Go.AW
theorem Hp {α : Type} [DecidableEq α] (l : List α) (n : α) : -1≤indexOf l n∧indexOf l n<l.length:=by
 unfold indexOf
 split
 ·rename_i i h
  rw [List.idxOf?_eq_some_iff] at h
  obtain ⟨hi,_⟩:=h;omega
 ·omega
end Go.AW
namespace Go.AW
theorem bnt (b : Bool) : ((!b)=true)=(b=false):=by simp
theorem bnf (b : Bool) : ((!b)=false)=(b=true):=by simp
theorem dect (p : Prop) : (dec p=true)=p:=propext FK
theorem yf (p : Prop) : (dec p=false)=¬ p:=propext Oi
end Go.AW
namespace Go.AW
@[go_sem] theorem eq_nat (a b : Nat) : decide ((a : Int)=(b : Int))=decide (a=b):=by simp [Int.ofNat_inj]
@[go_sem] theorem le_nat (a b : Nat) : decide ((a : Int)≤(b : Int))=decide (a≤b):=by simp
def uK (n : Option Nat) (off : Nat) : Option AF→Option AV
 | some (.cells _ cs _)=>match n with
  | none=>if off<cs.length then some (cs.getD off nv) else none
  | some n=>if off+n≤cs.length then some (.agg ((cs.drop off).take n)) else none
 | _=>none
@[go_sem] theorem pf (n : Option Nat) (id off : Nat) (H : AA) : aI n (some (.ref id off)) H=uK n off (H.get id):=by
 unfold aI uK
 cases n <;> (dsimp only; split <;> simp_all)
@[go_sem] theorem rc1_1 (off sz f : Nat) (cs : List AV) : uK none off (some (.cells sz cs f))=if off<cs.length then some (cs.getD off nv) else none:=rfl
@[go_sem] theorem wC (n off sz f : Nat) (cs : List AV) : uK (some n) off (some (.cells sz cs f))=if off+n≤cs.length then some (.agg ((cs.drop off).take n)) else none:=rfl
theorem drop_cons {α : Type} [Inhabited α] (l : List α) {k : Nat} (h : k<l.length) : l.drop k=l.getD k default::l.drop (k+1):=by
 rw [List.drop_eq_getElem_cons h]; simp [gE,h]
attribute [go_sem] List.drop_succ_cons List.drop_zero List.take_succ_cons List.take_zero List.getD_cons_zero List.getD_cons_succ List.length_cons List.length_nil List.set_cons_succ List.set_cons_zero
end Go.AW
namespace Go.AW
theorem Jl (z : AV) : ∀ n,rep n [z]=List.replicate n z
 | 0=>rfl
 | n+1=>by simp [rep,Jl z n,List.replicate_succ]
section
variable {α : Type} {f : α→AV} [One f] {H0 H : AA} {l : List (Nat × AF)} {K : Ap}
theorem jR {n : Nat} {z : AV} (f : α→AV) (h : AB H0 H l) (hk : ∀ id H',AB H0 H' ((id,.cells 1 (([] : List α).map f++List.replicate n z) 0)::l)→K (.buf id n) H') :
  Eo n 1 (rep n [z]) K H:=by
 rw [Jl]; exact Af h hk
theorem qE {id off m : Nat} {z : AV} {A : List α} (a : α) {v : AV} (h : AB H0 H ((id,.cells 1 (A.map f++List.replicate (m+1) z) 0)::l)) (hv : v=f a) (ho : off=A.length)
  (hk : ∀ H',AB H0 H' ((id,.cells 1 ((A++[a]).map f++List.replicate m z) 0)::l)→K nv H') :
  Oa (H.get id) id off 1 [v] K H:=by
 subst hv ho
 have h0:=h.h0;simp only at h0;rw [h0,Mv];refine ⟨⟨by omega,by simp,rfl,fun c hc=>?_⟩, ?_⟩
 ·rw [List.mem_singleton] at hc; subst hc; exact One.one a
 ·have e : wr (A.map f++List.replicate (m+1) z) A.length [f a]=(A++[a]).map f++List.replicate m z:=by
   simp only [wr,List.replicate_succ,List.map_append,List.map_cons,List.map_nil,List.append_assoc];rw [List.set_append_right _ _ (by simp)]
   simp
  rw [e];exact hk _ (h.put _)
theorem jM {t id n : Nat} {z : AV} {A : List α} {F : Env→AA→Prop} {σ : Env} (h : AB H0 H ((id,.cells 1 (A.map f++List.replicate 0 z) 0)::l)) (hn : n=A.length)
  (hk : ∀ H',AB H0 H' l→F ((t,some (mL f A))::σ) H') : Xz t id n F σ H (H.get id):=by
 rw [List.replicate_zero,List.append_nil] at h;exact Ak h hn hk
end
theorem BS {α β : Type} [Inhabited α] (l : List α) (g : α→β) {k : Nat} (h : k<l.length) : (l.take (k+1)).map g=(l.take k).map g++[g (l.getD k default)]:=by
 rw [D8 l h]; simp
theorem BF (p : Nat→Bool) (k : Nat) : (List.range (k+1)).filter p=(List.range k).filter p++if p k then [k] else []:=by
 rw [List.range_succ,List.filter_append]; simp [List.filter_cons]
end Go.AW
namespace Go.AW
theorem CE {H0 H : AA} {i : Nat} {o : AF} (h : H0.sub H) (n : H0.get i=none) : H0.sub (H.set i o):=by
 intro j x hx;rw [AA.B1]
 ·exact h j x hx
 ·rintro rfl; rw [n] at hx; cases hx
attribute [go_sem] AA.Ep
end Go.AW
namespace Go.AW
@[go_sem] theorem zb (b : Bool) : (true ^^ b)=!b:=by simp
@[go_sem] theorem xor_fl (b : Bool) : (false ^^ b)=b:=by simp
@[go_sem] theorem rl (p q : Prop) [Decidable p] [Decidable q] : (decide p && decide q)=dec (p∧q):=by rw [← BO]; simp
end Go.AW
namespace Go.AW
def PI (P : Prop) (H0 : AA) : Ap:=fun r H'=>H'=H0∧∃ k a b d : Int,r=.CK [.int .i64 k,.int .i64 a,.int .i64 b,.int .i64 d]∧(k=0↔P)
theorem CV {P : Prop} {H0 H : AA} {k a b d : Int} (h : k=0↔P) (hs : H0.sub H) : Ig (PI P H0) (.CK [.int .i64 k,.int .i64 a,.int .i64 b,.int .i64 d]) H :=
 ⟨H0,hs,rfl,k,a,b,d,rfl,h⟩
end Go.AW
namespace Go.Shf
open Go.AW
structure B0 where
 AR : Int
 AH : List Int
 to : List Int
 Aw : List Int
 comp : List (List Int)
 deriving Inhabited
structure SF where
 shape : B0
 A4 : List Int
 Aa : List (List Int)
 deriving Inhabited
structure Df where
 shape : B0
 AP : List (List (List Int))
 deriving Inhabited
structure SM where
 src : SF
 Bm : SF
 parts : List (List Int)
 deriving Inhabited
@[go_sem] def B0.cells (c : B0) : List AV:=[iI c.AR,iL c.AH,iL c.to,iL c.Aw,BD c.comp]
@[go_sem] def SF.cells (f : SF) : List AV:=[iI f.shape.AR,iL f.shape.AH,iL f.shape.to,iL f.shape.Aw,BD f.shape.comp,iL f.A4,BD f.Aa]
@[go_sem] def Df.cells (j : Df) : List AV:=[iI j.shape.AR,iL j.shape.AH,iL j.shape.to,iL j.shape.Aw,BD j.shape.comp,Gi j.AP]
@[go_sem] def SM.cells (m : SM) : List AV:=[iI m.src.shape.AR,iL m.src.shape.AH,iL m.src.shape.to,iL m.src.shape.Aw,BD m.src.shape.comp,iL m.src.A4,BD m.src.Aa,
 iI m.Bm.shape.AR,iL m.Bm.shape.AH,iL m.Bm.shape.to,iL m.Bm.shape.Aw,BD m.Bm.shape.comp,iL m.Bm.A4,BD m.Bm.Aa,BD m.parts]
def cmp : List Int→List Int→Int
 | [],[]=>0
 | [],_::_=>-1
 | _::_,[]=>1
 | a::r,b::s=>if a=b then cmp r s else if a<b then -1 else 1
theorem Cf : ∀ {a b : List Int},cmp a b=0↔a=b
 | [],[]=>by simp [cmp]
 | [],_::_=>by simp [cmp]
 | _::_,[]=>by simp [cmp]
 | a::r,b::s=>by
  unfold cmp
  split
  ·rename_i h; rw [Cf]; simp [h]
  ·rename_i h; split <;> simp [h]
theorem Gp : ∀ (a b : List Int),cmp a b=- cmp b a
 | [],[]=>by simp [cmp]
 | [],_::_=>by simp [cmp]
 | _::_,[]=>by simp [cmp]
 | a::r,b::s=>by
  unfold cmp
  by_cases h : a=b
  ·simp only [h,if_true]; exact Gp r s
  ·have h3 : ¬ b=a:=fun e=>h e.symm;simp only [h,h3,if_false]
   by_cases h2 : a<b
   ·have h4 : ¬ b<a:=by omega
    simp [h2,h4]
   ·have h4 : b<a:=by omega
    simp [h2,h4]
theorem HY : ∀ {a b c : List Int},cmp a b<0→cmp b c<0→cmp a c<0
 | [],[],_,h,_=>by simp [cmp] at h
 | [],_::_,[],_,h=>by simp [cmp] at h
 | [],_::_,_::_,_,_=>by simp [cmp]
 | _::_,[],_,h,_=>by simp [cmp] at h
 | _::_,_::_,[],_,h=>by simp [cmp] at h
 | a::r,b::s,c::t,h,k=>by
  unfold cmp at h k ⊢
  by_cases e1 : a=b
  ·by_cases e2 : b=c
   ·simp only [e1,e2,if_true] at h k ⊢; exact HY h k
   ·subst e1; rw [if_neg e2] at k ⊢; exact k
  ·by_cases e2 : b=c
   ·subst e2; rw [if_neg e1] at h ⊢; exact h
   ·rw [if_neg e1] at h; rw [if_neg e2] at k
    split at h <;> split at k <;> first | omega | (rw [if_neg (by omega),if_pos (by omega)]; decide)
def I7 (l : List Int) : Prop:=∀ i,0<i→i<l.length→l.getD (i - 1) default<l.getD i default
def outs (c : B0) (x : Int) : List Int:=((List.range c.AH.length).filter fun i=>c.AH.getD i default=x).map Int.ofNat
end Go.Shf
namespace Go.Shf
open Go.AW
structure B0.Shape (c : B0) : Prop where
 o : 0≤c.AR∧c.AR≤8
 m : c.AH.length≤40
 AH : ∀ y,y∈c.AH→0≤y∧y<c.AR
 He : c.to.length=c.AH.length
 to : ∀ y,y∈c.to→0≤y∧y<c.AR
 cl : c.comp.length=c.AH.length
 il : (c.Aw.length : Int)=c.AR
 Aw : ∀ y,y∈c.Aw→0≤y∧y<(c.AH.length : Int)
 Qc : ∀ x : Nat,x<c.Aw.length→ix c.AH (c.Aw.getD x default)=x∧ix c.to (c.Aw.getD x default)=x
 row : ∀ f : Nat,f<c.AH.length→(c.comp.getD f default).length=c.AH.length
 sR : ∀ f g : Nat,f<c.AH.length→g<c.AH.length→c.to.getD f default≠c.AH.getD g default→(c.comp.getD f default).getD g default=-1
 yes : ∀ f g : Nat,f<c.AH.length→g<c.AH.length→c.to.getD f default=c.AH.getD g default →
  (0≤(c.comp.getD f default).getD g default∧(c.comp.getD f default).getD g default<c.AH.length) ∧
  ix c.AH ((c.comp.getD f default).getD g default)=c.AH.getD f default∧ix c.to ((c.comp.getD f default).getD g default)=c.to.getD g default
structure B0.Laws (c : B0) : Prop where
 ZM : ∀ f : Nat,f<c.AH.length→ix (ix c.comp (ix c.Aw (c.AH.getD f default))) f=f∧ix (c.comp.getD f default) (ix c.Aw (c.to.getD f default))=f
 assoc : ∀ f g h : Nat,f<c.AH.length→g<c.AH.length→h<c.AH.length→c.to.getD f default=c.AH.getD g default→c.to.getD g default=c.AH.getD h default →
  ix (ix c.comp ((c.comp.getD f default).getD g default)) h=ix (c.comp.getD f default) ((c.comp.getD g default).getD h default)
def B0.Is (c : B0) : Prop:=c.Shape∧c.Laws
end Go.Shf
namespace Go.Shf
open Go.AW
theorem B0.Shape.QL {c : B0} (s : c.Shape) {f : Nat} (h : f<c.AH.length) : 0≤c.AH.getD f default∧(c.AH.getD f default).toNat<c.Aw.length:=by
 have:=s.AH _ (AE.mpr ⟨f,h,rfl⟩); have:=s.il; omega
theorem B0.Shape.uX {c : B0} (s : c.Shape) {f : Nat} (h : f<c.AH.length) : 0≤c.to.getD f default∧(c.to.getD f default).toNat<c.Aw.length:=by
 have:=s.to _ (AE.mpr ⟨f,by have:=s.He; omega,rfl⟩); have:=s.il; omega
theorem B0.Shape.Ca {c : B0} (s : c.Shape) {x : Int} (h : x.toNat<c.Aw.length) : 0≤ix c.Aw x∧(ix c.Aw x).toNat<c.AH.length:=by
 have:=s.Aw _ (Bi h); omega
theorem B0.Shape.Ld {c : B0} (s : c.Shape) {a : Int} (h : a.toNat<c.AH.length) : (ix c.comp a).length=c.AH.length:=s.row _ h
theorem B0.Shape.pos {c : B0} (s : c.Shape) {f g : Nat} (hf : f<c.AH.length) (hg : g<c.AH.length) : (0≤(c.comp.getD f default).getD g default)↔c.to.getD f default=c.AH.getD g default:=by
 constructor
 ·intro h; apply Classical.byContradiction; intro e; have:=s.sR f g hf hg e; omega
 ·intro e; exact (s.yes f g hf hg e).1.1
theorem B0.Shape.lt {c : B0} (s : c.Shape) {f g : Nat} (hf : f<c.AH.length) (hg : g<c.AH.length) : ((c.comp.getD f default).getD g default).toNat<c.AH.length:=by
 by_cases e : c.to.getD f default=c.AH.getD g default
 ·have:=(s.yes f g hf hg e).1; omega
 ·have:=s.sR f g hf hg e; omega
def B0.ev (c : B0) (f : Nat) : Prop:=ix (ix c.comp (ix c.Aw (c.AH.getD f default))) f=f∧ix (c.comp.getD f default) (ix c.Aw (c.to.getD f default))=f
def B0.JZ (c : B0) (f g h : Nat) : Prop:=c.to.getD f default=c.AH.getD g default→c.to.getD g default=c.AH.getD h default →
  ix (ix c.comp ((c.comp.getD f default).getD g default)) h=ix (c.comp.getD f default) ((c.comp.getD g default).getD h default)
end Go.Shf
namespace Go.Shf
open Go.AW
structure B0.Ax (c : B0) (x : Int) (l : List Int) : Prop where
 iX : I7 l
 Nb : ∀ y,y∈l→0≤y∧y<(c.AH.length : Int)
 src : ∀ y,y∈l→ix c.AH y=x
 cls : ∀ a,a∈l→∀ b : Nat,b<c.AH.length→ix c.to a=c.AH.getD b default→(ix c.comp a).getD b default∈l
theorem BV {c : B0} {x y : Int} : y∈outs c x↔0≤y∧y.toNat<c.AH.length∧ix c.AH y=x:=by
 simp only [outs,List.mem_map,List.mem_filter,List.mem_range,decide_eq_true_eq]
 constructor
 ·rintro ⟨b,⟨h1,h2⟩,rfl⟩; exact ⟨Int.natCast_nonneg b,by simpa using h1,by simpa [ix] using h2⟩
 ·rintro ⟨h1,h2,h3⟩; exact ⟨y.toNat,⟨h2,h3⟩,Int.toNat_of_nonneg h1⟩
end Go.Shf
namespace Go.Shf
open Go.AW
structure Df.Form (j : Df) : Prop where
 is : j.shape.Is
 len : (j.AP.length : Int)=j.shape.AR
 sv : ∀ x : Nat,x<j.AP.length→∀ k : Nat,k<(j.AP.getD x default).length→j.shape.Ax x ((j.AP.getD x default).getD k default)
 ord : ∀ x : Nat,x<j.AP.length→∀ k : Nat,k+1<(j.AP.getD x default).length →
  cmp ((j.AP.getD x default).getD k default) ((j.AP.getD x default).getD (k+1) default)<0
end Go.Shf
namespace Go.Shf
open Go.AW
structure SF.Shape (f : SF) : Prop where
 is : f.shape.Is
 sl : (f.A4.length : Int)=f.shape.AR
 al : f.Aa.length=f.shape.AH.length
 sz : ∀ y,y∈f.A4→0≤y∧y<17
 act : ∀ a : Nat,a<f.Aa.length→((f.Aa.getD a default).length : Int)=ix f.A4 (f.shape.AH.getD a default) ∧
  ∀ y,y∈f.Aa.getD a default→0≤y∧y<ix f.A4 (f.shape.to.getD a default)
end Go.Shf
namespace Go.Shf
open Go.AW
structure SF.Laws (f : SF) : Prop where
 ZM : ∀ x : Nat,x<f.shape.Aw.length→∀ e : Nat,e<(ix f.Aa (f.shape.Aw.getD x default)).length→(ix f.Aa (f.shape.Aw.getD x default)).getD e default=e
 comp : ∀ a b : Nat,a<f.shape.AH.length→b<f.shape.AH.length→f.shape.to.getD a default=f.shape.AH.getD b default→∀ e : Nat,e<(f.Aa.getD a default).length →
  (ix f.Aa ((f.shape.comp.getD a default).getD b default)).getD e default=ix (f.Aa.getD b default) ((f.Aa.getD a default).getD e default)
def SF.Rh (f : SF) (a b : Nat) : Prop:=f.shape.to.getD a default=f.shape.AH.getD b default→∀ e : Nat,e<(f.Aa.getD a default).length →
  (ix f.Aa ((f.shape.comp.getD a default).getD b default)).getD e default=ix (f.Aa.getD b default) ((f.Aa.getD a default).getD e default)
def SF.Is (f : SF) : Prop:=f.Shape∧f.Laws
theorem SF.Shape.DN {f : SF} (s : f.Shape) {a : Int} (h : a.toNat<f.shape.AH.length) : ((ix f.Aa a).length : Int)=ix f.A4 (ix f.shape.AH a):=(s.act a.toNat (by rw [s.al]; exact h)).1
theorem SF.Shape.cT {f : SF} (s : f.Shape) {x : Nat} (h : x<f.shape.Aw.length) : ((ix f.Aa (f.shape.Aw.getD x default)).length : Int)=f.A4.getD x default:=by
 have h1:=s.is.1.Aw _ (AE.mpr ⟨x,h,rfl⟩);rw [s.DN (by omega),(s.is.1.Qc x h).1,AJ]
end Go.Shf
namespace Go.Shf
open Go.AW
def Ea (p : Nat→Bool) (n : Nat) : List Int:=((List.range n).filter p).map Int.ofNat
theorem HS {p : Nat→Bool} {n : Nat} {y : Int} : y∈Ea p n↔0≤y∧y.toNat<n∧p y.toNat=true:=by
 simp only [Ea,List.mem_map,List.mem_filter,List.mem_range]
 constructor
 ·rintro ⟨b,⟨h1,h2⟩,rfl⟩; exact ⟨Int.natCast_nonneg b,by simpa using h1,by simpa using h2⟩
 ·rintro ⟨h1,h2,h3⟩; exact ⟨y.toNat,⟨h2,h3⟩,Int.toNat_of_nonneg h1⟩
theorem RC (p : Nat→Bool) (n : Nat) : Ea p (n+1)=Ea p n++if p n then [(n : Int)] else []:=by
 rw [Ea,BF,List.map_append]; congr 1; split <;> rfl
theorem SZ {p : Nat→Bool} {n : Nat} (h : p n=true) : Ea p (n+1)=Ea p n++[(n : Int)]:=by rw [RC,if_pos h]
theorem MH {p : Nat→Bool} {n : Nat} (h : p n=false) : Ea p (n+1)=Ea p n:=by rw [RC,if_neg (by simp [h]),List.append_nil]
@[simp] theorem yz (p : Nat→Bool) : Ea p 0=[]:=rfl
theorem Iz (p : Nat→Bool) (n : Nat) : (Ea p n).length≤n:=by
 rw [Ea,List.length_map]; exact Nat.le_trans (List.length_filter_le _ _) (by simp)
theorem R0 (c : B0) (x : Int) : outs c x=Ea (fun i=>c.AH.getD i default=x) c.AH.length:=rfl
theorem DI {l : List Int} : I7 l↔l.Pairwise (·<·):=by
 constructor
 ·intro h;rw [List.pairwise_iff_getElem]
  intro i j hi hj n4
  have key : ∀ d i,i+d<l.length→0<d→l.getD i default<l.getD (i+d) default:=by
   intro d
   induction d with
   | zero=>intro i _ h; omega
   | succ d ih =>
    intro i hi _
    have h1:=h (i+d+1) (by omega) hi;simp only [Nat.add_sub_cancel] at h1
    by_cases hd : d=0
    ·subst hd; exact h1
    ·have:=ih i (by omega) (by omega); exact Int.lt_trans this h1
  have:=key (j - i) i (by omega) (by omega);rw [show i+(j - i)=j by omega] at this
  simpa [gE,hi,hj] using this
 ·intro h i h0 hi;rw [List.pairwise_iff_getElem] at h
  have:=h (i - 1) i (by omega) hi (by omega)
  simpa [gE,hi,show i - 1<l.length by omega] using this
theorem DS (p : Nat→Bool) (n : Nat) : I7 (Ea p n):=by
 rw [DI,Ea,List.pairwise_map];exact (List.pairwise_lt_range.filter _).imp fun {a b} h=>by simpa using h
theorem KR {l r : List Int} (hl : I7 l) (hr : I7 r) (h : ∀ y,y∈l↔y∈r) : l=r:=by
 rw [DI] at hl hr;refine List.Perm.eq_of_pairwise (le:=(·<·)) (fun a b _ _ h1 h2=>by omega) hl hr ?_;refine (List.perm_ext_iff_of_nodup ?_ ?_).mpr h
 ·exact hl.imp fun {a b} h=>by omega
 ·exact hr.imp fun {a b} h=>by omega
def Mo (c : B0) (a : Int) (s : List Int) (b : Nat) : Bool:=decide (ix c.to a=c.AH.getD b default) && decide ((ix c.comp a).getD b default∈s)
def DR (c : B0) (a : Int) (s : List Int) : List Int:=Ea (Mo c a s) c.AH.length
theorem kZ {c : B0} {a : Int} {s : List Int} {b : Nat} (h1 : ix c.to a=c.AH.getD b default) (h2 : (ix c.comp a).getD b default∈s) : Mo c a s b=true:=by simp only [Mo,Bool.and_eq_true,decide_eq_true_eq]; exact ⟨h1,h2⟩
theorem Xf {c : B0} {a : Int} {s : List Int} {b : Nat} (h : ¬ (ix c.to a=c.AH.getD b default∧(ix c.comp a).getD b default∈s)) : Mo c a s b=false:=by
 cases e : Mo c a s b with
 | false=>rfl
 | true=>simp only [Mo,Bool.and_eq_true,decide_eq_true_eq] at e; exact absurd e h
noncomputable def WR (c : B0) (l : List Int) (h : Nat) : Bool:=dec (∃ a,a∈l∧∃ b : Nat,b<c.AH.length∧ix c.to a=c.AH.getD b default∧(ix c.comp a).getD b default=(h : Int))
noncomputable def Bo (c : B0) (l : List Int) : List Int:=Ea (WR c l) c.AH.length
section
variable {c : B0}
theorem E3 {a : Int} {s : List Int} {y : Int} : y∈DR c a s↔(0≤y∧y.toNat<c.AH.length)∧ix c.to a=ix c.AH y∧ix (ix c.comp a) y∈s:=by
 simp only [DR,Mo,HS,Bool.and_eq_true,decide_eq_true_eq,and_assoc]; exact Iff.rfl
theorem GU {l : List Int} {y : Int} : y∈Bo c l↔(0≤y∧y.toNat<c.AH.length)∧∃ a,a∈l∧∃ b : Int,(0≤b∧b.toNat<c.AH.length)∧ix c.to a=ix c.AH b∧ix (ix c.comp a) b=y:=by
 simp only [Bo,WR,HS,FK,and_assoc]
 constructor
 ·rintro ⟨h1,h2,a,ha,b,hb,e1,e2⟩;rw [Int.toNat_of_nonneg h1] at e2;exact ⟨h1,h2,a,ha,b,Int.natCast_nonneg b,by simpa using hb,by simpa [ix] using e1,by simpa [ix] using e2⟩
 ·rintro ⟨h1,h2,a,ha,b,hb0,hb,e1,e2⟩;refine ⟨h1,h2,a,ha,b.toNat,hb,e1, ?_⟩;rw [Int.toNat_of_nonneg h1]; exact e2
theorem B0.Shape.comp (s : c.Shape) {a b : Int} (ha : 0≤a∧a.toNat<c.AH.length) (hb : 0≤b∧b.toNat<c.AH.length) (e : ix c.to a=ix c.AH b) :
  (0≤ix (ix c.comp a) b∧(ix (ix c.comp a) b).toNat<c.AH.length)∧ix c.AH (ix (ix c.comp a) b)=ix c.AH a∧ix c.to (ix (ix c.comp a) b)=ix c.to b:=by
 have:=s.yes a.toNat b.toNat ha.2 hb.2 e;refine ⟨⟨this.1.1, ?_⟩,this.2⟩
 have:=this.1; simp only [ix]; omega
theorem B0.Is.assoc (h : c.Is) {f g k : Int} (hf : 0≤f∧f.toNat<c.AH.length) (hg : 0≤g∧g.toNat<c.AH.length) (hk : 0≤k∧k.toNat<c.AH.length)
  (e1 : ix c.to f=ix c.AH g) (e2 : ix c.to g=ix c.AH k) : ix (ix c.comp (ix (ix c.comp f) g)) k=ix (ix c.comp f) (ix (ix c.comp g) k):=by
 have:=h.2.assoc f.toNat g.toNat k.toNat hf.2 hg.2 hk.2 e1 e2
 simpa only [ix,Int.toNat_natCast] using this
theorem B0.Shape.C7 (s : c.Shape) {f : Int} (hf : f.toNat<c.AH.length) : 0≤ix c.to f∧ix c.to f<c.AR:=s.to _ (Bi (by rw [s.He]; exact hf))
theorem B0.Shape.Cl (s : c.Shape) {f : Int} (hf : f.toNat<c.AH.length) : 0≤ix c.AH f∧ix c.AH f<c.AR:=s.AH _ (Bi hf)
theorem B0.Shape.Uk (s : c.Shape) {x : Int} (hx : 0≤x∧x<c.AR) : (0≤ix c.Aw x∧(ix c.Aw x).toNat<c.AH.length)∧ix c.AH (ix c.Aw x)=x∧ix c.to (ix c.Aw x)=x:=by
 have hl:=s.il
 have h1:=s.Ca (x:=x) (by omega)
 have h2:=s.Qc x.toNat (by omega);rw [Int.toNat_of_nonneg hx.1] at h2;exact ⟨h1,h2⟩
theorem B0.Is.BW (h : c.Is) {f : Int} (hf : 0≤f∧f.toNat<c.AH.length) : ix (ix c.comp f) (ix c.Aw (ix c.to f))=f:=by
 have:=(h.2.ZM f.toNat hf.2).2;rw [Int.toNat_of_nonneg hf.1] at this; exact this
theorem B0.Is.ZM (h : c.Is) {f : Int} (hf : 0≤f∧f.toNat<c.AH.length) : ix (ix c.comp (ix c.Aw (ix c.AH f))) f=f:=by
 have:=(h.2.ZM f.toNat hf.2).1;rw [Int.toNat_of_nonneg hf.1] at this; exact this
theorem B0.Ax.arr {x : Int} {s : List Int} (h : c.Ax x s) {a : Int} (ha : a∈s) : (0≤a∧a.toNat<c.AH.length)∧ix c.AH a=x:=by
 have:=h.Nb a ha;exact ⟨⟨this.1,by omega⟩,h.src a ha⟩
theorem B0.Ax.Jt {x : Int} {s : List Int} (h : c.Ax x s) {a b : Int} (ha : a∈s) (hb : 0≤b∧b.toNat<c.AH.length) (e : ix c.to a=ix c.AH b) : ix (ix c.comp a) b∈s :=
 h.cls a ha b.toNat hb.2 e
theorem B0.Ax.mk' {x : Int} {s : List Int} (hr : I7 s) (ha : ∀ a,a∈s→(0≤a∧a.toNat<c.AH.length)∧ix c.AH a=x)
  (hc : ∀ a b,a∈s→(0≤b∧b.toNat<c.AH.length)→ix c.to a=ix c.AH b→ix (ix c.comp a) b∈s) : c.Ax x s :=
 ⟨hr,fun y hy=>⟨(ha y hy).1.1,by have:=(ha y hy).1; omega⟩,fun y hy=>(ha y hy).2,fun a hy b hb e=>by
  have:=hc a (b : Int) hy ⟨Int.natCast_nonneg b,by simpa using hb⟩ (by simpa [ix] using e)
  simpa [ix] using this⟩
theorem B0.Ax.ext {x : Int} {s t : List Int} (hs : c.Ax x s) (ht : c.Ax x t) (h : ∀ y,y∈s↔y∈t) : s=t:=KR hs.iX ht.iX h
theorem GO (s : c.Shape) (x : Int) : c.Ax x (outs c x) :=
 .mk' (R0 c x ▸ DS _ _) (fun a ha=>by have:=BV.mp ha; exact ⟨⟨this.1,this.2.1⟩,this.2.2⟩) fun a b ha hb e=>by
  have h:=BV.mp ha
  have:=s.comp ⟨h.1,h.2.1⟩ hb e;exact BV.mpr ⟨this.1.1,this.1.2,this.2.1.trans h.2.2⟩
theorem Ym (x : Int) : c.Ax x []:=.mk' (fun i _ h=>by simp at h) (fun a h=>by simp at h) fun a b h=>by simp at h
theorem EU (h : c.Is) {a : Int} {s : List Int} (ha : 0≤a∧a.toNat<c.AH.length) (hs : c.Ax (ix c.AH a) s) : c.Ax (ix c.to a) (DR c a s) :=
 .mk' (DS _ _) (fun b hb=>by have:=E3.mp hb; exact ⟨this.1,this.2.1.symm⟩) fun b d hb hd e=>by
  have hb:=E3.mp hb
  have h1:=h.1.comp hb.1 hd e;refine E3.mpr ⟨h1.1,by rw [h1.2.1]; exact hb.2.1, ?_⟩;rw [← h.assoc ha hb.1 hd hb.2.1 e];exact hs.Jt hb.2.2 hd (by rw [(h.1.comp ha hb.1 hb.2.1).2.2]; exact e)
theorem IC (h : c.Is) {x : Int} {l : List Int} (hl : ∀ a,a∈l→(0≤a∧a.toNat<c.AH.length)∧ix c.AH a=x) : c.Ax x (Bo c l) :=
 .mk' (DS _ _) (fun y hy=>by
  obtain ⟨h1,a,ha,b,hb,e1,e2⟩:=GU.mp hy;refine ⟨h1, ?_⟩;rw [← e2,(h.1.comp (hl a ha).1 hb e1).2.1]; exact (hl a ha).2) fun y d hy hd e=>by
  obtain ⟨h1,a,ha,b,hb,e1,e2⟩:=GU.mp hy
  have k1:=h.1.comp (hl a ha).1 hb e1
  have k2 : ix c.to b=ix c.AH d:=by rw [← k1.2.2,e2]; exact e
  have k3:=h.1.comp hb hd k2;refine GU.mpr ⟨(h.1.comp h1 hd e).1,a,ha,_,k3.1,by rw [k3.2.1]; exact e1, ?_⟩;rw [← h.assoc (hl a ha).1 hb hd e1 k2,e2]
theorem GC (h : c.Is) {l : List Int} {a : Int} (ha : a∈l) (hl : 0≤a∧a.toNat<c.AH.length) : a∈Bo c l:=by
 have h1:=h.1.Uk (h.1.C7 hl.2);exact GU.mpr ⟨hl,a,ha,_,h1.1,h1.2.1.symm,h.BW hl⟩
theorem Pb {x : Int} {l s : List Int} (hs : c.Ax x s) (h : ∀ a,a∈l→a∈s) {y : Int} (hy : y∈Bo c l) : y∈s:=by
 obtain ⟨_,a,ha,b,hb,e1,e2⟩:=GU.mp hy;rw [← e2]; exact hs.Jt (h a ha) hb e1
theorem U7 (h : c.Is) {x : Int} {s l : List Int} (hs : c.Ax x s) (h1 : ∀ a,a∈l↔a∈s) : Bo c l=s:=by
 have hl : ∀ a,a∈l→(0≤a∧a.toNat<c.AH.length)∧ix c.AH a=x:=fun a ha=>hs.arr ((h1 a).mp ha);refine (IC h hl).ext hs fun y=>⟨Pb hs fun a ha=>(h1 a).mp ha,fun hy=>GC h ((h1 y).mpr hy) (hs.arr hy).1⟩
theorem Oo (h : c.Is) {x : Int} {L : List (List Int)} (h0 : []∈L) (hs : ∀ t,t∈L→c.Ax x t) (hc : ∀ t,t∈L→∀ a,a∈outs c x→Bo c (t++[a])∈L) :
  ∀ s,c.Ax x s→s∈L:=by
 intro s hS
 have key : ∀ n t,t∈L→(∀ a,a∈t→a∈s)→(s.filter fun a=>decide (a ∉ t)).length=n→s∈L:=by
  intro n
  induction n using Nat.strongRecOn with
  | _ n ih =>
   intro t ht Cq hn
   by_cases he : ∃ a,a∈s∧a ∉ t
   ·obtain ⟨a,ha,II⟩:=he
    have Zs:=hS.arr ha
    have hl : ∀ b,b∈t++[a]→(0≤b∧b.toNat<c.AH.length)∧ix c.AH b=x:=by
     intro b hb
     rcases List.mem_append.mp hb with hb | hb
     ·exact (hs t ht).arr hb
     ·rw [List.mem_singleton] at hb; subst hb; exact Zs
    have EI:=hc t ht a (BV.mpr ⟨Zs.1.1,Zs.1.2,Zs.2⟩);refine ih _ ?_ _ EI (fun b hb=>Pb hS (fun b hb=>?_) hb) rfl
    ·rw [← hn]
     have gN : ∀ b,b∈t→b∈Bo c (t++[a]):=fun b hb=>GC h (by simp [hb]) (hl b (by simp [hb])).1
     have iS : a∈Bo c (t++[a]):=GC h (by simp) Zs.1;rw [← List.countP_eq_length_filter,← List.countP_eq_length_filter]
     have h1 : List.countP (fun b=>decide (b ∉ Bo c (t++[a]))) s+1≤List.countP (fun b=>decide (b ∉ t)) s:=by
      obtain ⟨s1,s2,rfl⟩:=List.append_of_mem ha;simp only [List.countP_append,List.countP_cons]
      have i1 : List.countP (fun b=>decide (b ∉ Bo c (t++[a]))) s1≤List.countP (fun b=>decide (b ∉ t)) s1 :=
       List.countP_mono_left fun b _ hb=>by simp only [decide_eq_true_eq] at hb ⊢; exact fun h=>hb (gN b h)
      have i2 : List.countP (fun b=>decide (b ∉ Bo c (t++[a]))) s2≤List.countP (fun b=>decide (b ∉ t)) s2 :=
       List.countP_mono_left fun b _ hb=>by simp only [decide_eq_true_eq] at hb ⊢; exact fun h=>hb (gN b h)
      simp only [iS,II,not_true_eq_false,decide_false,not_false_eq_true,decide_true,if_true,Bool.false_eq_true,if_false];omega
     omega
    ·rcases List.mem_append.mp hb with hb | hb
     ·exact Cq b hb
     ·rw [List.mem_singleton] at hb; subst hb; exact ha
   ·have : t=s:=(hs t ht).ext hS fun y=>⟨Cq y,fun hy=>Classical.byContradiction fun hn=>he ⟨y,hy,hn⟩⟩;rw [← this]; exact ht
 exact key _ [] h0 (fun a ha=>by simp at ha) rfl
structure IY (c : B0) (x : Int) (L : List (List Int)) : Prop where
 N7 : L.Pairwise fun s t=>cmp s t<0
 mem : ∀ s,s∈L↔c.Ax x s
theorem IY.uniq {x : Int} {L M : List (List Int)} (h : IY c x L) (k : IY c x M) : L=M:=by
 refine List.Perm.eq_of_pairwise (le:=fun s t=>cmp s t<0) (fun a b _ _ h1 h2=>?_) h.N7 k.N7 ?_
 ·have:=Gp a b; omega
 ·refine (List.perm_ext_iff_of_nodup ?_ ?_).mpr fun s=>(h.mem s).trans (k.mem s).symm
  ·exact h.N7.imp fun {a b} h e=>by rw [Cf.mpr e] at h; omega
  ·exact k.N7.imp fun {a b} h e=>by rw [Cf.mpr e] at h; omega
theorem IY.nodup {x : Int} {L : List (List Int)} (h : IY c x L) : L.Nodup:=h.N7.imp fun {a b} h e=>by rw [Cf.mpr e] at h; omega
def OW (c : B0) (x : Int) : Prop:=∃ L,IY c x L∧L.length≤16
theorem OW.no {x : Int} {M : List (List Int)} (hn : M.Nodup) (hm : ∀ s,s∈M→c.Ax x s) (hl : 16<M.length) : ¬ OW c x:=by
 rintro ⟨L,hL,h⟩
 have:=List.Nodup.length_le_of_subset hn fun s hs=>(hL.mem s).mpr (hm s hs);omega
open Classical in
noncomputable def Gg (c : B0) (x : Int) : List (List Int):=if h : OW c x then Classical.choose h else []
theorem LI {x : Int} (h : OW c x) : IY c x (Gg c x)∧(Gg c x).length≤16:=by
 rw [Gg,dif_pos h]; exact Classical.choose_spec h
theorem lM {x : Int} {L : List (List Int)} (h : IY c x L) (hl : L.length≤16) : OW c x∧Gg c x=L :=
 have hf : OW c x:=⟨L,h,hl⟩
 ⟨hf,(LI hf).1.uniq h⟩
end
end Go.Shf
namespace Go.Shf
open Go.AW
def Bl (f : SF) (s : List Int) (e : Int) : List Int:=s.map fun a=>ix (ix f.Aa a) e
def TT (f : SF) (s t : List Int) (e : Nat) : Bool:=decide (Bl f s e=t)
def glue (f : SF) (x : Int) (s t : List Int) : List Int:=Ea (TT f s t) (ix f.A4 x).toNat
end Go.Shf
namespace Go.Shf
open Go.AW
def Vu (c : B0) (l : List Int) (i b h : Nat) : Prop:=ix c.to (l.getD i default)=c.AH.getD b default∧(ix c.comp (l.getD i default)).getD b default=(h : Int)
def Cw (c : B0) (l : List Int) (k b' : Nat) (A : List Bool) : Prop:=A.length=c.AH.length ∧
 ∀ h,h<c.AH.length→(A.getD h default=true↔(∃ i,i<k∧∃ b,b<c.AH.length∧Vu c l i b h)∨∃ b,b<b'∧Vu c l k b h)
theorem Cw.zero (c : B0) (l : List Int) : Cw c l 0 0 (List.replicate c.AH.length false):=by
 refine ⟨by simp,fun h hh=>?_⟩;simp only [gE,List.getElem?_replicate,hh,if_true,Option.getD_some]
 constructor
 ·intro e; cases e
 ·rintro (⟨i,hi,_⟩ | ⟨b,hb,_⟩) <;> omega
theorem Cw.row {c : B0} {l : List Int} {k : Nat} {A : List Bool} (h : Cw c l k c.AH.length A) : Cw c l (k+1) 0 A:=by
 refine ⟨h.1,fun x hx=>(h.2 x hx).trans ⟨?_, ?_⟩⟩
 ·rintro (⟨i,hi,e⟩ | ⟨b,hb,e⟩)
  ·exact .inl ⟨i,by omega,e⟩
  ·exact .inl ⟨k,by omega,b,hb,e⟩
 ·rintro (⟨i,hi,b,hb,e⟩ | ⟨b,hb,e⟩)
  ·by_cases e2 : i=k
   ·subst e2; exact .inr ⟨b,hb,e⟩
   ·exact .inl ⟨i,by omega,b,hb,e⟩
  ·omega
theorem Cw.skip {c : B0} {l : List Int} {k b' : Nat} {A : List Bool} (h : Cw c l k b' A) (hn : ¬ ix c.to (l.getD k default)=c.AH.getD b' default) : Cw c l k (b'+1) A:=by
 refine ⟨h.1,fun x hx=>(h.2 x hx).trans (or_congr_right ⟨?_, ?_⟩)⟩
 ·rintro ⟨b,hb,e⟩; exact ⟨b,by omega,e⟩
 ·rintro ⟨b,hb,e⟩
  by_cases e2 : b=b'
  ·subst e2; exact absurd e.1 hn
  ·exact ⟨b,by omega,e⟩
theorem BL {α : Type} (l : List α) (i j : Nat) (a d : α) : (l.set i a).getD j d=if i=j∧j<l.length then a else l.getD j d:=by
 rw [gE,List.getElem?_set,gE]
 by_cases h : i=j
 ·subst h
  by_cases h2 : i<l.length
  ·simp [h2]
  ·simp [h2,List.getElem?_eq_none (show l.length≤i by omega)]
 ·simp [h]
theorem Cw.set {c : B0} {l : List Int} {k b' : Nat} {A : List Bool} (h : Cw c l k b' A) (he : ix c.to (l.getD k default)=c.AH.getD b' default)
  (hr : 0≤(ix c.comp (l.getD k default)).getD b' default) : Cw c l k (b'+1) (A.set ((ix c.comp (l.getD k default)).getD b' default).toNat true):=by
 refine ⟨by rw [List.length_set]; exact h.1,fun x hx=>?_⟩
 by_cases e : ((ix c.comp (l.getD k default)).getD b' default).toNat=x
 ·have : (A.set ((ix c.comp (l.getD k default)).getD b' default).toNat true).getD x default=true:=by
   rw [BL,if_pos ⟨e,by rw [h.1]; exact hx⟩]
  rw [this];exact ⟨fun _=>.inr ⟨b',by omega,he,by omega⟩,fun _=>rfl⟩
 ·have : (A.set ((ix c.comp (l.getD k default)).getD b' default).toNat true).getD x default=A.getD x default:=by
   rw [BL,if_neg fun h=>e h.1]
  rw [this,h.2 x hx];refine or_congr_right ⟨?_, ?_⟩
  ·rintro ⟨b,hb,e⟩; exact ⟨b,by omega,e⟩
  ·rintro ⟨b,hb,e3⟩
   by_cases e2 : b=b'
   ·subst e2; exact absurd (by have:=e3.2; omega) e
   ·exact ⟨b,by omega,e3⟩
theorem Cw.done {c : B0} {l : List Int} {k : Nat} {A : List Bool} (h : Cw c l k 0 A) (hk : k=l.length) : Ea (fun i=>A.getD i default) A.length=Bo c l:=by
 subst hk;rw [Bo,h.1,Ea,Ea]
 congr 1
 refine List.filter_congr fun x hx=>?_;rw [List.mem_range] at hx;rw [Bool.eq_iff_iff,h.2 x hx,WR,FK]
 constructor
 ·rintro (⟨i,hi,b,hb,e⟩ | ⟨b,hb,e⟩)
  ·exact ⟨_,AE.mpr ⟨i,hi,rfl⟩,b,hb,e⟩
  ·omega
 ·rintro ⟨a,ha,b,hb,e⟩
  obtain ⟨i,hi,rfl⟩:=AE.mp ha;exact .inl ⟨i,hi,b,hb,e⟩
def Kh (c : B0) (l : List Int) (k j : Nat) (A : List Bool) : Prop:=A.length=c.AH.length ∧
 ∀ h,h<c.AH.length→(A.getD h default=true↔(∃ i,i<k∧∃ b,b<c.AH.length∧Vu c l i b h) ∨
  ∃ i,i<j∧i<(outs c (ix c.to (l.getD k default))).length∧ix (ix c.comp (l.getD k default)) ((outs c (ix c.to (l.getD k default))).getD i default)=(h : Int))
theorem Cw.out {c : B0} {l : List Int} {k : Nat} {A : List Bool} (h : Cw c l k 0 A) : Kh c l k 0 A :=
 ⟨h.1,fun x hx=>(h.2 x hx).trans (or_congr_right ⟨fun ⟨b,hb,_⟩=>by omega,fun ⟨b,hb,_⟩=>by omega⟩)⟩
theorem Kh.row {c : B0} {l : List Int} {k j : Nat} {A : List Bool} (h : Kh c l k j A) (hj : (outs c (ix c.to (l.getD k default))).length≤j) : Cw c l (k+1) 0 A:=by
 refine Cw.row ⟨h.1,fun x hx=>(h.2 x hx).trans (or_congr_right ⟨?_, ?_⟩)⟩
 ·rintro ⟨i,_,hi,e⟩
  have hm : (outs c (ix c.to (l.getD k default))).getD i default∈outs c (ix c.to (l.getD k default)):=AE.mpr ⟨i,hi,rfl⟩
  have hm:=BV.mp hm;exact ⟨_,hm.2.1,hm.2.2.symm,e⟩
 ·rintro ⟨b,hb,e1,e2⟩
  have hm : (b : Int)∈outs c (ix c.to (l.getD k default)):=BV.mpr ⟨by omega,by simpa using hb,by rw [AJ]; exact e1.symm⟩
  obtain ⟨i,hi,e⟩:=AE.mp hm;exact ⟨i,by omega,hi,by rw [e,AJ]; exact e2⟩
theorem Kh.set {c : B0} {l : List Int} {k j : Nat} {A : List Bool} (h : Kh c l k j A) (hj : j<(outs c (ix c.to (l.getD k default))).length)
  (hr : 0≤ix (ix c.comp (l.getD k default)) ((outs c (ix c.to (l.getD k default))).getD j default)) :
  Kh c l k (j+1) (A.set (ix (ix c.comp (l.getD k default)) ((outs c (ix c.to (l.getD k default))).getD j default)).toNat true):=by
 refine ⟨by rw [List.length_set]; exact h.1,fun x hx=>?_⟩;rw [BL]
 split
 ·rename_i e
  exact ⟨fun _=>.inr ⟨j,by omega,hj,by omega⟩,fun _=>rfl⟩
 ·rename_i e
  rw [h.2 x hx];refine or_congr_right ⟨?_, ?_⟩
  ·rintro ⟨i,h1,e1⟩; exact ⟨i,by omega,e1⟩
  ·rintro ⟨i,h1,h2,e1⟩
   by_cases e2 : i=j
   ·subst e2; exact absurd ⟨by rw [e1]; simp,by rw [h.1]; exact hx⟩ e
   ·exact ⟨i,by omega,h2,e1⟩
end Go.Shf
namespace Go.Shf
open Go.AW
structure PZ (c : B0) (x : Int) (s : List Int) (found out : List (List Int)) : Prop where
 nd : out.Nodup
 sv : ∀ t,t∈out→c.Ax x t
 le : out.length≤17
 sub : ∀ t,t∈found→t∈out
 all : 16<out.length∨(s∈out∧∀ t,t∈out→t ∉ found→∀ a,a∈outs c x→Bo c (t++[a])∈out)
structure J6 (c : B0) (x : Int) (s : List Int) (found : List (List Int)) (k : Nat) (out : List (List Int)) : Prop where
 nd : out.Nodup
 sv : ∀ t,t∈out→c.Ax x t
 le : out.length≤17
 sub : ∀ t,t∈found→t∈out
 own : s∈out
 all : 16<out.length∨((∀ t,t∈out→t ∉ found→t≠s→∀ a,a∈outs c x→Bo c (t++[a])∈out)∧∀ i,i<k→i<(outs c x).length→Bo c (s++[(outs c x).getD i default])∈out)
section
variable {c : B0} {x : Int} {s : List Int} {found out : List (List Int)}
theorem PZ.stop (nd : found.Nodup) (sv : ∀ t,t∈found→c.Ax x t) (le : found.length≤17) (h : s∈found∨16<found.length) : PZ c x s found found :=
 ⟨nd,sv,le,fun _ h=>h,h.elim (fun h=>.inr ⟨h,fun t h1 h2=>absurd h1 h2⟩) .inl⟩
theorem J6.zero (nd : found.Nodup) (sv : ∀ t,t∈found→c.Ax x t) (hs : c.Ax x s) (h : s ∉ found) (hl : found.length≤16) : J6 c x s found 0 (found++[s]):=by
 refine ⟨?_, ?_,by simp; omega,fun t ht=>by simp [ht],by simp,.inr ⟨fun t h1 h2 h3=>?_,fun i hi=>by omega⟩⟩
 ·rw [List.nodup_append];refine ⟨nd,by simp,fun a ha b hb=>?_⟩;rw [List.mem_singleton] at hb; subst hb
  rintro rfl; exact h ha
 ·intro t ht
  rcases List.mem_append.mp ht with ht | ht
  ·exact sv t ht
  ·rw [List.mem_singleton] at ht; subst ht; exact hs
 ·rcases List.mem_append.mp h1 with h1 | h1
  ·exact absurd h1 h2
  ·rw [List.mem_singleton] at h1; exact absurd h1 h3
theorem J6.skip {k : Nat} (h : J6 c x s found k out) (hk : k<(outs c x).length) (hm : Bo c (s++[(outs c x).getD k default])=s) : J6 c x s found (k+1) out :=
 ⟨h.nd,h.sv,h.le,h.sub,h.own,h.all.imp_right fun ⟨h1,h2⟩=>⟨h1,fun i hi hl=>by
  by_cases e : i=k
  ·subst e; rw [hm]; exact h.own
  ·exact h2 i (by omega) hl⟩⟩
theorem J6.step {k : Nat} {out' : List (List Int)} (h : J6 c x s found k out) (hk : k<(outs c x).length) (q : PZ c x (Bo c (s++[(outs c x).getD k default])) out out') : J6 c x s found (k+1) out':=by
 refine ⟨q.nd,q.sv,q.le,fun t ht=>q.sub t (h.sub t ht),q.sub s h.own, ?_⟩
 rcases h.all with h1 | ⟨h1,h2⟩
 ·left
  have:=List.Nodup.length_le_of_subset h.nd fun t ht=>q.sub t ht;omega
 ·refine q.all.imp_right fun ⟨q1,q2⟩=>⟨fun t ht hn hs a ha=>?_,fun i hi hl=>?_⟩
  ·by_cases e : t∈out
   ·exact q.sub _ (h1 t e hn hs a ha)
   ·exact q2 t ht e a ha
  ·by_cases e : i=k
   ·subst e; exact q1
   ·exact q.sub _ (h2 i (by omega) hl)
theorem J6.done {k : Nat} (h : J6 c x s found k out) (hk : (outs c x).length≤k) : PZ c x s found out :=
 ⟨h.nd,h.sv,h.le,h.sub,h.all.imp_right fun ⟨h1,h2⟩=>⟨h.own,fun t ht hn a ha=>by
  by_cases e : t=s
  ·subst e
   obtain ⟨i,hi,rfl⟩:=AE.mp ha;exact h2 i (by omega) hi
  ·exact h1 t ht hn e a ha⟩⟩
def missing (c : B0) (x : Int) (s : List Int) : Nat:=(outs c x).countP fun a=>decide (a ∉ s)
theorem Va (h : c.Is) (hs : c.Ax x s) {a : Int} (ha : a∈outs c x) (hn : a ∉ s) : missing c x (Bo c (s++[a]))<missing c x s:=by
 have Zs:=BV.mp ha
 have hl : ∀ b,b∈s++[a]→(0≤b∧b.toNat<c.AH.length)∧ix c.AH b=x:=by
  intro b hb
  rcases List.mem_append.mp hb with hb | hb
  ·exact hs.arr hb
  ·rw [List.mem_singleton] at hb; subst hb; exact ⟨⟨Zs.1,Zs.2.1⟩,Zs.2.2⟩
 have gN : ∀ b,b∈s→b∈Bo c (s++[a]):=fun b hb=>GC h (by simp [hb]) (hl b (by simp [hb])).1
 have iS : a∈Bo c (s++[a]):=GC h (by simp) (hl a (by simp)).1;unfold missing
 obtain ⟨s1,s2,e⟩:=List.append_of_mem ha;rw [e];simp only [List.countP_append,List.countP_cons]
 have i1 : List.countP (fun b=>decide (b ∉ Bo c (s++[a]))) s1≤List.countP (fun b=>decide (b ∉ s)) s1 :=
  List.countP_mono_left fun b _ hb=>by simp only [decide_eq_true_eq] at hb ⊢; exact fun h=>hb (gN b h)
 have i2 : List.countP (fun b=>decide (b ∉ Bo c (s++[a]))) s2≤List.countP (fun b=>decide (b ∉ s)) s2 :=
  List.countP_mono_left fun b _ hb=>by simp only [decide_eq_true_eq] at hb ⊢; exact fun h=>hb (gN b h)
 simp only [iS,hn,not_true_eq_false,decide_false,not_false_eq_true,decide_true,if_true,Bool.false_eq_true,if_false];omega
theorem Yi (h : c.Is) (hs : c.Ax x s) {a : Int} (ha : a∈outs c x) : c.Ax x (Bo c (s++[a])):=by
 have Zs:=BV.mp ha;refine IC h fun b hb=>?_
 rcases List.mem_append.mp hb with hb | hb
 ·exact hs.arr hb
 ·rw [List.mem_singleton] at hb; subst hb; exact ⟨⟨Zs.1,Zs.2.1⟩,Zs.2.2⟩
theorem dC (h : c.Is) (hs : c.Ax x s) {a : Int} (ha : a∈s) : Bo c (s++[a])=s :=
 U7 h hs fun b=>by
  rw [List.mem_append,List.mem_singleton];exact ⟨fun e=>e.elim id fun e=>e ▸ ha,.inl⟩
theorem TO (h : c.Is) {L M : List (List Int)} (nd : L.Nodup) (sv : ∀ t,t∈L→c.Ax x t) (hp : M.Perm L) (hs : M.Pairwise fun s t=>cmp s t≤0)
  (ha : 16<L.length∨([]∈L∧∀ t,t∈L→∀ a,a∈outs c x→Bo c (t++[a])∈L)) : (L.length≤16↔OW c x)∧(OW c x→M=Gg c x):=by
 by_cases hl : L.length≤16
 ·obtain ⟨h1,h2⟩:=ha.resolve_left (by omega)
  have hM : IY c x M:=by
   refine ⟨?_,fun s=>⟨fun hm=>sv s (hp.mem_iff.mp hm),fun hS=>hp.mem_iff.mpr (Oo h h1 sv h2 s hS)⟩⟩
   have HK : M.Nodup:=hp.nodup_iff.mpr nd;refine (hs.and HK).imp fun {a b} ⟨h3,h4⟩=>?_
   have:=mt Cf.mp h4;omega
  have:=lM hM (by rw [hp.length_eq]; exact hl);exact ⟨⟨fun _=>this.1,fun _=>hl⟩,fun _=>this.2.symm⟩
 ·have : ¬ OW c x:=OW.no nd sv (by omega);exact ⟨⟨fun h=>absurd h hl,fun h=>absurd h this⟩,fun h=>absurd h this⟩
end
structure Ql (l : List (List Int)) (i k : Nat) (A : List (List Int)) : Prop where
 pm : A.Perm l
 le : k≤i
 lt : i<l.length
 ord : ∀ a b,a<b→b≤i→b≠k→cmp (A.getD a default) (A.getD b default)≤0
theorem Rx {a b c : List Int} (h : cmp a b≤0) (k : cmp b c≤0) : cmp a c≤0:=by
 by_cases h1 : cmp a b=0
 ·rw [Cf.mp h1]; exact k
 ·by_cases h2 : cmp b c=0
  ·rw [← Cf.mp h2]; exact h
  ·have:=HY (a:=a) (b:=b) (c:=c) (by omega) (by omega); omega
theorem Ql.swap {l A : List (List Int)} {i k : Nat} (h : Ql l i (k+1) A) (hc : cmp (A.getD (k+1) default) (A.getD k default)<0) :
  Ql l i k ((A.set (k+1) (A.getD k default)).set k (A.getD (k+1) default)):=by
 have hl:=h.pm.length_eq
 have hi:=h.lt
 have hk:=h.le
 have g : ∀ j,((A.set (k+1) (A.getD k default)).set k (A.getD (k+1) default)).getD j default=if j=k then A.getD (k+1) default else if j=k+1 then A.getD k default else A.getD j default:=by
  intro j;rw [BL,BL,List.length_set]
  by_cases e : j=k
  ·subst e; rw [if_pos ⟨rfl,by omega⟩,if_pos rfl]
  ·rw [if_neg fun h=>e h.1.symm,if_neg e]
   by_cases e2 : j=k+1
   ·subst e2; rw [if_pos ⟨rfl,by omega⟩,if_pos rfl]
   ·rw [if_neg fun h=>e2 h.1.symm,if_neg e2]
 refine ⟨?_,by omega,h.lt,fun a b Ic hb Bq=>?_⟩
 ·refine List.Perm.trans ?_ h.pm
  have:=List.set_set_perm (as:=A) (i:=k+1) (j:=k) (by omega) (by omega)
  simpa [gE,show k<A.length by omega,show k+1<A.length by omega] using this
 ·rw [g,g];rw [if_neg Bq]
  by_cases e1 : b=k+1
  ·subst e1;rw [if_pos rfl]
   by_cases e2 : a=k
   ·subst e2; rw [if_pos rfl]; omega
   ·rw [if_neg e2,if_neg (by omega)];exact h.ord a k (by omega) (by omega) (by omega)
  ·rw [if_neg e1]
   by_cases e2 : a=k
   ·subst e2; rw [if_pos rfl]; exact h.ord (a+1) b (by omega) hb e1
   ·rw [if_neg e2]
    by_cases e3 : a=k+1
    ·subst e3; rw [if_pos rfl]; exact h.ord k b (by omega) hb e1
    ·rw [if_neg e3]; exact h.ord a b Ic hb e1
theorem Ql.stop {l A : List (List Int)} {i k : Nat} (h : Ql l i k A) (hc : k=0∨0<k∧¬ cmp (A.getD k default) (A.getD (k - 1) default)<0) : ∀ a b,a<b→b≤i→cmp (A.getD a default) (A.getD b default)≤0:=by
 intro a b Ic hb
 by_cases e : b=k
 ·subst e
  rcases hc with rfl | ⟨h0,hc⟩
  ·omega
  ·have h1 : cmp (A.getD (b - 1) default) (A.getD b default)≤0:=by rw [Gp]; omega
   by_cases e2 : a=b - 1
   ·subst e2; exact h1
   ·exact Rx (h.ord a (b - 1) (by omega) (by omega) (by omega)) h1
 ·exact h.ord a b Ic hb e
theorem Uw {A : List (List Int)} (h : ∀ a b,a<b→b<A.length→cmp (A.getD a default) (A.getD b default)≤0) : A.Pairwise fun s t=>cmp s t≤0:=by
 rw [List.pairwise_iff_getElem]
 intro i j hi hj n4
 have:=h i j n4 hj
 simpa [gE,hi,hj] using this
theorem B0.Ax.len {c : B0} {x : Int} {s : List Int} (h : c.Ax x s) : s.length≤c.AH.length:=by
 have h1 : s.Nodup:=(DI.mp h.iX).imp fun {a b} h=>by omega
 have:=List.Nodup.length_le_of_subset (l₂:=(List.range c.AH.length).map Int.ofNat) h1 fun y hy=>by
  have:=h.arr hy;rw [List.mem_map];exact ⟨y.toNat,List.mem_range.mpr this.1.2,Int.toNat_of_nonneg this.1.1⟩
 simpa using this
end Go.Shf
namespace Go.Shf
open Go.AW
def Be (c : B0) : Prop:=∀ x : Nat,x<c.AR.toNat→OW c x
noncomputable def AM (c : B0) : List (List (List Int)):=(List.range c.AR.toNat).map fun x : Nat=>Gg c (x : Int)
open Classical in
noncomputable def fN (c : B0) : List (List (List Int)):=if Be c then AM c else []
theorem dZ {c : B0} (h : Be c) : fN c=AM c:=by rw [fN,if_pos h]
theorem oJ {c : B0} (h : ¬ Be c) : fN c=[]:=by rw [fN,if_neg h]
def KZ (c : B0) (L : List (List (List Int))) (a : Nat) : List Int:=(L.getD (c.AH.getD a default).toNat default).map fun s=>indexOf (L.getD (c.to.getD a default).toNat default) (DR c a s)
def BC (c : B0) (L : List (List (List Int))) : List (List Int):=(List.range c.AH.length).map (KZ c L)
def Xe (c : B0) (L : List (List (List Int))) (x : Nat) : Int:=indexOf (L.getD x default) (outs c x)
def C9 (c : B0) (L : List (List (List Int))) : List Int:=(List.range L.length).map (Xe c L)
theorem Bg {α : Type} (f : Nat→α) (k : Nat) : (List.range (k+1)).map f=(List.range k).map f++[f k]:=by rw [List.range_succ]; simp
theorem AS {α : Type} (f : Nat→α) (d : α) {n k : Nat} (h : k<n) : ((List.range n).map f).getD k d=f k:=by
 simp [gE,h]
@[go_sem] def BE (c : B0) (L : List (List (List Int))) : List AV:=[iI c.AR,iL c.AH,iL c.to,iL c.Aw,BD c.comp,Gi L,BD (BC c L),iL (C9 c L)]
@[go_sem] def MG : List AV:=[.int .i64 0,.A1,.A1,.A1,.A1,.A1,.A1,.A1]
open Classical in
noncomputable def eQ (c : B0) : List AV:=if Be c then BE c (AM c) else MG
theorem Wv {c : B0} (h : Be c) : eQ c=BE c (AM c):=by rw [eQ,if_pos h]
theorem VQ {c : B0} (h : ¬ Be c) : eQ c=MG:=by rw [eQ,if_neg h]
structure Dt (c : B0) (L : List (List (List Int))) : Prop where
 is : c.Is
 len : (L.length : Int)=c.AR
 all : ∀ x : Nat,x<L.length→IY c x (L.getD x default)
 YH : ∀ x : Nat,x<L.length→(L.getD x default).length≤16
theorem HT {c : B0} (h : c.Is) (hf : Be c) : Dt c (AM c):=by
 have ho:=h.1.o;refine ⟨h,by simp [AM]; omega,fun x hx=>?_,fun x hx=>?_⟩
 ·have hx : x<c.AR.toNat:=by simpa [AM] using hx
  rw [AM,AS _ _ hx]; exact (LI (hf x hx)).1
 ·have hx : x<c.AR.toNat:=by simpa [AM] using hx
  rw [AM,AS _ _ hx]; exact (LI (hf x hx)).2
theorem B3 {α : Type} [DecidableEq α] [Inhabited α] {l : List α} {a : α} (h : a∈l) : 0≤indexOf l a∧(indexOf l a).toNat<l.length∧ix l (indexOf l a)=a:=by
 unfold indexOf
 split
 ·rename_i i e
  rw [List.idxOf?_eq_some_iff] at e
  obtain ⟨hi,e,_⟩:=e;refine ⟨by omega,by simpa using hi, ?_⟩
  simpa [ix,gE,hi] using e
 ·rename_i e; rw [List.idxOf?_eq_none_iff] at e; exact absurd h e
theorem Bp {α : Type} [DecidableEq α] [Inhabited α] {l : List α} (h : l.Nodup) {k : Nat} (hk : k<l.length) : indexOf l (l.getD k default)=k:=by
 refine EY hk (fun i hi e=>?_) rfl
 have h1 : i<l.length:=by omega
 have:=(List.getElem_inj h (h₀:=h1) (h₁:=hk)).mp (by simpa [gE,h1,hk] using e);omega
section
variable {c : B0} {L : List (List (List Int))}
theorem Dt.sv (t : Dt c L) {x : Nat} (hx : x<L.length) {k : Nat} (hk : k<(L.getD x default).length) : c.Ax x ((L.getD x default).getD k default) :=
 ((t.all x hx).mem _).mp (AE.mpr ⟨k,hk,rfl⟩)
theorem Dt.AH (t : Dt c L) {a : Int} (h : 0≤a∧a.toNat<c.AH.length) : 0≤ix c.AH a∧(ix c.AH a).toNat<L.length:=by
 have:=t.is.1.Cl h.2; have:=t.len; omega
theorem Dt.to (t : Dt c L) {a : Int} (h : 0≤a∧a.toNat<c.AH.length) : 0≤ix c.to a∧(ix c.to a).toNat<L.length:=by
 have:=t.is.1.C7 h.2; have:=t.len; omega
theorem Dt.at (t : Dt c L) {x : Int} (h0 : 0≤x) (hx : x.toNat<L.length) : IY c x (ix L x):=by
 have:=t.all x.toNat hx;rw [Int.toNat_of_nonneg h0] at this; exact this
theorem JT : (BC c L).length=c.AH.length:=by simp [BC]
theorem MS {a : Int} (h : 0≤a∧a.toNat<c.AH.length) : ix (BC c L) a=(ix L (ix c.AH a)).map fun s=>indexOf (ix L (ix c.to a)) (DR c a s):=by
 rw [ix,BC,AS _ _ h.2];rw [KZ,Int.toNat_of_nonneg h.1]; rfl
theorem JW {a : Int} (h : 0≤a∧a.toNat<c.AH.length) : (ix (BC c L) a).length=(ix L (ix c.AH a)).length:=by rw [MS h]; simp
theorem Dt.pull (t : Dt c L) {a : Int} (h : 0≤a∧a.toNat<c.AH.length) {k : Nat} (hk : k<(ix L (ix c.AH a)).length) :
  (0≤(ix (BC c L) a).getD k default∧((ix (BC c L) a).getD k default).toNat<(ix L (ix c.to a)).length) ∧
   ix (ix L (ix c.to a)) ((ix (BC c L) a).getD k default)=DR c a ((ix L (ix c.AH a)).getD k default):=by
 have hf:=t.AH h
 have ht:=t.to h
 have hs : c.Ax (ix c.AH a) ((ix L (ix c.AH a)).getD k default):=((t.at hf.1 hf.2).mem _).mp (AE.mpr ⟨k,hk,rfl⟩)
 have hp:=((t.at ht.1 ht.2).mem _).mpr (EU t.is h hs)
 have e : (ix (BC c L) a).getD k default=indexOf (ix L (ix c.to a)) (DR c a ((ix L (ix c.AH a)).getD k default)):=by
  rw [MS h]; simp [gE,hk]
 rw [e]
 have:=B3 hp;exact ⟨⟨this.1,this.2.1⟩,this.2.2⟩
theorem Hc : (C9 c L).length=L.length:=by simp [C9]
theorem Dt.top (t : Dt c L) {x : Nat} (hx : x<L.length) : (0≤(C9 c L).getD x default∧((C9 c L).getD x default).toNat<(L.getD x default).length)∧ix (L.getD x default) ((C9 c L).getD x default)=outs c x:=by
 have h:=((t.all x hx).mem _).mpr (GO t.is.1 x)
 have e : (C9 c L).getD x default=indexOf (L.getD x default) (outs c x):=by rw [C9,AS _ _ hx,Xe]
 rw [e]
 have:=B3 h;exact ⟨⟨this.1,this.2.1⟩,this.2.2⟩
end
def mg (M : List (List Bool)) (x : Int) (k : Int) : Bool:=ix (ix M x) k
structure DV (L : List (List (List Int))) (M : List (List Bool)) : Prop where
 len : M.length=L.length
 row : ∀ x : Nat,x<L.length→(M.getD x default).length=(L.getD x default).length
def QF (c : B0) (L : List (List (List Int))) (M : List (List Bool)) (x s k : Nat) : Prop :=
 ∀ i,i<((L.getD x default).getD s default).length→mg M (ix c.to (((L.getD x default).getD s default).getD i default)) ((ix (BC c L) (((L.getD x default).getD s default).getD i default)).getD k default)=true
def v8 (c : B0) (L : List (List (List Int))) (M : List (List Bool)) (x s a : Nat) : Prop:=c.AH.getD a default=x→mg M (c.to.getD a default) (((BC c L).getD a default).getD s default)=true
def KOk (c : B0) (L : List (List (List Int))) (M : List (List Bool)) (x s k : Nat) : Prop:=(M.getD x default).getD k default=true∨¬ QF c L M x s k
def vh (c : B0) (L : List (List (List Int))) (M : List (List Bool)) (x s : Nat) : Prop:=(M.getD x default).getD s default=true →
 (∀ a,a<c.AH.length→v8 c L M x s a)∧∀ k,k<(M.getD x default).length→KOk c L M x s k
def XOk (c : B0) (L : List (List (List Int))) (M : List (List Bool)) (x : Nat) : Prop:=mg M x ((C9 c L).getD x default)=true∧∀ s,s<(M.getD x default).length→vh c L M x s
def ZL (c : B0) (L : List (List (List Int))) (M : List (List Bool)) : Prop:=∀ x,x<M.length→XOk c L M x
end Go.Shf
namespace Go.Shf
open Go.AW
theorem B8 {α β : Type} [Inhabited α] (f : α→β) {l : List α} {k : Nat} {d : β} (h : k<l.length) : (l.map f).getD k d=f (l.getD k default):=by simp [gE,h]
def LY (S C : List (List Int)) : List Bool:=S.map fun s=>decide (s∈C)
def Ka (L C : List (List (List Int))) (x : Nat) : List Bool:=LY (L.getD x default) (C.getD x default)
def marksOf (L C : List (List (List Int))) : List (List Bool):=(List.range L.length).map (Ka L C)
structure Fl (c : B0) (C : List (List (List Int))) : Prop where
 top : ∀ x : Nat,x<c.AR.toNat→outs c x∈C.getD x default
 pull : ∀ a : Nat,a<c.AH.length→∀ s,s∈C.getD (c.AH.getD a default).toNat default→DR c a s∈C.getD (c.to.getD a default).toNat default
 loc : ∀ x : Nat,x<c.AR.toNat→∀ s,s∈C.getD x default→∀ t,c.Ax x t→(∀ a,a∈s→DR c a t∈C.getD (ix c.to a).toNat default)→t∈C.getD x default
section
variable {c : B0} {L C : List (List (List Int))}
theorem E2 : (marksOf L C).length=L.length:=by simp [marksOf]
theorem Lz {x : Nat} (hx : x<L.length) : (marksOf L C).getD x default=(L.getD x default).map fun s=>decide (s∈C.getD x default):=by
 rw [marksOf,AS _ _ hx]; rfl
theorem Et {x k : Nat} (hx : x<L.length) (hk : k<(L.getD x default).length) : ((marksOf L C).getD x default).getD k default=decide ((L.getD x default).getD k default∈C.getD x default):=by
 rw [Lz hx,B8 _ hk]
theorem GW : DV L (marksOf L C):=⟨E2,fun x hx=>by rw [Lz hx]; simp⟩
theorem Nu {x : Nat} {k : Int} (hx : x<L.length) (hk : k.toNat<(L.getD x default).length) : mg (marksOf L C) x k=decide (ix (L.getD x default) k∈C.getD x default):=by
 rw [mg,AJ,ix,Et hx hk]; rfl
theorem MW {x k : Int} (h0 : 0≤x) (hx : x.toNat<L.length) (hk : k.toNat<(ix L x).length) : mg (marksOf L C) x k=decide (ix (ix L x) k∈C.getD x.toNat default):=by
 have:=Nu (C:=C) (x:=x.toNat) (k:=k) hx hk;rw [Int.toNat_of_nonneg h0] at this; rw [this]; rfl
theorem Un (t : Dt c L) (hC : ∀ x : Nat,x<L.length→∀ s,s∈C.getD x default→c.Ax x s) : ZL c L (marksOf L C)↔Fl c C:=by
 have hLo:=t.len
 have ho:=t.is.1.o
 have loc : ∀ {x s k : Nat},x<L.length→s<(L.getD x default).length→k<(L.getD x default).length →
   (QF c L (marksOf L C) x s k↔∀ a,a∈(L.getD x default).getD s default→DR c a ((L.getD x default).getD k default)∈C.getD (ix c.to a).toNat default):=by
  intro x s k hx hs hk
  have EZ:=t.sv hx hs;rw [QF,Db];refine forall_congr' fun i=>imp_congr_right fun hi=>?_
  have ha:=EZ.arr (AE.mpr ⟨i,hi,rfl⟩)
  have ik : k<(ix L (ix c.AH (((L.getD x default).getD s default).getD i default))).length:=by rw [ha.2,AJ]; exact hk
  have hp:=t.pull ha.1 ik
  have ht:=t.to ha.1;rw [MW ht.1 ht.2 hp.1.2,hp.2,decide_eq_true_eq,ha.2,AJ]
 constructor
 ·intro h;refine ⟨fun x hx=>?_,fun a ha s hs=>?_,fun x hx s hs u hu mA=>?_⟩
  ·have hx : x<L.length:=by omega
   have:=(h x (by rw [E2]; exact hx)).1
   have Gl:=t.top hx;rw [Nu hx Gl.1.2,Gl.2,decide_eq_true_eq] at this;exact this
  ·have GZ : 0≤(a : Int)∧(a : Int).toNat<c.AH.length:=⟨by omega,by simpa using ha⟩
   have hf:=t.AH GZ
   have ht:=t.to GZ;simp only [AJ] at hf ht
   have hm:=((t.all _ hf.2).mem s).mpr (hC _ hf.2 s hs)
   obtain ⟨k,hk,rfl⟩:=AE.mp hm
   have ik : k<(ix L (ix c.AH a)).length:=by rw [AJ]; exact hk
   have hp:=t.pull GZ ik
   have:=((h _ (by rw [E2]; exact hf.2)).2 k (by rw [GW.row _ hf.2]; exact hk) (by rw [Et hf.2 hk,decide_eq_true_eq]; exact hs)).1 a ha (by rw [Int.toNat_of_nonneg hf.1]);simp only [AJ] at hp;rw [MW ht.1 ht.2 hp.1.2,hp.2,decide_eq_true_eq] at this;exact this
  ·have hx : x<L.length:=by omega
   have hm:=((t.all _ hx).mem s).mpr (hC _ hx s hs)
   obtain ⟨k,hk,rfl⟩:=AE.mp hm
   obtain ⟨k',JP,rfl⟩:=AE.mp (((t.all _ hx).mem u).mpr hu)
   have:=((h _ (by rw [E2]; exact hx)).2 k (by rw [GW.row _ hx]; exact hk) (by rw [Et hx hk,decide_eq_true_eq]; exact hs)).2 k' (by rw [GW.row _ hx]; exact JP)
   rcases this with e | e
   ·rw [Et hx JP,decide_eq_true_eq] at e; exact e
   ·exact absurd ((loc hx hk JP).mpr mA) e
 ·intro h x hx;rw [E2] at hx
  have Gl:=t.top hx;refine ⟨?_,fun s hs Kl=>⟨fun a ha e=>?_,fun k hk=>?_⟩⟩
  ·rw [Nu hx Gl.1.2,Gl.2,decide_eq_true_eq]; exact h.top x (by omega)
  ·rw [GW.row _ hx] at hs;rw [Et hx hs,decide_eq_true_eq] at Kl
   have GZ : 0≤(a : Int)∧(a : Int).toNat<c.AH.length:=⟨by omega,by simpa using ha⟩
   have ht:=t.to GZ;simp only [AJ] at ht
   have iT : s<(ix L (ix c.AH a)).length:=by rw [AJ,e,AJ]; exact hs
   have hp:=t.pull GZ iT;simp only [AJ] at hp;rw [MW ht.1 ht.2 hp.1.2,hp.2,decide_eq_true_eq];rw [e,AJ];refine h.pull a ha _ ?_;rw [e]; exact Kl
  ·rw [GW.row _ hx] at hs hk;rw [Et hx hs,decide_eq_true_eq] at Kl
   by_cases hl : QF c L (marksOf L C) x s k
   ·left
    rw [Et hx hk,decide_eq_true_eq];exact h.loc x (by omega) _ Kl _ (t.sv hx hk) ((loc hx hs hk).mp hl)
   ·exact .inr hl
end
def PA (S C : List (List Int)) (k : Nat) (A : List Bool) : Prop:=A.length=S.length∧∀ i,i<S.length→(A.getD i default=true↔∃ j,j<k∧C.getD j default=S.getD i default)
theorem PA.zero (S C : List (List Int)) : PA S C 0 (List.replicate S.length false):=by
 refine ⟨by simp,fun i hi=>?_⟩;simp only [gE,List.getElem?_replicate,hi,if_true,Option.getD_some];exact ⟨fun e=>(by cases e),fun ⟨j,hj,_⟩=>(by omega)⟩
theorem PA.step {S C : List (List Int)} {k : Nat} {A : List Bool} (h : PA S C k A) (hn : S.Nodup) (hm : C.getD k default∈S) : PA S C (k+1) (A.set (indexOf S (C.getD k default)).toNat true):=by
 have hi:=B3 hm;refine ⟨by rw [List.length_set]; exact h.1,fun i YX=>?_⟩;rw [BL]
 split
 ·rename_i e
  refine ⟨fun _=>⟨k,by omega, ?_⟩,fun _=>rfl⟩;rw [← hi.2.2,ix,e.1]
 ·rename_i e
  rw [h.2 i YX]
  constructor
  ·rintro ⟨j,hj,e2⟩; exact ⟨j,by omega,e2⟩
  ·rintro ⟨j,hj,e2⟩
   by_cases e3 : j=k
   ·subst e3
    exfalso; apply e
    refine ⟨?_,by rw [h.1]; exact YX⟩;rw [e2,Bp hn YX]; simp
   ·exact ⟨j,by omega,e2⟩
theorem PA.done {S C : List (List Int)} {A : List Bool} (h : PA S C C.length A) : A=LY S C:=by
 refine List.ext_getElem (by rw [LY,List.length_map]; exact h.1) fun i h1 h2=>?_
 have hi : i<S.length:=by have:=h.1; omega
 have:=h.2 i hi;rw [Bool.eq_iff_iff]
 have e1 : A.getD i default=A[i]:=by simp [gE,h1]
 rw [e1] at this;rw [this];simp only [LY,List.getElem_map,decide_eq_true_eq]
 have e2 : S.getD i default=S[i]:=by simp [gE,hi]
 rw [e2,AE]
end Go.Shf
namespace Go.Shf
open Go.AW
def E8 (R : List (List Int)) (a : Int) : Bool:=decide (∀ s,s∈R→a∈s)
def E4 (c : B0) (C : List (List (List Int))) (x : Nat) : List Int:=(outs c x).filter (E8 (C.getD x default))
def Ag (c : B0) (C : List (List (List Int))) : List (List Int):=(List.range C.length).map (E4 c C)
theorem c4 {R : List (List Int)} {a : Int} (h : ∀ k,k<R.length→a∈R.getD k default) : E8 R a=true:=by
 rw [E8,decide_eq_true_eq,Db]; exact h
theorem cD {R : List (List Int)} {a : Int} {k : Nat} (hk : k<R.length) (h : a ∉ R.getD k default) : E8 R a=false:=by
 rw [E8,decide_eq_false_iff_not,Db]; exact fun e=>h (e k hk)
end Go.Shf
namespace Go.Shf
open Go.AW
structure Lk where
 i : Int
 j : Int
 left : List Int
 right : List Int
 deriving Inhabited
def Fits (p : List Int) (l : Lk) : Prop:=0≤ix p l.i→0≤ix p l.j→ix l.left (ix p l.i)=ix l.right (ix p l.j)
def Cons (ls : List Lk) (p : List Int) : Prop:=∀ l,l∈ls→Fits p l
structure H8 (A4 : List Int) (ls : List Lk) : Prop where
 i : ∀ l,l∈ls→0≤l.i∧l.i.toNat<A4.length
 j : ∀ l,l∈ls→0≤l.j∧l.j.toNat<A4.length
 left : ∀ l,l∈ls→(l.left.length : Int)=ix A4 l.i
 right : ∀ l,l∈ls→(l.right.length : Int)=ix A4 l.j
 sz : ∀ y,y∈A4→0≤y∧y≤17
structure Ext (A4 : List Int) (ls : List Lk) (p t : List Int) : Prop where
 len : t.length=p.length
 new : ∀ n,n<p.length→p.getD n default=-1→0≤t.getD n default∧t.getD n default<A4.getD n default
 Kn : ∀ n,n<p.length→p.getD n default≠-1→t.getD n default=p.getD n default
 cons : Cons ls t
def tO (ls : List Lk) (p : List Int) (n : Nat) (e : Int) : Prop:=∀ l,l∈ls→l.i=n∨l.j=n→Fits (p.set n e) l
noncomputable def cS (ls : List Lk) (p : List Int) (n e : Nat) : Bool:=dec (tO ls p n e)
noncomputable def Bt (A4 : List Int) (ls : List Lk) (p : List Int) (n : Nat) : List Int:=Ea (cS ls p n) (A4.getD n default).toNat
def JM (A4 : List Int) (p : List Int) : Prop:=p.length=A4.length∧∀ n,n<p.length→p.getD n default<0∨(0≤p.getD n default∧p.getD n default<A4.getD n default)
structure Dy (S : List Int→Prop) (L : List (List Int)) : Prop where
 N7 : L.Pairwise fun s t=>cmp s t<0
 mem : ∀ t,t∈L↔S t
theorem Dy.uniq {S : List Int→Prop} {L M : List (List Int)} (h : Dy S L) (k : Dy S M) : L=M:=by
 refine List.Perm.eq_of_pairwise (le:=fun s t=>cmp s t<0) (fun a b _ _ h1 h2=>?_) h.N7 k.N7 ?_
 ·have:=Gp a b; omega
 ·refine (List.perm_ext_iff_of_nodup ?_ ?_).mpr fun s=>(h.mem s).trans (k.mem s).symm
  ·exact h.N7.imp fun {a b} h e=>by rw [Cf.mpr e] at h; omega
  ·exact k.N7.imp fun {a b} h e=>by rw [Cf.mpr e] at h; omega
theorem Qr : ∀ {s t : List Int} {n : Nat},n<s.length→n<t.length→(∀ i,i<n→s.getD i default=t.getD i default)→s.getD n default<t.getD n default→cmp s t<0
 | [],_,n,h,_,_,_=>by simp at h
 | _::_,[],n,_,h,_,_=>by simp at h
 | a::s,b::t,0,_,_,_,h=>by
  simp only [List.getD_cons_zero] at h;unfold cmp;rw [if_neg (by omega),if_pos h]; decide
 | a::s,b::t,n+1,h1,h2,h3,h4=>by
  have h0:=h3 0 (by omega);simp only [List.getD_cons_zero] at h0;simp only [List.getD_cons_succ] at h4;unfold cmp;rw [if_pos h0];exact Qr (by simpa using h1) (by simpa using h2) (fun i hi=>by have:=h3 (i+1) (by omega); simpa using this) h4
section
variable {A4 : List Int} {ls : List Lk} {p t : List Int}
theorem GV (p : List Int) (n : Nat) (e i : Int) (h0 : 0≤i) : ix (p.set n e) i=if i=n∧n<p.length then e else ix p i:=by
 simp only [ix,BL]
 by_cases h : n=i.toNat∧i.toNat<p.length
 ·rw [if_pos h,if_pos ⟨by omega,by omega⟩]
 ·rw [if_neg h,if_neg fun h2=>h ⟨by omega,by omega⟩]
theorem Ext.choice (ok : H8 A4 ls) (hp : p.length=A4.length) (h : Ext A4 ls p t) {n : Nat} (hn : n<p.length) (h1 : p.getD n default=-1) :
  (0≤t.getD n default∧t.getD n default<A4.getD n default)∧tO ls p n (t.getD n default)∧Ext A4 ls (p.set n (t.getD n default)) t:=by
 have hr:=h.new n hn h1
 have key : ∀ i : Int,0≤i→i.toNat<p.length→0≤ix (p.set n (t.getD n default)) i→ix (p.set n (t.getD n default)) i=ix t i:=by
  intro i h0 hi h2;rw [GV _ _ _ _ h0] at h2 ⊢
  split
  ·rename_i e; simp only [ix]; rw [e.1,Int.toNat_natCast]
  ·rename_i e
   rw [if_neg e] at h2;simp only [ix] at h2 ⊢;exact (h.Kn _ hi (by omega)).symm
 refine ⟨hr,fun l hl _ h2 h3=>?_, ?_⟩
 ·have a:=ok.i l hl
  have b:=ok.j l hl;rw [key _ a.1 (by omega) h2] at *;rw [key _ b.1 (by omega) h3] at *;exact h.cons l hl h2 h3
 ·refine ⟨by rw [List.length_set]; exact h.len,fun m hm e=>?_,fun m hm e=>?_,h.cons⟩
  ·rw [List.length_set] at hm;rw [BL] at e
   split at e
   ·omega
   ·exact h.new m hm e
  ·rw [List.length_set] at hm;rw [BL] at e ⊢
   split
   ·rename_i e2; rw [e2.1]
   ·rename_i e2; rw [if_neg e2] at e; exact h.Kn m hm e
theorem Ext.OO {n : Nat} (h1 : p.getD n default=-1) {e : Int} (he : 0≤e∧e<A4.getD n default) (hn : n<p.length) (h : Ext A4 ls (p.set n e) t) : Ext A4 ls p t∧t.getD n default=e:=by
 have aG : t.getD n default=e:=by
  have:=h.Kn n (by rw [List.length_set]; exact hn);rw [BL,if_pos ⟨rfl,hn⟩] at this;exact this (by omega)
 refine ⟨⟨by rw [h.len,List.length_set],fun m hm e2=>?_,fun m hm e2=>?_,h.cons⟩,aG⟩
 ·by_cases e3 : n=m
  ·subst e3; rw [aG]; exact he
  ·have:=h.new m (by rw [List.length_set]; exact hm);rw [BL,if_neg fun h=>e3 h.1] at this;exact this e2
 ·have e3 : n≠m:=by rintro rfl; exact e2 h1
  have:=h.Kn m (by rw [List.length_set]; exact hm);rw [BL,if_neg fun h=>e3 h.1] at this;exact this e2
theorem Nl (ok : H8 A4 ls) {n : Nat} {e : Int} (hc : Cons ls p) (h : tO ls p n e) : Cons ls (p.set n e):=by
 intro l hl
 by_cases ht : l.i=n∨l.j=n
 ·exact h l hl ht
 ·have a:=ok.i l hl
  have b:=ok.j l hl
  have:=hc l hl;simp only [Fits] at this ⊢;rw [GV _ _ _ _ a.1,GV _ _ _ _ b.1,if_neg fun h=>ht (.inl h.1),if_neg fun h=>ht (.inr h.1)];exact this
theorem Kw (h : ∀ t,¬ Ext A4 ls p t) : Dy (Ext A4 ls p) []:=⟨.nil,fun t=>by simp [h t]⟩
theorem Z9 (ok : H8 A4 ls) (hp : p.length=A4.length) {n : Nat} (hn : n<p.length) (h1 : p.getD n default=-1) (h : Bt A4 ls p n=[]) : Dy (Ext A4 ls p) []:=by
 refine Kw fun t ht=>?_
 have:=ht.choice ok hp hn h1
 have hm : t.getD n default∈Bt A4 ls p n:=by
  rw [Bt,HS];refine ⟨this.1.1,by omega, ?_⟩;rw [cS,FK,Int.toNat_of_nonneg this.1.1]; exact this.2.1
 rw [h] at hm; simp at hm
theorem Od (hc : Cons ls p) (h : ∀ n,n<p.length→p.getD n default≠-1) : Dy (Ext A4 ls p) [p]:=by
 refine ⟨by simp,fun t=>?_⟩;rw [List.mem_singleton]
 constructor
 ·rintro rfl; exact ⟨rfl,fun n hn e=>absurd e (h n hn),fun n hn e=>rfl,hc⟩
 ·intro ht;refine List.ext_getElem ht.len fun i h1 h2=>?_
  have:=ht.Kn i h2 (h i h2)
  simpa [gE,h1,h2] using this
theorem FP {n : Nat} {e : Int} : e∈Bt A4 ls p n↔(0≤e∧e<A4.getD n default)∧tO ls p n e:=by
 rw [Bt,HS,cS,FK]
 constructor
 ·rintro ⟨h1,h2,h3⟩; rw [Int.toNat_of_nonneg h1] at h3; exact ⟨⟨h1,by omega⟩,h3⟩
 ·rintro ⟨⟨h1,h2⟩,h3⟩; exact ⟨h1,by omega,by rw [Int.toNat_of_nonneg h1]; exact h3⟩
theorem Tf (ok : H8 A4 ls) (hp : p.length=A4.length) {n : Nat} (hn : n<p.length) (h1 : p.getD n default=-1) (hf : ∀ m,m<n→p.getD m default≠-1)
  (LL : Int→List (List Int)) (hL : ∀ e,e∈Bt A4 ls p n→Dy (Ext A4 ls (p.set n e)) (LL e)) : Dy (Ext A4 ls p) ((Bt A4 ls p n).flatMap LL):=by
 have Cq : ∀ e,e∈Bt A4 ls p n→∀ t,t∈LL e→Ext A4 ls p t∧t.getD n default=e:=by
  intro e he t ht
  have h:=((hL e he).mem t).mp ht;exact h.OO h1 (FP.mp he).1 hn
 refine ⟨?_,fun t=>?_⟩
 ·have hr : (Bt A4 ls p n).Pairwise (·<·):=DI.mp (DS _ _);rw [List.pairwise_flatMap];refine ⟨fun e he=>(hL e he).N7, ?_⟩
  have CH : ∀ (l : List Int),l.Pairwise (·<·)→(∀ e,e∈l→e∈Bt A4 ls p n)→l.Pairwise fun a b=>∀ x,x∈LL a→∀ y,y∈LL b→cmp x y<0:=by
   intro l hl
   induction hl with
   | nil=>intro _; exact .nil
   | cons h _ ih =>
    intro hs;refine .cons (fun b hb x hx y hy=>?_) (ih fun e he=>hs e (by simp [he]))
    have a1:=Cq _ (hs _ (by simp)) x hx
    have a2:=Cq _ (hs b (by simp [hb])) y hy;refine Qr (n:=n) (by rw [a1.1.len]; exact hn) (by rw [a2.1.len]; exact hn) (fun i hi=>?_) (by rw [a1.2,a2.2]; exact h b hb);rw [a1.1.Kn i (by omega) (hf i hi),a2.1.Kn i (by omega) (hf i hi)]
  exact CH _ hr fun _ h=>h
 ·rw [List.mem_flatMap]
  constructor
  ·rintro ⟨e,he,ht⟩; exact (Cq e he t ht).1
  ·intro ht
   have:=ht.choice ok hp hn h1
   have hm:=FP.mpr ⟨this.1,this.2.1⟩;exact ⟨_,hm,((hL _ hm).mem t).mpr this.2.2⟩
theorem Ext.part {q : List Int} (hq : q.length=A4.length) (h : Ext A4 ls (List.replicate A4.length (-1)) t) (hv : ∀ n,n<q.length→q.getD n default=-1∨q.getD n default=-2) (ok : H8 A4 ls) :
  ∃ u,Ext A4 ls q u:=by
 have Hg : t.length=A4.length:=by rw [h.len]; simp
 refine ⟨(List.range q.length).map fun n=>if q.getD n default=-1 then t.getD n default else -2,by simp,fun n hn e=>?_,fun n hn e=>?_,fun l hl=>?_⟩
 ·rw [AS _ _ hn,if_pos e];exact h.new n (by simp; omega) (by simp [gE,show n<A4.length by omega])
 ·rw [AS _ _ hn,if_neg e];exact ((hv n hn).resolve_left e).symm
 ·have a:=ok.i l hl
  have b:=ok.j l hl
  have key : ∀ i : Int,0≤i→i.toNat<A4.length→0≤ix ((List.range q.length).map fun n=>if q.getD n default=-1 then t.getD n default else -2) i →
    ix ((List.range q.length).map fun n=>if q.getD n default=-1 then t.getD n default else -2) i=ix t i:=by
   intro i h0 hi h2;simp only [ix] at h2 ⊢;rw [AS _ _ (by omega)] at h2 ⊢
   split
   ·rfl
   ·rename_i e; rw [if_neg e] at h2; omega
  intro h2 h3;rw [key _ a.1 a.2 h2] at *;rw [key _ b.1 b.2 h3] at *;exact h.cons l hl h2 h3
end
end Go.Shf
namespace Go.Shf
open Go.AW
section
variable {l : Lk} {p : List Int} {n : Nat} {e : Int}
theorem qH (hi : l.i=n) (hj : l.j=n) (hn : n<p.length) (he : 0≤e) : Fits (p.set n e) l↔ix l.left e=ix l.right e:=by
 have h1 : ix (p.set n e) l.i=e:=by rw [GV _ _ _ _ (by omega),if_pos ⟨hi,hn⟩]
 have h2 : ix (p.set n e) l.j=e:=by rw [GV _ _ _ _ (by omega),if_pos ⟨hj,hn⟩]
 rw [Fits,h1,h2]; exact ⟨fun h=>h he he,fun h _ _=>h⟩
theorem pF (hi : l.i=n) (hj : l.j≠n) (ie : 0≤l.j) (hn : n<p.length) (he : 0≤e) (hp : 0≤ix p l.j) : Fits (p.set n e) l↔ix l.left e=ix l.right (ix p l.j):=by
 have h1 : ix (p.set n e) l.i=e:=by rw [GV _ _ _ _ (by omega),if_pos ⟨hi,hn⟩]
 have h2 : ix (p.set n e) l.j=ix p l.j:=by rw [GV _ _ _ _ ie,if_neg fun h=>hj h.1]
 rw [Fits,h1,h2]; exact ⟨fun h=>h he hp,fun h _ _=>h⟩
theorem jZ (hj : l.j≠n) (ie : 0≤l.j) (hp : ¬ 0≤ix p l.j) : Fits (p.set n e) l:=by
 have h2 : ix (p.set n e) l.j=ix p l.j:=by rw [GV _ _ _ _ ie,if_neg fun h=>hj h.1]
 intro _ h; rw [h2] at h; exact absurd h hp
theorem pN (hj : l.j=n) (hi : l.i≠n) (kh : 0≤l.i) (hn : n<p.length) (he : 0≤e) (hp : 0≤ix p l.i) : Fits (p.set n e) l↔ix l.left (ix p l.i)=ix l.right e:=by
 have h1 : ix (p.set n e) l.j=e:=by rw [GV _ _ _ _ (by omega),if_pos ⟨hj,hn⟩]
 have h2 : ix (p.set n e) l.i=ix p l.i:=by rw [GV _ _ _ _ kh,if_neg fun h=>hi h.1]
 rw [Fits,h1,h2]; exact ⟨fun h=>h hp he,fun h _ _=>h⟩
theorem kH (hi : l.i≠n) (kh : 0≤l.i) (hp : ¬ 0≤ix p l.i) : Fits (p.set n e) l:=by
 have h2 : ix (p.set n e) l.i=ix p l.i:=by rw [GV _ _ _ _ kh,if_neg fun h=>hi h.1]
 intro h; rw [h2] at h; exact absurd h hp
end
structure k0 (A4 : List Int) (ls : List Lk) (at' : List (List Int)) : Prop where
 len : at'.length=A4.length
 mem : ∀ n : Nat,n<A4.length→∀ y,y∈at'.getD n default↔0≤y∧y.toNat<ls.length∧((ls.getD y.toNat default).i=n∨(ls.getD y.toNat default).j=n)
theorem oK {A4 : List Int} {ls : List Lk} {at' : List (List Int)} (h : k0 A4 ls at') {p : List Int} {n : Nat} {e : Int} (hn : n<A4.length) :
  tO ls p n e↔∀ k,k<(at'.getD n default).length→Fits (p.set n e) (ix ls ((at'.getD n default).getD k default)):=by
 constructor
 ·intro hc k hk
  have:=(h.mem n hn _).mp (AE.mpr ⟨k,hk,rfl⟩);exact hc _ (Bi this.2.1) this.2.2
 ·intro hc l hl ht
  obtain ⟨i,hi,rfl⟩:=AE.mp hl
  have:=(h.mem n hn i).mpr ⟨by omega,by simpa using hi,by simpa using ht⟩
  obtain ⟨k,hk,e⟩:=AE.mp this
  have:=hc k hk;rw [e,AJ] at this; exact this
end Go.Shf
namespace Go.Shf
open Go.AW
def DY (p : List Int) : Nat:=p.countP fun y=>decide (y=-1)
section
variable {A4 : List Int} {ls : List Lk} {p : List Int}
theorem MY {n : Nat} {e : Int} (hn : n<p.length) (h1 : p.getD n default=-1) (he : 0≤e) : DY (p.set n e)<DY p:=by
 have hg : p[n]=-1:=by simpa [gE,hn] using h1
 have sA : 0<DY p:=by
  rw [DY,List.countP_pos_iff]; exact ⟨p[n],List.getElem_mem hn,by simp [hg]⟩
 rw [DY,List.countP_set hn]
 have h2 : ¬ e=-1:=by omega
 simp only [hg,decide_true,if_true,h2,decide_false,Bool.false_eq_true,if_false];unfold DY at sA ⊢; omega
theorem JM.set {n : Nat} {e : Int} (h : JM A4 p) (he : 0≤e∧e<A4.getD n default) : JM A4 (p.set n e):=by
 refine ⟨by rw [List.length_set]; exact h.1,fun m hm=>?_⟩;rw [List.length_set] at hm;rw [BL]
 split
 ·rename_i e2; rw [← e2.1]; exact .inr he
 ·exact h.2 m hm
theorem qA (ok : H8 A4 ls) : ∀ (n : Nat) (p : List Int),DY p=n→JM A4 p→Cons ls p→∃ L,Dy (Ext A4 ls p) L:=by
 intro n
 induction n using Nat.strongRecOn with
 | _ n ih =>
  intro p hn hp hc
  by_cases hf : ∃ m,m<p.length∧p.getD m default=-1
  ·have : ∃ f,(f<p.length∧p.getD f default=-1)∧∀ m,m<f→¬ (m<p.length∧p.getD m default=-1):=by
    have key : ∀ k,(∃ m,m≤k∧m<p.length∧p.getD m default=-1)→∃ f,(f<p.length∧p.getD f default=-1)∧∀ m,m<f→¬ (m<p.length∧p.getD m default=-1):=by
     intro k
     induction k with
     | zero=>rintro ⟨m,h0,h⟩; exact ⟨m,h,fun i hi=>by omega⟩
     | succ k ihk =>
      rintro ⟨m,h0,h⟩
      by_cases h2 : ∃ m,m≤k∧m<p.length∧p.getD m default=-1
      ·exact ihk h2
      ·exact ⟨m,h,fun i hi hh=>h2 ⟨i,by omega,hh⟩⟩
    obtain ⟨m,hm⟩:=hf;exact key m ⟨m,Nat.le_refl _,hm⟩
   obtain ⟨f,⟨G7,h1⟩,rR⟩:=this
   have hL : ∀ e,e∈Bt A4 ls p f→∃ L,Dy (Ext A4 ls (p.set f e)) L:=by
    intro e he
    have hm:=FP.mp he;exact ih _ (hn ▸ MY G7 h1 hm.1.1) _ rfl (hp.set hm.1) (Nl ok hc hm.2)
   have : ∃ LL : Int→List (List Int),∀ e,e∈Bt A4 ls p f→Dy (Ext A4 ls (p.set f e)) (LL e):=by
    refine ⟨fun e=>@dite _ (e∈Bt A4 ls p f) (Classical.propDecidable _) (fun h=>Classical.choose (hL e h)) fun _=>[],fun e he=>?_⟩
    show Dy _ (@dite _ (e∈Bt A4 ls p f) (Classical.propDecidable _) (fun h=>Classical.choose (hL e h)) fun _=>[])
    rw [dif_pos he]; exact Classical.choose_spec (hL e he)
   obtain ⟨LL,hLL⟩:=this;exact ⟨_,Tf ok hp.1 G7 h1 (fun m hm e=>rR m hm ⟨by omega,e⟩) LL hLL⟩
  ·exact ⟨[p],Od hc fun m hm e=>hf ⟨m,hm,e⟩⟩
open Classical in
noncomputable def H6 (A4 : List Int) (ls : List Lk) (p : List Int) : List (List Int):=if h : ∃ L,Dy (Ext A4 ls p) L then Classical.choose h else []
theorem GH {L : List (List Int)} (h : Dy (Ext A4 ls p) L) : H6 A4 ls p=L:=by
 have he : ∃ L,Dy (Ext A4 ls p) L:=⟨L,h⟩;rw [H6,dif_pos he];exact (Classical.choose_spec he).uniq h
theorem SD (ok : H8 A4 ls) (hp : JM A4 p) (hc : Cons ls p) : Dy (Ext A4 ls p) (H6 A4 ls p):=by
 have he:=qA ok _ p rfl hp hc;rw [H6,dif_pos he]; exact Classical.choose_spec he
theorem TE (ok : H8 A4 ls) (hp : JM A4 p) (hc : Cons ls p) {n : Nat} (hn : n<p.length) (h1 : p.getD n default=-1) (hf : ∀ m,m<n→p.getD m default≠-1) :
  H6 A4 ls p=(Bt A4 ls p n).flatMap fun e=>H6 A4 ls (p.set n e) :=
 GH (Tf ok hp.1 hn h1 hf _ fun e he=>by
  have hm:=FP.mp he;exact SD ok (hp.set hm.1) (Nl ok hc hm.2))
end
def qC (A4 : List Int) (ls : List Lk) (p : List Int) (k : Nat) (first : Int) (ch : List Int) : Prop :=
 (first=-1∧ch=[]∧∀ m,k≤m→m<p.length→p.getD m default≠-1) ∨
 ∃ f : Nat,first=f∧k≤f∧f<p.length∧p.getD f default=-1∧(∀ m,k≤m→m<f→p.getD m default≠-1)∧ch=Bt A4 ls p f∧ch≠[]
theorem qC.skip {A4 : List Int} {ls : List Lk} {p : List Int} {k : Nat} {first : Int} {ch : List Int} (h : qC A4 ls p (k+1) first ch) (hk : p.getD k default≠-1) : qC A4 ls p k first ch:=by
 rcases h with ⟨h1,h2,h3⟩ | ⟨f,h1,h2,h3,h4,h5,h6⟩
 ·exact .inl ⟨h1,h2,fun m hm hl=>by
   by_cases e : m=k
   ·subst e; exact hk
   ·exact h3 m (by omega) hl⟩
 ·exact .inr ⟨f,h1,by omega,h3,h4,fun m hm hl=>by
   by_cases e : m=k
   ·subst e; exact hk
   ·exact h5 m (by omega) hl,h6⟩
theorem qC.WV {A4 : List Int} {ls : List Lk} {p : List Int} {k : Nat} (hl : k<p.length) (hk : p.getD k default=-1) (hc : Bt A4 ls p k≠[]) : qC A4 ls p k k (Bt A4 ls p k) :=
 .inr ⟨k,rfl,Nat.le_refl _,hl,hk,fun m h1 h2=>by omega,rfl,hc⟩
end Go.Shf
namespace Go.Shf
open Go.AW
structure jT (n : Nat) (ls : List Lk) (k : Nat) (As : List (List Int)) : Prop where
 len : As.length=n
 mem : ∀ m : Nat,m<n→∀ y,y∈As.getD m []↔0≤y∧y.toNat<k∧((ls.getD y.toNat default).i=m∨(ls.getD y.toNat default).j=m)
 lens : ∀ m : Nat,m<n→(As.getD m []).length≤k
theorem jT.zero (n : Nat) (ls : List Lk) : jT n ls 0 (List.replicate n []):=by
 refine ⟨by simp,fun m hm y=>?_,fun m hm=>?_⟩
 ·simp [gE,hm]
 ·simp [gE,hm]
theorem jT.step {n : Nat} {ls : List Lk} {k : Nat} {As : List (List Int)} (h : jT n ls k As) {i j : Nat} (hi : i<n) (hj : j<n) (ei : (ls.getD k default).i=i) (ej : (ls.getD k default).j=j) :
  jT n ls (k+1) (if i=j then As.set i (As.getD i []++[(k : Int)]) else (As.set i (As.getD i []++[(k : Int)])).set j ((As.set i (As.getD i []++[(k : Int)])).getD j []++[(k : Int)])):=by
 have hl:=h.len
 have gm : ∀ m : Nat,m<n→(if i=j then As.set i (As.getD i []++[(k : Int)]) else (As.set i (As.getD i []++[(k : Int)])).set j ((As.set i (As.getD i []++[(k : Int)])).getD j []++[(k : Int)])).getD m [] =
   if m=i∨m=j then As.getD m []++[(k : Int)] else As.getD m []:=by
  intro m hm
  by_cases e : i=j
  ·subst e;rw [if_pos rfl,BL]
   by_cases e2 : i=m
   ·subst e2; rw [if_pos ⟨rfl,by omega⟩,if_pos (.inl rfl)]
   ·rw [if_neg fun h=>e2 h.1,if_neg]; rintro (h | h) <;> exact e2 h.symm
  ·rw [if_neg e,BL,List.length_set]
   by_cases e2 : j=m
   ·subst e2;rw [if_pos ⟨rfl,by omega⟩,if_pos (.inr rfl),BL,if_neg fun h=>e h.1]
   ·rw [if_neg fun h=>e2 h.1,BL]
    by_cases e3 : i=m
    ·subst e3; rw [if_pos ⟨rfl,by omega⟩,if_pos (.inl rfl)]
    ·rw [if_neg fun h=>e3 h.1,if_neg]; rintro (h | h)
     ·exact e3 h.symm
     ·exact e2 h.symm
 refine ⟨?_,fun m hm y=>?_,fun m hm=>?_⟩
 ·split <;> simp [hl]
 ·rw [gm m hm]
  have:=h.mem m hm y
  split
  ·rename_i e
   rw [List.mem_append,List.mem_singleton,this]
   constructor
   ·rintro (⟨h1,h2,h3⟩ | rfl)
    ·exact ⟨h1,by omega,h3⟩
    ·refine ⟨by omega,by simp, ?_⟩;rw [Int.toNat_natCast,ei,ej]
     rcases e with e | e
     ·exact .inl (by rw [e])
     ·exact .inr (by rw [e])
   ·rintro ⟨h1,h2,h3⟩
    by_cases e2 : y.toNat=k
    ·exact .inr (by omega)
    ·exact .inl ⟨h1,by omega,h3⟩
  ·rename_i e
   rw [this]
   constructor
   ·rintro ⟨h1,h2,h3⟩; exact ⟨h1,by omega,h3⟩
   ·rintro ⟨h1,h2,h3⟩;refine ⟨h1, ?_,h3⟩
    by_cases e2 : y.toNat=k
    ·exfalso; apply e
     rw [e2,ei,ej] at h3
     rcases h3 with h3 | h3
     ·exact .inl (by omega)
     ·exact .inr (by omega)
    ·omega
 ·rw [gm m hm]
  have:=h.lens m hm
  split
  ·rw [List.length_append,List.length_singleton]; omega
  ·omega
theorem jT.ok {A4 : List Int} {ls : List Lk} {As : List (List Int)} (h : jT A4.length ls ls.length As) : k0 A4 ls As:=⟨h.len,fun n hn y=>by
 have:=h.mem n hn y;exact this⟩
theorem O4 {ls : List Lk} {A4 p : List Int} (ok : H8 A4 ls) (hl : p.length=A4.length) (h : ∀ n,n<p.length→p.getD n default<0) : Cons ls p:=by
 intro l hm h1 _
 have:=ok.i l hm
 have:=h l.i.toNat (by omega);simp only [ix] at h1; omega
end Go.Shf
namespace Go.Shf
open Go.AW
def Gt (c : B0) (s : List Int) (i b : Nat) : List Int:=[(i : Int),(b : Int),indexOf s (ix (ix c.comp (s.getD i default)) b)]
def ZZ (c : B0) (s : List Int) (i b : Nat) : Bool:=decide (c.AH.getD b default=ix c.to (s.getD i default))
def EA (c : B0) (s : List Int) (i n : Nat) : List (List Int):=((List.range n).filter (ZZ c s i)).map (Gt c s i)
def EL (c : B0) (s : List Int) (k : Nat) : List (List Int):=(List.range k).flatMap fun i=>EA c s i c.AH.length
theorem fL {c : B0} {s : List Int} {i n : Nat} (h : ZZ c s i n=true) : EA c s i (n+1)=EA c s i n++[Gt c s i n]:=by
 rw [EA,BF,if_pos h,List.map_append]; rfl
theorem fA {c : B0} {s : List Int} {i n : Nat} (h : ZZ c s i n=false) : EA c s i (n+1)=EA c s i n:=by
 rw [EA,BF,if_neg (by simp [h]),List.map_append]; simp [EA]
theorem Iv (c : B0) (s : List Int) (k : Nat) : EL c s (k+1)=EL c s k++EA c s k c.AH.length:=by
 rw [EL,List.range_succ,List.flatMap_append]; simp [EL]
theorem PO (c : B0) (s : List Int) (i n : Nat) : (EA c s i n).length≤n:=by
 rw [EA,List.length_map]; exact Nat.le_trans (List.length_filter_le _ _) (by simp)
theorem G9 (c : B0) (s : List Int) : ∀ k,(EL c s k).length≤k*c.AH.length
 | 0=>by simp [EL]
 | k+1=>by
  rw [Iv,List.length_append,Nat.add_mul]
  have:=G9 c s k
  have:=PO c s k c.AH.length;omega
def rowsOf (c : B0) (s : List Int) : List (List Int):=EL c s s.length
def B2 (f : SF) (s : List Int) : List Int:=s.map fun a=>ix f.A4 (ix f.shape.to a)
def N3 (n : Int) : List Int:=(List.range n.toNat).map Int.ofNat
theorem LW {n y : Int} (h : 0≤y∧y<n) : ix (N3 n) y=y:=by
 rw [ix,N3,AS _ _ (by omega)]; exact Int.toNat_of_nonneg h.1
def Jp (f : SF) (s r : List Int) : Lk:=⟨r.getD 0 default,r.getD 2 default,ix f.Aa (r.getD 1 default),N3 (ix (B2 f s) (r.getD 2 default))⟩
def EE (f : SF) (s : List Int) : List Lk:=(rowsOf f.shape s).map (Jp f s)
noncomputable def Vk (A4 : List Int) (ls : List Lk) : List (List Int):=H6 A4 ls (List.replicate A4.length (-1))
noncomputable def BQ (f : SF) (s : List Int) : List (List Int):=Vk (B2 f s) (EE f s)
structure NQ (f : SF) (s t : List Int) : Prop where
 len : t.length=s.length
 Nb : ∀ i,i<s.length→0≤t.getD i default∧t.getD i default<ix f.A4 (ix f.shape.to (s.getD i default))
 link : ∀ i,i<s.length→∀ b : Nat,b<f.shape.AH.length→f.shape.AH.getD b default=ix f.shape.to (s.getD i default) →
  ix (f.Aa.getD b default) (t.getD i default)=ix t (indexOf s (ix (ix f.shape.comp (s.getD i default)) b))
theorem GB {c : B0} {s r : List Int} : r∈rowsOf c s↔∃ i,i<s.length∧∃ b,b<c.AH.length∧c.AH.getD b default=ix c.to (s.getD i default)∧r=Gt c s i b:=by
 simp only [rowsOf,EL,List.mem_flatMap,List.mem_range,EA,List.mem_map,List.mem_filter,ZZ,decide_eq_true_eq]
 constructor
 ·rintro ⟨i,hi,b,⟨hb,e⟩,rfl⟩; exact ⟨i,hi,b,hb,e,rfl⟩
 ·rintro ⟨i,hi,b,hb,e,rfl⟩; exact ⟨i,hi,b,⟨hb,e⟩,rfl⟩
section
variable {f : SF} {x : Int} {s : List Int}
theorem SF.Shape.Dk (h : f.Shape) {y : Int} (hy : 0≤y∧y<f.shape.AR) : 0≤ix f.A4 y∧ix f.A4 y≤16:=by
 have:=h.sl
 have:=h.sz _ (Bi (l:=f.A4) (i:=y) (by omega)); omega
theorem D0 (h : f.Shape) (hs : f.shape.Ax x s) {i : Nat} (hi : i<s.length) : (B2 f s).getD i default=ix f.A4 (ix f.shape.to (s.getD i default))∧0≤(B2 f s).getD i default∧(B2 f s).getD i default≤16:=by
 have e : (B2 f s).getD i default=ix f.A4 (ix f.shape.to (s.getD i default)):=by rw [B2,B8 _ hi]
 have ha:=hs.arr (AE.mpr ⟨i,hi,rfl⟩)
 have:=h.Dk (h.is.1.C7 ha.1.2);exact ⟨e,by rw [e]; exact this⟩
theorem F9 (h : f.Shape) (hs : f.shape.Ax x s) {i b : Nat} (hi : i<s.length) (hb : b<f.shape.AH.length) (e : f.shape.AH.getD b default=ix f.shape.to (s.getD i default)) :
  (0≤indexOf s (ix (ix f.shape.comp (s.getD i default)) b)∧(indexOf s (ix (ix f.shape.comp (s.getD i default)) b)).toNat<s.length) ∧
   ix s (indexOf s (ix (ix f.shape.comp (s.getD i default)) b))=ix (ix f.shape.comp (s.getD i default)) b∧ix f.shape.to (ix (ix f.shape.comp (s.getD i default)) b)=f.shape.to.getD b default:=by
 have ha:=hs.arr (AE.mpr ⟨i,hi,rfl⟩)
 have aP : 0≤(b : Int)∧(b : Int).toNat<f.shape.AH.length:=⟨by omega,by simpa using hb⟩
 have hm:=hs.Jt (AE.mpr ⟨i,hi,rfl⟩) aP (by rw [AJ]; exact e.symm)
 have:=B3 hm
 have hc:=h.is.1.comp ha.1 aP (by rw [AJ]; exact e.symm);rw [AJ] at hc;exact ⟨⟨this.1,this.2.1⟩,this.2.2,hc.2.2⟩
theorem Xt (h : f.Shape) (hs : f.shape.Ax x s) : H8 (B2 f s) (EE f s):=by
 have hl : (B2 f s).length=s.length:=by simp [B2]
 have key : ∀ l,l∈EE f s→∃ i b : Nat,i<s.length∧b<f.shape.AH.length∧f.shape.AH.getD b default=ix f.shape.to (s.getD i default) ∧
   l=⟨i,indexOf s (ix (ix f.shape.comp (s.getD i default)) b),f.Aa.getD b default,N3 (ix (B2 f s) (indexOf s (ix (ix f.shape.comp (s.getD i default)) b)))⟩:=by
  intro l hl
  obtain ⟨r,hr,rfl⟩:=List.mem_map.mp hl
  obtain ⟨i,hi,b,hb,e,rfl⟩:=GB.mp hr;exact ⟨i,b,hi,hb,e,by simp [Jp,Gt,AJ]⟩
 refine ⟨fun l hm=>?_,fun l hm=>?_,fun l hm=>?_,fun l hm=>?_,fun y hy=>?_⟩
 ·obtain ⟨i,b,hi,hb,e,rfl⟩:=key l hm;exact ⟨by simp,by rw [hl]; simpa using hi⟩
 ·obtain ⟨i,b,hi,hb,e,rfl⟩:=key l hm
  have:=(F9 h hs hi hb e).1;exact ⟨this.1,by rw [hl]; exact this.2⟩
 ·obtain ⟨i,b,hi,hb,e,rfl⟩:=key l hm
  have:=(h.act b (by rw [h.al]; exact hb)).1;simp only [AJ];rw [this,e,(D0 h hs hi).1]
 ·obtain ⟨i,b,hi,hb,e,rfl⟩:=key l hm
  have hx:=(F9 h hs hi hb e).1
  have:=(D0 h hs hx.2).2;simp only [N3,List.length_map,List.length_range,ix] at this ⊢;omega
 ·obtain ⟨i,hi,rfl⟩:=AE.mp hy
  have:=(D0 h hs (i:=i) (by omega)).2;omega
theorem jL (h : f.Shape) (hs : f.shape.Ax x s) {t : List Int} : Ext (B2 f s) (EE f s) (List.replicate (B2 f s).length (-1)) t↔NQ f s t:=by
 have hl : (B2 f s).length=s.length:=by simp [B2]
 have Uz : ∀ n,n<s.length→(List.replicate s.length (-1 : Int)).getD n default=-1:=fun n hn=>by simp [gE,hn]
 rw [hl]
 constructor
 ·intro he
  have hlen : t.length=s.length:=by rw [he.len]; simp
  have gH : ∀ i,i<s.length→0≤t.getD i default∧t.getD i default<ix f.A4 (ix f.shape.to (s.getD i default)):=by
   intro i hi
   have:=he.new i (by simpa using hi) (Uz i hi);rw [(D0 h hs hi).1] at this; exact this
  refine ⟨hlen,gH,fun i hi b hb e=>?_⟩
  have hx:=F9 h hs hi hb e
  have:=he.cons (Jp f s (Gt f.shape s i b)) (List.mem_map.mpr ⟨_,GB.mpr ⟨i,hi,b,hb,e,rfl⟩,rfl⟩);simp only [Fits,Jp,Gt,List.getD_cons_zero,List.getD_cons_succ,AJ] at this
  have h2:=gH _ hx.1.2
  have:=this (gH i hi).1 (by simp only [ix]; exact h2.1);rw [this]
  have h3:=(D0 h hs hx.1.2).1;refine LW ⟨h2.1, ?_⟩
  have h6:=h2.2;rw [← h3] at h6
  simpa only [ix,AJ,Int.toNat_natCast] using h6
 ·intro hf;refine ⟨by simp [hf.len],fun n hn e=>?_,fun n hn e=>?_,fun l hm=>?_⟩
  ·have hn : n<s.length:=by simpa using hn
   rw [(D0 h hs hn).1]; exact hf.Nb n hn
  ·exact absurd (Uz n (by simpa using hn)) e
  ·obtain ⟨r,hr,rfl⟩:=List.mem_map.mp hm
   obtain ⟨i,hi,b,hb,e,rfl⟩:=GB.mp hr
   have hx:=F9 h hs hi hb e
   intro h1 h2;simp only [Jp,Gt,List.getD_cons_zero,List.getD_cons_succ,AJ] at h1 h2 ⊢;rw [hf.link i hi b hb e]
   have h3:=(D0 h hs hx.1.2).1
   have h5:=hf.Nb _ hx.1.2
   symm
   refine LW ⟨h5.1, ?_⟩
   have h6:=h5.2;rw [← h3] at h6
   simpa only [ix,AJ,Int.toNat_natCast] using h6
end
end Go.Shf
namespace Go.Shf
open Go.AW
structure BT (c : B0) (V : List (List Int)) : Prop where
 len : (V.length : Int)=c.AR
 sv : ∀ x : Nat,x<V.length→c.Ax x (V.getD x default)
 st : ∀ a : Int,0≤a∧a.toNat<c.AH.length→∀ b,b∈ix V (ix c.to a)→ix (ix c.comp a) b∈ix V (ix c.AH a)
def Bd (c : B0) (V : List (List Int)) (a : Int) (t : List Int) : List Int:=(ix V (ix c.to a)).map fun b=>ix t (indexOf (ix V (ix c.AH a)) (ix (ix c.comp a) b))
noncomputable def Au (f : SF) (V : List (List Int)) (x : Nat) : List (List Int):=BQ f (V.getD x default)
noncomputable def B9 (f : SF) (V : List (List Int)) : List (List (List Int)):=(List.range V.length).map (Au f V)
noncomputable def Dk (f : SF) (V : List (List Int)) (x : Nat) : Int:=((Au f V x).length : Int)
noncomputable def B5 (f : SF) (V : List (List Int)) : List Int:=(List.range V.length).map (Dk f V)
noncomputable def Gn (f : SF) (V : List (List Int)) (a : Nat) : List Int :=
 (Au f V (f.shape.AH.getD a default).toNat).map fun t=>indexOf (Au f V (f.shape.to.getD a default).toNat) (Bd f.shape V a t)
noncomputable def BK (f : SF) (V : List (List Int)) : List (List Int):=(List.range f.shape.AH.length).map (Gn f V)
noncomputable def AO (f : SF) (V : List (List Int)) : SF:=⟨f.shape,B5 f V,BK f V⟩
def Bh (f : SF) (V : List (List Int)) : Prop:=∀ x,x<V.length→(Au f V x).length≤16
def SF.DE (f : SF) : Prop:=∀ a b : Int,(0≤a∧a.toNat<f.shape.AH.length)→(0≤b∧b.toNat<f.shape.AH.length)→ix f.shape.to a=ix f.shape.AH b→∀ e : Int,0≤e∧e.toNat<(ix f.Aa a).length →
 ix (ix f.Aa (ix (ix f.shape.comp a) b)) e=ix (ix f.Aa b) (ix (ix f.Aa a) e)
theorem SF.Is.FR {f : SF} (h : f.Is) : f.DE:=fun a b ha hb e x hx=>by
 have:=h.2.comp a.toNat b.toNat ha.2 hb.2 e x.toNat hx.2;exact this
section
variable {f : SF} {x : Int} {s t : List Int}
theorem Ba (h : f.Shape) (hs : f.shape.Ax x s) : Dy (NQ f s) (BQ f s):=by
 have hl : (B2 f s).length=s.length:=by simp [B2]
 have hr : ∀ n,n<(List.replicate (B2 f s).length (-1 : Int)).length→(List.replicate (B2 f s).length (-1 : Int)).getD n default<0:=fun n hn=>by
  rw [List.length_replicate] at hn
  simp [gE,hn]
 have:=SD (Xt h hs) (p:=List.replicate (B2 f s).length (-1)) ⟨by simp,fun n hn=>.inl (hr n hn)⟩ (O4 (Xt h hs) (by simp) hr);exact ⟨this.N7,fun t=>(this.mem t).trans (jL h hs)⟩
theorem Dy.nodup {S : List Int→Prop} {L : List (List Int)} (h : Dy S L) : L.Nodup:=h.N7.imp fun {a b} h e=>by rw [Cf.mpr e] at h; omega
def entry (s t : List Int) (a : Int) : Int:=ix t (indexOf s a)
theorem NQ.Dh (hf : NQ f s t) {a : Int} (ha : a∈s) : 0≤entry s t a∧entry s t a<ix f.A4 (ix f.shape.to a):=by
 have h1:=B3 ha
 have:=hf.Nb _ h1.2.1
 have e : s.getD (indexOf s a).toNat default=a:=h1.2.2;rw [e] at this; exact this
theorem NQ.EK (h : f.Shape) (hs : f.shape.Ax x s) (hf : NQ f s t) {a b : Int} (ha : a∈s) (hb : 0≤b∧b.toNat<f.shape.AH.length) (e : ix f.shape.to a=ix f.shape.AH b) :
  ix (ix f.Aa b) (entry s t a)=entry s t (ix (ix f.shape.comp a) b):=by
 have h1:=B3 ha
 have e1 : s.getD (indexOf s a).toNat default=a:=h1.2.2
 have:=hf.link _ h1.2.1 b.toNat hb.2 (by rw [e1]; exact e.symm);rw [e1,Int.toNat_of_nonneg hb.1] at this;exact this
theorem P7 (h : f.Shape) (hs : f.shape.Ax x s) (g : Int→Int) (hr : ∀ a,a∈s→0≤g a∧g a<ix f.A4 (ix f.shape.to a))
  (hl : ∀ a b,a∈s→(0≤b∧b.toNat<f.shape.AH.length)→ix f.shape.to a=ix f.shape.AH b→ix (ix f.Aa b) (g a)=g (ix (ix f.shape.comp a) b)) : NQ f s (s.map g):=by
 refine ⟨by simp,fun i hi=>?_,fun i hi b hb e=>?_⟩
 ·rw [B8 _ hi]; exact hr _ (AE.mpr ⟨i,hi,rfl⟩)
 ·have hx:=F9 h hs hi hb e;rw [B8 _ hi]
  have:=hl (s.getD i default) b (AE.mpr ⟨i,hi,rfl⟩) ⟨by omega,by simpa using hb⟩ (by rw [AJ]; exact e.symm);rw [AJ] at this;rw [this];rw [show ix (s.map g) (indexOf s (ix (ix f.shape.comp (s.getD i default)) b))=(s.map g).getD (indexOf s (ix (ix f.shape.comp (s.getD i default)) b)).toNat default from rfl,B8 _ hx.1.2];exact congrArg g hx.2.1.symm
theorem Dd {g : Int→Int} {a : Int} (ha : a∈s) : entry s (s.map g) a=g a:=by
 have h1:=B3 ha;rw [entry,ix,B8 _ h1.2.1];exact congrArg g h1.2.2
theorem Er {u : List Int} (HK : s.Nodup) (ht : t.length=s.length) (hu : u.length=s.length) (h : ∀ a,a∈s→entry s t a=entry s u a) : t=u:=by
 refine List.ext_getElem (by omega) fun i h1 h2=>?_
 have:=h (s.getD i default) (AE.mpr ⟨i,by omega,rfl⟩);rw [entry,entry,Bp HK (by omega),AJ,AJ] at this
 simpa [gE,h1,h2] using this
theorem B0.Ax.nodup {c : B0} (hs : c.Ax x s) : s.Nodup:=(DI.mp hs.iX).imp fun {a b} h=>by omega
theorem JB (h : f.Shape) (hc : f.DE) (hs : f.shape.Ax x s) {e : Int} (he : 0≤e∧e<ix f.A4 x) : NQ f s (Bl f s e):=by
 have Pz:=h.al;refine P7 h hs (fun a=>ix (ix f.Aa a) e) (fun a ha=>?_) fun a b ha hb Ic=>?_
 ·have hv:=hs.arr ha
  have h1:=h.DN hv.1.2;rw [hv.2] at h1;exact (h.act a.toNat (by omega)).2 _ (Bi (l:=ix f.Aa a) (by omega))
 ·have hv:=hs.arr ha
  have h1:=h.DN hv.1.2;rw [hv.2] at h1;exact (hc a b hv.1 hb Ic e ⟨he.1,by omega⟩).symm
end
section
variable {f : SF} {V : List (List Int)}
theorem BT.at {c : B0} (v : BT c V) {x : Int} (h : 0≤x∧x<c.AR) : c.Ax x (ix V x):=by
 have:=v.len
 have:=v.sv x.toNat (by omega);rw [Int.toNat_of_nonneg h.1] at this; exact this
theorem BT.AH {c : B0} (hc : c.Is) (v : BT c V) {a : Int} (h : 0≤a∧a.toNat<c.AH.length) : c.Ax (ix c.AH a) (ix V (ix c.AH a)):=v.at (hc.1.Cl h.2)
theorem BT.to {c : B0} (hc : c.Is) (v : BT c V) {a : Int} (h : 0≤a∧a.toNat<c.AH.length) : c.Ax (ix c.to a) (ix V (ix c.to a)):=v.at (hc.1.C7 h.2)
theorem C1 {c : B0} {a b : Int} {t : List Int} (hb : b∈ix V (ix c.to a)) : entry (ix V (ix c.to a)) (Bd c V a t) b=entry (ix V (ix c.AH a)) t (ix (ix c.comp a) b):=Dd hb
theorem M8 (h : f.Shape) (v : BT f.shape V) {a : Int} (ha : 0≤a∧a.toNat<f.shape.AH.length) {t : List Int} (ht : NQ f (ix V (ix f.shape.AH a)) t) : NQ f (ix V (ix f.shape.to a)) (Bd f.shape V a t):=by
 have HJ:=v.to h.is ha
 have tq:=v.AH h.is ha;refine P7 h HJ (fun b=>entry (ix V (ix f.shape.AH a)) t (ix (ix f.shape.comp a) b)) (fun b hb=>?_) fun b d hb hd e=>?_
 ·have FY:=HJ.arr hb
  have:=ht.Dh (v.st a ha b hb);rw [(h.is.1.comp ha FY.1 FY.2.symm).2.2] at this; exact this
 ·have FY:=HJ.arr hb
  have Ic:=h.is.1.comp ha FY.1 FY.2.symm
  have:=ht.EK h tq (v.st a ha b hb) hd (by rw [Ic.2.2]; exact e);rw [this,h.is.assoc ha FY.1 hd FY.2.symm e]
theorem Vw (h : f.Shape) (v : BT f.shape V) {a b : Int} (ha : 0≤a∧a.toNat<f.shape.AH.length) (hb : 0≤b∧b.toNat<f.shape.AH.length) (e : ix f.shape.to a=ix f.shape.AH b) (t : List Int) :
  Bd f.shape V (ix (ix f.shape.comp a) b) t=Bd f.shape V b (Bd f.shape V a t):=by
 have Ic:=h.is.1.comp ha hb e
 have HJ:=v.to h.is hb;refine Er (s:=ix V (ix f.shape.to b)) HJ.nodup (by rw [Bd,List.length_map,Ic.2.2]) (by rw [Bd,List.length_map]) fun d hd=>?_
 have YF:=HJ.arr hd
 have Ss:=v.st b hb d hd
 have h1:=C1 (c:=f.shape) (V:=V) (a:=ix (ix f.shape.comp a) b) (b:=d) (t:=t) (by rw [Ic.2.2]; exact hd);rw [Ic.2.2,Ic.2.1] at h1;rw [h1,C1 hd];rw [← e] at Ss ⊢;rw [C1 Ss,h.is.assoc ha hb YF.1 e YF.2.symm]
theorem BI (v : BT f.shape V) {x : Int} (hx : 0≤x∧x<f.shape.AR) : ix (B5 f V) x=((BQ f (ix V x)).length : Int):=by
 have:=v.len;rw [ix,B5,AS _ _ (by omega)]; rfl
theorem Gv {a : Int} (ha : 0≤a∧a.toNat<f.shape.AH.length) : ix (BK f V) a=(BQ f (ix V (ix f.shape.AH a))).map fun t=>indexOf (BQ f (ix V (ix f.shape.to a))) (Bd f.shape V a t):=by
 rw [ix,BK,AS _ _ ha.2,Gn,Int.toNat_of_nonneg ha.1]; rfl
theorem DK (h : f.Shape) (v : BT f.shape V) {a : Int} (ha : 0≤a∧a.toNat<f.shape.AH.length) {k : Int} (hk : 0≤k∧k.toNat<(BQ f (ix V (ix f.shape.AH a))).length) :
  ix (ix (BK f V) a) k=indexOf (BQ f (ix V (ix f.shape.to a))) (Bd f.shape V a (ix (BQ f (ix V (ix f.shape.AH a))) k)) ∧
  Bd f.shape V a (ix (BQ f (ix V (ix f.shape.AH a))) k)∈BQ f (ix V (ix f.shape.to a)):=by
 refine ⟨by rw [Gv ha,ix,B8 _ hk.2]; rfl, ?_⟩;refine ((Ba h (v.to h.is ha)).mem _).mpr (M8 h v ha ?_);exact ((Ba h (v.AH h.is ha)).mem _).mp (Bi hk.2)
theorem Bx (h : f.Shape) (v : BT f.shape V) (hf : Bh f V) : (AO f V).Shape:=by
 have hl:=v.len;refine ⟨h.is, ?_, ?_,fun y hy=>?_,fun a ha=>?_⟩
 ·show ((B5 f V).length : Int)=_
  simp [B5]; exact hl
 ·show (BK f V).length=_
  simp [BK,AO]
 ·obtain ⟨x,hx,rfl⟩:=List.mem_map.mp (show y∈B5 f V from hy)
  have:=hf x (List.mem_range.mp hx);unfold Dk; omega
 ·have ha : a<f.shape.AH.length:=by
   have : (AO f V).Aa.length=f.shape.AH.length:=by show (BK f V).length=_; simp [BK]
   omega
  have GZ : 0≤(a : Int)∧(a : Int).toNat<f.shape.AH.length:=⟨by omega,by simpa using ha⟩
  have IL:=h.is.1.Cl GZ.2
  have Cu:=h.is.1.C7 GZ.2
  have e:=Gv (f:=f) (V:=V) GZ;simp only [AJ] at e IL Cu
  constructor
  ·show (((BK f V).getD a default).length : Int)=ix (B5 f V) (f.shape.AH.getD a default)
   rw [e,BI v IL,List.length_map]
  ·intro y hy
   replace hy : y∈(BK f V).getD a default:=hy;rw [e] at hy
   obtain ⟨t,ht,rfl⟩:=List.mem_map.mp hy
   show _∧_<ix (B5 f V) (f.shape.to.getD a default)
   rw [BI v Cu]
   have h1:=v.AH h.is GZ
   have h2:=v.to h.is GZ
   have hm:=M8 h v GZ (t:=t) (by
    simp only [AJ] at h1 ⊢;exact ((Ba h h1).mem _).mp ht)
   have:=((Ba h h2).mem _).mpr hm;simp only [AJ] at this
   have:=B3 this;omega
theorem G4 (h : f.Shape) (v : BT f.shape V) (hf : Bh f V) : (AO f V).DE:=by
 intro a b ha hb e k hk
 replace hk : 0≤k∧k.toNat<(ix (BK f V) a).length:=hk
 replace e : ix f.shape.to a=ix f.shape.AH b:=e
 replace ha : 0≤a∧a.toNat<f.shape.AH.length:=ha
 replace hb : 0≤b∧b.toNat<f.shape.AH.length:=hb
 show ix (ix (BK f V) (ix (ix f.shape.comp a) b)) k=ix (ix (BK f V) b) (ix (ix (BK f V) a) k)
 rw [Gv ha,List.length_map] at hk
 have Ic:=h.is.1.comp ha hb e
 have h1:=DK h v ha hk
 have h2:=DK h v Ic.1 (k:=k) (by rw [Ic.2.1]; exact hk)
 have EI:=B3 h1.2
 have h3:=DK h v hb (k:=ix (ix (BK f V) a) k) (by rw [h1.1,← e]; exact ⟨EI.1,EI.2.1⟩);rw [h2.1,h3.1,h1.1,← e,EI.2.2,Ic.2.1,Ic.2.2,Vw h v ha hb e]
end
theorem G2 {c : B0} {C : List (List (List Int))} {x : Nat} {a : Int} : a∈E4 c C x↔a∈outs c x∧∀ s,s∈C.getD x default→a∈s:=by
 rw [E4,List.mem_filter,E8,decide_eq_true_eq]
theorem Jm {c : B0} {C : List (List (List Int))} {x : Int} (h : x.toNat<C.length) : ix (Ag c C) x=E4 c C x.toNat:=by
 rw [ix,Ag,AS _ _ h]
theorem Jn {c : B0} {C : List (List (List Int))} (hc : c.Is) (hl : (C.length : Int)=c.AR) (hs : ∀ x : Nat,x<C.length→∀ s,s∈C.getD x default→c.Ax x s) (t : Fl c C) : BT c (Ag c C):=by
 have QW : (Ag c C).length=C.length:=by simp [Ag]
 refine ⟨by rw [QW]; exact hl,fun x hx=>?_,fun a ha b hb=>?_⟩
 ·rw [QW] at hx
  have e : (Ag c C).getD x default=E4 c C x:=by rw [Ag,AS _ _ hx]
  rw [e]
  have ho:=GO hc.1 (x:=(x : Int));refine .mk' ?_ (fun a ha=>ho.arr (G2.mp ha).1) fun a b ha hb e=>?_
  ·have:=DI.mp ho.iX;rw [DI,E4];exact this.filter _
  ·have:=G2.mp ha;exact G2.mpr ⟨ho.Jt this.1 hb e,fun s Kl=>(hs x hx s Kl).Jt (this.2 s Kl) hb e⟩
 ·have hf:=hc.1.Cl ha.2
  have ht:=hc.1.C7 ha.2;rw [Jm (by omega),G2] at hb ⊢;rw [Int.toNat_of_nonneg ht.1] at hb;rw [Int.toNat_of_nonneg hf.1]
  have hbo:=BV.mp hb.1
  have fZ:=hc.1.comp ha ⟨hbo.1,hbo.2.1⟩ hbo.2.2.symm;refine ⟨BV.mpr ⟨fZ.1.1,fZ.1.2,fZ.2.1⟩,fun s Kl=>?_⟩
  have hp:=t.pull a.toNat ha.2 s (by exact Kl);rw [Int.toNat_of_nonneg ha.1] at hp
  have:=hb.2 _ hp;exact (E3.mp this).2.2
end Go.Shf
namespace Go.Shf
open Go.AW
structure J1 (A4 : List Int) (ls : List Lk) (p : List Int) (i : Nat) (e : Int) (p' : List Int) (N : List Int) (ok : Bool) : Prop where
 len : p'.length=p.length
 ext : ∀ q,q<p.length→p.getD q default≠-1→p'.getD q default=p.getD q default
 part : ∀ q,q<p.length→p'.getD q default=-1∨(0≤p'.getD q default∧p'.getD q default<A4.getD q default)
 new : ∀ y,y∈N↔0≤y∧y.toNat<p.length∧p.getD y.toNat default=-1∧p'.getD y.toNat default≠-1
 yes : ok=true→p'.getD i default=e∧(∀ y,y∈N→∀ l,l∈ls→l.i=y→ix p' l.j=ix l.left (ix p' y))∧∀ t,Ext A4 ls p t→t.getD i default=e→Ext A4 ls p' t
 no : ok=false→∀ t,Ext A4 ls p t→t.getD i default≠e
def G8 (A4 : List Int) (p : List Int) : Prop:=p.length=A4.length∧∀ q,q<p.length→p.getD q default=-1∨(0≤p.getD q default∧p.getD q default<A4.getD q default)
theorem G8.part {A4 p : List Int} (h : G8 A4 p) : JM A4 p:=⟨h.1,fun n hn=>(h.2 n hn).imp (fun e=>by omega) id⟩
def Kd (ls : List Lk) (p : List Int) : Prop:=∀ l,l∈ls→0≤ix p l.i→ix p l.j=ix l.left (ix p l.i)
structure K1 (A4 : List Int) (ls : List Lk) : Prop where
 ok : H8 A4 ls
 rt : ∀ l,l∈ls→l.right=N3 (ix A4 l.j)
 lf : ∀ l,l∈ls→∀ y,y∈l.left→0≤y∧y<ix A4 l.j
section
variable {A4 : List Int} {ls : List Lk} {p : List Int}
theorem Kd.cons (h : K1 A4 ls) (hp : G8 A4 p) (hc : Kd ls p) : Cons ls p:=by
 intro l hl h1 h2
 have a:=h.ok.i l hl
 have b:=h.ok.j l hl;rw [h.rt l hl]
 have:=hp.2 l.j.toNat (by rw [hp.1]; exact b.2);rw [LW ⟨h2,by rcases this with e | e <;> simp only [ix] at h2 ⊢ <;> omega⟩]
 exact (hc l hl h1).symm
theorem Ext.link (h : K1 A4 ls) {t : List Int} (hp : G8 A4 p) (ht : Ext A4 ls p t) {l : Lk} (hl : l∈ls) : ix t l.j=ix l.left (ix t l.i):=by
 have a:=h.ok.i l hl
 have b:=h.ok.j l hl
 have full : ∀ q,q<p.length→0≤t.getD q default∧t.getD q default<A4.getD q default:=by
  intro q hq
  rcases hp.2 q hq with e | e
  ·exact ht.new q hq e
  ·rw [ht.Kn q hq (by omega)]; exact e
 have h1:=full l.i.toNat (by rw [hp.1]; exact a.2)
 have h2:=full l.j.toNat (by rw [hp.1]; exact b.2)
 have:=ht.cons l hl h1.1 h2.1;rw [h.rt l hl,LW (n:=ix A4 l.j) (y:=ix t l.j) h2] at this;exact this.symm
theorem J1.Kn (hp : G8 A4 p) {i : Nat} {e : Int} (hi : i<p.length) (h : p.getD i default≠-1) : J1 A4 ls p i e p [] (decide (p.getD i default=e)):=by
 refine ⟨rfl,fun _ _ _=>rfl,hp.2,fun y=>?_,fun ho=>⟨of_decide_eq_true ho,by simp,fun t ht _=>ht⟩,fun ho t ht aG=>?_⟩
 ·simp only [List.not_mem_nil,false_iff,not_and]; intro _ _ h1 h2; exact h2 h1
 ·rw [ht.Kn i hi h] at aG; exact of_decide_eq_false ho aG
structure NR (A4 : List Int) (ls : List Lk) (p : List Int) (i : Nat) (e : Int) (rs : List Lk) (k : Nat) (p' : List Int) (N : List Int) : Prop where
 len : p'.length=p.length
 ext : ∀ q,q<p.length→p.getD q default≠-1→p'.getD q default=p.getD q default
 part : ∀ q,q<p.length→p'.getD q default=-1∨(0≤p'.getD q default∧p'.getD q default<A4.getD q default)
 new : ∀ y,y∈N↔0≤y∧y.toNat<p.length∧p.getD y.toNat default=-1∧p'.getD y.toNat default≠-1
 own : p'.getD i default=e
 cl : ∀ y,y∈N→y≠i→∀ l,l∈ls→l.i=y→ix p' l.j=ix l.left (ix p' y)
 ig : ∀ j,j<k→j<rs.length→ix p' (rs.getD j default).j=ix (rs.getD j default).left e
 ex : ∀ t,Ext A4 ls p t→t.getD i default=e→Ext A4 ls p' t
theorem NR.zero {rs : List Lk} (hp : G8 A4 p) {i : Nat} {e : Int} (hi : i<p.length) (h : p.getD i default=-1) (he : 0≤e∧e<A4.getD i default) : NR A4 ls p i e rs 0 (p.set i e) [(i : Int)]:=by
 refine ⟨by simp,fun q hq Bq=>?_,fun q hq=>?_,fun y=>?_, ?_,fun y hy Bq=>?_,fun j hj=>by omega,fun t ht aG=>?_⟩
 ·rw [BL,if_neg]; rintro ⟨rfl,_⟩; exact Bq h
 ·rw [BL]
  split
  ·rename_i e2; rw [← e2.1]; exact .inr he
  ·exact hp.2 q hq
 ·rw [List.mem_singleton]
  constructor
  ·rintro rfl;refine ⟨by omega,by simpa using hi,by simpa using h, ?_⟩;rw [Int.toNat_natCast,BL,if_pos ⟨rfl,hi⟩]; omega
  ·rintro ⟨h1,h2,h3,h4⟩;rw [BL] at h4
   split at h4
   ·rename_i e2; omega
   ·exact absurd h3 h4
 ·rw [BL,if_pos ⟨rfl,hi⟩]
 ·rw [List.mem_singleton] at hy; exact absurd hy Bq
 ·refine ⟨by rw [ht.len]; simp,fun q hq e2=>?_,fun q hq e2=>?_,ht.cons⟩
  ·rw [List.length_set] at hq;rw [BL] at e2
   split at e2
   ·omega
   ·exact ht.new q hq e2
  ·rw [List.length_set] at hq;rw [BL] at e2 ⊢
   split
   ·rename_i e3; rw [← e3.1]; exact aG
   ·rename_i e3; rw [if_neg e3] at e2; exact ht.Kn q hq e2
theorem NR.x3 {rs : List Lk} {i k : Nat} {e : Int} {p' N : List Int} (hp : G8 A4 p) (h : NR A4 ls p i e rs k p' N) : G8 A4 p':=⟨by rw [h.len]; exact hp.1,fun q hq=>h.part q (by rw [← h.len]; exact hq)⟩
theorem NR.step {rs : List Lk} {i k : Nat} {e : Int} {p' N p2 N2 : List Int} (hp : G8 A4 p) (hi : i<p.length) (h : NR A4 ls p i e rs k p' N) (hk : k<rs.length) (hr : (rs.getD k default).j.toNat<p.length) (he : e≠-1) (hjn : 0≤(rs.getD k default).j)
  (q : J1 A4 ls p' (rs.getD k default).j.toNat (ix (rs.getD k default).left e) p2 N2 true) (hjs : ∀ j,j<rs.length→0≤(rs.getD j default).j∧(rs.getD j default).j.toNat<p.length∧0≤ix (rs.getD j default).left e)
  (hm : ∀ j,j<rs.length→rs.getD j default∈ls∧(rs.getD j default).i=i) (Hh : K1 A4 ls) : NR A4 ls p i e rs (k+1) p2 (N++N2):=by
 obtain ⟨y1,y2,y3⟩:=q.yes rfl
 have Ps : p2.length=p.length:=by rw [q.len,h.len]
 have BA : ∀ r,r<p.length→p'.getD r default≠-1→p2.getD r default=p'.getD r default:=fun r hr Bq=>q.ext r (by rw [h.len]; exact hr) Bq;refine ⟨Ps,fun r hr Bq=>?_,fun r hr=>q.part r (by rw [h.len]; exact hr),fun y=>?_, ?_,fun y hy Bq l hl e2=>?_,fun j hj VD=>?_,fun t ht aG=>?_⟩
 ·have:=h.ext r hr Bq; rw [BA r hr (by rw [this]; exact Bq),this]
 ·rw [List.mem_append,h.new,q.new,h.len]
  constructor
  ·rintro (⟨h1,h2,h3,h4⟩ | ⟨h1,h2,h3,h4⟩)
   ·exact ⟨h1,h2,h3,by rw [BA _ h2 h4]; exact h4⟩
   ·refine ⟨h1,h2, ?_,h4⟩;apply Classical.byContradiction; intro hn;rw [h.ext _ h2 hn] at h3; exact hn h3
  ·rintro ⟨h1,h2,h3,h4⟩
   by_cases e2 : p'.getD y.toNat default=-1
   ·exact .inr ⟨h1,h2,e2,h4⟩
   ·exact .inl ⟨h1,h2,h3,e2⟩
 ·rw [BA i hi (by rw [h.own]; exact he),h.own]
 ·rcases List.mem_append.mp hy with hy | hy
  ·have hn:=(h.new y).mp hy
   have h1:=h.cl y hy Bq l hl e2
   have rO : ix p2 y=ix p' y:=BA _ hn.2.1 hn.2.2.2
   have b:=Hh.ok.j l hl
   have aO : ix p2 l.j=ix p' l.j:=by
    refine BA _ (by rw [hp.1]; exact b.2) ?_
    have a:=Hh.ok.left l hl
    have EI : ix p' y<ix A4 l.i:=by
     rcases h.part _ hn.2.1 with e3 | e3
     ·exact absurd e3 hn.2.2.2
     ·rw [e2]; exact e3.2
    have h0 : 0≤ix p' y:=by
     rcases h.part _ hn.2.1 with e3 | e3
     ·exact absurd e3 hn.2.2.2
     ·exact e3.1
    have:=Hh.lf l hl _ (Bi (i:=ix p' y) (l:=l.left) (by omega));rw [← h1] at this;simp only [ix] at this; omega
   rw [aO,rO]; exact h1
  ·exact y2 y hy l hl e2
 ·by_cases e2 : j=k
  ·subst e2; exact y1
  ·have h1:=h.ig j (by omega) VD
   have hb:=hjs j VD
   have : p'.getD (rs.getD j default).j.toNat default≠-1:=by
    simp only [ix] at h1; rw [h1]
    have:=hb.2.2;simp only [ix] at this; omega
   have IM:=BA _ hb.2.1 this;simp only [ix] at h1 ⊢;rw [IM]; exact h1
 ·refine y3 t (h.ex t ht aG) ?_
  have h1:=ht.link Hh hp (hm k hk).1;rw [(hm k hk).2,AJ,aG] at h1;exact h1
theorem NR.fail {rs : List Lk} {i k : Nat} {e : Int} {p' N p2 N2 : List Int} (hp : G8 A4 p) (hi : i<p.length) (h0 : p.getD i default=-1) (h : NR A4 ls p i e rs k p' N) (hk : k<rs.length)
  (q : J1 A4 ls p' (rs.getD k default).j.toNat (ix (rs.getD k default).left e) p2 N2 false) (he : e≠-1)
  (hm : ∀ j,j<rs.length→rs.getD j default∈ls∧(rs.getD j default).i=i) (Hh : K1 A4 ls) : J1 A4 ls p i e p2 (N++N2) false:=by
 have BA : ∀ r,r<p.length→p'.getD r default≠-1→p2.getD r default=p'.getD r default:=fun r hr Bq=>q.ext r (by rw [h.len]; exact hr) Bq;refine ⟨by rw [q.len,h.len],fun r hr Bq=>?_,fun r hr=>q.part r (by rw [h.len]; exact hr),fun y=>?_,fun e=>(by cases e),fun _ t ht aG=>?_⟩
 ·have:=h.ext r hr Bq; rw [BA r hr (by rw [this]; exact Bq),this]
 ·rw [List.mem_append,h.new,q.new,h.len]
  constructor
  ·rintro (⟨h1,h2,h3,h4⟩ | ⟨h1,h2,h3,h4⟩)
   ·exact ⟨h1,h2,h3,by rw [BA _ h2 h4]; exact h4⟩
   ·refine ⟨h1,h2, ?_,h4⟩;apply Classical.byContradiction; intro hn;rw [h.ext _ h2 hn] at h3; exact hn h3
  ·rintro ⟨h1,h2,h3,h4⟩
   by_cases e2 : p'.getD y.toNat default=-1
   ·exact .inr ⟨h1,h2,e2,h4⟩
   ·exact .inl ⟨h1,h2,h3,e2⟩
 ·refine q.no rfl t (h.ex t ht aG) ?_
  have h1:=ht.link Hh hp (hm k hk).1;rw [(hm k hk).2,AJ,aG] at h1;exact h1
theorem NR.done {rs : List Lk} {i k : Nat} {e : Int} {p' N : List Int} (h : NR A4 ls p i e rs k p' N) (hk : rs.length≤k)
  (Aj : ∀ l,l∈ls→l.i=i→l∈rs) : J1 A4 ls p i e p' N true:=by
 refine ⟨h.len,h.ext,h.part,h.new,fun _=>⟨h.own,fun y hy l hl e2=>?_,h.ex⟩,fun e=>(by cases e)⟩
 by_cases rO : y=i
 ·subst rO
  obtain ⟨j,hj,rfl⟩:=AE.mp (Aj l hl e2);rw [h.ig j (by omega) hj,AJ,h.own]
 ·exact h.cl y hy rO l hl e2
theorem Kd.set (Hh : K1 A4 ls) (hp : G8 A4 p) (hc : Kd ls p) {i : Nat} {e : Int} {p' N : List Int} (q : J1 A4 ls p i e p' N true) : Kd ls p':=by
 intro l hl h0
 have a:=Hh.ok.i l hl
 have b:=Hh.ok.j l hl
 by_cases e2 : p.getD l.i.toNat default=-1
 ·exact (q.yes rfl).2.1 l.i ((q.new _).mpr ⟨a.1,by rw [hp.1]; exact a.2,e2,by simp only [ix] at h0; omega⟩) l hl rfl
 ·have h1 : ix p' l.i=ix p l.i:=q.ext _ (by rw [hp.1]; exact a.2) e2
  have h2:=hc l hl (by rw [← h1]; exact h0)
  have h3 : ix p' l.j=ix p l.j:=by
   refine q.ext _ (by rw [hp.1]; exact b.2) ?_
   have Ia:=Hh.ok.left l hl
   have hr : ix p l.i<ix A4 l.i:=by
    rcases hp.2 l.i.toNat (by rw [hp.1]; exact a.2) with e3 | e3
    ·exact absurd e3 e2
    ·exact e3.2
   rw [h1] at h0
   have:=Hh.lf l hl _ (Bi (i:=ix p l.i) (l:=l.left) (by omega));rw [← h2] at this;simp only [ix] at this; omega
  rw [h1,h3]; exact h2
theorem J1.ext_iff {i : Nat} {e : Int} {p' N : List Int} (hi : i<p.length) (h0 : p.getD i default=-1) (he : 0≤e∧e<A4.getD i default) (q : J1 A4 ls p i e p' N true) (t : List Int) : Ext A4 ls (p.set i e) t↔Ext A4 ls p' t:=by
 constructor
 ·intro h
  have:=h.OO h0 he hi;exact (q.yes rfl).2.2 t this.1 this.2
 ·intro h;refine ⟨by rw [h.len,q.len]; simp,fun r hr e2=>?_,fun r hr e2=>?_,h.cons⟩
  ·rw [List.length_set] at hr;rw [BL] at e2
   split at e2
   ·omega
   ·by_cases e3 : p'.getD r default=-1
    ·exact h.new r (by rw [q.len]; exact hr) e3
    ·rw [h.Kn r (by rw [q.len]; exact hr) e3]
     rcases q.part r hr with e4 | e4
     ·exact absurd e4 e3
     ·exact e4
  ·rw [List.length_set] at hr;rw [BL] at e2 ⊢
   split
   ·rename_i e3
    rw [← e3.1,h.Kn i (by rw [q.len]; exact hi) (by rw [(q.yes rfl).1]; omega),(q.yes rfl).1]
   ·rename_i e3
    rw [if_neg e3] at e2;rw [h.Kn r (by rw [q.len]; exact hr) (by rw [q.ext r hr e2]; exact e2),q.ext r hr e2]
theorem J1.none {i : Nat} {e : Int} {p' N : List Int} (hi : i<p.length) (h0 : p.getD i default=-1) (he : 0≤e∧e<A4.getD i default) (q : J1 A4 ls p i e p' N false) : H6 A4 ls (p.set i e)=[] :=
 GH (Kw fun t h=>by
  have:=h.OO h0 he hi;exact q.no rfl t this.1 this.2)
theorem Yh {q : List Int} (h : ∀ t,Ext A4 ls p t↔Ext A4 ls q t) : H6 A4 ls p=H6 A4 ls q:=by
 have : Ext A4 ls p=Ext A4 ls q:=funext fun t=>propext (h t)
 by_cases he : ∃ L,Dy (Ext A4 ls p) L
 ·obtain ⟨L,hL⟩:=he;rw [GH hL,GH (this ▸ hL)]
 ·rw [H6,dif_neg he,H6,dif_neg (by rw [← this]; exact he)]
theorem Wg {S T : List Int→Prop} {L : List (List Int)} (h : Dy S L) (hs : ∀ t,T t→S t) : ∃ M,Dy T M:=by
 classical
 refine ⟨L.filter fun t=>decide (T t),h.N7.filter _,fun t=>?_⟩;rw [List.mem_filter,decide_eq_true_eq,h.mem];exact ⟨fun e=>e.2,fun e=>⟨hs t e,e⟩⟩
theorem kS (Hh : K1 A4 ls) (hp : G8 A4 p) (hc : Kd ls p) {n : Nat} (hn : n<p.length) (h1 : p.getD n default=-1) (hf : ∀ m,m<n→p.getD m default≠-1) :
  H6 A4 ls p=((List.range (A4.getD n default).toNat).map Int.ofNat).flatMap fun e=>H6 A4 ls (p.set n e):=by
 have nJ:=hc.cons Hh hp
 have hLp:=SD Hh.ok hp.part nJ
 have hex : ∀ e : Int,0≤e∧e<A4.getD n default→Dy (Ext A4 ls (p.set n e)) (H6 A4 ls (p.set n e)):=by
  intro e he
  obtain ⟨M,hM⟩:=Wg hLp (T:=Ext A4 ls (p.set n e)) fun t ht=>(ht.OO h1 he hn).1;rw [GH hM]; exact hM
 rw [TE Hh.ok hp.part nJ hn h1 hf,Bt,Ea]
 generalize hN : (A4.getD n default).toNat=N at *
 have key : ∀ k,k≤N→(((List.range k).filter (cS ls p n)).map Int.ofNat).flatMap (fun e=>H6 A4 ls (p.set n e))=((List.range k).map Int.ofNat).flatMap fun e=>H6 A4 ls (p.set n e):=by
  intro k
  induction k with
  | zero=>intro _; rfl
  | succ k ih =>
   intro hk;rw [BF,List.map_append,List.flatMap_append,ih (by omega),List.range_succ,List.map_append,List.flatMap_append]
   congr 1
   by_cases rN : cS ls p n k=true
   ·rw [if_pos rN]
   ·rw [if_neg rN];simp only [List.map_nil,List.flatMap_nil,List.map_cons,List.flatMap_cons,List.append_nil]
    have he : (0 : Int)≤(k : Int)∧(k : Int)<A4.getD n default:=by omega
    symm
    refine GH (Kw fun t ht=>rN ?_)
    have h2:=ht.OO h1 he hn
    have h3:=h2.1.choice Hh.ok hp.1 hn h1;rw [h2.2] at h3;rw [cS,FK]; exact h3.2.1
 exact key N (Nat.le_refl _)
end
end Go.Shf
namespace Go.Shf
open Go.AW
end Go.Shf
namespace Go.Shf
open Go.AW
def Hd (p N : List Int) (k : Nat) : List Int:=(List.range p.length).map fun r : Nat=>if (r : Int)∈N.take k then -1 else p.getD r default
theorem U3 (p N : List Int) (k : Nat) : (Hd p N k).length=p.length:=by simp [Hd]
theorem Yg (p N : List Int) : Hd p N 0=p:=by
 apply List.ext_getElem (by simp [Hd])
 intro i h1 h2
 simp [Hd,gE,h2]
theorem ZT (p N : List Int) {k : Nat} (hk : k<N.length) (h0 : 0≤N.getD k default) : Hd p N (k+1)=(Hd p N k).set (N.getD k default).toNat (-1):=by
 apply List.ext_getElem (by simp [Hd])
 intro i h1 h2
 have hN : N[k]=N.getD k default:=by simp [gE,hk]
 have ht : N.take (k+1)=N.take k++[N.getD k default]:=by rw [← hN]; exact (List.take_append_getElem hk).symm
 simp only [Hd,List.getElem_map,List.getElem_range,List.getElem_set,ht,List.mem_append,List.mem_singleton]
 by_cases e : (N.getD k default).toNat=i
 ·rw [if_pos (by right; omega),if_pos e]
 ·rw [if_neg e]
  have : ¬ (i : Int)=N.getD k default:=by omega
  simp only [this,or_false]
theorem J1.zt {A4 : List Int} {ls : List Lk} {p p' N : List Int} {i : Nat} {e : Int} {ok : Bool} (q : J1 A4 ls p i e p' N ok) : Hd p' N N.length=p:=by
 apply List.ext_getElem (by rw [U3,q.len])
 intro r h1 h2;simp only [Hd,List.getElem_map,List.getElem_range,List.take_length]
 have hr : p[r]=p.getD r default:=by simp [gE,h2]
 rw [hr]
 have:=q.new r;simp only [Int.toNat_natCast] at this
 split
 ·rename_i h
  exact (this.mp h).2.2.1.symm
 ·rename_i h
  by_cases e2 : p.getD r default=-1
  ·rw [e2];apply Classical.byContradiction; intro hn;exact h (this.mpr ⟨by omega,h2,e2,hn⟩)
  ·exact q.ext r h2 e2
theorem bT {A4 : List Int} {ls : List Lk} {p p' N : List Int} {i : Nat} {e : Int} (q : J1 A4 ls p i e p' N true) (hi : i<p.length) (h0 : p.getD i default=-1) (he : 0≤e) (h : N.length+DY p'≤DY p) : DY p'<DY p:=by
 have : (i : Int)∈N:=(q.new i).mpr ⟨by omega,by simpa using hi,by simpa using h0,by rw [Int.toNat_natCast,(q.yes rfl).1]; omega⟩
 have:=List.length_pos_of_mem this;omega
noncomputable def CN (A4 : List Int) (ls : List Lk) (p : List Int) (n k : Nat) : List (List Int):=((List.range k).map Int.ofNat).flatMap fun e=>H6 A4 ls (p.set n e)
theorem Mm (A4 : List Int) (ls : List Lk) (p : List Int) (n : Nat) : CN A4 ls p n 0=[]:=rfl
theorem N0 (A4 : List Int) (ls : List Lk) (p : List Int) (n k : Nat) : CN A4 ls p n (k+1)=CN A4 ls p n k++H6 A4 ls (p.set n k):=by
 rw [CN,List.range_succ,List.map_append,List.flatMap_append,CN]
 simp
theorem Vd (A4 : List Int) (ls : List Lk) (p : List Int) (n : Nat) {k m : Nat} (h : k≤m) : ∃ r,CN A4 ls p n m=CN A4 ls p n k++r:=by
 induction m with
 | zero =>
      obtain rfl : k=0:=by omega
      exact ⟨[],by simp⟩
 | succ m ih =>
  by_cases e : k=m+1
  ·subst e; exact ⟨[],by simp⟩
  ·obtain ⟨r,hr⟩:=ih (by omega);exact ⟨r++H6 A4 ls (p.set n m),by rw [N0,hr,List.append_assoc]⟩
end Go.Shf
namespace Go.Shf
open Go.AW
def EW (f : SF) (x : Int) (s t : List Int) : Prop:=(glue f x s t).length=1
def Kv (f : SF) (x : Int) (s : List Int) : Prop:=(BQ f s).length≤16∧∀ t,t∈BQ f s→EW f x s t
def Jc (f : SF) (x : Int) (s : List Int) : Prop:=(∀ e : Nat,e<(ix f.A4 x).toNat→EW f x s (Bl f s e))∧((BQ f s).length : Int)=ix f.A4 x
section
variable {f : SF} {x : Int} {s t : List Int}
theorem Ha {e : Int} : e∈glue f x s t↔(0≤e∧e<ix f.A4 x)∧Bl f s e=t:=by
 rw [glue,HS,TT,decide_eq_true_eq]
 constructor
 ·rintro ⟨h1,h2,h3⟩; rw [Int.toNat_of_nonneg h1] at h3; exact ⟨⟨h1,by omega⟩,h3⟩
 ·rintro ⟨⟨h1,h2⟩,h3⟩; exact ⟨h1,by omega,by rw [Int.toNat_of_nonneg h1]; exact h3⟩
theorem Ej : EW f x s t↔∃ e : Int,((0≤e∧e<ix f.A4 x)∧Bl f s e=t)∧∀ e' : Int,0≤e'∧e'<ix f.A4 x→Bl f s e'=t→e'=e:=by
 have HK : (glue f x s t).Nodup:=(DI.mp (DS _ _)).imp fun {a b} h=>by omega
 rw [EW]
 constructor
 ·intro h
  obtain ⟨e,he⟩:=List.length_eq_one_iff.mp h;refine ⟨e,Ha.mp (by rw [he]; simp),fun e' h1 h2=>?_⟩
  have:=Ha.mpr ⟨h1,h2⟩;rw [he] at this
  simpa using this
 ·rintro ⟨e,h1,h2⟩
  have hm:=Ha.mpr h1
  have h3 : ∀ y,y∈glue f x s t→y=e:=fun y hy=>h2 y (Ha.mp hy).1 (Ha.mp hy).2
  generalize glue f x s t=L at *
  match L,hm,h3,HK with
  | [a],_,_,_=>rfl
  | a::b::r,_,h3,HK =>
   have h4:=h3 a (by simp)
   have h5:=h3 b (by simp);simp only [List.nodup_cons,List.mem_cons,not_or] at HK;exact absurd (h4.trans h5.symm) HK.1.1
theorem N1 {g : Nat→List Int} {n : Nat} (h : ∀ a b : Nat,a<n→b<n→g a=g b→a=b) : ((List.range n).map g).Nodup:=by
 rw [List.Nodup,List.pairwise_map];refine List.Pairwise.imp_of_mem ?_ List.nodup_range
 intro a b ha hb Bq e;exact Bq (h a b (List.mem_range.mp ha) (List.mem_range.mp hb) e)
theorem L1 (h : f.Shape) (hc : f.DE) (hs : f.shape.Ax x s) (hx : 0≤x∧x<f.shape.AR) : Kv f x s↔Jc f x s:=by
 have hz:=h.Dk hx
 have Ga:=Ba h hs
 have rL : ∀ e : Nat,e<(ix f.A4 x).toNat→Bl f s e∈BQ f s:=fun e he=>(Ga.mem _).mpr (JB h hc hs ⟨by omega,by omega⟩)
 constructor
 ·rintro ⟨h1,h2⟩
  have hu:=fun (e : Nat) he=>h2 _ (rL e he);refine ⟨hu, ?_⟩
  have a1 : ((List.range (ix f.A4 x).toNat).map fun e : Nat=>Bl f s e).length≤(BQ f s).length:=by
   refine List.Nodup.length_le_of_subset (N1 fun a b ha hb e=>?_) fun t ht=>?_
   ·obtain ⟨e0,_,h4⟩:=Ej.mp (hu a ha)
    have q1:=h4 a ⟨by omega,by omega⟩ rfl
    have q2:=h4 b ⟨by omega,by omega⟩ e.symm;omega
   ·obtain ⟨e,he,rfl⟩:=List.mem_map.mp ht;exact rL e (List.mem_range.mp he)
  have a2 : (BQ f s).length≤((List.range (ix f.A4 x).toNat).map fun e : Nat=>Bl f s e).length:=by
   refine List.Nodup.length_le_of_subset Ga.nodup fun t ht=>?_
   obtain ⟨e,⟨h4,h5⟩,_⟩:=Ej.mp (h2 t ht);exact List.mem_map.mpr ⟨e.toNat,List.mem_range.mpr (by omega),by rw [Int.toNat_of_nonneg h4.1]; exact h5⟩
  simp only [List.length_map,List.length_range] at a1 a2;omega
 ·rintro ⟨h1,h2⟩;refine ⟨by omega,fun t ht=>?_⟩
  have HK : ((List.range (ix f.A4 x).toNat).map fun e : Nat=>Bl f s e).Nodup:=N1 fun a b ha hb e=>by
   obtain ⟨e0,_,h4⟩:=Ej.mp (h1 a ha)
   have q1:=h4 a ⟨by omega,by omega⟩ rfl
   have q2:=h4 b ⟨by omega,by omega⟩ e.symm;omega
  have CH : t∈(List.range (ix f.A4 x).toNat).map fun e : Nat=>Bl f s e:=by
   apply Classical.byContradiction; intro hn
   have:=List.Nodup.length_le_of_subset (l₁:=t::(List.range (ix f.A4 x).toNat).map fun e : Nat=>Bl f s e) (l₂:=BQ f s) (List.nodup_cons.mpr ⟨hn,HK⟩) fun u hu=>by
    rcases List.mem_cons.mp hu with rfl | hu
    ·exact ht
    ·obtain ⟨e,he,rfl⟩:=List.mem_map.mp hu;exact rL e (List.mem_range.mp he)
   simp only [List.length_cons,List.length_map,List.length_range] at this;omega
  obtain ⟨e,he,rfl⟩:=List.mem_map.mp CH;exact h1 e (List.mem_range.mp he)
end
theorem lO {f : SF} {V : List (List Int)} (h : f.Shape) (hc : f.DE) (v : BT f.shape V) (hg : ∀ x : Int,0≤x∧x<f.shape.AR→Kv f x (ix V x)) {x : Int} (hx : 0≤x∧x<f.shape.AR) {s : List Int} (hs : f.shape.Ax x s)
  (Cq : ∀ a,a∈ix V x→a∈s) : Kv f x s:=by
 have hz:=h.Dk hx
 have hv:=v.at hx
 have Ga:=Ba h hs
 have Pz:=h.al
 have key : ∀ t,t∈BQ f s→EW f x s t:=by
  intro t ht
  have N6:=(Ga.mem t).mp ht
  have hr : NQ f (ix V x) ((ix V x).map (entry s t)):=P7 h hv _ (fun a ha=>N6.Dh (Cq a ha)) fun a b ha hb e=>N6.EK h hs (Cq a ha) hb e
  obtain ⟨e,⟨iV,iZ⟩,he3⟩:=Ej.mp ((hg x hx).2 _ (((Ba h hv).mem _).mpr hr))
  have Li : ∀ a,(0≤a∧a.toNat<f.shape.AH.length)→ix f.shape.AH a=x→0≤ix (ix f.Aa a) e∧ix (ix f.Aa a) e<ix f.A4 (ix f.shape.to a):=fun a ha Pj=>by
   have h1:=h.DN ha.2;rw [Pj] at h1;exact (h.act a.toNat (by omega)).2 _ (Bi (l:=ix f.Aa a) (by omega))
  refine Ej.mpr ⟨e,⟨iV, ?_⟩,fun e' h1 h2=>he3 e' h1 ?_⟩
  ·refine Er (s:=s) hs.nodup (by simp [Bl]) N6.len fun a ha=>?_
   have Ew:=hs.arr ha;rw [Bl,Dd ha]
   have Cu:=h.is.1.C7 Ew.1.2
   have hvy:=v.at Cu
   have r1:=Li a Ew.1 Ew.2
   have r2:=N6.Dh ha
   have YU : Bl f (ix V (ix f.shape.to a)) (ix (ix f.Aa a) e)=Bl f (ix V (ix f.shape.to a)) (entry s t a):=by
    rw [Bl,Bl];refine List.map_congr_left fun b hb=>?_
    have FY:=hvy.arr hb
    have Ic : ix (ix f.shape.comp a) b∈ix V x:=by
     have:=v.st a Ew.1 b hb;rw [Ew.2] at this; exact this
    have h1:=h.DN Ew.1.2;rw [Ew.2] at h1
    have c1:=hc a b Ew.1 FY.1 FY.2.symm e ⟨iV.1,by omega⟩
    have c2:=N6.EK h hs ha FY.1 FY.2.symm;rw [c2,← c1]
    have c3 : entry (ix V x) (Bl f (ix V x) e) (ix (ix f.shape.comp a) b)=entry (ix V x) ((ix V x).map (entry s t)) (ix (ix f.shape.comp a) b):=by rw [iZ]
    rw [Bl,Dd Ic,Dd Ic] at c3;exact c3
   have Gj:=JB h hc hvy r2
   obtain ⟨e0,_,q⟩:=Ej.mp ((hg _ Cu).2 _ (((Ba h hvy).mem _).mpr Gj));exact (q _ r1 YU).trans (q _ r2 rfl).symm
  ·rw [← h2,Bl,Bl];exact List.map_congr_left fun a ha=>(Dd (g:=fun a=>ix (ix f.Aa a) e') (Cq a ha)).symm
 refine ⟨?_,key⟩
 have:=List.Nodup.length_le_of_subset (l₂:=(List.range (ix f.A4 x).toNat).map fun e : Nat=>Bl f s e) Ga.nodup fun t ht=>by
  obtain ⟨e,⟨h4,h5⟩,_⟩:=Ej.mp (key t ht);exact List.mem_map.mpr ⟨e.toNat,List.mem_range.mpr (by omega),by rw [Int.toNat_of_nonneg h4.1]; exact h5⟩
 simp only [List.length_map,List.length_range] at this;omega
theorem MZ {c : B0} {C : List (List (List Int))} (hc : c.Is) (hl : (C.length : Int)=c.AR) (hs : ∀ x : Nat,x<C.length→∀ s,s∈C.getD x default→c.Ax x s) (t : Fl c C) {x : Nat} (hx : x<C.length) : E4 c C x∈C.getD x default:=by
 have aM : x<c.AR.toNat:=by omega
 have ho:=GO hc.1 (x:=(x : Int))
 suffices key : ∀ R : List (List Int),(∀ s,s∈R→s∈C.getD x default)→c.Ax x ((outs c x).filter (E8 R))∧(outs c x).filter (E8 R)∈C.getD x default from (key _ fun s h=>h).2
 intro R
 have mem : ∀ (R : List (List Int)) (a : Int),a∈(outs c x).filter (E8 R)↔a∈outs c x∧∀ s,s∈R→a∈s:=fun R a=>by rw [List.mem_filter,E8,decide_eq_true_eq]
 induction R with
 | nil =>
  intro _
  have e : (outs c x).filter (E8 [])=outs c x:=List.filter_eq_self.mpr fun a _=>by simp [E8]
  rw [e];exact ⟨ho,t.top x aM⟩
 | cons s R ih =>
  intro hR
  obtain ⟨i1,i2⟩:=ih fun u hu=>hR u (by simp [hu])
  have hsC:=hR s (by simp)
  have hJ:=hs x hx s hsC
  have EZ : c.Ax x ((outs c x).filter (E8 (s::R))):=by
   refine .mk' ?_ (fun a ha=>ho.arr ((mem _ a).mp ha).1) fun a b ha hb e=>?_
   ·have:=DI.mp ho.iX;rw [DI];exact this.filter _
   ·have:=(mem _ a).mp ha;refine (mem _ _).mpr ⟨ho.Jt this.1 hb e,fun u hu=>?_⟩
    rcases List.mem_cons.mp hu with rfl | Lv
    ·exact hJ.Jt (this.2 _ (by simp)) hb e
    ·exact (hs x hx u (hR u hu)).Jt (this.2 u hu) hb e
  refine ⟨EZ,t.loc x aM _ i2 _ EZ fun a ha=>?_⟩
  have Ew:=i1.arr ha
  have hp:=t.pull a.toNat Ew.1.2 s (by
   have e : c.AH.getD a.toNat default=x:=Ew.2;rw [e]; simpa using hsC)
  rw [Int.toNat_of_nonneg Ew.1.1] at hp
  have e2 : DR c a ((outs c x).filter (E8 (s::R)))=DR c a s:=by
   refine B0.Ax.ext (c:=c) (x:=ix c.to a) (EU hc Ew.1 (by rw [Ew.2]; exact EZ)) (EU hc Ew.1 (by rw [Ew.2]; exact hJ)) fun b=>?_;rw [E3,E3];refine and_congr_right fun hb=>and_congr_right fun Ic=>?_;rw [mem]
   constructor
   ·exact fun h=>h.2 s (by simp)
   ·intro h
    have hm:=(mem R a).mp ha;refine ⟨ho.Jt hm.1 hb Ic,fun u hu=>?_⟩
    rcases List.mem_cons.mp hu with rfl | Lv
    ·exact h
    ·exact (hs x hx u (hR u hu)).Jt (hm.2 u Lv) hb Ic
  rw [e2];exact hp
def eH (f : SF) (C : List (List (List Int))) : Prop:=∀ x : Nat,x<C.length→∀ s,s∈C.getD x default→Kv f x s
def Bw (f : SF) (V : List (List Int)) : Prop:=∀ x : Nat,x<V.length→Jc f x (V.getD x default)
theorem Ze {f : SF} {C : List (List (List Int))} (h : f.Shape) (hc : f.DE) (hl : (C.length : Int)=f.shape.AR) (hs : ∀ x : Nat,x<C.length→∀ s,s∈C.getD x default→f.shape.Ax x s) (t : Fl f.shape C) :
  eH f C↔Bw f (Ag f.shape C):=by
 have v:=Jn h.is hl hs t
 have QW : (Ag f.shape C).length=C.length:=by simp [Ag]
 have e : ∀ x : Nat,x<C.length→(Ag f.shape C).getD x default=E4 f.shape C x:=fun x hx=>by rw [Ag,AS _ _ hx]
 constructor
 ·intro q x hx;rw [QW] at hx
  have EZ:=v.sv x (by omega);refine (L1 h hc EZ ⟨by omega,by omega⟩).mp ?_;rw [e x hx];exact q x hx _ (MZ h.is hl hs t hx)
 ·intro q x hx s Kl;refine lO h hc v (fun y hy=>?_) (x:=(x : Int)) ⟨by omega,by omega⟩ (hs x hx s Kl) fun a ha=>?_
  ·have:=q y.toNat (by omega)
   have EZ:=v.at hy;refine (L1 h hc EZ hy).mpr ?_;rw [Int.toNat_of_nonneg hy.1] at this;exact this
  ·rw [Jm (by simpa using hx)] at ha;exact (G2.mp ha).2 s (by simpa using Kl)
end Go.Shf
namespace Go.Shf
open Go.AW
structure Cz (f g : SF) (p : List (List Int)) : Prop where
 len : (p.length : Int)=f.shape.AR
 pl : ∀ x : Int,0≤x∧x<f.shape.AR→((ix p x).length : Int)=ix f.A4 x∧∀ e : Int,0≤e∧e<ix f.A4 x→0≤ix (ix p x) e∧ix (ix p x) e<ix g.A4 x
 nl : ∀ b : Int,0≤b∧b.toNat<f.shape.AH.length→∀ e : Int,0≤e∧e<ix f.A4 (ix f.shape.AH b)→ix (ix p (ix f.shape.to b)) (ix (ix f.Aa b) e)=ix (ix g.Aa b) (ix (ix p (ix f.shape.AH b)) e)
def D9 (c : B0) (p : List (List Int)) (s t : List Int) : List Int:=(List.range s.length).map fun k=>ix (ix p (ix c.to (s.getD k default))) (t.getD k default)
noncomputable def Cs (f g : SF) (V : List (List Int)) (p : List (List Int)) (x : Nat) : List Int:=(Au f V x).map fun t=>indexOf (Au g V x) (D9 f.shape p (V.getD x default) t)
noncomputable def Bb (f g : SF) (V : List (List Int)) (p : List (List Int)) : List (List Int):=(List.range V.length).map (Cs f g V p)
theorem dW (c : B0) (p : List (List Int)) (s t : List Int) : (D9 c p s t).length=s.length:=by simp [D9]
theorem Jd {c : B0} {p : List (List Int)} {s t : List Int} (HK : s.Nodup) : D9 c p s t=s.map fun a=>ix (ix p (ix c.to a)) (entry s t a):=by
 refine List.ext_getElem (by simp [D9]) fun i h1 h2=>?_
 have hi : i<s.length:=by simpa [D9] using h1
 have:=Bp HK hi
 have e : s.getD i default=s[i]:=by simp [gE,hi]
 simp only [D9,List.getElem_map,List.getElem_range,entry];rw [e] at this ⊢;rw [this,AJ]
section
variable {f g : SF} {p : List (List Int)} {V : List (List Int)}
theorem Iw (h : f.Shape) (hg : g.Shape) (e : f.shape=g.shape) (m : Cz f g p) {x : Int} {s t : List Int} (hs : f.shape.Ax x s) (ht : NQ f s t) : NQ g s (D9 f.shape p s t):=by
 rw [Jd hs.nodup]
 have Hf:=hs;rw [e] at Hf;refine P7 hg Hf _ (fun a ha=>?_) fun a b ha hb Ic=>?_
 ·have hv:=hs.arr ha
  have:=(m.pl _ (h.is.1.C7 hv.1.2)).2 _ (ht.Dh ha);rw [← e]; exact this
 ·rw [← e] at hb Ic
  have hv:=hs.arr ha
  have hr:=ht.Dh ha;rw [Ic] at hr
  have h1:=m.nl b hb _ hr;rw [ht.EK h hs ha hb Ic] at h1;rw [← e,Ic,← h1,(h.is.1.comp hv.1 hb Ic).2.2]
theorem O3 (h : f.Shape) (v : BT f.shape V) {b : Int} (hb : 0≤b∧b.toNat<f.shape.AH.length) (t : List Int) :
  D9 f.shape p (ix V (ix f.shape.to b)) (Bd f.shape V b t)=Bd f.shape V b (D9 f.shape p (ix V (ix f.shape.AH b)) t):=by
 have HJ:=v.to h.is hb
 have tq:=v.AH h.is hb;refine Er (s:=ix V (ix f.shape.to b)) HJ.nodup (dW ..) (by rw [Bd,List.length_map]) fun d hd=>?_
 have YF:=HJ.arr hd
 have Ss:=v.st b hb d hd;rw [Jd HJ.nodup,Jd tq.nodup,Dd hd,C1 hd,C1 hd,Dd Ss,(h.is.1.comp hb YF.1 YF.2.symm).2.2]
theorem EP (h : f.Shape) (hg : g.Shape) (e : f.shape=g.shape) (m : Cz f g p) (v : BT f.shape V) : Cz (AO f V) (AO g V) (Bb f g V p):=by
 have hl:=v.len
 have v':=v;rw [e] at v'
 have EI : ∀ x : Int,0≤x∧x<f.shape.AR→∀ t,t∈BQ f (ix V x)→D9 f.shape p (ix V x) t∈BQ g (ix V x):=fun x hx t ht =>
  ((Ba hg (v'.at (by rw [← e]; exact hx))).mem _).mpr (Iw h hg e m (v.at hx) (((Ba h (v.at hx)).mem _).mp ht))
 have II : ∀ x : Int,0≤x∧x<f.shape.AR→ix (Bb f g V p) x=(BQ f (ix V x)).map fun t=>indexOf (BQ g (ix V x)) (D9 f.shape p (ix V x) t):=fun x hx=>by
  rw [ix,Bb,AS _ _ (by omega)]; rfl
 refine ⟨by show ((Bb f g V p).length : Int)=_; simp [Bb]; exact hl,fun x hx=>?_,fun b hb k hk=>?_⟩
 ·replace hx : 0≤x∧x<f.shape.AR:=hx;refine ⟨?_,fun k hk=>?_⟩
  ·show ((ix (Bb f g V p) x).length : Int)=ix (B5 f V) x
   rw [II x hx,BI v hx,List.length_map]
  ·show 0≤ix (ix (Bb f g V p) x) k∧ix (ix (Bb f g V p) x) k<ix (B5 g V) x
   replace hk : 0≤k∧k<ix (B5 f V) x:=hk;rw [BI v hx] at hk;rw [II x hx,BI v' (by rw [← e]; exact hx),ix,B8 _ (by omega)]
   have:=B3 (EI x hx _ (Bi (l:=BQ f (ix V x)) (i:=k) (by omega)))
   have h2:=this.2.1;simp only [ix] at this h2 ⊢;omega
 ·replace hb : 0≤b∧b.toNat<f.shape.AH.length:=hb
  have IL:=h.is.1.Cl hb.2
  have Cu:=h.is.1.C7 hb.2
  replace hk : 0≤k∧k<ix (B5 f V) (ix f.shape.AH b):=hk;rw [BI v IL] at hk
  show ix (ix (Bb f g V p) (ix f.shape.to b)) (ix (ix (BK f V) b) k)=ix (ix (BK g V) b) (ix (ix (Bb f g V p) (ix f.shape.AH b)) k)
  have lV:=Bi (l:=BQ f (ix V (ix f.shape.AH b))) (i:=k) (by omega)
  have s1:=DK h v hb (k:=k) (by omega)
  have i1:=B3 s1.2
  have i2:=B3 (EI _ IL _ lV)
  have e1 : ix (ix (Bb f g V p) (ix f.shape.AH b)) k=indexOf (BQ g (ix V (ix f.shape.AH b))) (D9 f.shape p (ix V (ix f.shape.AH b)) (ix (BQ f (ix V (ix f.shape.AH b))) k)):=by
   rw [II _ IL,ix,B8 _ (by omega)]; rfl
  have s2:=DK (f:=g) (V:=V) hg v' (a:=b) (by rw [← e]; exact hb) (k:=ix (ix (Bb f g V p) (ix f.shape.AH b)) k) (by rw [← e,e1]; exact ⟨i2.1,i2.2.1⟩);rw [s2.1,← e,e1,i2.2.2,s1.1,II _ Cu,ix,B8 _ i1.2.1]
  have e3 : (BQ f (ix V (ix f.shape.to b))).getD (indexOf (BQ f (ix V (ix f.shape.to b))) (Bd f.shape V b (ix (BQ f (ix V (ix f.shape.AH b))) k))).toNat default=Bd f.shape V b (ix (BQ f (ix V (ix f.shape.AH b))) k):=i1.2.2;rw [e3,O3 h v hb]
end
end Go.Shf
namespace Go.Shf
open Go.AW
def gl (f : SF) (x : Int) (s t : List Int) : Int:=ix (glue f x s t) 0
theorem NX {f : SF} {x : Int} {s t : List Int} (h : EW f x s t) : ((0≤gl f x s t∧gl f x s t<ix f.A4 x)∧Bl f s (gl f x s t)=t)∧∀ e : Int,0≤e∧e<ix f.A4 x→Bl f s e=t→e=gl f x s t:=by
 have h1:=h;rw [EW] at h1
 have hm : gl f x s t∈glue f x s t:=Bi (l:=glue f x s t) (i:=0) (by simp; omega)
 have h2:=Ha.mp hm;refine ⟨h2,fun e he hi=>?_⟩
 obtain ⟨e0,_,q⟩:=Ej.mp h;exact (q e he hi).trans (q _ h2.1 h2.2).symm
noncomputable def Ix (f g : SF) (V : List (List Int)) (p : List (List Int)) (x : Nat) : List Int:=(Au f V x).map fun t=>gl g x (V.getD x default) (D9 f.shape p (V.getD x default) t)
noncomputable def E6 (f g : SF) (V : List (List Int)) (p : List (List Int)) : List (List Int):=(List.range V.length).map (Ix f g V p)
section
variable {f g : SF} {p : List (List Int)} {V : List (List Int)}
theorem KM (hg : g.Shape) (hc : g.DE) (v : BT g.shape V) (hs : Bw g V) {x : Int} (hx : 0≤x∧x<g.shape.AR) {t : List Int} (ht : NQ g (ix V x) t) : EW g x (ix V x) t:=by
 have hl:=v.len
 have h1:=hs x.toNat (by omega);rw [Int.toNat_of_nonneg hx.1] at h1;exact ((L1 hg hc (v.at hx) hx).mpr h1).2 t (((Ba hg (v.at hx)).mem _).mpr ht)
theorem Ui (h : f.Shape) (hg : g.Shape) (hc : g.DE) (e : f.shape=g.shape) (m : Cz f g p) (v : BT f.shape V) (hs : Bw g V) : Cz (AO f V) g (E6 f g V p):=by
 have hl:=v.len
 have v':=v;rw [e] at v'
 have Gj : ∀ x : Int,0≤x∧x<f.shape.AR→∀ t,t∈BQ f (ix V x)→NQ g (ix V x) (D9 f.shape p (ix V x) t):=fun x hx t ht=>Iw h hg e m (v.at hx) (((Ba h (v.at hx)).mem _).mp ht)
 have sk : ∀ x : Int,0≤x∧x<f.shape.AR→∀ t,t∈BQ f (ix V x)→EW g x (ix V x) (D9 f.shape p (ix V x) t):=fun x hx t ht=>KM hg hc v' hs (by rw [← e]; exact hx) (Gj x hx t ht)
 have II : ∀ x : Int,0≤x∧x<f.shape.AR→ix (E6 f g V p) x=(BQ f (ix V x)).map fun t=>gl g x (ix V x) (D9 f.shape p (ix V x) t):=fun x hx=>by
  rw [ix,E6,AS _ _ (by omega)]
  show (Au f V x.toNat).map _=_
  rw [Int.toNat_of_nonneg hx.1]; rfl
 refine ⟨by show ((E6 f g V p).length : Int)=_; simp [E6]; exact hl,fun x hx=>?_,fun b hb k hk=>?_⟩
 ·replace hx : 0≤x∧x<f.shape.AR:=hx;refine ⟨?_,fun k hk=>?_⟩
  ·show ((ix (E6 f g V p) x).length : Int)=ix (B5 f V) x
   rw [II x hx,BI v hx,List.length_map]
  ·replace hk : 0≤k∧k<ix (B5 f V) x:=hk;rw [BI v hx] at hk;rw [II x hx,ix,B8 _ (by omega)];exact (NX (sk x hx _ (Bi (l:=BQ f (ix V x)) (i:=k) (by omega)))).1.1
 ·replace hb : 0≤b∧b.toNat<f.shape.AH.length:=hb
  have IL:=h.is.1.Cl hb.2
  have Cu:=h.is.1.C7 hb.2
  replace hk : 0≤k∧k<ix (B5 f V) (ix f.shape.AH b):=hk;rw [BI v IL] at hk
  show ix (ix (E6 f g V p) (ix f.shape.to b)) (ix (ix (BK f V) b) k)=ix (ix g.Aa b) (ix (ix (E6 f g V p) (ix f.shape.AH b)) k)
  have lV:=Bi (l:=BQ f (ix V (ix f.shape.AH b))) (i:=k) (by omega)
  have s1:=DK h v hb (k:=k) (by omega)
  have i1:=B3 s1.2
  have e1 : ix (ix (E6 f g V p) (ix f.shape.AH b)) k=gl g (ix f.shape.AH b) (ix V (ix f.shape.AH b)) (D9 f.shape p (ix V (ix f.shape.AH b)) (ix (BQ f (ix V (ix f.shape.AH b))) k)):=by
   rw [II _ IL,ix,B8 _ (by omega)]; rfl
  have e3 : (BQ f (ix V (ix f.shape.to b))).getD (indexOf (BQ f (ix V (ix f.shape.to b))) (Bd f.shape V b (ix (BQ f (ix V (ix f.shape.AH b))) k))).toNat default=Bd f.shape V b (ix (BQ f (ix V (ix f.shape.AH b))) k):=i1.2.2;rw [e1,s1.1,II _ Cu,ix,B8 _ i1.2.1,e3]
  have u1:=NX (sk _ IL _ lV)
  have u2:=NX (sk _ Cu _ s1.2)
  generalize ht : ix (BQ f (ix V (ix f.shape.AH b))) k=t at *
  generalize gl g (ix f.shape.AH b) (ix V (ix f.shape.AH b)) (D9 f.shape p (ix V (ix f.shape.AH b)) t)=y at *
  have hgb : 0≤b∧b.toNat<g.shape.AH.length:=by rw [← e]; exact hb
  have Pz:=hg.al
  have hlen:=hg.DN (a:=b) (by omega);rw [← e] at hlen;refine (u2.2 _ ?_ ?_).symm
  ·have:=(hg.act b.toNat (by omega)).2 _ (Bi (l:=ix g.Aa b) (i:=y) (by omega));rw [← e] at this;exact this
  ·rw [O3 h v hb]
   have HJ:=v.to h.is hb
   have tq:=v.AH h.is hb;rw [Bl,Bd];refine List.map_congr_left fun d hd=>?_
   have YF:=HJ.arr hd
   have Ss:=v.st b hb d hd
   have Ma:=hc b d hgb (by rw [← e]; exact YF.1) (by rw [← e]; exact YF.2.symm) y ⟨u1.1.1.1,by omega⟩;rw [← e] at Ma;rw [← Ma]
   have:=u1.1.2
   have c3 : entry (ix V (ix f.shape.AH b)) (Bl g (ix V (ix f.shape.AH b)) y) (ix (ix f.shape.comp b) d)=entry (ix V (ix f.shape.AH b)) (D9 f.shape p (ix V (ix f.shape.AH b)) t) (ix (ix f.shape.comp b) d):=by rw [this]
   rw [Bl,Dd Ss] at c3;exact c3
end
end Go.Shf
namespace Go.Shf
open Go.AW
def O1 (c : B0) (V : List (List Int)) : Prop:=∀ x : Int,0≤x∧x<c.AR→∀ d,d∈ix V x→∃ a,a∈ix V x∧∃ b,b∈ix V (ix c.to a)∧ix (ix c.comp a) b=d
def yY (f : SF) (V : List (List Int)) : Prop:=∀ x : Int,0≤x∧x<f.shape.AR→∀ e e' : Int,(0≤e∧e<ix f.A4 x)→(0≤e'∧e'<ix f.A4 x)→Bl f (ix V x) e=Bl f (ix V x) e'→e=e'
section
variable {c : B0} {C : List (List (List Int))}
theorem Fl.sup (t : Fl c C) (hc : c.Is) (hl : (C.length : Int)=c.AR) (hs : ∀ x : Nat,x<C.length→∀ s,s∈C.getD x default→c.Ax x s) {x : Nat} (hx : x<c.AR.toNat) {s u : List Int}
  (h : s∈C.getD x default) (hu : c.Ax x u) (Cq : ∀ a,a∈s→a∈u) : u∈C.getD x default:=by
 refine t.loc x hx s h u hu fun a ha=>?_
 have Ew:=(hs x (by omega) s h).arr ha
 have Cu:=hc.1.C7 Ew.1.2
 have e : DR c a u=outs c (ix c.to a):=by
  refine B0.Ax.ext (c:=c) (x:=ix c.to a) (EU hc Ew.1 (by rw [Ew.2]; exact hu)) (GO hc.1 _) fun b=>?_;rw [E3,BV]
  constructor
  ·rintro ⟨h1,h2,_⟩; exact ⟨h1.1,h1.2,h2.symm⟩
  ·rintro ⟨h1,h2,h3⟩; exact ⟨⟨h1,h2⟩,h3.symm,hu.Jt (Cq a ha) ⟨h1,h2⟩ h3.symm⟩
 rw [e]
 have:=t.top (ix c.to a).toNat (by omega)
 rwa [Int.toNat_of_nonneg Cu.1] at this
theorem dS (hc : c.Is) (hl : (C.length : Int)=c.AR) (hs : ∀ x : Nat,x<C.length→∀ s,s∈C.getD x default→c.Ax x s) (t : Fl c C) : O1 c (Ag c C):=by
 have v:=Jn hc hl hs t
 intro x hx d hd
 have Pp : x.toNat<C.length:=by omega
 have e0 : ix (Ag c C) x=E4 c C x.toNat:=Jm Pp
 have hm:=MZ hc hl hs t Pp;rw [← e0] at hm
 let P : Nat→Bool:=fun i=>dec (∃ a,a∈ix (Ag c C) x∧∃ b,b∈ix (Ag c C) (ix c.to a)∧ix (ix c.comp a) b=(i : Int))
 have hP : ∀ y : Int,y∈Ea P c.AH.length↔(0≤y∧y.toNat<c.AH.length)∧∃ a,a∈ix (Ag c C) x∧∃ b,b∈ix (Ag c C) (ix c.to a)∧ix (ix c.comp a) b=y:=by
  intro y;rw [HS]
  constructor
  ·rintro ⟨h1,h2,h3⟩
   have:=FK.mp h3;rw [Int.toNat_of_nonneg h1] at this;exact ⟨⟨h1,h2⟩,this⟩
  ·rintro ⟨⟨h1,h2⟩,h3⟩;refine ⟨h1,h2,Ay ?_⟩;rw [Int.toNat_of_nonneg h1]; exact h3
 have rH:=v.at hx
 have hu : c.Ax x (Ea P c.AH.length):=by
  refine .mk' (DS _ _) (fun a ha=>?_) fun a b ha hb e=>?_
  ·obtain ⟨h1,a',Md,b',Kq,rfl⟩:=(hP a).mp ha
   have Ew:=rH.arr Md
   have FY:=(v.to hc Ew.1).arr Kq;exact ⟨h1,(hc.1.comp Ew.1 FY.1 FY.2.symm).2.1.trans Ew.2⟩
  ·obtain ⟨h1,a',Md,b',Kq,rfl⟩:=(hP a).mp ha
   have Ew:=rH.arr Md
   have nK:=v.to hc Ew.1
   have FY:=nK.arr Kq
   have h2:=hc.1.comp Ew.1 FY.1 FY.2.symm;rw [h2.2.2] at e
   have h3:=hc.1.comp FY.1 hb e;refine (hP _).mpr ⟨(hc.1.comp h1 hb (by rw [h2.2.2]; exact e)).1,a',Md,_,nK.Jt Kq hb e, ?_⟩;exact (hc.assoc Ew.1 FY.1 hb FY.2.symm e).symm
 have IZ : (x.toNat : Int)=x:=Int.toNat_of_nonneg hx.1
 have EI : Ea P c.AH.length∈C.getD x.toNat default:=by
  refine t.loc x.toNat (by omega) _ hm _ (by rw [IZ]; exact hu) fun a ha=>?_
  have Ew:=rH.arr ha
  have Cu:=hc.1.C7 Ew.1.2
  have Dz:=MZ hc hl hs t (x:=(ix c.to a).toNat) (by omega);rw [← Jm (by omega)] at Dz
  have hto' : ((ix c.to a).toNat : Int)=ix c.to a:=Int.toNat_of_nonneg Cu.1;refine t.sup hc hl hs (by omega) Dz (by rw [hto']; exact EU hc Ew.1 (by rw [Ew.2]; exact hu)) fun b hb=>?_
  have FY:=(v.to hc Ew.1).arr hb;exact E3.mpr ⟨FY.1,FY.2.symm,(hP _).mpr ⟨(hc.1.comp Ew.1 FY.1 FY.2.symm).1,a,ha,b,hb,rfl⟩⟩
 rw [e0] at hd;exact ((hP d).mp ((G2.mp hd).2 _ EI)).2
end
section
variable {f : SF} {V : List (List Int)}
theorem Jh (h : f.Shape) (v : BT f.shape V) {x : Int} (hx : 0≤x∧x<f.shape.AR) {k : Int} (hk : 0≤k∧k.toNat<(BQ f (ix V x)).length) : NQ f (ix V x) (ix (BQ f (ix V x)) k)∧indexOf (BQ f (ix V x)) (ix (BQ f (ix V x)) k)=k:=by
 have hf:=Ba h (v.at hx);refine ⟨(hf.mem _).mp (Bi hk.2), ?_⟩
 have:=Bp hf.nodup hk.2;rw [Int.toNat_of_nonneg hk.1] at this;exact this
theorem Xl (h : f.Shape) (v : BT f.shape V) {x : Int} (hx : 0≤x∧x<f.shape.AR) {t : List Int} (ht : NQ f (ix V x) t) : (0≤indexOf (BQ f (ix V x)) t∧(indexOf (BQ f (ix V x)) t).toNat<(BQ f (ix V x)).length)∧ix (BQ f (ix V x)) (indexOf (BQ f (ix V x)) t)=t:=by
 have:=B3 (((Ba h (v.at hx)).mem _).mpr ht);exact ⟨⟨this.1,this.2.1⟩,this.2.2⟩
theorem D6 {s : List Int} {e a : Int} (ha : a∈s) : entry s (Bl f s e) a=ix (ix f.Aa a) e:=Dd ha
theorem UG (h : f.Shape) (v : BT f.shape V) (hi : O1 f.shape V) : yY (AO f V) V:=by
 intro x hx k k' hk JP e
 replace hx : 0≤x∧x<f.shape.AR:=hx
 replace hk : 0≤k∧k<ix (B5 f V) x:=hk
 replace JP : 0≤k'∧k'<ix (B5 f V) x:=JP;rw [BI v hx] at hk JP
 have hv:=v.at hx
 obtain ⟨f1,i1⟩:=Jh h v hx (k:=k) ⟨hk.1,by omega⟩
 obtain ⟨f2,i2⟩:=Jh h v hx (k:=k') ⟨JP.1,by omega⟩
 suffices ht : ix (BQ f (ix V x)) k=ix (BQ f (ix V x)) k' by rw [← i1,← i2,ht]
 refine Er hv.nodup f1.len f2.len fun d hd=>?_
 obtain ⟨a,ha,b,hb,rfl⟩:=hi x hx d hd
 have Ew:=hv.arr ha
 have e1 : ix (ix (BK f V) a) k=ix (ix (BK f V) a) k':=by
  have:=congrArg (fun l=>entry (ix V x) l a) e;simp only [D6 ha] at this;exact this
 have s1:=DK h v Ew.1 (k:=k) (by rw [Ew.2]; exact ⟨hk.1,by omega⟩)
 have s2:=DK h v Ew.1 (k:=k') (by rw [Ew.2]; exact ⟨JP.1,by omega⟩);rw [s1.1,s2.1,Ew.2] at e1;rw [Ew.2] at s1 s2
 have e2 : Bd f.shape V a (ix (BQ f (ix V x)) k)=Bd f.shape V a (ix (BQ f (ix V x)) k'):=by rw [← (B3 s1.2).2.2,← (B3 s2.2).2.2,e1]
 have m1:=C1 (c:=f.shape) (V:=V) (a:=a) (b:=b) (t:=ix (BQ f (ix V x)) k) hb
 have m2:=C1 (c:=f.shape) (V:=V) (a:=a) (b:=b) (t:=ix (BQ f (ix V x)) k') hb;rw [Ew.2] at m1 m2;rw [← m1,← m2,e2]
theorem bG (h : f.Shape) (hc : f.DE) {s : List Int} {x : Int} (hs : f.shape.Ax x s) (hx : 0≤x∧x<f.shape.AR)
  (hi : ∀ e e' : Int,(0≤e∧e<ix f.A4 x)→(0≤e'∧e'<ix f.A4 x)→Bl f s e=Bl f s e'→e=e') (hj : ∀ t,NQ f s t→∃ e : Int,(0≤e∧e<ix f.A4 x)∧Bl f s e=t) : Jc f x s:=by
 have hz:=h.Dk hx
 have Ga:=Ba h hs;refine (L1 h hc hs hx).mp ⟨?_,fun t ht=>?_⟩
 ·have:=List.Nodup.length_le_of_subset (l₂:=(List.range (ix f.A4 x).toNat).map fun e : Nat=>Bl f s e) Ga.nodup fun t ht=>by
   obtain ⟨e,h4,h5⟩:=hj t ((Ga.mem _).mp ht);exact List.mem_map.mpr ⟨e.toNat,List.mem_range.mpr (by omega),by rw [Int.toNat_of_nonneg h4.1]; exact h5⟩
  simp only [List.length_map,List.length_range] at this;omega
 ·obtain ⟨e,h4,h5⟩:=hj t ((Ga.mem _).mp ht);exact Ej.mpr ⟨e,⟨h4,h5⟩,fun e' h6 h7=>hi e' e h6 h4 (h7.trans h5.symm)⟩
theorem c5 (v : BT f.shape V) (hs : ∀ x : Int,0≤x∧x<f.shape.AR→Jc f x (ix V x)) : Bw f V:=fun x hx=>by
 have hl:=v.len
 have:=hs x ⟨by omega,by omega⟩;rw [AJ] at this;exact this
theorem SE (h : f.Shape) {x a e : Int} (ha : 0≤a∧a.toNat<f.shape.AH.length) (hx : ix f.shape.AH a=x) (he : 0≤e∧e<ix f.A4 x) : 0≤ix (ix f.Aa a) e∧ix (ix f.Aa a) e<ix f.A4 (ix f.shape.to a):=by
 have Pz:=h.al
 have h1:=h.DN ha.2;rw [hx] at h1;exact (h.act a.toNat (by omega)).2 _ (Bi (l:=ix f.Aa a) (by omega))
theorem Xj (h : f.Shape) {x a e : Int} (ha : 0≤a∧a.toNat<f.shape.AH.length) (hx : ix f.shape.AH a=x) (he : 0≤e∧e<ix f.A4 x) : 0≤e∧e.toNat<(ix f.Aa a).length:=by
 have h1:=h.DN ha.2;rw [hx] at h1;omega
theorem W6 (h : f.Shape) (hc : f.DE) (v : BT f.shape V) (hi : O1 f.shape V) (hf : Bh f V) (hsep : yY f V) : Bw (AO f V) V:=by
 have hF:=Bx h v hf
 have qV:=G4 h v hf;refine c5 (f:=AO f V) v fun x hx=>?_;refine bG hF qV (v.at hx) hx (UG h v hi x hx) fun T hT=>?_
 replace hx : 0≤x∧x<f.shape.AR:=hx
 have hv:=v.at hx
 have Cu : ∀ a,a∈ix V x→0≤ix f.shape.to a∧ix f.shape.to a<f.shape.AR:=fun a ha=>h.is.1.C7 (hv.arr ha).1.2
 have hr : ∀ a,a∈ix V x→0≤entry (ix V x) T a∧(entry (ix V x) T a).toNat<(BQ f (ix V (ix f.shape.to a))).length:=fun a ha=>by
  have h1:=hT.Dh ha
  replace h1 : 0≤entry (ix V x) T a∧entry (ix V x) T a<ix (B5 f V) (ix f.shape.to a):=h1;rw [BI v (Cu a ha)] at h1;omega
 let τ : Int→List Int:=fun a=>ix (BQ f (ix V (ix f.shape.to a))) (entry (ix V x) T a)
 have hτ : ∀ a,a∈ix V x→NQ f (ix V (ix f.shape.to a)) (τ a)∧indexOf (BQ f (ix V (ix f.shape.to a))) (τ a)=entry (ix V x) T a:=fun a ha=>Jh h v (Cu a ha) (hr a ha)
 have jf : ∀ a b,a∈ix V x→(0≤b∧b.toNat<f.shape.AH.length)→ix f.shape.to a=ix f.shape.AH b→Bd f.shape V b (τ a)=τ (ix (ix f.shape.comp a) b):=fun a b ha hb e=>by
  have hd:=hv.Jt ha hb e
  have aF:=h.is.1.comp (hv.arr ha).1 hb e
  have tc:=hT.EK hF (v.at hx) ha hb e
  replace tc : ix (ix (BK f V) b) (entry (ix V x) T a)=entry (ix V x) T (ix (ix f.shape.comp a) b):=tc
  have s1:=DK h v hb (k:=entry (ix V x) T a) (by rw [← e]; exact hr a ha);rw [← e] at s1;rw [s1.1] at tc
  have q:=(B3 s1.2).2.2;rw [tc] at q
  show Bd f.shape V b (τ a)=ix (BQ f (ix V (ix f.shape.to (ix (ix f.shape.comp a) b)))) (entry (ix V x) T (ix (ix f.shape.comp a) b))
  rw [aF.2.2];exact q.symm
 have key : ∀ a b,a∈ix V x→b∈ix V (ix f.shape.to a)→Bl f (ix V (ix f.shape.to b)) (entry (ix V (ix f.shape.to a)) (τ a) b)=τ (ix (ix f.shape.comp a) b):=fun a b ha hb=>by
  have nK:=v.at (Cu a ha)
  have FY:=nK.arr hb
  have aF:=h.is.1.comp (hv.arr ha).1 FY.1 FY.2.symm
  have hd:=hv.Jt ha FY.1 FY.2.symm
  have gq:=v.at (h.is.1.C7 FY.1.2)
  have Zt:=(hτ _ hd).1;rw [aF.2.2] at Zt;refine Er gq.nodup (by simp [Bl]) Zt.len fun c Sr=>?_
  have Im:=gq.arr Sr;rw [D6 Sr,(hτ a ha).1.EK h nK hb Im.1 Im.2.symm,← jf a b ha FY.1 FY.2.symm,C1 Sr,FY.2]
 have hex : ∀ d,d∈ix V x→∃ e : Int,(0≤e∧e<ix f.A4 (ix f.shape.to d))∧Bl f (ix V (ix f.shape.to d)) e=τ d:=fun d hd=>by
  obtain ⟨a,ha,b,hb,rfl⟩:=hi x hx d hd
  have FY:=(v.at (Cu a ha)).arr hb
  have aF:=h.is.1.comp (hv.arr ha).1 FY.1 FY.2.symm;rw [aF.2.2];exact ⟨_,(hτ a ha).1.Dh hb,key a b ha hb⟩
 let g : Int→Int:=fun d=>@dite Int (d∈ix V x) (Classical.propDecidable _) (fun hd=>Classical.choose (hex d hd)) fun _=>0
 have hg : ∀ d,d∈ix V x→(0≤g d∧g d<ix f.A4 (ix f.shape.to d))∧Bl f (ix V (ix f.shape.to d)) (g d)=τ d:=fun d hd=>by
  have e : g d=Classical.choose (hex d hd):=dif_pos hd;rw [e]; exact Classical.choose_spec (hex d hd)
 have Su : ∀ d,d∈ix V x→∀ e : Int,(0≤e∧e<ix f.A4 (ix f.shape.to d))→Bl f (ix V (ix f.shape.to d)) e=τ d→e=g d:=fun d hd e he h1=>hsep _ (Cu d hd) e _ he (hg d hd).1 (h1.trans (hg d hd).2.symm)
 have ht : NQ f (ix V x) ((ix V x).map g):=P7 h hv g (fun a ha=>(hg a ha).1) fun a b ha hb e=>by
  have hd:=hv.Jt ha hb e
  have aF:=h.is.1.comp (hv.arr ha).1 hb e
  have hga:=(hg a ha).1;rw [e] at hga
  have hrb:=SE h hb rfl hga;refine Su _ hd _ (by rw [aF.2.2]; exact hrb) ?_;rw [aF.2.2]
  have gq:=v.at (h.is.1.C7 hb.2)
  have Zt:=(hτ _ hd).1;rw [aF.2.2] at Zt;refine Er gq.nodup (by simp [Bl]) Zt.len fun c Sr=>?_
  have Im:=gq.arr Sr;rw [D6 Sr,← hc b c hb Im.1 Im.2.symm _ (Xj h hb rfl hga),← jf a b ha hb e,C1 Sr]
  have vN:=v.st b hb c Sr
  have:=congrArg (fun l=>entry (ix V (ix f.shape.to a)) l (ix (ix f.shape.comp b) c)) (hg a ha).2;rw [← e] at vN ⊢;rw [D6 vN] at this;exact this
 have EI:=Xl h v hx ht;refine ⟨indexOf (BQ f (ix V x)) ((ix V x).map g), ?_, ?_⟩
 ·show _∧_<ix (B5 f V) x
  rw [BI v hx]; omega
 ·refine Er hv.nodup (by simp [Bl]) hT.len fun a ha=>?_;rw [D6 ha]
  show ix (ix (BK f V) a) _=_
  have Ew:=hv.arr ha
  have s1:=DK h v Ew.1 (k:=indexOf (BQ f (ix V x)) ((ix V x).map g)) (by rw [Ew.2]; exact EI.1);rw [s1.1,Ew.2,EI.2,← (hτ a ha).2]
  congr 1
  have nK:=v.at (Cu a ha);refine Er nK.nodup (by simp [Bd]) (hτ a ha).1.len fun b hb=>?_
  have FY:=nK.arr hb
  have hd:=hv.Jt ha FY.1 FY.2.symm
  have aF:=h.is.1.comp Ew.1 FY.1 FY.2.symm;rw [C1 hb,Ew.2,Dd hd];refine (Su _ hd _ ?_ ?_).symm
  ·rw [aF.2.2]; exact (hτ a ha).1.Dh hb
  ·rw [aF.2.2]; exact key a b ha hb
end
end Go.Shf
namespace Go.Shf
open Go.AW
end Go.Shf
namespace Go.Shf
open Go.AW
end Go.Shf
namespace Go.Shf
open Go.AW
end Go.Shf
namespace Go.Shf
open Go.AW
section
variable {f : SF} {L p : List (List (List Int))} {q m : List (List Int)}
theorem SF.Shape.U5 (h : f.Shape) {a e : Int} (ha : 0≤a∧a.toNat<f.shape.AH.length) (he : 0≤e∧e<ix f.A4 (ix f.shape.AH a)) : 0≤e∧e.toNat<(ix f.Aa a).length:=by
 have:=h.DN ha.2; omega
theorem SF.Shape.s9 (h : f.Shape) {x : Int} (hx : 0≤x∧x<f.shape.AR) : 0≤x∧x.toNat<f.A4.length:=by have:=h.sl; omega
theorem SF.Shape.XS (h : f.Shape) {a e : Int} (ha : 0≤a∧a.toNat<f.shape.AH.length) (he : 0≤e∧e<ix f.A4 (ix f.shape.AH a)) : 0≤ix (ix f.Aa a) e∧ix (ix f.Aa a) e<ix f.A4 (ix f.shape.to a) :=
 (h.act a.toNat (by rw [h.al]; exact ha.2)).2 _ (Bi (h.U5 ha he).2)
theorem Cz.ext {g : SF} {m n : List (List Int)} (hm : Cz f g m) (hn : Cz f g n) (h : ∀ x e : Int,0≤x∧x<f.shape.AR→0≤e∧e<ix f.A4 x→ix (ix m x) e=ix (ix n x) e) : m=n:=by
 have l1:=hm.len
 have l2:=hn.len;refine List.ext_getElem (by omega) fun i h1 h2=>?_
 have hi : 0≤(i : Int)∧(i : Int)<f.shape.AR:=by omega
 have r1:=(hm.pl i hi).1
 have r2:=(hn.pl i hi).1
 have e1 : ix m (i : Int)=m[i]:=by simp [AJ,gE,h1]
 have e2 : ix n (i : Int)=n[i]:=by simp [AJ,gE,h2]
 rw [e1] at r1;rw [e2] at r2;refine List.ext_getElem (by omega) fun j k1 k2=>?_
 have:=h i j hi (by omega);rw [e1,e2] at this
 simpa [AJ,gE,k1,k2] using this
end
end Go.Shf
namespace Go.Shf
open Go.AW
def uD (s t : List (List Int)) : Prop:=∃ x e : Nat,(∀ y i : Nat,(y<x∨(y=x∧i<e))→(s.getD y default).getD i default=(t.getD y default).getD i default) ∧
 (s.getD x default).getD e default<(t.getD x default).getD e default
theorem Qo {s t : List (List Int)} (h : uD s t) (k : uD t s) : False:=by
 obtain ⟨x,e,h1,h2⟩:=h
 obtain ⟨y,i,k1,k2⟩:=k
 by_cases D3 : y<x∨(y=x∧i<e)
 ·have:=h1 y i D3; omega
 ·by_cases hgt : x<y∨(x=y∧e<i)
  ·have:=k1 x e hgt; omega
  ·obtain rfl : x=y:=by omega
   obtain rfl : e=i:=by omega
   omega
def Q8 (p : List (List Int)) (y i k : Int) : List (List Int):=p.set y.toNat ((ix p y).set i.toNat k)
theorem fQ (p : List (List Int)) (y i k : Int) : (Q8 p y i k).length=p.length:=by simp [Q8]
theorem cQ (p : List (List Int)) (y i k : Int) (x : Nat) : ((Q8 p y i k).getD x default).length=(p.getD x default).length:=by
 simp only [Q8,gE,List.getElem?_set]
 by_cases h : y.toNat=x
 ·subst h
  by_cases h2 : y.toNat<p.length
  ·simp [h2,ix,gE]
  ·simp [h2,List.getElem?_eq_none (Nat.not_lt.mp h2)]
 ·rw [if_neg h]
theorem S3 (p : List (List Int)) {y i k : Int} (hy : 0≤y∧y.toNat<p.length) (hi : 0≤i∧i.toNat<(ix p y).length) {x e : Int} (hx : 0≤x) (he : 0≤e) :
  ix (ix (Q8 p y i k) x) e=if x=y∧e=i then k else ix (ix p x) e:=by
 simp only [Q8,ix,gE,List.getElem?_set]
 by_cases h : y.toNat=x.toNat
 ·have hxy : x=y:=by omega
  subst hxy;simp only [if_true,hy.2,if_true,Option.getD_some]
  have sG:=hi.2;simp only [ix,gE] at sG;rw [List.getElem?_set]
  by_cases h2 : i.toNat=e.toNat
  ·have : e=i:=by omega
   subst this
   simp [sG]
  ·have : ¬ e=i:=fun h=>h2 (by rw [h])
   simp [h2,this]
 ·have : ¬ x=y:=fun e=>h (by rw [e]);rw [if_neg h]
  simp [this]
section
variable {f g : SF}
structure PT (f g : SF) (p : List (List Int)) : Prop where
 len : p.length=f.A4.length
 row : ∀ x : Nat,x<f.A4.length→((p.getD x default).length : Int)=f.A4.getD x default
 val : ∀ x e : Int,0≤x∧x<f.shape.AR→0≤e∧e<ix f.A4 x→ix (ix p x) e=-1∨(0≤ix (ix p x) e∧ix (ix p x) e<ix g.A4 x)
 cls : ∀ a : Int,(0≤a∧a.toNat<f.shape.AH.length)→∀ e : Int,0≤e∧e<ix f.A4 (ix f.shape.AH a)→0≤ix (ix p (ix f.shape.AH a)) e →
  ix (ix p (ix f.shape.to a)) (ix (ix f.Aa a) e)=ix (ix g.Aa a) (ix (ix p (ix f.shape.AH a)) e)
theorem PT.inT {p : List (List Int)} (h : f.Shape) (hp : PT f g p) {x e : Int} (hx : 0≤x∧x<f.shape.AR) (he : 0≤e∧e<ix f.A4 x) : (0≤x∧x.toNat<p.length)∧0≤e∧e.toNat<(ix p x).length:=by
 have hX:=h.s9 hx
 have:=hp.row x.toNat hX.2
 have e0 : ix f.A4 x=f.A4.getD x.toNat default:=rfl
 have e1 : (ix p x).length=(p.getD x.toNat default).length:=rfl
 have:=hp.len;exact ⟨⟨hx.1,by omega⟩,he.1,by omega⟩
def Ii (f g : SF) (p t : List (List Int)) : Prop:=Cz f g t∧∀ x e : Int,0≤x∧x<f.shape.AR→0≤e∧e<ix f.A4 x→0≤ix (ix p x) e→ix (ix t x) e=ix (ix p x) e
structure Dm (f g : SF) (p : List (List Int)) (M : List (List (List Int))) : Prop where
 N7 : M.Pairwise uD
 mem : ∀ t,t∈M↔Ii f g p t
theorem Dm.nodup {p : List (List Int)} {M : List (List (List Int))} (h : Dm f g p M) : M.Nodup:=h.N7.imp fun {a b} h e=>by subst e; exact Qo h h
theorem Dm.uniq {p : List (List Int)} {M N : List (List (List Int))} (h : Dm f g p M) (k : Dm f g p N) : M=N :=
 List.Perm.eq_of_pairwise (le:=uD) (fun a b _ _ h1 h2=>(Qo h1 h2).elim) h.N7 k.N7 ((List.perm_ext_iff_of_nodup h.nodup k.nodup).mpr fun t=>(h.mem t).trans (k.mem t).symm)
structure Ey (f g : SF) (p : List (List Int)) (x e d : Int) (k : Nat) (p' : List (List Int)) (N : List (Int × Int)) : Prop where
 len : p'.length=p.length
 row : ∀ y : Nat,(p'.getD y default).length=(p.getD y default).length
 new : ∀ y i : Int,0≤y→0≤i→ix (ix p' y) i=ix (ix p y) i∨((y,i)∈N∧∃ a,a∈(outs f.shape x).take k∧ix f.shape.to a=y∧ix (ix f.Aa a) e=i∧ix (ix p' y) i=ix (ix g.Aa a) d)
 Kn : ∀ y i : Int,(y,i)∈N→(0≤y∧y.toNat<p.length)∧(0≤i∧i.toNat<(ix p y).length)∧ix (ix p y) i=-1
 WV : ∀ a,a∈(outs f.shape x).take k→ix (ix p' (ix f.shape.to a)) (ix (ix f.Aa a) e)=ix (ix g.Aa a) d
 nl : N.length≤k
theorem Ey.zero (f g : SF) (p : List (List Int)) (x e d : Int) : Ey f g p x e d 0 p []:=⟨rfl,fun _=>rfl,fun _ _ _ _=>.inl rfl,fun _ _ h=>by simp at h,fun a h=>by simp at h,by simp⟩
theorem Ey.wc {p p' : List (List Int)} {x e d : Int} {k : Nat} {N : List (Int × Int)} (s : Ey f g p x e d k p' N) (y : Int) : (ix p' y).length=(ix p y).length:=s.row y.toNat
variable {p p' : List (List Int)} {x e d : Int} {k : Nat} {N : List (Int × Int)}
theorem take_one {α : Type} [Inhabited α] (l : List α) {k : Nat} (hk : k<l.length) : l.take (k+1)=l.take k++[l.getD k default]:=by
 have hN : l[k]=l.getD k default:=by simp [gE,hk]
 rw [← hN]; exact (List.take_append_getElem hk).symm
theorem Dc {α : Type} [Inhabited α] {l : List α} {k : Nat} (hk : k<l.length) {a : α} : a∈l.take (k+1)↔a∈l.take k∨a=l.getD k default:=by
 rw [take_one l hk]; simp
theorem Ey.same (s : Ey f g p x e d k p' N) (hk : k<(outs f.shape x).length) {a : Int} (ea : (outs f.shape x).getD k default=a) (h : ix (ix p' (ix f.shape.to a)) (ix (ix f.Aa a) e)=ix (ix g.Aa a) d) :
  Ey f g p x e d (k+1) p' N where
 len:=s.len
 row:=s.row
 new y i hy hi:=(s.new y i hy hi).imp id fun ⟨h1,b,h2,h3⟩=>⟨h1,b,(Dc hk).mpr (.inl h2),h3⟩
 Kn:=s.Kn
 WV b hb:=by
  rcases (Dc hk).mp hb with h1 | h1
  ·exact s.WV b h1
  ·rw [h1,ea]; exact h
 nl:=by have:=s.nl; omega
structure VE (f g : SF) (x e d : Int) : Prop where
 hf : f.Is
 hg : g.Is
 sh : f.shape=g.shape
 hx : 0≤x∧x<f.shape.AR
 he : 0≤e∧e<ix f.A4 x
 hd : 0≤d∧d<ix g.A4 x
theorem VE.arr (w : VE f g x e d) {b : Int} (hb : b∈outs f.shape x) : (0≤b∧b.toNat<f.shape.AH.length)∧ix f.shape.AH b=x∧(0≤ix f.shape.to b∧ix f.shape.to b<f.shape.AR) ∧
  (0≤ix (ix f.Aa b) e∧ix (ix f.Aa b) e<ix f.A4 (ix f.shape.to b))∧(0≤ix (ix g.Aa b) d∧ix (ix g.Aa b) d<ix g.A4 (ix f.shape.to b)):=by
 have h:=BV.mp hb
 have Kq : 0≤b∧b.toNat<f.shape.AH.length:=⟨h.1,h.2.1⟩
 have h3 : ix f.shape.AH b=x:=h.2.2;refine ⟨Kq,h3,w.hf.1.is.1.C7 Kq.2,w.hf.1.XS Kq (by rw [h3]; exact w.he), ?_⟩
 have:=w.hg.1.XS (a:=b) (e:=d) (by rw [← w.sh]; exact Kq) (by rw [← w.sh,h3]; exact w.hd);rw [← w.sh] at this;exact this
theorem Ey.fresh (w : VE f g x e d) (hP : PT f g p) (s : Ey f g p x e d k p' N) (hk : k<(outs f.shape x).length) {a : Int} (ea : (outs f.shape x).getD k default=a)
  (h : ¬ 0≤ix (ix p' (ix f.shape.to a)) (ix (ix f.Aa a) e)) :
  Ey f g p x e d (k+1) (Q8 p' (ix f.shape.to a) (ix (ix f.Aa a) e) (ix (ix g.Aa a) d)) (N++[(ix f.shape.to a,ix (ix f.Aa a) e)]):=by
 have hA:=w.arr (b:=a) (AE.mpr ⟨k,hk,ea⟩)
 have EI:=hP.inT w.hf.1 hA.2.2.1 hA.2.2.2.1
 have hp:=hP.val _ _ hA.2.2.1 hA.2.2.2.1
 have hy' : 0≤ix f.shape.to a∧(ix f.shape.to a).toNat<p'.length:=by rw [s.len]; exact EI.1
 have Fg : 0≤ix (ix f.Aa a) e∧(ix (ix f.Aa a) e).toNat<(ix p' (ix f.shape.to a)).length:=by rw [s.wc]; exact EI.2
 refine ⟨by rw [fQ,s.len],fun y=>by rw [cQ,s.row],fun y i h0 h1=>?_,fun y i hm=>?_,fun b hb=>?_,by have:=s.nl; simp; omega⟩
 ·rw [S3 p' hy' Fg h0 h1]
  by_cases e1 : y=ix f.shape.to a∧i=ix (ix f.Aa a) e
  ·rw [if_pos e1];exact .inr ⟨by rw [e1.1,e1.2]; simp,a,(Dc hk).mpr (.inr ea.symm),e1.1.symm,e1.2.symm,rfl⟩
  ·rw [if_neg e1];exact (s.new y i h0 h1).imp id fun ⟨q1,b,q2,q3⟩=>⟨by simp [q1],b,(Dc hk).mpr (.inl q2),q3⟩
 ·rcases List.mem_append.mp hm with hm | hm
  ·exact s.Kn y i hm
  ·rw [List.mem_singleton] at hm
   injection hm with e1 e2
   subst e1 e2;refine ⟨EI.1,EI.2, ?_⟩
   rcases s.new _ _ EI.1.1 EI.2.1 with q | ⟨_,b,hb,q3,q4,q5⟩
   ·rw [q] at h; exact hp.resolve_right fun h2=>h h2.1
   ·rw [q5] at h;exact absurd (w.arr (List.mem_of_mem_take hb)).2.2.2.2.1 h
 ·by_cases hq : ix f.shape.to b=ix f.shape.to a∧ix (ix f.Aa b) e=ix (ix f.Aa a) e
  ·rcases (Dc hk).mp hb with hb | hb
   ·have:=s.WV b hb;rw [hq.1,hq.2] at this;rw [this] at h;exact absurd (w.arr (List.mem_of_mem_take hb)).2.2.2.2.1 h
   ·rw [ea] at hb;subst hb;rw [S3 p' hy' Fg EI.1.1 EI.2.1,if_pos ⟨rfl,rfl⟩]
  ·rcases (Dc hk).mp hb with hb | hb
   ·have hB:=w.arr (List.mem_of_mem_take hb);rw [S3 p' hy' Fg hB.2.2.1.1 hB.2.2.2.1.1,if_neg hq];exact s.WV b hb
   ·rw [ea] at hb; subst hb; exact absurd ⟨rfl,rfl⟩ hq
theorem Ey.bad (w : VE f g x e d) (s : Ey f g p x e d k p' N) (hk : k<(outs f.shape x).length) {a : Int} (ea : (outs f.shape x).getD k default=a)
  (h : 0≤ix (ix p' (ix f.shape.to a)) (ix (ix f.Aa a) e)) (Bq : ix (ix p' (ix f.shape.to a)) (ix (ix f.Aa a) e)≠ix (ix g.Aa a) d) (t : List (List Int)) (ht : Ii f g p t) : ix (ix t x) e≠d:=by
 intro ed
 have key : ∀ b,b∈outs f.shape x→ix (ix t (ix f.shape.to b)) (ix (ix f.Aa b) e)=ix (ix g.Aa b) d:=fun b hb=>by
  have hB:=w.arr hb;rw [ht.1.nl b hB.1 e (by rw [hB.2.1]; exact w.he),hB.2.1,ed]
 have hA:=w.arr (b:=a) (AE.mpr ⟨k,hk,ea⟩)
 have h1:=key a (AE.mpr ⟨k,hk,ea⟩)
 rcases s.new _ _ hA.2.2.1.1 hA.2.2.2.1.1 with q | ⟨_,b,hb,q3,q4,q5⟩
 ·rw [q] at h Bq;exact Bq ((ht.2 _ _ hA.2.2.1 hA.2.2.2.1 h).symm.trans h1)
 ·have h2:=key b (List.mem_of_mem_take hb);rw [q3,q4] at h2;exact Bq (q5.trans (h2.symm.trans h1))
theorem SF.Is.mX (h : f.Is) {x e : Int} (hx : 0≤x∧x<f.shape.AR) (he : 0≤e∧e<ix f.A4 x) : ix (ix f.Aa (ix f.shape.Aw x)) e=e:=by
 have hl:=h.1.is.1.il
 have h2:=h.1.cT (x:=x.toNat) (by omega)
 have h3:=h.2.ZM x.toNat (by omega) e.toNat (by
  have e0 : ix f.A4 x=f.A4.getD x.toNat default:=rfl;omega)
 rw [Int.toNat_of_nonneg he.1] at h3;exact h3
theorem Ey.BA (s : Ey f g p x e d k p' N) {y i : Int} (h0 : 0≤y) (h1 : 0≤i) (h : ix (ix p y) i≠-1) : ix (ix p' y) i=ix (ix p y) i:=by
 rcases s.new y i h0 h1 with q | ⟨q,_⟩
 ·exact q
 ·exact absurd (s.Kn y i q).2.2 h
section
variable (w : VE f g x e d) (hP : PT f g p) (s : Ey f g p x e d (outs f.shape x).length p' N)
include w hP s
theorem Ey.pt : PT f g p' where
 len:=s.len.trans hP.len
 row y hy:=by rw [s.row]; exact hP.row y hy
 val y i hy hi:=by
  rcases s.new y i hy.1 hi.1 with q | ⟨_,b,hb,q3,q4,q5⟩
  ·rw [q]; exact hP.val y i hy hi
  ·have hB:=w.arr (List.mem_of_mem_take hb);rw [q5,← q3]; exact .inr hB.2.2.2.2
 cls a ha i hi h:=by
  have hf:=w.hf.1.is.1.Cl ha.2
  have ht:=w.hf.1.is.1.C7 ha.2
  have hai:=w.hf.1.XS ha hi
  rcases s.new _ i hf.1 hi.1 with q | ⟨_,b,hb,q3,q4,q5⟩
  ·rw [q] at h ⊢
   have hc:=hP.cls a ha i hi h
   have hv:=(hP.val _ i hf hi).resolve_left (by omega)
   have hg:=w.hg.1.XS (a:=a) (e:=ix (ix p (ix f.shape.AH a)) i) (by rw [← w.sh]; exact ha) (by rw [← w.sh]; exact hv);rw [s.BA ht.1 hai.1 (by rw [hc]; omega),hc]
  ·have hb:=List.mem_of_mem_take hb
   have hB:=w.arr hb
   have hc:=w.hf.1.is.1.comp hB.1 ha q3
   have hm : ix (ix f.shape.comp b) a∈outs f.shape x:=BV.mpr ⟨hc.1.1,hc.1.2,hc.2.1.trans hB.2.1⟩
   have hh:=s.WV _ (by rw [List.take_length]; exact hm)
   have gT:=w.hf.FR b a hB.1 ha q3 e (w.hf.1.U5 hB.1 (by rw [hB.2.1]; exact w.he))
   have IJ:=w.hg.FR b a (by rw [← w.sh]; exact hB.1) (by rw [← w.sh]; exact ha) (by rw [← w.sh]; exact q3) d (w.hg.1.U5 (by rw [← w.sh]; exact hB.1) (by rw [← w.sh,hB.2.1]; exact w.hd));rw [← w.sh] at IJ;rw [hc.2.2,gT,IJ,q4] at hh;rw [q5]; exact hh
theorem Ey.atE : ix (ix p' x) e=d:=by
 have KD:=w.hf.1.is.1.Uk w.hx
 have:=s.WV (ix f.shape.Aw x) (by rw [List.take_length]; exact BV.mpr ⟨KD.1.1,KD.1.2,KD.2.1⟩)
 have h2:=w.hg.mX (x:=x) (e:=d) (by rw [← w.sh]; exact w.hx) w.hd;rw [← w.sh] at h2;rw [KD.2.2,w.hf.mX w.hx w.he,h2] at this;exact this
theorem Ey.ext (t : List (List Int)) : Ii f g p' t↔Ii f g p t∧ix (ix t x) e=d:=by
 constructor
 ·rintro ⟨h1,h2⟩;refine ⟨⟨h1,fun y i hy hi h=>?_⟩, ?_⟩
  ·have:=s.BA hy.1 hi.1 (by omega);rw [← this] at h ⊢;exact h2 y i hy hi h
  ·have:=s.atE w hP;rw [h2 x e w.hx w.he (by rw [this]; exact w.hd.1),this]
 ·rintro ⟨⟨h1,h2⟩,ed⟩;refine ⟨h1,fun y i hy hi h=>?_⟩
  rcases s.new y i hy.1 hi.1 with q | ⟨_,b,hb,q3,q4,q5⟩
  ·rw [q] at h ⊢; exact h2 y i hy hi h
  ·have hB:=w.arr (List.mem_of_mem_take hb);rw [q5,← q3,← q4,h1.nl b hB.1 e (by rw [hB.2.1]; exact w.he),hB.2.1,ed]
end
def W5 (f : SF) : List (Int × Int):=(List.range f.A4.length).flatMap fun x=>(List.range (f.A4.getD x default).toNat).map fun e : Nat=>((x : Int),(e : Int))
theorem Ol (h : f.Shape) {y i : Int} : (y,i)∈W5 f↔(0≤y∧y<f.shape.AR)∧0≤i∧i<ix f.A4 y:=by
 have hs:=h.sl;simp only [W5,List.mem_flatMap,List.mem_range,List.mem_map,Prod.mk.injEq]
 constructor
 ·rintro ⟨a,ha,b,hb,rfl,rfl⟩;rw [AJ];omega
 ·rintro ⟨h1,h2,h3⟩
  have e0 : ix f.A4 y=f.A4.getD y.toNat default:=rfl;exact ⟨y.toNat,by omega,i.toNat,by omega,by omega,by omega⟩
def M0 (f : SF) (p : List (List Int)) : Nat:=(W5 f).countP fun q=>decide (ix (ix p q.1) q.2=-1)
theorem J3 {α : Type} {P Q : α→Bool} {b : α} : ∀ {l : List α},(∀ a,a∈l→P a=true→Q a=true)→b∈l→P b=false→Q b=true→l.countP P<l.countP Q
 | [],_,hb,_,_=>by simp at hb
 | a::r,h,hb,hp,hq=>by
  have hle : r.countP P≤r.countP Q:=List.countP_mono_left fun a ha=>h a (List.mem_cons_of_mem _ ha);rw [List.countP_cons,List.countP_cons]
  by_cases e : b∈r
  ·have:=J3 (fun a ha=>h a (List.mem_cons_of_mem _ ha)) e hp hq
   have ha:=h a List.mem_cons_self
   cases ru : P a with
   | true=>rw [ha ru]; simpa using this
   | false=>cases Q a <;> simp <;> omega
  ·rcases List.mem_cons.mp hb with rfl | hb
   ·rw [hp,hq]; simp; omega
   ·exact absurd hb e
theorem Ey.less (w : VE f g x e d) (hP : PT f g p) (s : Ey f g p x e d (outs f.shape x).length p' N) (h : ix (ix p x) e=-1) : M0 f p'<M0 f p:=by
 refine J3 (b:=(x,e)) (fun q hq Mb=>?_) ((Ol w.hf.1).mpr ⟨w.hx,w.he⟩) ?_ (decide_eq_true h)
 ·obtain ⟨y,i⟩:=q
  have hr:=(Ol w.hf.1).mp hq
  have Mb:=of_decide_eq_true Mb;refine decide_eq_true ?_
  rcases s.new y i hr.1.1 hr.2.1 with q | ⟨_,b,hb,q3,q4,q5⟩
  ·rw [← q]; exact Mb
  ·have hB:=w.arr (List.mem_of_mem_take hb);rw [q5] at Mb
   have:=hB.2.2.2.2;omega
 ·have:=s.atE w hP
  have hd:=w.hd;exact decide_eq_false (by rw [this]; omega)
structure Ge (f g : SF) (p : List (List Int)) (x e : Int) (k : Int) (M : List (List (List Int))) : Prop where
 N7 : M.Pairwise uD
 mem : ∀ t,t∈M↔Ii f g p t∧ix (ix t x) e<k
variable {M M' : List (List (List Int))}
theorem Ge.zero (hx : 0≤x∧x<f.shape.AR) (he : 0≤e∧e<ix f.A4 x) : Ge f g p x e 0 []:=⟨.nil,fun t=>by
 simp only [List.not_mem_nil,false_iff]
 rintro ⟨h1,h2⟩
 have:=((h1.1.pl x hx).2 e he).1;omega⟩
theorem Ge.none {j : Int} (h : Ge f g p x e j M) (hn : ∀ t,Ii f g p t→ix (ix t x) e≠j) : Ge f g p x e (j+1) M:=⟨h.N7,fun t=>by
 rw [h.mem]
 constructor
 ·rintro ⟨h1,h2⟩; exact ⟨h1,by omega⟩
 ·rintro ⟨h1,h2⟩; have:=hn t h1; exact ⟨h1,by omega⟩⟩
theorem Ge.more (hx : 0≤x∧x<f.shape.AR) (he : 0≤e∧e<ix f.A4 x) {j : Int} (h : Ge f g p x e j M) (h2 : Dm f g p' M') (hs : (f.A4.length : Int)=f.shape.AR) (hv : ∀ y i : Int,0≤y∧y<f.shape.AR→0≤i∧i<ix f.A4 y→ix (ix p y) i=-1∨0≤ix (ix p y) i)
  (hp : ∀ t,Ii f g p' t↔Ii f g p t∧ix (ix t x) e=j) (hf : ∀ y i : Int,0≤y∧y<f.shape.AR→0≤i∧i<ix f.A4 y→(y<x∨(y=x∧i<e))→ix (ix p y) i≠-1) : Ge f g p x e (j+1) (M++M'):=by
 refine ⟨List.pairwise_append.mpr ⟨h.N7,h2.N7,fun s Hf t ht=>?_⟩,fun t=>?_⟩
 ·obtain ⟨s1,s2⟩:=(h.mem s).mp Hf
  obtain ⟨t1,t2⟩:=(hp t).mp ((h2.mem t).mp ht);refine ⟨x.toNat,e.toNat,fun y i hyi=>?_, ?_⟩
  ·have hy : (0 : Int)≤(y : Int)∧(y : Int)<f.shape.AR:=by omega
   have l1:=(s1.1.pl y hy).1
   have l2:=(t1.1.pl y hy).1
   by_cases hi : (i : Int)<ix f.A4 y
   ·have Fg : (0 : Int)≤(i : Int)∧(i : Int)<ix f.A4 y:=⟨by omega,hi⟩
    have Bq:=hf y i hy Fg (by omega)
    have XM:=(hv y i hy Fg).resolve_left Bq
    have a1:=s1.2 y i hy Fg XM
    have a2:=t1.2 y i hy Fg XM
    have:=a1.trans a2.symm
    simpa only [AJ] using this
   ·rw [AJ] at l1 l2;rw [gE,gE (l:=t.getD y default),List.getElem?_eq_none (by omega),List.getElem?_eq_none (by omega)]
  ·have : ix (ix s x) e<ix (ix t x) e:=by rw [t2]; exact s2
   exact this
 ·rw [List.mem_append,h.mem,h2.mem,hp]
  constructor
  ·rintro (⟨h1,h2⟩ | ⟨h1,h2⟩)
   ·exact ⟨h1,by omega⟩
   ·exact ⟨h1,by omega⟩
  ·rintro ⟨h1,h2⟩
   by_cases hj : ix (ix t x) e=j
   ·exact .inr ⟨h1,hj⟩
   ·exact .inl ⟨h1,by omega⟩
theorem Ge.done (hx : 0≤x∧x<f.shape.AR) (he : 0≤e∧e<ix f.A4 x) (h : Ge f g p x e (ix g.A4 x) M) : Dm f g p M:=⟨h.N7,fun t=>by
 rw [h.mem];exact ⟨fun h=>h.1,fun h=>⟨h,((h.1.pl x hx).2 e he).2⟩⟩⟩
theorem OU (h : f.Is) (hP : PT f g p) (hf : ∀ y i : Int,0≤y∧y<f.shape.AR→0≤i∧i<ix f.A4 y→ix (ix p y) i≠-1) : Dm f g p [p]:=by
 have hm : Cz f g p:=by
  refine ⟨by rw [hP.len]; exact h.1.sl,fun y hy=>⟨?_,fun i hi=>?_⟩,fun b hb i hi=>?_⟩
  ·exact hP.row y.toNat (h.1.s9 hy).2
  ·exact (hP.val y i hy hi).resolve_left (hf y i hy hi)
  ·have hfb:=h.1.is.1.Cl hb.2;exact hP.cls b hb i hi ((hP.val _ i hfb hi).resolve_left (hf _ i hfb hi)).1
 refine ⟨List.pairwise_singleton _ _,fun t=>?_⟩;rw [List.mem_singleton]
 constructor
 ·rintro rfl; exact ⟨hm,fun _ _ _ _ _=>rfl⟩
 ·rintro ⟨h1,h2⟩;refine h1.ext hm fun y i hy hi=>?_;exact h2 y i hy hi ((hP.val y i hy hi).resolve_left (hf y i hy hi)).1
def E9 (f : SF) : List (List Int):=f.A4.map fun n=>List.replicate n.toNat (-1)
theorem UZ (h : f.Shape) {y i : Int} (hy : 0≤y∧y<f.shape.AR) (hi : 0≤i∧i<ix f.A4 y) : ix (ix (E9 f) y) i=-1:=by
 have hX:=h.s9 hy
 have e0 : ix f.A4 y=f.A4.getD y.toNat default:=rfl
 have sG : i.toNat<(f.A4.getD y.toNat default).toNat:=by omega
 rw [ix,ix,E9,B8 _ hX.2,gE,List.getElem?_replicate,if_pos sG]; rfl
theorem dB (h : f.Shape) : PT f g (E9 f) where
 len:=by simp [E9]
 row x hx:=by
  have:=h.sz _ (AE.mpr ⟨x,hx,rfl⟩);rw [E9,B8 _ hx,List.length_replicate]; omega
 val y i hy hi:=.inl (UZ h hy hi)
 cls a ha i hi h0:=by
  rw [UZ h (h.is.1.Cl ha.2) hi] at h0; omega
end
end Go.Shf
namespace Go.Shf
open Go.AW
theorem FC {α : Type} [Inhabited α] (l : List α) {i : Nat} (a : α) (hi : i<l.length) {y : Nat} : (l.set i a).getD y default=if y=i then a else l.getD y default:=by
 simp only [gE,List.getElem?_set]
 by_cases h : i=y
 ·subst h; simp [hi]
 ·rw [if_neg h,if_neg (Ne.symm h)]
structure SF.Pre (f : SF) (c : B0) (N : Nat) : Prop where
 sh : f.shape=c
 sl : (f.A4.length : Int)=c.AR
 al : f.Aa.length=c.AH.length
 sz : ∀ y,y∈f.A4→0≤y∧y≤N
 act : ∀ a : Nat,a<c.AH.length→((f.Aa.getD a default).length : Int)=ix f.A4 (c.AH.getD a default)∧∀ y,y∈f.Aa.getD a default→0≤y∧y<ix f.A4 (c.to.getD a default)
structure FreeI (c : B0) (os : List Int) (k h : Nat) (LL : List (List (List Int))) : Prop where
 len : (LL.length : Int)=c.AR
 of : ∀ y : Nat,y<LL.length→∀ q,q∈LL.getD y default→∃ i j : Nat,q=[(i : Int),(j : Int)]∧i<os.length∧j<c.AH.length∧c.AH.getD j default=os.getD i default∧c.to.getD j default=y
 all : ∀ i j : Nat,(i<k∨(i=k∧j<h))→i<os.length→j<c.AH.length→c.AH.getD j default=os.getD i default→([(i : Int),(j : Int)] : List Int)∈LL.getD (c.to.getD j default).toNat default
 bd : ∀ y : Nat,(LL.getD y default).length≤k*c.AH.length+h
section
variable {c : B0} {os : List Int} {k h : Nat} {LL : List (List (List Int))}
theorem FreeI.zero (hc : 0≤c.AR) : FreeI c os 0 0 (List.replicate c.AR.toNat []) where
 len:=by simp; omega
 of y hy q hq:=by
  rw [List.length_replicate] at hy
  simp [gE,hy] at hq
 all i j h:=by omega
 bd y:=by
  by_cases hy : y<c.AR.toNat
  ·simp [gE,hy]
  ·rw [gE,List.getElem?_eq_none (by simp; omega)]
   simp
   rfl
theorem FreeI.skip (s : FreeI c os k h LL) (hn : c.AH.getD h default≠os.getD k default) : FreeI c os k (h+1) LL:=⟨s.len,s.of,fun i j n4 hi hj e=>by
 by_cases e1 : i=k∧j=h
 ·rw [e1.1,e1.2] at e; exact absurd e hn
 ·exact s.all i j (by omega) hi hj e,fun y=>by have:=s.bd y; omega⟩
theorem FreeI.WV (s : FreeI c os k h LL) (hc : c.Shape) (hk : k<os.length) (hh : h<c.AH.length) (e : c.AH.getD h default=os.getD k default) :
  FreeI c os k (h+1) (LL.set (c.to.getD h default).toNat (LL.getD (c.to.getD h default).toNat default++[[(k : Int),(h : Int)]])):=by
 have ht:=hc.C7 (f:=(h : Int)) (by simpa using hh);rw [AJ] at ht
 have hl:=s.len
 have EI : (c.to.getD h default).toNat<LL.length:=by omega
 have Cn : ∀ y : Nat,(LL.set (c.to.getD h default).toNat (LL.getD (c.to.getD h default).toNat default++[[(k : Int),(h : Int)]])).getD y default =
   if y=(c.to.getD h default).toNat then LL.getD y default++[[(k : Int),(h : Int)]] else LL.getD y default:=by
  intro y;rw [FC _ _ EI]
  by_cases hy : y=(c.to.getD h default).toNat
  ·rw [if_pos hy,if_pos hy,hy]
  ·rw [if_neg hy,if_neg hy]
 refine ⟨by rw [List.length_set]; exact hl,fun y hy q hq=>?_,fun i j n4 hi hj e1=>?_,fun y=>?_⟩
 ·rw [List.length_set] at hy;rw [Cn] at hq
  split at hq
  ·rename_i hyy
   rcases List.mem_append.mp hq with hq | hq
   ·exact s.of y hy q hq
   ·rw [List.mem_singleton] at hq;exact ⟨k,h,hq,hk,hh,e,by rw [hyy]; omega⟩
  ·exact s.of y hy q hq
 ·rw [Cn]
  by_cases e2 : i=k∧j=h
  ·rw [e2.1,e2.2,if_pos rfl]; simp
  ·have:=s.all i j (by omega) hi hj e1
   split
   ·exact List.mem_append_left _ this
   ·exact this
 ·rw [Cn]
  have:=s.bd y
  split
  ·rw [List.length_append,List.length_singleton]; omega
  ·omega
theorem FreeI.next (s : FreeI c os k c.AH.length LL) : FreeI c os (k+1) 0 LL:=⟨s.len,s.of,fun i j n4 hi hj e=>s.all i j (by omega) hi hj e,fun y=>by
 have:=s.bd y;rw [Nat.succ_mul]; omega⟩
def Dp (c : B0) (LL : List (List (List Int))) (a : Nat) : List Int:=(LL.getD (c.AH.getD a default).toNat default).map fun q=>indexOf (LL.getD (c.to.getD a default).toNat default) [ix q 0,(ix c.comp (ix q 1)).getD a default]
def IW (c : B0) (LL : List (List (List Int))) : SF:=⟨c,LL.map fun l=>(l.length : Int),(List.range c.AH.length).map (Dp c LL)⟩
theorem fC (hc : c.Is) (s : FreeI c os os.length 0 LL) {N : Nat} (hN : os.length*c.AH.length≤N) : (IW c LL).Pre c N where
 sh:=rfl
 sl:=by simp only [IW,List.length_map]; exact s.len
 al:=by simp [IW]
 sz y hy:=by
  obtain ⟨l,hl,rfl⟩:=List.mem_map.mp hy
  obtain ⟨i,hi,rfl⟩:=AE.mp hl
  have:=s.bd i; omega
 act a ha:=by
  have hl:=s.len
  have hf:=hc.1.Cl (f:=(a : Int)) (by simpa using ha)
  have ht:=hc.1.C7 (f:=(a : Int)) (by simpa using ha);rw [AJ] at hf ht
  have e1 : (IW c LL).Aa.getD a default=Dp c LL a:=by rw [IW]; exact AS _ _ ha
  have e2 : ∀ y : Int,0≤y∧y<c.AR→ix (IW c LL).A4 y=((LL.getD y.toNat default).length : Int):=fun y hy=>by
   rw [ix,IW]; exact B8 _ (by omega)
  rw [e1,e2 _ hf,e2 _ ht];refine ⟨by simp [Dp],fun y hy=>?_⟩
  obtain ⟨q,hq,rfl⟩:=List.mem_map.mp hy
  obtain ⟨i,j,rfl,hi,hj,e3,e4⟩:=s.of _ (by omega) q hq
  have h1 : (0 : Int)≤(j : Int)∧(j : Int).toNat<c.AH.length:=⟨by omega,by simpa using hj⟩
  have h2 : (0 : Int)≤(a : Int)∧(a : Int).toNat<c.AH.length:=⟨by omega,by simpa using ha⟩
  have Sr:=hc.1.comp h1 h2 (by rw [AJ,AJ,e4]; omega)
  obtain ⟨v,hv⟩ : ∃ v : Nat,ix (ix c.comp (j : Int)) (a : Int)=v:=⟨_,(Int.toNat_of_nonneg Sr.1.1).symm⟩;rw [hv] at Sr;simp only [AJ] at Sr
  have Aj:=s.all i v (.inl hi) hi (by simpa using Sr.1.2) (by rw [Sr.2.1,e3]);rw [Sr.2.2] at Aj
  have e5 : ([ix [(i : Int),(j : Int)] 0,(ix c.comp (ix [(i : Int),(j : Int)] 1)).getD a default] : List Int)=[(i : Int),(v : Int)]:=by
   have : (ix c.comp (j : Int)).getD a default=v:=by rw [← hv,AJ (ix c.comp (j : Int))]
   show [(i : Int),(ix c.comp (j : Int)).getD a default]=_
   rw [this]
  rw [e5]
  have:=B3 Aj;omega
end
def Q0 (l : List Int) : Nat:=((List.range l.length).flatMap fun d=>(List.range l.length).map fun e=>(d,e)).countP fun q : Nat × Nat=>decide (l.getD q.1 default≠l.getD q.2 default)
theorem Yr {l m : List Int} (hl : m.length=l.length) (h : ∀ i j : Nat,i<l.length→j<l.length→l.getD i default=l.getD j default→m.getD i default=m.getD j default)
  {u v : Nat} (hu : u<l.length) (hv : v<l.length) (h1 : l.getD u default≠l.getD v default) (h2 : m.getD u default=m.getD v default) : Q0 m<Q0 l:=by
 unfold Q0;rw [hl];refine J3 (b:=(u,v)) (fun q hq Mb=>?_) (by simp; exact ⟨hu,hv⟩) (decide_eq_false (by simpa using h2)) (decide_eq_true h1);simp only [List.mem_flatMap,List.mem_range,List.mem_map] at hq
 obtain ⟨i,hi,j,hj,rfl⟩:=hq
 have Mb:=of_decide_eq_true Mb;exact decide_eq_true fun e=>Mb (h i j hi hj e)
def Pw (C : List (List Int)) : Nat:=(C.map Q0).sum
theorem YA : ∀ (C : List (List Int)) (y : Nat) (m : List Int),y<C.length→Q0 m<Q0 (C.getD y default)→Pw (C.set y m)<Pw C
 | [],_,_,h,_=>by simp at h
 | a::C,0,m,_,h=>by
  simp only [Pw,List.set_cons_zero,List.map_cons,List.sum_cons]
  have : Q0 m<Q0 a:=h;omega
 | a::C,y+1,m,hy,h=>by
  have:=YA C y m (by simpa using hy) (by simpa using h);simp only [Pw,List.set_cons_succ,List.map_cons,List.sum_cons] at this ⊢;omega
def Fx (p : List Int) : List (List Int):=(List.range p.length).map fun i=>[indexOf p (p.getD i default),(i : Int)]
def Gs (ps : List (List Int)) (m : List Int) : Prop:=∀ q,q∈ps→ix m (ix q 0)=ix m (ix q 1)
theorem Wf {l m : List Int} (hl : m.length=l.length) {u v : Int} (hu : 0≤u∧u.toNat<l.length) (hv : 0≤v∧v.toNat<l.length) (h1 : ix l u≠ix l v) (hg : Gs (Fx l++[[u,v]]) m) : Q0 m<Q0 l:=by
 refine Yr hl (fun i j hi hj e=>?_) hu.2 hv.2 h1 ?_
 ·have hp : ∀ i : Nat,i<l.length→m.getD (indexOf l (l.getD i default)).toNat default=m.getD i default:=fun i hi=>by
   have:=hg [indexOf l (l.getD i default),(i : Int)] (List.mem_append_left _ (List.mem_map.mpr ⟨i,List.mem_range.mpr hi,rfl⟩))
   have e : ix m (ix [indexOf l (l.getD i default),(i : Int)] 1)=m.getD i default:=AJ m i;rw [e] at this;exact this
  rw [← hp i hi,← hp j hj,e]
 ·exact hg [u,v] (List.mem_append_right _ (by simp))
theorem Wa {l : List Int} {u v : Int} (hu : 0≤u∧u.toNat<l.length) (hv : 0≤v∧v.toNat<l.length) : ∀ q,q∈Fx l++[[u,v]]→2≤q.length∧(0≤q.getD 0 default∧(q.getD 0 default).toNat<l.length)∧(0≤q.getD 1 default∧(q.getD 1 default).toNat<l.length):=by
 intro q hq
 rcases List.mem_append.mp hq with hq | hq
 ·obtain ⟨i,hi,rfl⟩:=List.mem_map.mp hq;rw [List.mem_range] at hi
  have h:=B3 (l:=l) (a:=l.getD i default) (AE.mpr ⟨i,hi,rfl⟩);exact ⟨by simp,⟨h.1,h.2.1⟩,by simp,by simpa using hi⟩
 ·rw [List.mem_singleton] at hq;subst hq;exact ⟨by simp,hu,hv⟩
def Dn (A : List Int) (a b : Int) : List Int:=A.map fun v=>if v=b then a else v
theorem FD (A : List Int) (a b : Int) : (Dn A a b).length=A.length:=by simp [Dn]
theorem L9 {A : List Int} {a b i : Int} (h : i.toNat<A.length) : ix (Dn A a b) i=if ix A i=b then a else ix A i:=by
 rw [ix,Dn,B8 _ h]; rfl
theorem Gs.Dn {ps : List (List Int)} {A : List Int} (hp : ∀ q,q∈ps→(ix q 0).toNat<A.length∧(ix q 1).toNat<A.length) (h : Gs ps A) (a b : Int) : Gs ps (Dn A a b):=fun q hq=>by
 have h1:=hp q hq;rw [L9 h1.1,L9 h1.2,h q hq]
theorem Gs.step {ps : List (List Int)} {A : List Int} (hp : ∀ q,q∈ps→(ix q 0).toNat<A.length∧(ix q 1).toNat<A.length) {q : List Int} (hq : (ix q 0).toNat<A.length∧(ix q 1).toNat<A.length) (h : Gs ps A) :
  Gs (ps++[q]) (Go.Shf.Dn A (ix A (ix q 0)) (ix A (ix q 1))):=fun r hr=>by
 rcases List.mem_append.mp hr with hr | hr
 ·exact h.Dn hp _ _ r hr
 ·rw [List.mem_singleton] at hr;subst hr;rw [L9 hq.1,L9 hq.2,if_pos rfl]
  split <;> rfl
end Go.Shf
namespace Go.Shf
open Go.AW
theorem Sp {s : List Int} {u v : Int} (h : u∈s) : indexOf (s++[v]) u=indexOf s u:=by
 obtain ⟨h1,h2,h3⟩:=B3 h;unfold indexOf
 have : (s++[v]).idxOf? u=s.idxOf? u:=by
  have hs : ∃ i,s.idxOf? u=some i:=by
   cases e : s.idxOf? u with
   | some i=>exact ⟨i,rfl⟩
   | none=>rw [List.idxOf?_eq_none_iff] at e; exact absurd h e
  obtain ⟨i,hi⟩:=hs;rw [hi];rw [List.idxOf?_eq_some_iff] at hi ⊢
  obtain ⟨k1,k2,k3⟩:=hi;refine ⟨by simp; omega,by rw [List.getElem_append_left k1]; exact k2,fun j hj=>?_⟩;rw [List.getElem_append_left (by omega)]; exact k3 j hj
 rw [this]
theorem SI {s : List Int} {v : Int} (h : v ∉ s) : indexOf (s++[v]) v=s.length:=by
 refine EY (k:=s.length) (by simp) (fun i hi e=>h ?_) (by simp [gE]);rw [gE,List.getElem?_append_left hi,← gE] at e;exact AE.mpr ⟨i,hi,e⟩
def EC (l : List Int) : List Int:=l.foldl (fun s v=>if v∈s then s else s++[v]) []
theorem GJ (l : List Int) (v : Int) : EC (l++[v])=if v∈EC l then EC l else EC l++[v]:=by rw [EC,List.foldl_append]; rfl
theorem HN : ∀ (k : Nat) (l : List Int),l.length=k→∀ v,v∈EC l↔v∈l
 | 0,l,h,v=>by rw [List.length_eq_zero_iff] at h; subst h; simp [EC]
 | k+1,l,h,v=>by
  have Bq : l≠[]:=fun e=>by rw [e] at h; simp at h
  obtain ⟨r,x,rfl⟩ : ∃ r x,l=r++[x]:=⟨l.dropLast,l.getLast Bq,(List.dropLast_concat_getLast Bq).symm⟩
  have ih:=HN k r (by simpa using h);rw [GJ]
  by_cases hx : x∈EC r
  ·rw [if_pos hx,ih];simp only [List.mem_append,List.mem_singleton];exact ⟨.inl,fun h=>h.elim id fun e=>e ▸ (ih x).mp hx⟩
  ·rw [if_neg hx];simp only [List.mem_append,List.mem_singleton,ih]
theorem M3 : ∀ (k : Nat) (l : List Int),l.length=k→(EC l).length≤k
 | 0,l,h=>by rw [List.length_eq_zero_iff] at h; subst h; simp [EC]
 | k+1,l,h=>by
  have Bq : l≠[]:=fun e=>by rw [e] at h; simp at h
  obtain ⟨r,x,rfl⟩ : ∃ r x,l=r++[x]:=⟨l.dropLast,l.getLast Bq,(List.dropLast_concat_getLast Bq).symm⟩
  have ih:=M3 k r (by simpa using h);rw [GJ]
  split
  ·omega
  ·simp; omega
def En (l : List Int) : List Int:=l.map fun v=>indexOf (EC l) v
theorem P6 (l : List Int) : (En l).length=l.length:=by simp [En]
theorem Uv (l : List Int) (v : Int) : En (l++[v])=En l++[indexOf (EC (l++[v])) v]:=by
 rw [En,List.map_append,List.map_cons,List.map_nil]
 congr 1
 refine List.map_congr_left fun u hu=>?_
 have:=(HN _ l rfl u).mpr hu;rw [GJ]
 split
 ·rfl
 ·exact Sp this
theorem W3 {l : List Int} {v : Int} (h : v∈En l) : 0≤v∧v<l.length:=by
 obtain ⟨u,hu,rfl⟩:=List.mem_map.mp h
 have:=B3 ((HN _ l rfl u).mpr hu)
 have:=M3 _ l rfl;omega
theorem Gs.class {ps : List (List Int)} {l : List Int} (hp : ∀ q,q∈ps→(ix q 0).toNat<l.length∧(ix q 1).toNat<l.length) (h : Gs ps l) : Gs ps (En l):=fun q hq=>by
 have h1:=hp q hq
 have key : ∀ i : Int,i.toNat<l.length→ix (En l) i=indexOf (EC l) (ix l i):=fun i hi=>by rw [ix,En,B8 _ hi]; rfl
 rw [key _ h1.1,key _ h1.2,h q hq]
def L7 (n : Nat) (ps : List (List Int)) : List Int:=ps.foldl (fun A q=>Dn A (ix A (ix q 0)) (ix A (ix q 1))) ((List.range n).map Int.ofNat)
theorem Yk (n : Nat) (ps : List (List Int)) (q : List Int) : L7 n (ps++[q])=Dn (L7 n ps) (ix (L7 n ps) (ix q 0)) (ix (L7 n ps) (ix q 1)):=by simp [L7,List.foldl_append]
theorem Yq (n : Nat) (ps : List (List Int)) {k : Nat} (hk : k<ps.length) : L7 n (ps.take (k+1))=Dn (L7 n (ps.take k)) (ix (L7 n (ps.take k)) (ix (ps.getD k default) 0)) (ix (L7 n (ps.take k)) (ix (ps.getD k default) 1)):=by
 rw [take_one ps hk,Yk]
theorem Z3 (ps : List (List Int)) : ∀ (done : List (List Int)) (A : List Int),(∀ q,q∈done++ps→(ix q 0).toNat<A.length∧(ix q 1).toNat<A.length)→Gs done A →
  (ps.foldl (fun A q=>Dn A (ix A (ix q 0)) (ix A (ix q 1))) A).length=A.length∧Gs (done++ps) (ps.foldl (fun A q=>Dn A (ix A (ix q 0)) (ix A (ix q 1))) A):=by
 induction ps with
 | nil=>intro done A _ h; exact ⟨rfl,by simpa using h⟩
 | cons q r ih =>
  intro done A hr h
  have hq:=hr q (by simp)
  have h2:=h.step (fun q hq=>hr q (by simp [hq])) hq
  have:=ih (done++[q]) (Dn A (ix A (ix q 0)) (ix A (ix q 1))) (fun p hp=>by
   rw [FD]; exact hr p (by simpa using hp)) h2
  rw [List.foldl_cons];rw [FD] at this;exact ⟨this.1,by simpa using this.2⟩
theorem LM (n : Nat) (ps : List (List Int)) : (L7 n ps).length=n:=by
 have : ∀ (ps : List (List Int)) (A : List Int),(ps.foldl (fun A q=>Dn A (ix A (ix q 0)) (ix A (ix q 1))) A).length=A.length:=by
  intro ps
  induction ps with
  | nil=>intro A; rfl
  | cons q r ih=>intro A; rw [List.foldl_cons,ih,FD]
 rw [L7,this]; simp
def IQ (n : Nat) (ps : List (List Int)) : List Int:=En (L7 n ps)
theorem MU (n : Nat) (ps : List (List Int)) : (IQ n ps).length=n:=by rw [IQ,P6,LM]
theorem Qy {n : Nat} {ps : List (List Int)} {v : Int} (h : v∈IQ n ps) : 0≤v∧v<n:=by
 have:=W3 h
 rwa [LM] at this
theorem UM {n : Nat} {ps : List (List Int)} (hp : ∀ q,q∈ps→(ix q 0).toNat<n∧(ix q 1).toNat<n) : Gs ps (IQ n ps):=by
 have hr : ∀ q,q∈ps→(ix q 0).toNat<((List.range n).map Int.ofNat).length∧(ix q 1).toNat<((List.range n).map Int.ofNat).length:=fun q hq=>by simpa using hp q hq
 have:=(Z3 ps [] ((List.range n).map Int.ofNat) (by simpa using hr) (fun q hq=>by simp at hq)).2;refine Gs.class (fun q hq=>by rw [LM]; exact hp q hq) ?_
 simpa [L7] using this
def DW (A : List Int) (a b : Int) (i : Nat) : List Int:=Dn (A.take i) a b++A.drop i
theorem TJ (A : List Int) (a b : Int) {i : Nat} (hi : i≤A.length) : (DW A a b i).length=A.length:=by simp [DW,FD]; omega
theorem Ry (A : List Int) (a b : Int) : DW A a b 0=A:=by simp [DW,Dn]
theorem UE (A : List Int) (a b : Int) : DW A a b A.length=Dn A a b:=by simp [DW]
theorem Pc (A : List Int) (a : Int) : Dn A a a=A:=by
 rw [Dn]
 have : ∀ v,v∈A→(if v=a then a else v)=v:=fun v _=>by split <;> simp_all
 rw [List.map_congr_left this,List.map_id']
theorem Tw (A : List Int) (a b : Int) {i : Nat} (hi : i<A.length) : (DW A a b i).getD i default=A.getD i default:=by
 rw [DW,gE,List.getElem?_append_right (by rw [FD,List.length_take]; omega),FD,List.length_take];rw [show i - min i A.length=0 by omega,List.getElem?_drop,gE]; simp
theorem Sc (A : List Int) (a b : Int) {i : Nat} (hi : i<A.length) : DW A a b (i+1)=(DW A a b i).set i (if A.getD i default=b then a else A.getD i default):=by
 have hl : (Dn (A.take i) a b).length=i:=by rw [FD,List.length_take]; omega
 rw [DW,DW,take_one A hi]
 have e1 : Dn (A.take i++[A.getD i default]) a b=Dn (A.take i) a b++[if A.getD i default=b then a else A.getD i default]:=by simp [Dn]
 have e2 : A.drop i=A.getD i default::A.drop (i+1):=by
  rw [List.drop_eq_getElem_cons hi]; simp [gE,hi]
 rw [e1,e2,List.set_append_right _ _ (by omega),hl,Nat.sub_self,List.set_cons_zero,List.append_assoc]; rfl
end Go.Shf
namespace Go.Shf
open Go.AW
structure ClsOk (sz : List Int) (CC : List (List Int)) : Prop where
 len : CC.length=sz.length
 row : ∀ x : Nat,x<sz.length→((CC.getD x default).length : Int)=sz.getD x default
 Nb : ∀ x : Nat,x<sz.length→∀ v,v∈CC.getD x default→0≤v∧v<sz.getD x default
def Ku (sz : List Int) (PP : List (List (List Int))) (x : Nat) : List Int:=IQ (sz.getD x default).toNat (PP.getD x default)
theorem eS {sz : List Int} (h : ∀ y,y∈sz→0≤y) (PP : List (List (List Int))) : ClsOk sz ((List.range sz.length).map (Ku sz PP)) where
 len:=by simp
 row x hx:=by
  have:=h _ (AE.mpr ⟨x,hx,rfl⟩);rw [AS _ _ hx,Ku,MU]; omega
 Nb x hx v hv:=by
  have:=h _ (AE.mpr ⟨x,hx,rfl⟩);rw [AS _ _ hx,Ku] at hv
  have:=Qy hv; omega
theorem ClsOk.set {sz : List Int} {CC : List (List Int)} (s : ClsOk sz CC) {y : Nat} (hy : y<sz.length) {m : List Int} (hm : (m.length : Int)=sz.getD y default) (hr : ∀ v,v∈m→0≤v∧v<sz.getD y default) : ClsOk sz (CC.set y m):=by
 have hg : ∀ x,(CC.set y m).getD x default=if x=y then m else CC.getD x default:=fun x=>FC CC m (by rw [s.len]; exact hy)
 refine ⟨by rw [List.length_set]; exact s.len,fun x hx=>?_,fun x hx v hv=>?_⟩
 ·rw [hg]
  by_cases e : x=y
  ·rw [if_pos e,e]; exact hm
  ·rw [if_neg e]; exact s.row x hx
 ·rw [hg] at hv
  by_cases e : x=y
  ·rw [if_pos e] at hv; rw [e]; exact hr v hv
  ·rw [if_neg e] at hv; exact s.Nb x hx v hv
def Jf (l : List Int) : Int:=l.foldl (fun n v=>if v+1 > n then v+1 else n) 0
theorem cR (l : List Int) (v : Int) : Jf (l++[v])=if v+1 > Jf l then v+1 else Jf l:=by rw [Jf,List.foldl_append]; rfl
theorem T9 (l : List Int) {k : Nat} (hk : k<l.length) : Jf (l.take (k+1))=if l.getD k default+1 > Jf (l.take k) then l.getD k default+1 else Jf (l.take k):=by rw [take_one l hk,cR]
theorem Xn {l : List Int} {N : Int} (h0 : 0≤N) (h : ∀ v,v∈l→0≤v∧v<N) : ∀ k,k≤l.length→(0≤Jf (l.take k)∧Jf (l.take k)≤N)∧∀ i,i<k→l.getD i default<Jf (l.take k)
 | 0,_=>⟨by simpa [Jf] using h0,fun i hi=>by omega⟩
 | k+1,hk=>by
  have ih:=Xn h0 h k (by omega)
  have hv:=h _ (AE.mpr ⟨k,hk,rfl⟩);rw [T9 l hk];refine ⟨by split <;> omega,fun i hi=>?_⟩
  by_cases e : i=k
  ·subst e; split <;> omega
  ·have:=ih.2 i (by omega)
   split <;> omega
theorem Rs {l : List Int} {N : Int} (h0 : 0≤N) (h : ∀ v,v∈l→0≤v∧v<N) : (0≤Jf l∧Jf l≤N)∧∀ v,v∈l→v<Jf l:=by
 have:=Xn h0 h l.length (Nat.le_refl _);rw [List.take_length] at this;exact ⟨this.1,fun v hv=>by obtain ⟨i,hi,rfl⟩:=AE.mp hv; exact this.2 i hi⟩
end Go.Shf
namespace Go.Shf
open Go.AW
structure QS where
 v : List Int
 l : List (Int × Int)
 r : List (Int × Int)
 o : List Int
def Eh (c : B0) (v : List Int) (t : Int × Int) : Prop:=(0≤t.1∧t.1.toNat<v.length)∧(0≤t.2∧t.2.toNat<c.AH.length)∧ix c.AH t.2=ix v t.1
end Go.Shf
namespace Go.Shf
open Go.AW
end Go.Shf
namespace Go.Shf
open Go.AW
section
variable {c : B0} {q : QS} {G f : SF} {cls : Int × Int→Int}
theorem Eh.comp (h : c.Is) {p : Int × Int} (hp : Eh c q.v p) {a : Int} (ha : 0≤a∧a.toNat<c.AH.length) (e : ix c.to p.2=ix c.AH a) :
  Eh c q.v (p.1,ix (ix c.comp p.2) a)∧ix c.to (ix (ix c.comp p.2) a)=ix c.to a:=by
 have:=h.1.comp hp.2.1 ha e;exact ⟨⟨hp.1,this.1,this.2.1.trans hp.2.2⟩,this.2.2⟩
end
end Go.Shf
namespace Go.Shf
open Go.AW
end Go.Shf
namespace Go.Shf
open Go.AW
section
variable {c : B0} {q : QS}
theorem UY {P : List Int→Prop} (h0 : P []) (h1 : ∀ l v,P l→P (l++[v])) : ∀ (k : Nat) (l : List Int),l.length=k→P l
 | 0,l,h=>by rw [List.length_eq_zero_iff] at h; subst h; exact h0
 | k+1,l,h=>by
  have Bq : l≠[]:=fun e=>by rw [e] at h; simp at h
  obtain ⟨r,x,rfl⟩ : ∃ r x,l=r++[x]:=⟨l.dropLast,l.getLast Bq,(List.dropLast_concat_getLast Bq).symm⟩;exact h1 r x (UY h0 h1 k r (by simpa using h))
theorem TD (l : List Int) : (EC l).Nodup:=by
 refine UY (P:=fun l=>(EC l).Nodup) (by simp [EC]) (fun l v ih=>?_) _ l rfl;rw [GJ]
 split
 ·exact ih
 ·rename_i h
  refine List.nodup_append.mpr ⟨ih,by simp,fun a ha b hb e=>?_⟩;simp only [List.mem_singleton] at hb;subst hb; subst e; exact h ha
def OM (c : B0) (v : List Int) : List (Int × Int):=(List.range v.length).flatMap fun i : Nat=>(outs c (v.getD i default)).map fun h=>((i : Int),h)
theorem VP {v : List Int} {p : Int × Int} : p∈OM c v↔Eh c v p:=by
 simp only [OM,List.mem_flatMap,List.mem_range,List.mem_map,BV]
 constructor
 ·rintro ⟨i,hi,h,⟨h1,h2,h3⟩,rfl⟩;exact ⟨⟨by simp,by simpa using hi⟩,⟨h1,h2⟩,by simp only [AJ]; exact h3⟩
 ·rintro ⟨⟨h1,h2⟩,⟨h3,h4⟩,h5⟩;refine ⟨p.1.toNat,h2,p.2,⟨h3,h4,h5⟩, ?_⟩;rw [Int.toNat_of_nonneg h1]
theorem Ov {β : Type} (g : Nat→List β) (hn : ∀ i,(g i).Nodup) (hd : ∀ i k,i≠k→∀ x,x∈g i→x ∉ g k) : ∀ n : Nat,((List.range n).flatMap g).Nodup
 | 0=>by simp
 | n+1=>by
  rw [List.range_succ,List.flatMap_append];refine List.nodup_append.mpr ⟨Ov g hn hd n,by simpa using hn n,fun a ha b hb e=>?_⟩;subst e
  obtain ⟨i,hi,hx⟩:=List.mem_flatMap.mp ha;rw [List.mem_range] at hi;simp only [List.flatMap_cons,List.flatMap_nil,List.append_nil] at hb;exact hd i n (by omega) a hx hb
theorem SL (v : List Int) : (OM c v).Nodup:=by
 refine Ov _ (fun i=>?_) (fun i k sx x hx IZ=>?_) v.length
 ·refine List.pairwise_map.mpr ?_
  have : (outs c (v.getD i default)).Nodup:=by
   rw [outs];refine List.pairwise_map.mpr ((List.nodup_range.sublist List.filter_sublist).imp fun {a b} h e=>h ?_);exact Int.ofNat.inj e
  exact this.imp fun {a b} h e=>h (Prod.mk.inj e).2
 ·obtain ⟨h,_,rfl⟩:=List.mem_map.mp hx
  obtain ⟨h',_,e⟩:=List.mem_map.mp IZ
  have:=(Prod.mk.inj e).1; omega
def DO (c : B0) (v : List Int) (y : Int) : List (Int × Int):=(OM c v).filter fun p=>decide (ix c.to p.2=y)
theorem OH {v : List Int} {y : Int} {p : Int × Int} : p∈DO c v y↔Eh c v p∧ix c.to p.2=y:=by
 rw [DO,List.mem_filter,VP,decide_eq_true_eq]
end
end Go.Shf
namespace Go.Shf
open Go.AW
end Go.Shf
namespace Go.Shf
open Go.AW
section
variable {c : B0} {q : QS}
theorem W8 {v : List Int} {y : Int} {i : Nat} (hi : i<(DO c v y).length) : Eh c v ((DO c v y).getD i default)∧ix c.to ((DO c v y).getD i default).2=y:=OH.mp (AE.mpr ⟨i,hi,rfl⟩)
end
end Go.Shf
namespace Go.Shf
open Go.AW
section
variable {c : B0} {q : QS}
def dE (c : B0) (x y : Int) : List Int:=(outs c x).filter fun h=>decide (ix c.to h=y)
def NM (c : B0) (x y : Int) (k : Nat) : List Int:=((List.range k).filter fun i=>decide (c.AH.getD i default=x) && decide (c.to.getD i default=y)).map Int.ofNat
theorem Zj (c : B0) (x y : Int) : NM c x y c.AH.length=dE c x y:=by
 rw [NM,dE,outs,List.filter_map,List.filter_filter]
 congr 1
 refine List.filter_congr fun i _=>?_;simp only [Function.comp_def];rw [Bool.and_comm]
 congr 1
theorem n9 {x y : Int} {k : Nat} (h1 : c.AH.getD k default=x) (h2 : c.to.getD k default=y) : NM c x y (k+1)=NM c x y k++[(k : Int)]:=by
 rw [NM,BF,if_pos (by rw [decide_eq_true h1,decide_eq_true h2]; rfl),List.map_append]; rfl
theorem cP {x y : Int} {k : Nat} (h : ¬ (c.AH.getD k default=x∧c.to.getD k default=y)) : NM c x y (k+1)=NM c x y k:=by
 have e : (decide (c.AH.getD k default=x) && decide (c.to.getD k default=y))=false:=by
  rw [Bool.and_eq_false_iff,decide_eq_false_iff_not,decide_eq_false_iff_not]
  by_cases h1 : c.AH.getD k default=x
  ·exact .inr fun h2=>h ⟨h1,h2⟩
  ·exact .inl h1
 rw [NM,BF,if_neg (by rw [e]; simp),List.append_nil]; rfl
def U8 (c : B0) (v : List Int) (y : Int) (n : Nat) : List (Int × Int):=(List.range n).flatMap fun i : Nat=>(dE c (v.getD i default) y).map fun h=>((i : Int),h)
theorem IV {α β : Type} (p : β→Bool) (g : α→List β) : ∀ l : List α,(l.flatMap g).filter p=l.flatMap fun a=>(g a).filter p
 | []=>rfl
 | a::l=>by rw [List.flatMap_cons,List.filter_append,IV p g l,List.flatMap_cons]
theorem Za (v : List Int) (y : Int) : U8 c v y v.length=DO c v y:=by
 rw [U8,DO,OM,IV]
 congr 1
 funext i
 rw [List.filter_map,dE]
 rfl
theorem ZI (v : List Int) (y : Int) (n : Nat) : U8 c v y (n+1)=U8 c v y n++(dE c (v.getD n default) y).map fun h=>((n : Int),h):=by
 rw [U8,List.range_succ,List.flatMap_append]; simp [U8]
theorem Ni (v : List Int) (y : Int) : (DO c v y).Nodup:=(SL v).sublist List.filter_sublist
def Kf (c : B0) (v : List Int) (p : Int × Int) : Int:=indexOf (DO c v (ix c.to p.2)) p
theorem Sf {v : List Int} {p : Int × Int} (h : Eh c v p) : (0≤Kf c v p∧(Kf c v p).toNat<(DO c v (ix c.to p.2)).length)∧(DO c v (ix c.to p.2)).getD (Kf c v p).toNat default=p:=by
 have:=B3 (OH.mpr ⟨h,rfl⟩ : p∈DO c v (ix c.to p.2));exact ⟨⟨this.1,this.2.1⟩,this.2.2⟩
theorem lG {v : List Int} {y : Int} {i : Nat} (hi : i<(DO c v y).length) : Kf c v ((DO c v y).getD i default)=i:=by
 rw [Kf,(W8 hi).2]; exact Bp (Ni v y) hi
def bP (c : B0) (v : List Int) (a : Int) (e : Nat) : Int:=Kf c v (((DO c v (ix c.AH a)).getD e default).1,ix (ix c.comp ((DO c v (ix c.AH a)).getD e default).2) a)
theorem bI {v : List Int} {a : Int} {p : Int × Int} (hp : Eh c v p) (e : ix c.to p.2=ix c.AH a) : bP c v a (Kf c v p).toNat=Kf c v (p.1,ix (ix c.comp p.2) a):=by
 have:=(Sf hp).2;rw [e] at this;rw [bP,this]
end
end Go.Shf
namespace Go.Shf
open Go.AW
theorem SO {α : Type} [Inhabited α] (l : List α) {i : Nat} (h : i<l.length) : l[i]=l.getD i default:=by simp [gE,h]
def LR (p : Int × Int) : List Int:=[p.1,p.2]
theorem cK {p p' : Int × Int} (h : LR p=LR p') : p=p':=by
 simp only [LR,List.cons.injEq,and_true] at h;exact Prod.ext h.1 h.2
theorem Tx (l : List (Int × Int)) {p : Int × Int} (h : p∈l) (nd : l.Nodup) : indexOf (l.map LR) (LR p)=indexOf l p:=by
 obtain ⟨i,hi,e⟩:=AE.mp h
 have nd2 : (l.map LR).Nodup:=List.pairwise_map.mpr (nd.imp fun {a b} Ic e=>Ic (cK e))
 have h1:=Bp nd hi
 have h2:=Bp nd2 (show i<(l.map LR).length by simpa using hi);rw [B8 _ hi,e] at h2;rw [e] at h1;rw [h1,h2]
structure GQ (c : B0) (os : List Int) (k h : Nat) (LL : List (List (List Int))) : Prop extends FreeI c os k h LL where
 ex : ∀ y : Nat,y<LL.length→LL.getD y default=(U8 c os y k).map LR++(NM c (os.getD k default) y h).map fun j=>[(k : Int),j]
section
variable {c : B0} {os : List Int} {k h : Nat} {LL : List (List (List Int))}
theorem GQ.zero (hc : 0≤c.AR) : GQ c os 0 0 (List.replicate c.AR.toNat []) where
 toFreeI:=FreeI.zero hc
 ex y hy:=by
  rw [List.length_replicate] at hy
  simp [gE,hy,U8,NM]
theorem GQ.skip (s : GQ c os k h LL) (hn : c.AH.getD h default≠os.getD k default) : GQ c os k (h+1) LL where
 toFreeI:=s.toFreeI.skip hn
 ex y hy:=by rw [s.ex y hy,cP fun e=>hn e.1]
theorem GQ.WV (s : GQ c os k h LL) (hc : c.Shape) (hk : k<os.length) (hh : h<c.AH.length) (e : c.AH.getD h default=os.getD k default) :
  GQ c os k (h+1) (LL.set (c.to.getD h default).toNat (LL.getD (c.to.getD h default).toNat default++[[(k : Int),(h : Int)]])) where
 toFreeI:=s.toFreeI.WV hc hk hh e
 ex y hy:=by
  rw [List.length_set] at hy
  have ht:=hc.C7 (f:=(h : Int)) (by simpa using hh);rw [AJ] at ht
  have hl:=s.len;rw [FC _ _ (by omega)]
  by_cases ey : y=(c.to.getD h default).toNat
  ·rw [if_pos ey,← ey,s.ex y hy,n9 e (by omega),List.map_append,List.append_assoc]; rfl
  ·rw [if_neg ey,s.ex y hy,cP fun h2=>ey (by have:=h2.2; omega)]
theorem GQ.next (s : GQ c os k c.AH.length LL) : GQ c os (k+1) 0 LL where
 toFreeI:=s.toFreeI.next
 ex y hy:=by
  rw [s.ex y hy,Zj,ZI,List.map_append,List.map_map];simp only [NM,List.range_zero,List.filter_nil,List.map_nil,List.append_nil]
  rfl
def Y9 (c : B0) (os : List Int) : List (List (List Int)):=(List.range c.AR.toNat).map fun y : Nat=>(DO c os y).map LR
theorem GQ.full (s : GQ c os os.length 0 LL) : LL=Y9 c os:=by
 have hl:=s.len;refine List.ext_getElem (by simp [Y9]; omega) fun y h1 h2=>?_
 have:=s.ex y h1;rw [Za] at this;simp only [NM,List.range_zero,List.filter_nil,List.map_nil,List.append_nil] at this;simp only [Y9,List.getElem_map,List.getElem_range]
 simpa [gE,h1] using this
theorem VT {y : Int} (hy : 0≤y∧y<c.AR) : (Y9 c os).getD y.toNat default=(DO c os y).map LR:=by
 rw [Y9,AS _ _ (by omega),Int.toNat_of_nonneg hy.1]
def F7 (c : B0) (os : List Int) : SF:=IW c (Y9 c os)
theorem O9 {y : Int} (hy : 0≤y∧y<c.AR) : ix (F7 c os).A4 y=((DO c os y).length : Int):=by
 have hl : y.toNat<(Y9 c os).length:=by simp [Y9]; omega
 rw [ix,F7,IW]
 show ((Y9 c os).map fun l=>(l.length : Int)).getD y.toNat default=_
 rw [B8 _ hl,show (Y9 c os).getD y.toNat default=(DO c os y).map LR from VT hy,List.length_map]
theorem ZS (hc : c.Is) {a : Nat} (ha : a<c.AH.length) : (F7 c os).Aa.getD a default=(List.range (DO c os (ix c.AH (a : Int))).length).map fun e=>bP c os a e:=by
 have haI : 0≤(a : Int)∧((a : Int)).toNat<c.AH.length:=by omega
 have hf:=hc.1.Cl haI.2
 have ht:=hc.1.C7 haI.2
 have Pk : ix c.AH (a : Int)=c.AH.getD a default:=AJ _ _
 have kb : ix c.to (a : Int)=c.to.getD a default:=AJ _ _
 have hA : ∀ e,bP c os a e=Kf c os (((DO c os (c.AH.getD a default)).getD e default).1,ix (ix c.comp ((DO c os (c.AH.getD a default)).getD e default).2) (a : Int)):=fun e=>by rw [bP,Pk]
 rw [Pk] at hf ⊢;rw [kb] at ht;rw [F7,IW]
 show ((List.range c.AH.length).map (Dp c (Y9 c os))).getD a default=_
 rw [AS _ _ ha,Dp];rw [show (Y9 c os).getD (c.AH.getD a default).toNat default=_ from VT hf,show (Y9 c os).getD (c.to.getD a default).toNat default=_ from VT ht,List.map_map];refine List.ext_getElem (by simp) fun e h1 h2=>?_
 have he : e<(DO c os (c.AH.getD a default)).length:=by simpa using h1
 simp only [List.getElem_map,List.getElem_range,Function.comp_def]
 have e1 : (DO c os (c.AH.getD a default))[e]=(DO c os (c.AH.getD a default)).getD e default:=SO _ he;rw [e1,hA]
 have hm:=W8 he
 have Sr:=Eh.comp (q:=⟨os,[],[],[]⟩) hc hm.1 haI (by rw [Pk]; exact hm.2)
 have CH : (((DO c os (c.AH.getD a default)).getD e default).1,ix (ix c.comp ((DO c os (c.AH.getD a default)).getD e default).2) (a : Int))∈DO c os (c.to.getD a default):=OH.mpr ⟨Sr.1,by rw [Sr.2,kb]⟩
 have:=Tx _ CH (Ni os _);rw [LR] at this
 have e2 : ([ix (LR ((DO c os (c.AH.getD a default)).getD e default)) 0,(ix c.comp (ix (LR ((DO c os (c.AH.getD a default)).getD e default)) 1)).getD a default] : List Int)=[((DO c os (c.AH.getD a default)).getD e default).1,ix (ix c.comp ((DO c os (c.AH.getD a default)).getD e default).2) (a : Int)]:=by
  rw [AJ (ix c.comp ((DO c os (c.AH.getD a default)).getD e default).2)]; rfl
 rw [e2,this,Kf]
 show _=indexOf (DO c os (ix c.to (ix (ix c.comp ((DO c os (c.AH.getD a default)).getD e default).2) (a : Int)))) _
 rw [Sr.2,kb]
end
end Go.Shf
namespace Go.Shf
open Go.AW
def eE (l : List Int) : Prop:=∀ k : Int,0≤k→k<Jf l→k∈l
theorem Ts (l : List Int) : eE (En l):=fun k h0 hk=>by
 have hN : ∀ v,v∈En l→0≤v∧v<((EC l).length : Int):=fun v hv=>by
  obtain ⟨u,hu,rfl⟩:=List.mem_map.mp hv
  have:=B3 ((HN _ l rfl u).mpr hu);omega
 have hb:=(Rs (N:=((EC l).length : Int)) (by omega) hN).1
 have hl : k.toNat<(EC l).length:=by omega
 have hi:=Bp (TD l) hl;refine List.mem_map.mpr ⟨(EC l).getD k.toNat default,(HN _ l rfl _).mp (AE.mpr ⟨_,hl,rfl⟩), ?_⟩;rw [hi]; omega
theorem Ou (n : Nat) (ps : List (List Int)) : eE (IQ n ps):=Ts _
def kW (f : SF) (CC : List (List Int)) (a d e : Nat) : Prop :=
 (ix CC (f.shape.AH.getD a default)).getD d default=(ix CC (f.shape.AH.getD a default)).getD e default →
 ix (ix CC (f.shape.to.getD a default)) ((f.Aa.getD a default).getD d default)=ix (ix CC (f.shape.to.getD a default)) ((f.Aa.getD a default).getD e default)
def CgD (f : SF) (CC : List (List Int)) (a d k : Nat) : Prop:=∀ e : Nat,e<k→kW f CC a d e
def mD (f : SF) (CC : List (List Int)) (a k : Nat) : Prop:=∀ d : Nat,d<k→CgD f CC a d d
def Cg (f : SF) (CC : List (List Int)) (k : Nat) : Prop:=∀ a : Nat,a<k→mD f CC a (f.Aa.getD a default).length
theorem mD.at {f : SF} {CC : List (List Int)} {a k : Nat} (h : mD f CC a k) {d e : Nat} (hd : d<k) (he : e<k) : kW f CC a d e:=fun q=>by
 rcases Nat.lt_trichotomy d e with l | l | l
 ·exact (h e he d l q.symm).symm
 ·rw [l]
 ·exact h d hd e l q
def LD (f : SF) (CC : List (List Int)) (a : Nat) (A : List Int) (k : Nat) : Prop:=(A.length : Int)=Jf (ix CC (f.shape.AH.getD a default)) ∧
 ∀ e : Nat,e<k→ix A ((ix CC (f.shape.AH.getD a default)).getD e default)=ix (ix CC (f.shape.to.getD a default)) ((f.Aa.getD a default).getD e default)
theorem LD.set {f : SF} {CC : List (List Int)} {a k : Nat} {A : List Int} (h : LD f CC a A k) (hC : mD f CC a (f.Aa.getD a default).length) (hk : k<(f.Aa.getD a default).length)
  (h0 : ∀ e : Nat,e≤k→0≤(ix CC (f.shape.AH.getD a default)).getD e default) (h1 : ((ix CC (f.shape.AH.getD a default)).getD k default).toNat<A.length) :
  LD f CC a (A.set ((ix CC (f.shape.AH.getD a default)).getD k default).toNat (ix (ix CC (f.shape.to.getD a default)) ((f.Aa.getD a default).getD k default))) (k+1):=by
 refine ⟨by rw [List.length_set]; exact h.1,fun e he=>?_⟩;rw [ix,FC _ _ h1]
 split
 ·rename_i q
  have e0:=h0 e (by omega)
  have ek:=h0 k (by omega);exact hC.at hk (by omega) (by omega)
 ·rename_i q
  have Bq : e≠k:=fun h=>q (by rw [h]);exact h.2 e (by omega)
structure Xy (f : SF) (CC : List (List Int)) (g : SF) : Prop where
 sh : g.shape=f.shape
 sz : g.A4=CC.map Jf
 al : g.Aa.length=f.Aa.length
 row : ∀ a : Nat,a<f.Aa.length→LD f CC a (g.Aa.getD a default) (f.Aa.getD a default).length
structure cZ (c : B0) (v : List Int) (G : SF) (cls : Int × Int→Int) : Prop where
 sh : G.shape=c
 sl : (G.A4.length : Int)=c.AR
 al : G.Aa.length=c.AH.length
 sz : ∀ y,y∈G.A4→0≤y∧y<17
 len : ∀ a : Int,0≤a∧a.toNat<c.AH.length→((ix G.Aa a).length : Int)=ix G.A4 (ix c.AH a)
 rng : ∀ p,Eh c v p→0≤cls p∧cls p<ix G.A4 (ix c.to p.2)
 l4 : ∀ y e : Int,0≤y∧y<c.AR→0≤e∧e<ix G.A4 y→∃ p,Eh c v p∧ix c.to p.2=y∧cls p=e
 act : ∀ p,Eh c v p→∀ a : Int,0≤a∧a.toNat<c.AH.length→ix c.to p.2=ix c.AH a→ix (ix G.Aa a) (cls p)=cls (p.1,ix (ix c.comp p.2) a)
theorem cZ.is {c : B0} {v : List Int} {G : SF} {cls : Int × Int→Int} (k : cZ c v G cls) (h : c.Is) : G.Is:=by
 obtain ⟨rfl,sl,al,sz,len,rng,l4,act⟩:=k
 have cmp:=fun (p : Int × Int) (hp : Eh G.shape v p) (a : Int) (ha : 0≤a∧a.toNat<G.shape.AH.length) (e : ix G.shape.to p.2=ix G.shape.AH a)=>Eh.comp (q:=⟨v,[],[],[]⟩) h hp ha e;refine ⟨⟨h,sl,al,sz,fun a ha=>?_⟩,⟨fun x hx e he=>?_,fun a b ha hb Ic e he=>?_⟩⟩
 ·have Md : 0≤(a : Int)∧(a : Int).toNat<G.shape.AH.length:=by omega
  have hl:=len a Md;rw [AJ,AJ] at hl;refine ⟨hl,fun y hy=>?_⟩
  obtain ⟨e,he,rfl⟩:=AE.mp hy
  have hf:=h.1.Cl Md.2
  obtain ⟨p,hp,ep,e2⟩:=l4 (ix G.shape.AH a) e hf (by rw [AJ]; omega)
  have h1:=act p hp a Md ep
  have h2:=cmp p hp a Md ep
  have h3:=rng _ h2.1;rw [h2.2,← h1,e2,AJ,AJ,AJ G.shape.to a] at h3;exact h3
 ·have YX:=h.1.il
  have aM : 0≤(x : Int)∧(x : Int)<G.shape.AR:=by omega
  obtain ⟨i1,i2,i3⟩:=h.1.Uk aM
  have e0 : ix G.shape.Aw (x : Int)=G.shape.Aw.getD x default:=AJ _ _;rw [← e0] at he ⊢
  have hl:=len _ i1;rw [i2] at hl
  obtain ⟨p,hp,ep,e2⟩:=l4 x e aM (by omega)
  have h1:=act p hp _ i1 (ep.trans i2.symm);rw [e2,AJ,← ep,h.BW hp.2.1,e2] at h1;rw [← ep]; exact h1
 ·have Md : 0≤(a : Int)∧(a : Int).toNat<G.shape.AH.length:=by omega
  have Kq : 0≤(b : Int)∧(b : Int).toNat<G.shape.AH.length:=by omega
  have hf:=h.1.Cl Md.2
  have hl:=len a Md;rw [AJ,AJ] at hl
  have sI : ix G.shape.to (a : Int)=ix G.shape.AH (b : Int):=by rw [AJ,AJ]; exact Ic
  obtain ⟨p,hp,ep,e2⟩:=l4 (ix G.shape.AH a) e hf (by rw [AJ]; omega)
  have hc:=h.1.comp Md Kq sI
  have h1:=act p hp a Md ep
  have ru:=cmp p hp a Md ep
  have h2:=act _ ru.1 b Kq (ru.2.trans sI)
  have h3:=act p hp _ hc.1 (ep.trans hc.2.1.symm);simp only at h2;rw [← h1,h.assoc hp.2.1 Md Kq ep sI,← h3,e2] at h2;simp only [AJ] at h2;exact h2.symm
theorem Xy.is {c : B0} {os : List Int} {CC : List (List Int)} {g : SF} (h : c.Is) (hK : ClsOk (F7 c os).A4 CC) (ct : ∀ x : Nat,x<CC.length→eE (CC.getD x default)) (q : Xy (F7 c os) CC g) (h17 : ∀ y,y∈g.A4→y<17) : g.Is:=by
 have G7 : (F7 c os).A4.length=c.AR.toNat:=by simp [F7,IW,Y9]
 have Pj : (F7 c os).Aa.length=c.AH.length:=by simp [F7,IW]
 have V8:=h.1.o
 have Ma : CC.length=c.AR.toNat:=by rw [hK.len,G7]
 have CW : ∀ y : Int,0≤y∧y<c.AR→ix g.A4 y=Jf (ix CC y):=fun y hy=>by rw [ix,q.sz,B8 _ (by omega)]; rfl
 have B4 : ∀ y : Int,0≤y∧y<c.AR→(ix CC y).length=(DO c os y).length:=fun y hy=>by
  have h1:=hK.row y.toNat (by omega)
  have h2:=O9 (os:=os) hy;rw [ix] at h2 ⊢;omega
 have gH : ∀ y : Int,0≤y∧y<c.AR→∀ v,v∈ix CC y→0≤v∧v<Jf (ix CC y):=fun y hy v hv=>by
  have h1:=hK.Nb y.toNat (by omega)
  have h2:=O9 (os:=os) hy;exact ⟨(h1 v hv).1,(Rs (N:=ix (F7 c os).A4 y) (by omega) h1).2 v hv⟩
 refine cZ.is (c:=c) (v:=os) (cls:=fun p=>ix (ix CC (ix c.to p.2)) (Kf c os p)) ⟨q.sh, ?_,by rw [q.al,Pj],fun y hy=>⟨?_,h17 y hy⟩,fun a ha=>?_,fun p hp=>?_,fun y e hy he=>?_,fun p hp a ha e=>?_⟩ h
 ·rw [q.sz,List.length_map]; omega
 ·rw [q.sz] at hy
  obtain ⟨l,hl,rfl⟩:=List.mem_map.mp hy
  obtain ⟨x,hx,rfl⟩:=AE.mp hl
  have h1:=hK.Nb x (by rw [← hK.len]; exact hx)
  have h2:=hK.row x (by rw [← hK.len]; exact hx);exact (Rs (N:=(F7 c os).A4.getD x default) (by omega) h1).1.1
 ·have hf:=h.1.Cl ha.2
  have:=(q.row a.toNat (by rw [Pj]; exact ha.2)).1;rw [CW _ hf];exact this
 ·have ht:=h.1.C7 hp.2.1.2
  have Fi:=(Sf hp).1;rw [CW _ ht];exact gH _ ht _ (Bi (by rw [B4 _ ht]; exact Fi.2))
 ·rw [CW y hy] at he
  have hc:=ct y.toNat (by omega) e he.1 he.2
  obtain ⟨i,hi,ei⟩:=AE.mp hc
  have hi : i<(DO c os y).length:=by rw [← B4 y hy]; exact hi
  obtain ⟨h1,h2⟩:=W8 hi;refine ⟨_,h1,h2, ?_⟩
  show ix (ix CC (ix c.to ((DO c os y).getD i default).2)) (Kf c os ((DO c os y).getD i default))=e
  rw [h2,lG hi,AJ]; exact ei
 ·have hf:=h.1.Cl ha.2
  have VF:=Sf hp;rw [e] at VF
  have h1:=ZS (os:=os) h ha.2;rw [Int.toNat_of_nonneg ha.1] at h1
  have hl : ((F7 c os).Aa.getD a.toNat default).length=(DO c os (ix c.AH a)).length:=by rw [h1]; simp
  have h2:=(q.row a.toNat (by rw [Pj]; exact ha.2)).2 (Kf c os p).toNat (by rw [hl]; exact VF.1.2);rw [h1,AS _ _ VF.1.2,bI hp e] at h2
  have h3:=h.1.comp hp.2.1 ha e
  show ix (ix g.Aa a) (ix (ix CC (ix c.to p.2)) (Kf c os p))=ix (ix CC (ix c.to (ix (ix c.comp p.2) a))) (Kf c os (p.1,ix (ix c.comp p.2) a))
  rw [e,h3.2.2];exact h2
structure Kt (sz : List Int) (CC : List (List Int)) : Prop extends ClsOk sz CC where
 ct : ∀ x : Nat,x<sz.length→eE (CC.getD x default)
theorem Yx {sz : List Int} (h : ∀ y,y∈sz→0≤y) (PP : List (List (List Int))) : Kt sz ((List.range sz.length).map (Ku sz PP)) where
 toClsOk:=eS h PP
 ct x hx:=by rw [AS _ _ hx,Ku]; exact Ou _ _
theorem Kt.set {sz : List Int} {CC : List (List Int)} (s : Kt sz CC) {y : Nat} (hy : y<sz.length) {m : List Int} (hm : (m.length : Int)=sz.getD y default) (hr : ∀ v,v∈m→0≤v∧v<sz.getD y default) (hc : eE m) : Kt sz (CC.set y m) where
 toClsOk:=s.toClsOk.set hy hm hr
 ct x hx:=by
  rw [FC CC m (by rw [s.len]; exact hy)]
  split
  ·exact hc
  ·exact s.ct x hx
theorem ZV {P : Nat→List Int→Prop} {RR : List (List Int)} {A : List Int} {a : Nat} (hl : RR.length=a) (h : ∀ i : Nat,i<a→P i (RR.getD i default)) (hA : P a A) : ∀ i : Nat,i<a+1→P i ((RR++[A]).getD i default):=fun i hi=>by
 by_cases e : i=a
 ·subst e;rw [show (RR++[A]).getD i default=A by simp [gE,← hl]]; exact hA
 ·rw [show (RR++[A]).getD i default=RR.getD i default by simp [gE,List.getElem?_append_left (show i<RR.length by omega)]];exact h i (by omega)
end Go.Shf
namespace Go.Shf
open Go.AW
theorem kU {P : Nat→Bool} {n a : Nat} (ha : a<n) (h : P a=true) : ((List.range n).filter P).getD ((List.range a).filter P).length default=a∧((List.range a).filter P).length<((List.range n).filter P).length:=by
 obtain ⟨m,rfl⟩ : ∃ m,n=a+1+m:=⟨n - (a+1),by omega⟩
 have e : (List.range (a+1+m)).filter P=(List.range a).filter P++a::((List.range m).map (a+1+·)).filter P:=by
  rw [List.range_add,List.filter_append,List.range_succ,List.filter_append,List.filter_cons,if_pos h]; simp
 rw [e]
 constructor
 ·rw [gE,List.getElem?_append_right (Nat.le_refl _),Nat.sub_self]; rfl
 ·simp
section
variable {f g : SF} {p p' : List (List Int)} {x e d : Int} {k : Nat} {N : List (Int × Int)} {M M' : List (List (List Int))}
def L6 (c : B0) (x : Int) (a : Nat) : Nat:=((List.range a).filter fun i=>decide (c.AH.getD i default=x)).length
theorem Qw (c : B0) (x : Int) (a : Nat) : L6 c x (a+1)=if c.AH.getD a default=x then L6 c x a+1 else L6 c x a:=by
 rw [L6,L6,List.range_succ,List.filter_append,List.length_append]
 by_cases h : c.AH.getD a default=x
 ·rw [if_pos h,List.filter_cons,if_pos (decide_eq_true h)]; simp
 ·rw [if_neg h,List.filter_cons,if_neg (by simpa using h)]; simp
def iN (f g : SF) (p : List (List Int)) (x e d : Int) : Prop:=∃ p' N,Ey f g p x e d (outs f.shape x).length p' N
theorem Ey.bad2 (w : VE f g x e d) (s : Ey f g p x e d k p' N) (hk : k<(outs f.shape x).length) {a : Int} (ea : (outs f.shape x).getD k default=a)
  (h : 0≤ix (ix p' (ix f.shape.to a)) (ix (ix f.Aa a) e)) (Bq : ix (ix p' (ix f.shape.to a)) (ix (ix f.Aa a) e)≠ix (ix g.Aa a) d) (t : List (List Int))
  (key : ∀ b,b∈outs f.shape x→ix (ix t (ix f.shape.to b)) (ix (ix f.Aa b) e)=ix (ix g.Aa b) d)
  (ht : ∀ y i : Int,0≤y∧y<f.shape.AR→0≤i∧i<ix f.A4 y→0≤ix (ix p y) i→ix (ix t y) i=ix (ix p y) i) : False:=by
 have hA:=w.arr (b:=a) (AE.mpr ⟨k,hk,ea⟩)
 have h1:=key a (AE.mpr ⟨k,hk,ea⟩)
 rcases s.new _ _ hA.2.2.1.1 hA.2.2.2.1.1 with q | ⟨_,b,hb,q3,q4,q5⟩
 ·rw [q] at h Bq;exact Bq ((ht _ _ hA.2.2.1 hA.2.2.2.1 h).symm.trans h1)
 ·have h2:=key b (List.mem_of_mem_take hb);rw [q3,q4] at h2;exact Bq (q5.trans (h2.symm.trans h1))
theorem Ey.zm (w : VE f g x e d) (s : Ey f g p x e d k p' N) (hk : k<(outs f.shape x).length) {a : Int} (ea : (outs f.shape x).getD k default=a)
  (h : 0≤ix (ix p' (ix f.shape.to a)) (ix (ix f.Aa a) e)) (Bq : ix (ix p' (ix f.shape.to a)) (ix (ix f.Aa a) e)≠ix (ix g.Aa a) d) : ¬ iN f g p x e d:=fun ⟨q,N',hq⟩ =>
 s.bad2 w hk ea h Bq q (fun b hb=>hq.WV b (by rw [List.take_length]; exact hb)) fun y i hy hi h0=>hq.BA hy.1 hi.1 (by omega)
theorem fP (w : VE f g x e d) (hP : PT f g p) : iN f g p x e d∨∀ t,Ii f g p t→ix (ix t x) e≠d:=by
 have key : ∀ k,k≤(outs f.shape x).length→(∃ p' N,Ey f g p x e d k p' N)∨∀ t,Ii f g p t→ix (ix t x) e≠d:=by
  intro k
  induction k with
  | zero=>intro _; exact .inl ⟨p,[],.zero f g p x e d⟩
  | succ k ih =>
   intro hk
   rcases ih (by omega) with ⟨p',N,s⟩ | h
   ·by_cases h0 : 0≤ix (ix p' (ix f.shape.to ((outs f.shape x).getD k default))) (ix (ix f.Aa ((outs f.shape x).getD k default)) e)
    ·by_cases h1 : ix (ix p' (ix f.shape.to ((outs f.shape x).getD k default))) (ix (ix f.Aa ((outs f.shape x).getD k default)) e)=ix (ix g.Aa ((outs f.shape x).getD k default)) d
     ·exact .inl ⟨_,_,s.same (by omega) rfl h1⟩
     ·exact .inr (s.bad w (by omega) rfl h0 h1)
    ·exact .inl ⟨_,_,s.fresh w hP (by omega) rfl h0⟩
   ·exact .inr h
 exact key _ (Nat.le_refl _)
theorem Nq (w : VE f g x e d) (hP : PT f g p) (h : ¬ iN f g p x e d) : ∀ t,Ii f g p t→ix (ix t x) e≠d:=(fP w hP).resolve_left h
structure Vn (f : SF) (p : List (List Int)) (x e : Int) : Prop where
 hx : 0≤x∧x<f.shape.AR
 he : 0≤e∧e<ix f.A4 x
 un : ix (ix p x) e=-1
 fst : ∀ y i : Int,0≤y∧y<f.shape.AR→0≤i∧i<ix f.A4 y→(y<x∨(y=x∧i<e))→ix (ix p y) i≠-1
theorem pD (h : Vn f p x e) (hP : PT f g p) (hs : (f.A4.length : Int)=f.shape.AR) {s t : List (List Int)} (s1 : Ii f g p s) (t1 : Ii f g p t) (D3 : ix (ix s x) e<ix (ix t x) e) : uD s t:=by
 refine ⟨x.toNat,e.toNat,fun y i hyi=>?_,D3⟩
 have hx:=h.hx
 have he:=h.he
 have hy : (0 : Int)≤(y : Int)∧(y : Int)<f.shape.AR:=by omega
 have l1:=(s1.1.pl y hy).1
 have l2:=(t1.1.pl y hy).1
 by_cases hi : (i : Int)<ix f.A4 y
 ·have Fg : (0 : Int)≤(i : Int)∧(i : Int)<ix f.A4 y:=⟨by omega,hi⟩
  have Bq:=h.fst y i hy Fg (by omega)
  have XM:=((hP.val y i hy Fg).resolve_left Bq).1
  have a1:=s1.2 y i hy Fg XM
  have a2:=t1.2 y i hy Fg XM
  have:=a1.trans a2.symm
  simpa only [AJ] using this
 ·rw [AJ] at l1 l2;rw [gE,gE (l:=t.getD y default),List.getElem?_eq_none (by omega),List.getElem?_eq_none (by omega)]
theorem Ge.skip {j j' : Int} (h : Ge f g p x e j M) (hj : j≤j') (hn : ∀ u,j≤u→u<j'→∀ t,Ii f g p t→ix (ix t x) e≠u) : Ge f g p x e j' M:=⟨h.N7,fun t=>by
 rw [h.mem]
 constructor
 ·rintro ⟨h1,h2⟩; exact ⟨h1,by omega⟩
 ·rintro ⟨h1,h2⟩;refine ⟨h1, ?_⟩
  by_cases D3 : ix (ix t x) e<j
  ·exact D3
  ·exact absurd rfl (hn _ (by omega) h2 t h1)⟩
theorem Ge.next (h : Vn f p x e) (hP : PT f g p) (hs : (f.A4.length : Int)=f.shape.AR) {j : Int} (ha : Ge f g p x e j M) (h2 : Dm f g p' M') (hp : ∀ t,Ii f g p' t↔Ii f g p t∧ix (ix t x) e=j) : Ge f g p x e (j+1) (M++M') :=
 ha.more h.hx h.he h2 hs (fun y i hy hi=>(hP.val y i hy hi).imp id fun h=>h.1) hp h.fst
theorem Ge.pre (h : Vn f p x e) (hP : PT f g p) (hs : (f.A4.length : Int)=f.shape.AR) {j : Int} (ha : Ge f g p x e j M) {L : List (List (List Int))} (hL : Dm f g p L) : M <+: L:=by
 have : Dm f g p (M++L.filter fun t=>decide (j≤ix (ix t x) e)):=by
  refine ⟨List.pairwise_append.mpr ⟨ha.N7,hL.N7.sublist List.filter_sublist,fun s Hf t ht=>?_⟩,fun t=>?_⟩
  ·obtain ⟨s1,s2⟩:=(ha.mem s).mp Hf;rw [List.mem_filter,decide_eq_true_eq,hL.mem] at ht;exact pD h hP hs s1 ht.1 (by omega)
  ·rw [List.mem_append,ha.mem,List.mem_filter,decide_eq_true_eq,hL.mem]
   constructor
   ·rintro (h | h) <;> exact h.1
   ·intro h1
    by_cases D3 : ix (ix t x) e<j
    ·exact .inl ⟨h1,D3⟩
    ·exact .inr ⟨h1,by omega⟩
 rw [hL.uniq this];exact List.prefix_append _ _
theorem bW {P : Nat→Prop} (h : ∃ n,P n) : ∃ n,P n∧∀ m,m<n→¬ P m:=by
 obtain ⟨n,hn⟩:=h
 induction n using Nat.strongRecOn with
 | _ n ih =>
  by_cases hc : ∃ m,m<n∧P m
  ·obtain ⟨m,h1,h2⟩:=hc;exact ih m h1 h2
  ·exact ⟨n,hn,fun m hm hP=>hc ⟨m,hm,hP⟩⟩
theorem oW (hf : f.Is) (hP : PT f g p) : (∃ x e,Vn f p x e)∨∀ y i : Int,0≤y∧y<f.shape.AR→0≤i∧i<ix f.A4 y→ix (ix p y) i≠-1:=by
 cases hq : (W5 f).find? fun q=>decide (ix (ix p q.1) q.2=-1) with
 | none =>
  refine .inr fun y i hy hi e=>?_
  have:=List.find?_eq_none.mp hq (y,i) ((Ol hf.1).mpr ⟨hy,hi⟩)
  simp [e] at this
 | some q =>
  by_cases hn : ∀ y i : Int,0≤y∧y<f.shape.AR→0≤i∧i<ix f.A4 y→ix (ix p y) i≠-1
  ·exact .inr hn
  ·refine .inl ?_
   have hex : ∃ n : Nat,∃ i : Int,((n : Int)<f.shape.AR)∧(0≤i∧i<ix f.A4 n)∧ix (ix p n) i=-1:=by
    false_or_by_contra
    rename_i hc
    refine hn fun y i hy hi he=>hc ⟨y.toNat,i, ?_, ?_, ?_⟩
    ·omega
    ·rw [Int.toNat_of_nonneg hy.1]; exact hi
    ·rw [Int.toNat_of_nonneg hy.1]; exact he
   obtain ⟨n,⟨i0,lR,kh,gx⟩,rR⟩:=bW hex
   have hex2 : ∃ m : Nat,((m : Int)<ix f.A4 n)∧ix (ix p n) m=-1:=⟨i0.toNat,by omega,by rw [Int.toNat_of_nonneg kh.1]; exact gx⟩
   obtain ⟨m,⟨fq,vM⟩,jl⟩:=bW hex2;refine ⟨n,m,⟨by omega,lR⟩,⟨by omega,fq⟩,vM,fun y i hy hi D3 he=>?_⟩
   rcases D3 with h | ⟨rfl,h⟩
   ·refine rR y.toNat (by omega) ⟨i,by omega, ?_, ?_⟩
    ·rw [Int.toNat_of_nonneg hy.1]; exact hi
    ·rw [Int.toNat_of_nonneg hy.1]; exact he
   ·refine jl i.toNat (by omega) ⟨by omega, ?_⟩;rw [Int.toNat_of_nonneg hi.1]; exact he
theorem dF (hf : f.Is) (hg : g.Is) (sh : f.shape=g.shape) : ∀ (n : Nat) (p : List (List Int)),M0 f p=n→PT f g p→∃ M,Dm f g p M:=by
 intro n
 induction n using Nat.strongRecOn with
 | _ n ih =>
 intro p hn hP
 rcases oW hf hP with ⟨x,e,h⟩ | h
 rotate_left 1
 ·exact ⟨[p],OU hf hP h⟩
 have Gd:=hf.1.sl
 have key : ∀ d : Nat,(d : Int)≤ix g.A4 x→∃ M,Ge f g p x e d M:=by
  intro d
  induction d with
  | zero=>intro _; exact ⟨[],.zero h.hx h.he⟩
  | succ d ihd =>
   intro hd
   obtain ⟨M,hM⟩:=ihd (by omega)
   have II : VE f g x e d:=⟨hf,hg,sh,h.hx,h.he,by omega⟩
   rcases fP II hP with ⟨p',N,s⟩ | Ev
   ·obtain ⟨M',sy⟩:=ih (M0 f p') (by rw [← hn]; exact s.less II hP h.un) p' rfl (s.pt II hP);exact ⟨M++M',by rw [Int.natCast_succ]; exact hM.next h hP Gd sy fun t=>s.ext II hP t⟩
   ·exact ⟨M,by rw [Int.natCast_succ]; exact hM.none Ev⟩
 have hX:=hg.1.s9 (x:=x) (by rw [← sh]; exact h.hx)
 have h0:=(hg.1.sz _ (Bi hX.2)).1
 obtain ⟨M,hM⟩:=key (ix g.A4 x).toNat (by omega);rw [Int.toNat_of_nonneg h0] at hM;exact ⟨M,hM.done h.hx h.he⟩
noncomputable def Mr (f g : SF) (p : List (List Int)) : List (List (List Int)):=open Classical in if h : ∃ M,Dm f g p M then Classical.choose h else []
theorem PW (hf : f.Is) (hg : g.Is) (sh : f.shape=g.shape) (hP : PT f g p) : Dm f g p (Mr f g p):=by
 have h:=dF hf hg sh _ p rfl hP;rw [Mr,dif_pos h]; exact Classical.choose_spec h
theorem Nw (hf : f.Is) (hg : g.Is) (sh : f.shape=g.shape) (hP : PT f g p) {M : List (List (List Int))} (h : Dm f g p M) : M=Mr f g p:=h.uniq (PW hf hg sh hP)
noncomputable def ER (f g : SF) (p : List (List Int)) (x e : Int) (n : Nat) : List Int:=open Classical in ((List.range n).filter fun u : Nat=>decide (iN f g p x e u)).map Int.ofNat
theorem oZ {n : Nat} (h : iN f g p x e n) : ER f g p x e (n+1)=ER f g p x e n++[(n : Int)]:=by
 classical
 rw [ER,List.range_succ,List.filter_append,List.filter_cons,if_pos (decide_eq_true h),List.map_append]; rfl
theorem pL {n : Nat} (h : ¬ iN f g p x e n) : ER f g p x e (n+1)=ER f g p x e n:=by
 classical
 rw [ER,List.range_succ,List.filter_append,List.filter_cons,if_neg (by simpa using h),List.map_append]; simp [ER]
theorem Uh (n : Nat) : (ER f g p x e n).length≤n:=by
 rw [ER,List.length_map];refine Nat.le_trans (List.length_filter_le _ _) ?_;rw [List.length_range]; exact Nat.le_refl _
theorem JJ {n : Nat} {u : Int} : u∈ER f g p x e n↔(0≤u∧u<n)∧iN f g p x e u:=by
 classical
 simp only [ER,List.mem_map,List.mem_filter,List.mem_range,decide_eq_true_eq]
 constructor
 ·rintro ⟨a,⟨h1,h2⟩,rfl⟩;exact ⟨⟨by simp,by simpa using h1⟩,h2⟩
 ·rintro ⟨⟨h1,h2⟩,h3⟩;refine ⟨u.toNat,⟨by omega, ?_⟩,by simp [Int.toNat_of_nonneg h1]⟩;rw [Int.toNat_of_nonneg h1]; exact h3
theorem dL (n : Nat) : (ER f g p x e n).Pairwise (·<·):=by
 classical
 rw [ER,List.pairwise_map];refine List.Pairwise.imp (R:=fun a b : Nat=>a<b) (fun {a b} h=>by simpa using h) ?_;exact List.Pairwise.sublist List.filter_sublist List.pairwise_lt_range
theorem cO (hf : f.Is) (hg : g.Is) (sh : f.shape=g.shape) (hP : PT f g p) (hx : 0≤x∧x<f.shape.AR) (he : 0≤e∧e<ix f.A4 x) (h : ER f g p x e (ix g.A4 x).toNat=[]) : Dm f g p []:=by
 refine ⟨.nil,fun t=>⟨fun h=>by simp at h,fun ht=>?_⟩⟩
 have hv:=(ht.1.pl x hx).2 e he
 have II : VE f g x e (ix (ix t x) e):=⟨hf,hg,sh,hx,he,hv⟩
 have Ev : ¬ iN f g p x e (ix (ix t x) e):=fun FJ=>by
  have : ix (ix t x) e∈ER f g p x e (ix g.A4 x).toNat:=JJ.mpr ⟨⟨hv.1,by omega⟩,FJ⟩;rw [h] at this; simp at this
 exact absurd rfl (Nq II hP Ev t ht)
structure UT (f g : SF) (p : List (List Int)) (x e : Int) (n i : Nat) (b : Int) (M : List (List (List Int))) : Prop where
 acc : Ge f g p x e b M
 b0 : 0≤b∧b≤n
 lo : ∀ u,u∈(ER f g p x e n).drop i→b≤u
 hi : ∀ u,b≤u→u<n→iN f g p x e u→u∈(ER f g p x e n).drop i
theorem UT.start (hx : 0≤x∧x<f.shape.AR) (he : 0≤e∧e<ix f.A4 x) (n : Nat) : UT f g p x e n 0 0 [] :=
 ⟨.zero hx he,by omega,fun u hu=>(JJ.mp (by simpa using hu)).1.1,fun u h1 h2 h3=>by simpa using JJ.mpr ⟨⟨h1,h2⟩,h3⟩⟩
theorem UT.step (w : ∀ d,0≤d→d<ix g.A4 x→VE f g x e d) (h : Vn f p x e) (hP : PT f g p) (hs : (f.A4.length : Int)=f.shape.AR) {n i : Nat} {b : Int} (hn : (n : Int)=ix g.A4 x) (s : UT f g p x e n i b M) (hi : i<(ER f g p x e n).length)
  {c : Int} (hc : (ER f g p x e n).getD i default=c) (h2 : Dm f g p' M') (hp : ∀ t,Ii f g p' t↔Ii f g p t∧ix (ix t x) e=c) : UT f g p x e n (i+1) (c+1) (M++M'):=by
 have hm:=JJ.mp (AE.mpr ⟨i,hi,hc⟩)
 have ed : (ER f g p x e n).drop i=c::(ER f g p x e n).drop (i+1):=by
  rw [List.drop_eq_getElem_cons hi]
  congr 1
  rw [← hc,gE,List.getElem?_eq_getElem hi]; rfl
 have iT : ∀ u,u∈(ER f g p x e n).drop (i+1)→c<u:=by
  have:=(dL (f:=f) (g:=g) (p:=p) (x:=x) (e:=e) n).sublist (List.drop_sublist i _);rw [ed,List.pairwise_cons] at this;exact this.1
 have vN:=s.lo c (by rw [ed]; simp);refine ⟨Ge.next h hP hs (s.acc.skip vN fun u h1 h2 t ht=>?_) h2 hp,by omega,fun u hu=>by have:=iT u hu; omega,fun u h1 h2 h3=>?_⟩
 ·have h0:=s.b0;refine Nq (w u (by omega) (by omega)) hP (fun FJ=>?_) t ht
  have:=s.hi u h1 (by omega) FJ;rw [ed] at this
  rcases List.mem_cons.mp this with rfl | hu
  ·omega
  ·have:=iT u hu; omega
 ·have:=s.hi u (by omega) h2 h3;rw [ed] at this
  rcases List.mem_cons.mp this with rfl | hu
  ·omega
  ·exact hu
theorem UT.done (w : ∀ d,0≤d→d<ix g.A4 x→VE f g x e d) (h : Vn f p x e) (hP : PT f g p) {n : Nat} {b : Int} (hn : (n : Int)=ix g.A4 x) (s : UT f g p x e n (ER f g p x e n).length b M) : Dm f g p M:=by
 refine Ge.done h.hx h.he ?_;refine s.acc.skip (by have:=s.b0; omega) fun u h1 h2 t ht=>?_
 have h0:=s.b0;refine Nq (w u (by omega) h2) hP (fun FJ=>?_) t ht
 have:=s.hi u h1 (by omega) FJ
 simp at this
end
end Go.Shf
namespace Go.Shf
open Go.AW
section
variable {f g : SF} {p : List (List Int)} {x e : Int}
def F5 (f : SF) (p : List (List Int)) (Y D x e : Int) : Prop :=
 ((x=-1∧e=-1)∨((0≤x∧x<f.shape.AR)∧(0≤e∧e<ix f.A4 x)∧ix (ix p x) e=-1∧(Y<x∨(Y=x∧D≤e)))) ∧
  ∀ y i : Int,0≤y∧y<f.shape.AR→0≤i∧i<ix f.A4 y→(Y<y∨(Y=y∧D≤i))→ix (ix p y) i=-1→0≤x∧(x<y∨(x=y∧e≤i))
theorem F5.start {n : Int} (hn : f.shape.AR≤n) : F5 f p n 0 (-1) (-1):=⟨.inl ⟨rfl,rfl⟩,fun y i hy _ h _=>by omega⟩
theorem F5.row {Y D : Int} (hD : ix f.A4 Y≤D) (s : F5 f p (Y+1) 0 x e) : F5 f p Y D x e:=⟨s.1.imp id fun ⟨h1,h2,h3,h4⟩=>⟨h1,h2,h3,by omega⟩,fun y i hy hi h h0=>by
 refine s.2 y i hy hi ?_ h0
 rcases h with h | ⟨rfl,h⟩
 ·rcases Int.lt_or_le (Y+1) y with h2 | h2
  ·exact .inl h2
  ·exact .inr ⟨by omega,hi.1⟩
 ·omega⟩
theorem F5.BA {Y D : Int} (s : F5 f p Y (D+1) x e) (h0 : ix (ix p Y) D≠-1) : F5 f p Y D x e:=⟨s.1.imp id fun ⟨h1,h2,h3,h4⟩=>⟨h1,h2,h3,by omega⟩,fun y i hy hi h h1=>by
 refine s.2 y i hy hi ?_ h1
 rcases h with h | ⟨rfl,h⟩
 ·exact .inl h
 ·refine .inr ⟨rfl, ?_⟩
  by_cases e : i=D
  ·subst e; exact absurd h1 h0
  ·omega⟩
theorem F5.WV {Y D : Int} (s : F5 f p Y (D+1) x e) (hY : 0≤Y∧Y<f.shape.AR) (hD : 0≤D∧D<ix f.A4 Y) (h0 : ix (ix p Y) D=-1) : F5 f p Y D Y D:=⟨.inr ⟨hY,hD,h0,.inr ⟨rfl,by omega⟩⟩,fun y i hy hi h h1=>⟨hY.1,h⟩⟩
theorem F5.none (s : F5 f p 0 0 x e) (hx : x<0) : ∀ y i : Int,0≤y∧y<f.shape.AR→0≤i∧i<ix f.A4 y→ix (ix p y) i≠-1:=fun y i hy hi h=>by
 have:=(s.2 y i hy hi (by omega) h).1;omega
theorem F5.fst (s : F5 f p 0 0 x e) (hx : ¬ x<0) : Vn f p x e:=by
 rcases s.1 with h | ⟨h1,h2,h3,_⟩
 ·omega
 ·refine ⟨h1,h2,h3,fun y i hy hi D3 h=>?_⟩
  have:=s.2 y i hy hi (by omega) h;omega
end
end Go.Shf
namespace Go.Shf
open Go.AW
end Go.Shf
namespace Go.AW
def Cr (a : AV) : Prop:=∀ (g g' : Gh) (v : Value),(∀ i p,g.io i=some p→g'.io i=some p)→Ad g a v→Ad g' a v
theorem Cr.int (k : IntKind) (n : Int) : Cr (.int k n):=fun g g' v _ h=>by cases h; exact .int k n
theorem Cr.bool (b : Bool) : Cr (.bool b):=fun g g' v _ h=>by cases h; exact .bool b
theorem Cr.buf (i n : Nat) : Cr (.buf i n):=fun g g' v hg h=>by
 cases h with
 | DX _ h=>exact .DX _ (hg _ _ h)
 | buf _ _ b cap h=>exact .buf _ _ b cap (hg _ _ h)
theorem Cr.A1 : Cr .A1:=fun g g' v hg h=>by cases h; exact .A1
theorem Cr.agg {cs : List AV} (hc : ∀ c,c∈cs→Cr c) : Cr (.agg cs):=fun g g' v hg h=>by
 cases h with
 | agg _ vs hs hv =>
  refine .agg cs vs hs fun i hi=>hc _ ?_ g g' _ hg (hv i hi);rw [gE,List.getElem?_eq_getElem hi]; simp
theorem Cr.CK {cs : List AV} (hc : ∀ c,c∈cs→Cr c) : Cr (.CK cs):=fun g g' v hg h=>by
 cases h with
 | CK _ vs hs hv =>
  refine .CK cs vs hs fun i hi=>hc _ ?_ g g' _ hg (hv i hi);rw [gE,List.getElem?_eq_getElem hi]; simp
def AF.plain : AF→Prop
 | .cells _ cs _=>∀ c,c∈cs→Cr c
 | .map _ _=>False
def AF.Q4 : AF→AF
 | .cells sz cs _=>.cells sz cs cs.length
 | o=>o
def AF.isMap : AF→Bool
 | .map _ _=>true
 | _=>false
def ZR : Option AF→Option AF
 | some (.cells sz cs _)=>some (.cells sz cs cs.length)
 | _=>none
def AA.Q4 (H : AA) : AA:=(H.filter fun x=>!((H.get x.1).elim false AF.isMap)).map fun x=>(x.1,x.2.Q4)
theorem AA.get_filter (H : AA) (p : Nat→Bool) (i : Nat) : AA.get (H.filter fun x=>p x.1) i=if p i then H.get i else none:=by
 induction H with
 | nil=>simp [AA.get]
 | cons x r ih =>
  obtain ⟨j,o⟩:=x;simp only [AA.get,List.filter_cons,List.lookup] at ih ⊢
  by_cases hp : p j
  ·simp only [hp,if_true,List.lookup]
   by_cases e : i=j
   ·subst e; simp [hp]
   ·have : (i == j)=false:=by simpa using e
    simp [this,ih]
  ·simp only [hp,Bool.false_eq_true,if_false]
   by_cases e : i=j
   ·subst e; rw [ih]; simp [hp]
   ·have : (i == j)=false:=by simpa using e
    simp [this,ih]
theorem AA.get_map (H : AA) (f : AF→AF) (i : Nat) : AA.get (H.map fun x=>(x.1,f x.2)) i=(H.get i).map f:=by
 induction H with
 | nil=>rfl
 | cons x r ih =>
  obtain ⟨j,o⟩:=x;simp only [AA.get,List.map_cons,List.lookup] at ih ⊢
  by_cases e : i=j
  ·subst e; simp
  ·have : (i == j)=false:=by simpa using e
   simp [this,ih]
theorem AA.Lg (H : AA) (i : Nat) : H.Q4.get i=ZR (H.get i):=by
 unfold AA.Q4;rw [AA.get_map,AA.get_filter H fun j=>!((H.get j).elim false AF.isMap)]
 cases h : H.get i with
 | none=>simp [ZR]
 | some o=>cases o <;> simp [AF.isMap,ZR,AF.Q4]
theorem R3 {o : Option AF} {x : AF} (h : ZR o=some x) : ∃ sz cs f,o=some (.cells sz cs f)∧x=.cells sz cs cs.length:=by
 unfold ZR at h
 split at h
 ·cases h; exact ⟨_,_,_,rfl,rfl⟩
 ·cases h
inductive Tr (H : AA) : AV→AV→Prop
 | val (a : AV) : Tr H a a
 | buf (id f : Nat) (cs es : List AV) (h : H.get id=some (.cells 1 cs f)) (hl : es.length=cs.length) (h1 : ∀ i,i<cs.length→(es.getD i nv).cells=[es.getD i nv])
   (ht : ∀ i,i<cs.length→Tr H (cs.getD i nv) (es.getD i nv)) : Tr H (.buf id cs.length) (.sl es)
 | agg (cs es : List AV) (hl : es.length=cs.length) (ht : ∀ i,i<cs.length→Tr H (cs.getD i nv) (es.getD i nv)) : Tr H (.agg cs) (.agg es)
 | ref (id sz f : Nat) (cs es : List AV) (h : H.get id=some (.cells sz cs f)) (hl : es.length=cs.length) (ht : ∀ i,i<cs.length→Tr H (cs.getD i nv) (es.getD i nv)) : Tr H (.ref id 0) (.ptr es)
def mU : Option Obj→Option (Array MapEntry)
 | some (.map es _)=>some es
 | _=>none
noncomputable def Gh.Em (g : Gh) (H : AA) (w : World) : Gh :=
 {
  fz:=fun b o=>@ite _ (∃ id cap sz cs f,H.get id=some (.cells sz cs f)∧g.io id=some (.HE b cap)∧o<cs.length) (Classical.propDecidable _) (w.cell? ⟨b,o,none⟩) (g.fz b o)
  fm:=fun b=>@ite _ (∃ id ks vs,H.get id=some (.map ks vs)∧g.io id=some (.mp b)) (Classical.propDecidable _) (mU w.heap[b]?) (g.fm b)
  io:=g.io }
theorem Gh.I9 {g : Gh} {B : Nat} {H : AA} {w : World} (h : Ao g B H w) : g.le (g.Em H w):=by
 refine ⟨fun b o v e=>?_,fun b es e=>?_,fun _ _ h=>h⟩
 ·simp only [Gh.Em]
  split
  ·exact h.fz b o v e
  ·exact e
 ·simp only [Gh.Em]
  split
  ·obtain ⟨clk,hc⟩:=h.fm b es e;rw [hc]; rfl
  ·exact e
theorem Ao.Em {g : Gh} {B : Nat} {H : AA} {w : World} (h : Ao g B H w) : Ao (g.Em H w) B H.Q4 w:=by
 have hle:=Gh.I9 h
 have YR : ∀ i,(H.Q4.get i).isSome→(H.get i).isSome:=by
  intro i e
  obtain ⟨o,e⟩:=Option.isSome_iff_exists.1 e;rw [AA.Lg] at e
  obtain ⟨sz,cs,f,e,_⟩:=R3 e
  simp [e]
 constructor
 ·intro b o v e;simp only [Gh.Em] at e
  split at e
  ·exact e
  ·exact h.fz b o v e
 ·intro b es e;simp only [Gh.Em] at e
  split at e
  ·unfold mU at e
   split at e
   ·rename_i es' clk hc; cases e; exact ⟨clk,hc⟩
   ·cases e
  ·exact h.fm b es e
 ·intro i o e;rw [AA.Lg] at e
  obtain ⟨sz,cs,f,e1,rfl⟩:=R3 e;clear e
  obtain ⟨p,hp,hr⟩:=h.ob i _ e1;refine ⟨p,hp, ?_⟩
  cases p with
  | nil=>simp only [Ai] at hr ⊢; simp [hr.1]
  | HE b cap =>
   simp only [Ai] at hr ⊢
   obtain ⟨h1,h2,h3,h4,c,el,h5,h6,h7,h8⟩:=hr;refine ⟨h1,Nat.le_refl _,h3,fun x hx=>?_,c,el,h5,h6,h7,fun i hi=>(h8 i hi).mono hle⟩;simp only [Gh.Em];rw [if_neg,h4 x (by omega)]
   rintro ⟨id,cap',sz',cs',f',a1,a2,a3⟩
   by_cases KD : id=i
   ·subst KD; rw [e1] at a1; cases a1; omega
   ·exact h.inj id i b cap' cap KD (by simp [a1]) (by simp [e1]) a2 hp
  | mp b=>simp [Ai] at hr
 ·intro i j b c c' n e1 e2;exact h.inj i j b c c' n (YR i e1) (YR j e2)
 ·intro i j b n e1 e2;exact h.HI i j b n (YR i e1) (YR j e2)
 ·exact h.base
 ·exact h.fin
theorem Tr.vrel {g : Gh} {B : Nat} {H : AA} {w : World} (hW : Ao g B H w) {a e : AV} (t : Tr H a e) : ∀ v,Ad g a v→Ad (g.Em H w) e v:=by
 induction t with
 | val a=>intro v h; exact h.mono (Gh.I9 hW)
 | buf id f cs es h hl h1 ht ih =>
  intro v hv
  obtain ⟨p,hp,hr⟩:=hW.ob id _ h
  generalize hn : cs.length=n at *
  cases hv with
  | DX _ hq =>
   have : es=[]:=List.eq_nil_of_length_eq_zero hl;subst this;exact .slnil none 0
  | buf _ _ b cap hq =>
   rw [hp] at hq; cases hq;simp only [Ai] at hr
   obtain ⟨r1,r2,r3,r4,c,el,r5,r6,r7,r8⟩:=hr
   have n0 : es.length=cs.length:=by omega
   have key : ∀ i j,i<es.length→j<1→i*1+j=i:=by intro i j _ hj; omega
   refine hl ▸ Ad.sl es b 0 1 cap (fun i=>c.getD i undef) (by omega) (by omega) (fun i hi=>?_) (fun i j hi hj=>?_) (fun i j hi hj=>?_)
   ·rw [h1 i (by omega)]; rfl
   ·rw [key i j hi hj,Nat.zero_add];simp only [Gh.Em];rw [if_pos ⟨id,cap,1,cs,f,h,hp,by omega⟩];rw [cell_of_row w b i c el (0,0) r5]
    have : i<c.size:=by omega
    simp [Array.getD,this]
   ·rw [key i j hi hj,h1 i (by omega)]
    obtain rfl : j=0:=by omega
    exact ih i (by omega) _ (r8 i (by omega))
 | agg cs es hl ht ih =>
  intro v hv
  cases hv with
  | agg _ vs hs hv=>exact .agg es vs (by omega) fun i hi=>ih i (by omega) _ (hv i (by omega))
 | ref id sz f cs es h hl ht ih =>
  intro v hv
  obtain ⟨p,hp,hr⟩:=hW.ob id _ h
  cases hv with
  | ref _ _ b cap hq =>
   rw [hp] at hq; cases hq;simp only [Ai] at hr
   obtain ⟨r1,r2,r3,r4,c,el,r5,r6,r7,r8⟩:=hr;refine .ptr es b 0 (fun i=>c.getD i undef) (fun i hi=>?_) (fun i hi=>ih i (by omega) _ (r8 i (by omega)));rw [Nat.zero_add];simp only [Gh.Em];rw [if_pos ⟨id,cap,sz,cs,f,h,hp,by omega⟩];rw [cell_of_row w b i c el (0,0) r5]
   have : i<c.size:=by omega
   simp [Array.getD,this]
theorem AA.get_append (l H : AA) (i : Nat) : AA.get (l++H) i=(AA.get l i).or (H.get i):=by
 induction l with
 | nil=>simp [AA.get]
 | cons x r ih =>
  obtain ⟨j,o⟩:=x;simp only [AA.get,List.cons_append,List.lookup] at ih ⊢
  by_cases e : i=j
  ·subst e; simp
  ·have : (i == j)=false:=by simpa using e
   simp [this,ih]
theorem AA.get_mem {l : AA} {i : Nat} {o : AF} (h : AA.get l i=some o) : (i,o)∈l:=by
 induction l with
 | nil=>simp [AA.get] at h
 | cons x r ih =>
  obtain ⟨j,o'⟩:=x;simp only [AA.get,List.lookup] at ih h
  by_cases e : i=j
  ·subst e; simp at h; simp [h]
  ·have : (i == j)=false:=by simpa using e
   simp only [this] at h;exact List.mem_cons_of_mem _ (ih h)
theorem AA.XQ {l : AA} (nd : (l.map Prod.fst).Nodup) {x : Nat × AF} (h : x∈l) : AA.get l x.1=some x.2:=by
 induction l with
 | nil=>simp at h
 | cons y r ih =>
  obtain ⟨j,o'⟩:=y;simp only [List.map_cons,List.nodup_cons] at nd;simp only [AA.get,List.lookup]
  rcases List.mem_cons.mp h with rfl | hm
  ·simp
  ·have : (x.1 == j)=false:=by
    simp only [beq_eq_false_iff_ne,ne_eq]
    intro e; exact nd.1 (e ▸ List.mem_map_of_mem hm)
   simp only [this];exact ih nd.2 hm
theorem Ao.eR {g g' : Gh} {B : Nat} {H H' l : AA} {w w' : World} (h : Ao g B H w) (hg : (g.Em H w).le g')
  (h' : Ao g' B H' w') (ho : AB H.Q4 H' l) (hl : ∀ x,x∈l→x.2.plain∧H.get x.1=none) : g.le { g with io:=g'.io }∧Ao { g with io:=g'.io } B (l++H) w':=by
 have iA:=(Gh.I9 h).trans hg
 have hle : g.le { g with io:=g'.io }:=⟨fun _ _ _ h=>h,fun _ _ h=>h,iA.io⟩
 have fzn : ∀ b o,g'.fz b o=none→g.fz b o=none:=by
  intro b o e
  cases e2 : g.fz b o with
  | none=>rfl
  | some v=>rw [iA.fz _ _ _ e2] at e; cases e
 have D4 : ∀ i o,H.get i=some o→∃ p,g.io i=some p∧g'.io i=some p∧Ai g B w p o:=by
  intro i o e
  obtain ⟨p,hp,hr⟩:=h.ob i o e;exact ⟨p,hp,iA.io _ _ hp,hr⟩
 have cases : ∀ i,(AA.get (l++H) i).isSome→(∃ sz cs f,H'.get i=some (.cells sz cs f))∨∃ ks vs,H.get i=some (.map ks vs):=by
  intro i e;rw [AA.get_append] at e
  cases e1 : AA.get l i with
  | some o =>
   have hm:=AA.get_mem e1
   have h1:=ho.get _ hm
   have h2:=(hl _ hm).1;simp only at h1 h2
   cases o with
   | cells sz cs f=>exact .inl ⟨_,_,_,h1⟩
   | map ks vs=>exact absurd h2 (by simp [AF.plain])
  | none =>
   rw [e1,Option.none_or] at e
   obtain ⟨o,e⟩:=Option.isSome_iff_exists.1 e
   cases o with
   | cells sz cs f =>
    have : H.Q4.get i=some (.cells sz cs cs.length):=by rw [AA.Lg,e]; rfl
    exact .inl ⟨_,_,_,ho.sub _ _ this⟩
   | map ks vs=>exact .inr ⟨_,_,e⟩
 refine ⟨hle, ?_⟩
 constructor
 ·intro b o v e; exact h'.fz _ _ _ (iA.fz _ _ _ e)
 ·intro b es e; exact h'.fm _ _ (iA.fm _ _ e)
 ·intro i o e;rw [AA.get_append] at e
  cases e1 : AA.get l i with
  | some o1 =>
   rw [e1,Option.some_or] at e; cases e
   have hm:=AA.get_mem e1
   obtain ⟨p,VF,hr⟩:=h'.ob i o (ho.get _ hm)
   have Ko:=(hl _ hm).1;refine ⟨p,VF, ?_⟩
   cases o with
   | map ks vs=>exact absurd Ko (by simp [AF.plain])
   | cells sz cs f =>
    cases p with
    | nil=>exact hr
    | mp b=>simp [Ai] at hr
    | HE b cap =>
     simp only [Ai] at hr ⊢
     obtain ⟨r1,r2,r3,r4,c,el,r5,r6,r7,r8⟩:=hr;refine ⟨r1,r2,r3,fun o ho=>fzn _ _ (r4 o ho),c,el,r5,r6,r7,fun i hi=>Ko _ ?_ g' _ _ (fun _ _ h=>h) (r8 i hi)⟩;rw [gE,List.getElem?_eq_getElem hi]; simp
  | none =>
   rw [e1,Option.none_or] at e
   obtain ⟨p,gU,JO,XD⟩:=D4 i o e;refine ⟨p,JO, ?_⟩
   cases o with
   | map ks vs =>
    cases p with
    | nil=>simp [Ai] at XD
    | HE b cap=>simp [Ai] at XD
    | mp b =>
     simp only [Ai] at XD ⊢
     obtain ⟨q1,q2,es,clk,q3,q4,q5,q6,q7⟩:=XD
     have Pn : (g.Em H w).fm b=some es:=by
      simp only [Gh.Em];rw [if_pos ⟨i,ks,vs,e,gU⟩,q3]; rfl
     obtain ⟨clk',hc⟩:=h'.fm _ _ (hg.fm _ _ Pn);exact ⟨q1,q2,es,clk',hc,q4,q5,fun i hi=>(q6 i hi).mono hle,fun i hi=>(q7 i hi).mono hle⟩
   | cells sz cs f =>
    have e2 : H.Q4.get i=some (.cells sz cs cs.length):=by rw [AA.Lg,e]; rfl
    obtain ⟨p',VF,hr⟩:=h'.ob i _ (ho.sub _ _ e2);rw [JO] at VF; cases VF
    cases p with
    | nil=>exact XD
    | mp b=>simp [Ai] at XD
    | HE b cap =>
     simp only [Ai] at hr XD ⊢
     obtain ⟨q1,q2,q3,q4,c0,el0,q5,q6,q7,q8⟩:=XD
     obtain ⟨r1,r2,r3,r4,c,el,r5,r6,r7,r8⟩:=hr;refine ⟨r1,q2,r3,q4,c,el,r5,r6,r7,fun j hj=>?_⟩
     have h1 : w.cell? ⟨b,j,none⟩=some (c0.getD j undef):=by
      rw [cell_of_row w b j c0 el0 (0,0) q5]
      have : j<c0.size:=by omega
      simp [Array.getD,this]
     have h2 : w'.cell? ⟨b,j,none⟩=some (c0.getD j undef):=by
      refine h'.fz _ _ _ (hg.fz _ _ _ ?_);simp only [Gh.Em];rw [if_pos ⟨i,cap,sz,cs,f,e,gU,hj⟩]; exact h1
     rw [cell_of_row w' b j c el (0,0) r5] at h2
     have h3 : c.getD j undef=c0.getD j undef:=by
      have V4 : j<c.size:=by omega
      rw [Array.getElem?_eq_getElem V4] at h2;rw [← Option.some.inj h2]; simp [Array.getD,V4]
     rw [h3]; exact (q8 j hj).mono hle
 ·intro i j b c c' n e1 e2 e3 e4
  rcases cases i e1 with ⟨sz,cs,f,k1⟩ | ⟨ks,vs,k1⟩
  ·rcases cases j e2 with ⟨sz',cs',f',k2⟩ | ⟨ks,vs,k2⟩
   ·exact h'.inj i j b c c' n (by simp [k1]) (by simp [k2]) e3 e4
   ·obtain ⟨p,gU,JO,XD⟩:=D4 j _ k2;simp only at e4; rw [JO] at e4; cases e4; simp [Ai] at XD
  ·obtain ⟨p,gU,JO,XD⟩:=D4 i _ k1;simp only at e3; rw [JO] at e3; cases e3; simp [Ai] at XD
 ·intro i j b n e1 e2 e3 e4
  rcases cases i e1 with ⟨sz,cs,f,k1⟩ | ⟨ks,vs,k1⟩
  ·obtain ⟨p,hp,hr⟩:=h'.ob i _ k1;simp only at e3; rw [hp] at e3; cases e3; simp [Ai] at hr
  ·rcases cases j e2 with ⟨sz',cs',f',k2⟩ | ⟨ks',vs',k2⟩
   ·obtain ⟨p,hp,hr⟩:=h'.ob j _ k2;simp only at e4; rw [hp] at e4; cases e4; simp [Ai] at hr
   ·obtain ⟨p,gU,JO,_⟩:=D4 i _ k1
    obtain ⟨q,vU,RJ,_⟩:=D4 j _ k2;simp only at e3 e4;rw [JO] at e3; cases e3;rw [RJ] at e4; cases e4;exact h.HI i j b n (by simp [k1]) (by simp [k2]) gU vU
 ·exact h'.base
 ·exact h'.fin
theorem Ao.kE {g g' : Gh} {B : Nat} {H H' l : AA} {w w' : World} (h : Ao g B H w) (hg : (g.Em H w).le g') (h' : Ao g' B H' w') (ho : AB H.Q4 H' l) (hl : ∀ x,x∈l→x.2.plain) :
  ∀ x,x∈l→H.get x.1=none:=by
 intro x hx
 have h1:=ho.out x hx
 have h2:=ho.get x hx
 have h3:=hl x hx;rw [AA.Lg] at h1
 cases e : H.get x.1 with
 | none=>rfl
 | some o =>
  rw [e] at h1
  cases o with
  | cells sz cs f=>simp [ZR] at h1
  | map ks vs =>
   obtain ⟨p,hp,hr⟩:=h.ob _ _ e
   cases p with
   | nil=>simp [Ai] at hr
   | HE b cap=>simp [Ai] at hr
   | mp b =>
    have NS:=((Gh.I9 h).trans hg).io _ _ hp
    obtain ⟨q,hq,BZ⟩:=h'.ob _ _ h2;rw [NS] at hq; cases hq
    cases ho2 : x.2 with
    | cells sz cs f=>rw [ho2] at BZ; simp [Ai] at BZ
    | map ks vs=>rw [ho2] at h3; simp [AF.plain] at h3
theorem BG.borrow {P : Program} {B : Nat} {f : FuncId} {args es : List AV} {H : AA} {K0 K : Ap} (hl : es.length=args.length)
  (ht : ∀ i,i<args.length→∀ g w v,Ao g B H w→Ad g (args.getD i nv) v→Ad (g.Em H w) (es.getD i nv) v)
  (h : BG P B f es H.Q4 K0) (hk : ∀ r H',K0 r H'→∃ l,AB H.Q4 H' l∧(∀ x,x∈l→x.2.plain)∧Cr r∧((∀ x,x∈l→H.get x.1=none)→K r (l++H))) : BG P B f args H K:=by
 refine ⟨h.1,fun g w vs hW hv=>?_⟩;refine (h.2 _ w vs hW.Em ⟨by rw [hv.1,hl],fun i hi=>ht i (by omega) g w _ hW (hv.2 i (by omega))⟩).mono fun e w' ⟨v,he,g',r,H',a,b,c,d,k⟩=>?_
 obtain ⟨l,ho,Ko,D4,hK⟩:=hk r H' b
 have hn:=hW.kE a d ho Ko
 obtain ⟨q1,q2⟩:=hW.eR a d ho fun x hx=>⟨Ko x hx,hn x hx⟩;exact ⟨v,he,_,r,_,q1,hK hn,D4 g' _ _ (fun _ _ h=>h) c,q2,k⟩
theorem BG.GR {P : Program} {B : Nat} {f : FuncId} {args es : List AV} {H : AA} {K : Ap} {r : AV} (hr : Cr r) (hl : es.length=args.length)
  (ht : ∀ i,i<args.length→∀ g w v,Ao g B H w→Ad g (args.getD i nv) v→Ad (g.Em H w) (es.getD i nv) v)
  (h : JC P B f es r) (hk : K r H) : BG P B f args H K :=
 BG.borrow hl ht (h _) fun r' H' ⟨e1,e2⟩=>⟨[],e2 ▸ .nil _,by simp,e1 ▸ hr,fun _=>by rw [e1]; exact hk⟩
theorem Tr.arg {B : Nat} {H : AA} {a e : AV} (t : Tr H a e) : ∀ g w v,Ao g B H w→Ad g a v→Ad (g.Em H w) e v:=fun g w v hW hv=>t.vrel hW v hv
theorem DT {B : Nat} {H : AA} (a : AV) : ∀ g w v,Ao g B H w→Ad g a v→Ad (g.Em H w) a v:=fun g w v hW hv=>hv.mono (Gh.I9 hW)
theorem AB.Q4 {H H' l : AA} (h : AB H.Q4 H' l) (hn : ∀ x,x∈l→H.get x.1=none) : AB H (l++H) l:=by
 refine ⟨fun i o e=>?_,fun x hx=>?_,h.nd,hn⟩
 ·rw [AA.get_append]
  cases e1 : AA.get l i with
  | some o1=>have:=hn _ (AA.get_mem e1); simp only at this; rw [this] at e; cases e
  | none=>simpa using e
 ·rw [AA.get_append,AA.XQ h.nd hx]; rfl
theorem UU {α : Type} [Inhabited α] {f : α→AV} [One f] {B : Nat} {H0 H : AA} {l : List (Nat × AF)} {id n fr : Nat} {A : List α} (o : AB H0 H ((id,.cells 1 (A.map f) fr)::l)) (hn : n=A.length) :
  ∀ g w v,Ao g B H w→Ad g (.buf id n) v→Ad (g.Em H w) (mL f A) v:=by
 subst hn
 have h0:=o.h0;simp only at h0
 have:=Tr.buf (H:=H) id fr (A.map f) (A.map f) h0 rfl (fun i hi=>by rw [List.length_map] at hi; rw [getD_map A hi]; exact CU _) (fun i _=>.val _);rw [List.length_map] at this;exact this.arg
theorem MO {α : Type} [Inhabited α] {f : α→AV} [One f] {P : Program} {B : Nat} {fn : FuncId} {args : List AV} {H0 H : AA} {l : List (Nat × AF)} {K : Ap} {id n fr : Nat} {A : List α} {r : AV} (t : Nat)
  (ha : args[t]? = some (.buf id n)) (o : AB H0 H ((id,.cells 1 (A.map f) fr)::l)) (hn : n=A.length) (hr : Cr r) (h : JC P B fn (args.set t (mL f A)) r) (hk : K r H) : BG P B fn args H K:=by
 refine BG.GR hr (by simp) (fun i hi=>?_) h hk
 by_cases e : i=t
 ·subst e
  have e1 : args.getD i nv=.buf id n:=by rw [gE,ha]; rfl
  have e2 : (args.set i (mL f A)).getD i nv=mL f A:=by simp [gE,hi]
  rw [e1,e2];exact UU o hn
 ·have e2 : (args.set t (mL f A)).getD i nv=args.getD i nv:=by
   rw [gE,List.getElem?_set_ne (by omega),← gE]
  rw [e2]; exact DT _
theorem AB.trans {H0 H H' base l : AA} (h : AB H0 H base) (k : AB H H' l) : AB H0 H' (l++base):=by
 refine ⟨h.sub.trans k.sub,fun x hx=>?_, ?_,fun x hx=>?_⟩
 ·rcases List.mem_append.mp hx with hx | hx
  ·exact k.get x hx
  ·exact k.sub _ _ (h.get x hx)
 ·rw [List.map_append,List.nodup_append];refine ⟨k.nd,h.nd,fun a ha b hb=>?_⟩
  obtain ⟨x,hx,rfl⟩:=List.mem_map.mp ha
  obtain ⟨y,hy,rfl⟩:=List.mem_map.mp hb
  intro e
  have h1:=k.out x hx
  have h2:=h.get y hy;rw [← e,h1] at h2; cases h2
 ·rcases List.mem_append.mp hx with hx | hx
  ·cases e : H0.get x.1 with
   | none=>rfl
   | some o=>have:=h.sub _ _ e; rw [k.out x hx] at this; cases this
  ·exact h.out x hx
end Go.AW
namespace Go.AW
attribute [go_sem] Nat.mul_one Bool.not_true Bool.not_false
section
variable {α : Type} [Inhabited α] {f : α→AV} [One f] {H0 H : AA} {l : List (Nat × AF)} {K : Ap}
omit [Inhabited α] in
theorem DL {n : Nat} {z : AV} (f : α→AV) (a : α) (hz : z=f a) (h : AB H0 H l) (hk : ∀ id H',AB H0 H' ((id,.cells 1 ((List.replicate n a).map f) 0)::l)→K (.buf id n) H') :
  Eo n 1 (rep n [z]) K H:=by
 rw [Jl]; subst hz;refine Af h fun id H' o=>hk id H' ?_;rw [List.map_replicate]; exact o
omit [One f] in
theorem BX {id off fr sz : Nat} {A : List α} (h : AB H0 H ((id,.cells sz (A.map f) fr)::l)) (ho : off<A.length) (hk : K (f (A.getD off default)) H) :
  M6 (H.get id) none off K H:=by
 have h0:=h.h0;simp only at h0;rw [h0,Xm];refine ⟨by simpa using ho, ?_⟩;rw [getD_map A ho]; exact hk
omit [Inhabited α] in
theorem C4 {id off : Nat} {A : List α} (a : α) {v : AV} (h : AB H0 H ((id,.cells 1 (A.map f) 0)::l)) (hv : v=f a) (ho : off<A.length)
  (hk : ∀ H',AB H0 H' ((id,.cells 1 ((A.set off a).map f) 0)::l)→K nv H') : Oa (H.get id) id off 1 [v] K H:=by
 subst hv
 have h0:=h.h0;simp only at h0;rw [h0,Mv];refine ⟨⟨by omega,by rw [List.length_map]; omega,rfl,fun c hc=>?_⟩, ?_⟩
 ·rw [List.mem_singleton] at hc; subst hc; exact One.one a
 ·have e : wr (A.map f) off [f a]=(A.set off a).map f:=by
   simp only [wr,List.map_set]
  rw [e];exact hk _ (h.put _)
end
theorem eK {α : Type} [Inhabited α] {p : α→Bool} {l : List α} {k : Nat} (h : k<l.length) (hp : p (l.getD k default)=true) : (l.take (k+1)).filter p=(l.take k).filter p++[l.getD k default]:=by
 rw [D8 l h,List.filter_append]; simp only [List.filter_cons,hp,if_true,List.filter_nil]
theorem eJ {α : Type} [Inhabited α] {p : α→Bool} {l : List α} {k : Nat} (h : k<l.length) (hp : p (l.getD k default)=false) : (l.take (k+1)).filter p=(l.take k).filter p:=by
 rw [D8 l h,List.filter_append]; simp only [List.filter_cons,hp,Bool.false_eq_true,if_false,List.filter_nil,List.append_nil]
theorem Ud {α : Type} (p : α→Bool) (l : List α) (k : Nat) : ((l.take k).filter p).length≤k:=Nat.le_trans (List.length_filter_le _ _) (by rw [List.length_take]; omega)
theorem Wk.call {P : Program} {B : Nat} {fn : FuncId} {args args' : List AV} {H H' : AA} {K : Ap} (hl : args'.length=args.length)
  (hw : ∀ g w vs,Ao g B H w→Fm g args vs→∃ g',g.le g'∧Ao g' B H' w∧Fm g' args' vs) (h : BG P B fn args' H' K) : BG P B fn args H K:=by
 refine ⟨h.1,fun g w vs hW hv=>?_⟩
 obtain ⟨g',q1,q2,q3⟩:=hw g w vs hW hv;exact (h.2 g' w vs q2 q3).mono fun e w' ⟨v,he,g2,r,H2,a,b⟩=>⟨v,he,g2,r,H2,q1.trans a,b⟩
theorem LV {α : Type} [Inhabited α] {f : α→AV} [One f] {P : Program} {B : Nat} {fn : FuncId} {args : List AV} {H0 H : AA} {l : List (Nat × AF)} {K : Ap} {id n fr : Nat} {A : List α} (t : Nat)
  (ha : args[t]? = some (.buf id n)) (o : AB H0 H ((id,.cells 1 (A.map f) fr)::l)) (hn : n=A.length)
  (hk : ∀ H',AB H0 H' l→BG P B fn (args.set t (mL f A)) H' K) : BG P B fn args H K:=by
 subst hn
 have h0:=o.h0;simp only at h0
 have ht : t<args.length:=by
  rcases Nat.lt_or_ge t args.length with h | h
  ·exact h
  ·rw [List.getElem?_eq_none h] at ha; cases ha
 have Il : ∀ c,c∈A.map f→c.one=true:=by
  intro c hc; obtain ⟨a,_,rfl⟩:=List.mem_map.mp hc; exact One.one a
 refine Wk.call (by simp) (fun g w vs hW hv=>?_) (hk _ (o.put (.cells 1 (A.map f) (A.map f).length)).tl)
 obtain ⟨σ',H',aC,rfl,rfl⟩:=dO (t:=t) (σ:=[(t,some (.buf id A.length))]) (H:=H) (F:=fun σ' H'=>σ'=Env.put [(t,some (.buf id A.length))] t (.sl (A.map f))∧H'=H.set id (.cells 1 (A.map f) (A.map f).length)) (by
  have : Env.get [(t,some (AV.buf id A.length))] t=some (.buf id A.length):=by simp [Env.get]
  rw [this];simp only [fO,h0,Xz];refine ⟨⟨by simp,by omega,Il⟩, ?_,trivial⟩;rw [G0 _ _ (by simp)])
 obtain ⟨g',q1,q2,q3⟩:=aC g B w vs hW (fun s v e=>by
  simp only [Env.get] at e
  split at e
  ·rename_i e2; subst e2; cases e
   have:=hv.2 s ht;rw [gE,ha] at this;exact ⟨by rw [hv.1]; exact ht,this⟩
  ·cases e)
 refine ⟨g',q1,q2,by rw [hv.1]; simp,fun i hi=>?_⟩;rw [List.length_set] at hi
 by_cases e : i=t
 ·subst e
  have:=(q3 i (.sl (A.map f)) (by simp [Env.put,Env.get])).2
  have e2 : (args.set i (mL f A)).getD i nv=.sl (A.map f):=by simp [gE,hi,mL]
  rw [e2]; exact this
 ·have e2 : (args.set t (mL f A)).getD i nv=args.getD i nv:=by
   rw [gE,List.getElem?_set_ne (by omega),← gE]
  rw [e2]; exact (hv.2 i hi).mono q1
end Go.AW
