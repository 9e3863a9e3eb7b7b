/- Plain data, plain laws. -/
import Derived.Test.YthflgdphhajkbaaGreatS2
set_option linter.unusedVariables false
set_option linter.unusedSimpArgs false
set_option linter.unusedSectionVars false
namespace Go.AW
class One {α : Type} (f : α→AV) : Prop where
 cells : ∀ a,(f a).cells=[f a]
 one : ∀ a,(f a).one=true
def mL {α : Type} (f : α→AV) (l : List α) : AV:=.sl (l.map f)
abbrev iI : Int→AV:=AV.int .i64
abbrev iL : List Int→AV:=mL iI
abbrev BA : List (List Int)→AV:=mL iL
abbrev Ft : List (List (List Int))→AV:=mL BA
abbrev bL : List Bool→AV:=mL AV.bool
abbrev vP : List (List Bool)→AV:=mL bL
instance : One iI:=⟨fun _=>rfl,fun _=>rfl⟩
instance : One AV.bool:=⟨fun _=>rfl,fun _=>rfl⟩
instance : One AV.str:=⟨fun _=>rfl,fun _=>rfl⟩
instance {α : Type} (f : α→AV) : One (mL f):=⟨fun _=>rfl,fun _=>rfl⟩
def ix {α : Type} [Inhabited α] (l : List α) (i : Int) : α:=l.getD i.toNat default
theorem AH {α : Type} [Inhabited α] (l : List α) (k : Nat) : ix l (k : Int)=l.getD k default:=by simp [ix]
section
variable {P : Program} {B : Nat} {F : Env→AB→Prop} {σ : Env} {H : AB} {d : Option Nat} {α : Type} [Inhabited α] {f : α→AV}
theorem getD_map (l : List α) {i : Nat} (h : i<l.length) : (l.map f).getD i nv=f (l.getD i default):=by
 simp [gE,h]
theorem CW [One f] (a : α) : (f a).cells=[f a]:=One.cells a
@[go_sem] theorem zP (l : List α) : (mL f l).cells=[mL f l]:=rfl
@[go_sem] theorem kG (l : List α) : Ee (some (mL f l))=some (True,.int .i64 l.length):=by simp [mL,Ee]
@[go_sem] theorem tj [One f] (l : List α) (k : IntKind) (i : Int) :
  pE d F σ H (Hy 1 (some (mL f l)) (some (.int k i)))=((0≤i∧i.toNat<l.length)∧DN d F σ (.ptr [f (ix l i)]) H):=by
 simp only [mL,Hy,pE,pW,List.length_map,eq_iff_iff]
 constructor
 ·rintro ⟨⟨h1,h2,h3⟩,h4⟩;rw [getD_map l h2,CW] at h4;exact ⟨⟨h1,h2⟩,h4⟩
 ·rintro ⟨⟨h1,h2⟩,h4⟩;rw [getD_map l h2,CW];exact ⟨⟨h1,h2,rfl⟩,h4⟩
theorem dW [One f] (l : List α) : flat (l.map f)=l.map f:=by
 induction l with
 | nil=>rfl
 | cons a r ih=>simp [flat,CW,ih]
theorem Jb [One f] (l : List α) : DK 1 (l.map f):=by
 intro e he
 obtain ⟨a,_,rfl⟩:=List.mem_map.mp he;rw [CW];refine ⟨rfl,fun c hc=>?_⟩;rw [List.mem_singleton] at hc; subst hc; exact One.one a
@[go_sem] theorem fF [One f] (l : List α) : Ct 1 (some (mL f l)) H=some (True,l.length,l.map f):=by
 simp [mL,Ct,Jb,dW]
@[go_sem] theorem th [One f] (l : List α) (k : IntKind) (a : Int) : KE 1 (some (mL f l)) (some (some (.int k a))) none=some (0≤a∧a≤l.length,mL f (l.drop a.toNat)):=by
 have : List.take l.length (l.map f)=l.map f:=List.take_of_length_le (by simp)
 simp [mL,KE,NO,Nv,S8,Jb,this]
@[go_sem] theorem sb [One f] (l : List α) (k : IntKind) (b : Int) : KE 1 (some (mL f l)) none (some (some (.int k b)))=some (0≤b∧b≤l.length,mL f (l.take b.toNat)):=by
 simp [mL,KE,NO,Nv,S8,Jb,← List.map_take]
@[go_sem] theorem uO [One f] (l : List α) (k k' : IntKind) (a b : Int) : KE 1 (some (mL f l)) (some (some (.int k a))) (some (some (.int k' b)))=some (0≤a∧a≤b∧b≤l.length,mL f ((l.take b.toNat).drop a.toNat)):=by
 simp [mL,KE,NO,Nv,S8,Jb,← List.map_take,← List.map_drop]
@[go_sem] theorem uQ (n : Nat) : DK n []=True:=by simp [DK]
@[go_sem] theorem pN (n : Nat) (a : AV) (r : List AV) : DK n (a::r)=((a.cells.length=n∧∀ c,c∈a.cells→c.one=true)∧DK n r):=by
 simp [DK]
theorem MC [One f] (a : α) : DK 1 [f a]:=by
 intro e he;rw [List.mem_singleton] at he; subst he;rw [CW];refine ⟨rfl,fun c hc=>?_⟩;rw [List.mem_singleton] at hc; subst hc; exact One.one a
theorem AM {l : List α} (h : AV.EY (mL f l)) : l.length≤AL:=by simpa using h.zX
theorem JD [One f] {l : List α} (h : AV.EY (mL f l)) {a : α} (ha : a∈l) : AV.EY (f a) :=
 h.oP (List.mem_map_of_mem ha) (CW a)
theorem Bh {l : List α} {i : Int} (h : i.toNat<l.length) : ix l i∈l:=by
 rw [ix,gE]; simp [h]
theorem IA [One f] {l : List α} (h : AV.EY (mL f l)) {i : Int} (hi : i.toNat<l.length) : AV.EY (f (ix l i)):=JD h (Bh hi)
theorem Co (l : List α) {k : Nat} (h : k<l.length) : l.take (k+1)=l.take k++[l.getD k default]:=by
 rw [List.take_add_one]; simp [gE,h]
end
@[go_sem] theorem pU (p : Prop) : (p∧True)=p:=and_true p
@[go_sem] theorem pQ (p : Prop) : (True∧p)=p:=true_and p
@[go_sem] theorem zle (n : Nat) : (0≤n)=True:=by simp
@[go_sem] theorem yC : (1≤AL)=True:=by simp [AL]
@[go_sem] theorem yH : (2≤AL)=True:=by simp [AL]
@[go_sem] theorem qx (k : IntKind) (n : Int) : (AV.int k n).one=true:=rfl
@[go_sem] theorem EP {α : Type} (f : α→AV) (l : List α) : (mL f l).one=true:=rfl
@[go_sem] theorem fj (b : Bool) : (AV.bool b).one=true:=rfl
@[go_sem] theorem oh (b : List UInt8) : (AV.str b).one=true:=rfl
@[go_sem] theorem xn (b : List AV) : (AV.sl b).one=true:=rfl
@[go_sem] theorem rq (i n : Nat) : (AV.buf i n).one=true:=rfl
@[go_sem] theorem ql (b : List AV) : (AV.ptr b).one=true:=rfl
@[go_sem] theorem CR (p : AV→Prop) : (∀ c,c∈([] : List AV)→p c)=True:=by simp
@[go_sem] theorem Bi (p : AV→Prop) (a : AV) (r : List AV) : (∀ c,c∈a::r→p c)=(p a∧∀ c,c∈r→p c):=by simp
@[go_sem] theorem len1 (a : AV) : [a].length=1:=rfl
@[go_sem] theorem len0 : ([] : List AV).length=0:=rfl
theorem AD {P : Program} {B : Nat} {l : List Nat} {c : SC} {Q : AQ} {σ : Env} {H : AB} (lf : List Nat) {G : Type} (E : Nat→G→Env) (J : Nat→G→AB→Prop) (n : Nat) (g : G)
  (h0 : J 0 g H) (he : Env.B6 l σ=E 0 g++Env.B6 lf σ)
  (h : ∀ k g H,k≤n→J k g H→FW P B c (nO l (fun m σ' H=>∃ k g,k≤n∧m=n - k∧J k g H∧σ'=E k g++Env.B6 lf σ) (n - k) Q) (E k g++Env.B6 lf σ) H) :
  FW P B (.loop l c) Q σ H :=
 TZ (fun m σ' H=>∃ k g,k≤n∧m=n - k∧J k g H∧σ'=E k g++Env.B6 lf σ) n ⟨0,g,by omega,rfl,h0,he⟩
  fun m σ H ⟨k,g,h1,h2,h3,h4⟩=>h2 ▸ h4 ▸ h k g H h1 h3
theorem A5 {G : Type} {S : Nat→G→Env} {J : Nat→G→AB→Prop} {n k : Nat} {σ : Env} {H : AB} (g : G) (h : k<n) (hj : J (k+1) g H) (he : σ=S (k+1) g) :
  ∃ m σ' H',m<n - k∧(∃ k g,k≤n∧m=n - k∧J k g H'∧σ'=S k g)∧Wk σ H σ' H' :=
 ⟨n - (k+1),σ,H,by omega,⟨k+1,g,h,rfl,hj,he⟩,.refl _ _⟩
theorem Dg {P : Program} {B : Nat} {l : List Nat} {c : SC} {Q : AQ} {σ : Env} {H : AB} (lf : List Nat) {G : Type} (E : G→Env) (J : Nat→G→AB→Prop) (n : Nat) (g : G)
  (h0 : J n g H) (he : Env.B6 l σ=E g++Env.B6 lf σ)
  (h : ∀ m g H,J m g H→FW P B c (nO l (fun m σ' H=>∃ g,J m g H∧σ'=E g++Env.B6 lf σ) m Q) (E g++Env.B6 lf σ) H) :
  FW P B (.loop l c) Q σ H :=
 TZ (fun m σ' H=>∃ g,J m g H∧σ'=E g++Env.B6 lf σ) n ⟨g,h0,he⟩
  fun m σ H ⟨g,h3,h4⟩=>h4 ▸ h m g H h3
theorem CY {G : Type} {S : G→Env} {J : Nat→G→AB→Prop} {m : Nat} {σ : Env} {H : AB} (m' : Nat) (g : G) (h : m'<m) (hj : J m' g H) (he : σ=S g) :
  ∃ m' σ' H',m'<m∧(∃ g,J m' g H'∧σ'=S g)∧Wk σ H σ' H' :=
 ⟨m',σ,H,h,⟨g,hj,he⟩,.refl _ _⟩
@[go_sem] theorem jU (a : Nat × Option AV) (l r : Env) : (a::l)++r=a::(l++r):=rfl
@[go_sem] theorem mM (r : Env) : ([] : Env)++r=r:=rfl
structure AA (H0 H : AB) (l : List (Nat × AF)) : Prop where
 sub : H0.sub H
 get : ∀ x,x∈l→H.get x.1=some x.2
 nd : (l.map Prod.fst).Nodup
 out : ∀ x,x∈l→H0.get x.1=none
theorem AA.nil (H : AB) : AA H H []:=⟨.refl H,by simp,by simp,by simp⟩
theorem AA.h0 {H0 H : AB} {a : Nat × AF} {l : List (Nat × AF)} (h : AA H0 H (a::l)) : H.get a.1=some a.2:=h.get a (by simp)
theorem AA.tl {H0 H : AB} {a : Nat × AF} {l : List (Nat × AF)} (h : AA H0 H (a::l)) : AA H0 H l :=
 ⟨h.sub,fun x hx=>h.get x (by simp [hx]),(by simpa using h.nd : _∧_).2,fun x hx=>h.out x (by simp [hx])⟩
theorem AA.perm {H0 H : AB} {l r : List (Nat × AF)} (h : AA H0 H l) (hp : l.Perm r) : AA H0 H r :=
 ⟨h.sub,fun x hx=>h.get x (hp.mem_iff.mpr hx),((hp.map _).nodup_iff.mp h.nd),fun x hx=>h.out x (hp.mem_iff.mpr hx)⟩
theorem AA.swap {H0 H : AB} {a b : Nat × AF} {l : List (Nat × AF)} (h : AA H0 H (a::b::l)) : AA H0 H (b::a::l):=h.perm (List.Perm.swap b a l)
theorem AA.new {H0 H : AB} {l : List (Nat × AF)} (h : AA H0 H l) {id : Nat} (hn : H.get id=none) (o : AF) : AA H0 (H.set id o) ((id,o)::l):=by
 refine ⟨fun i x hx=>?_,fun x hx=>?_, ?_,fun x hx=>?_⟩
 ·have:=h.sub i x hx;rw [AB.B1]; exact this
  rintro rfl; rw [hn] at this; cases this
 ·simp only [List.mem_cons] at hx
  rcases hx with rfl | hx
  ·simp
  ·rw [AB.B1]; exact h.get x hx
   intro e; have:=h.get x hx; rw [e,hn] at this; cases this
 ·simp only [List.map_cons,List.nodup_cons];refine ⟨fun hm=>?_,h.nd⟩
  obtain ⟨x,hx,e⟩:=List.mem_map.mp hm
  have:=h.get x hx; rw [e,hn] at this; cases this
 ·simp only [List.mem_cons] at hx
  rcases hx with rfl | hx
  ·cases hh : H0.get id with
   | none=>rfl
   | some o'=>have:=h.sub _ _ hh; rw [hn] at this; cases this
  ·exact h.out x hx
theorem AA.put {H0 H : AB} {l : List (Nat × AF)} {id : Nat} {o : AF} (h : AA H0 H ((id,o)::l)) (o' : AF) : AA H0 (H.set id o') ((id,o')::l):=by
 have Hq:=h.nd;simp only [List.map_cons,List.nodup_cons] at Hq
 have Bp : ∀ x,x∈l→x.1≠id:=fun x hx e=>Hq.1 (e ▸ List.mem_map_of_mem hx)
 have ho:=h.out (id,o) (by simp);refine ⟨fun i x hx=>?_,fun x hx=>?_,by simpa using Hq,fun x hx=>?_⟩
 ·rw [AB.B1]; exact h.sub i x hx
  rintro rfl; simp only at ho; rw [ho] at hx; cases hx
 ·simp only [List.mem_cons] at hx
  rcases hx with rfl | hx
  ·simp
  ·rw [AB.B1 _ _ (Bp x hx)]; exact h.get x (by simp [hx])
 ·simp only [List.mem_cons] at hx
  rcases hx with rfl | hx
  ·exact ho
  ·exact h.out x (by simp [hx])
theorem AA.mv {H0 H : AB} {l : List (Nat × AF)} {id CT : Nat} {o : AF} (h : AA H0 H ((id,o)::l)) (hn : H.get CT=none) (o' : AF) : AA H0 ((H.del id).set CT o') ((CT,o')::l):=by
 have Hq:=h.nd;simp only [List.map_cons,List.nodup_cons] at Hq
 have Bp : ∀ x,x∈l→x.1≠id:=fun x hx e=>Hq.1 (e ▸ List.mem_map_of_mem hx)
 have ho:=h.out (id,o) (by simp)
 have hd : AA H0 (H.del id) l:=by
  refine ⟨fun i x hx=>?_,fun x hx=>?_,Hq.2,fun x hx=>h.out x (by simp [hx])⟩
  ·rw [AB.C3]; exact h.sub i x hx
   rintro rfl; simp only at ho; rw [ho] at hx; cases hx
  ·rw [AB.C3 _ (Bp x hx)]; exact h.get x (by simp [hx])
 refine hd.new ?_ o'
 by_cases e : CT=id
 ·subst e; exact AB.Cf _ _
 ·rw [AB.C3 _ e]; exact hn
section
variable {α : Type} [Inhabited α] {f : α→AV} [One f] {H0 H : AB} {l : List (Nat × AF)} {K : Am}
theorem Ae {n sz : Nat} {cs : List AV} (h : AA H0 H l) (hk : ∀ id H',AA H0 H' ((id,.cells sz cs 0)::l)→K (.buf id n) H') : Ef n sz cs K H :=
 fun id hn=>hk id _ (h.new hn _)
theorem Ai {sz : Nat} {cs : List AV} (h : AA H0 H l) (hk : ∀ id H',AA H0 H' ((id,.cells sz cs 0)::l)→K (.ref id 0) H') : HF sz cs K H :=
 fun id hn=>hk id _ (h.new hn _)
theorem OW (h : AA H0 H l) (hk : ∀ id H',AA H0 H' ((id,.map [] [])::l)→K (.Gg id) H') : Vx K H :=
 fun id hn=>hk id _ (h.new hn _)
omit [Inhabited α] in
/-- An empty list of ours. -/
theorem Ag (f : α→AV) (h : AA H0 H l) (hk : ∀ id H',AA H0 H' ((id,.cells 1 (([] : List α).map f) 0)::l)→K (.buf id ([] : List α).length) H') : Ef 0 1 [] K H :=
 Ae h hk
theorem Ad {id fr n : Nat} {out : List α} (a : α) {v : AV} (h : AA H0 H ((id,.cells 1 (out.map f) fr)::l)) (hv : v=f a) (hn : n=out.length) (hm : out.length+1≤AL)
  (hk : ∀ CT H',AA H0 H' ((CT,.cells 1 ((out++[a]).map f) fr)::l)→K (.buf CT (out++[a]).length) H') :
  DW 1 (some (.buf id n)) (some (.sl [v])) K H:=by
 subst hv hn
 have h0:=h.h0;simp only at h0;simp only [DW,h0,Ct,Gc];refine ⟨⟨trivial,by simp,by simpa using hm,by simpa using hm,MC a⟩,fun CT hn=>?_⟩
 have:=h.mv hn (.cells 1 ((out++[a]).map f) fr)
 have e : out.map f++flat [f a]=(out++[a]).map f:=by simp [flat,CW]
 rw [e]
 have:=hk CT _ this
 simpa using this
theorem Ed {id fr n : Nat} {out r : List α} (h : AA H0 H ((id,.cells 1 (out.map f) fr)::l)) (hn : n=out.length) (hm : out.length+r.length≤AL)
  (hk : ∀ CT H',AA H0 H' ((CT,.cells 1 ((out++r).map f) fr)::l)→K (.buf CT (out++r).length) H') :
  DW 1 (some (.buf id n)) (some (mL f r)) K H:=by
 subst hn
 have h0:=h.h0;simp only at h0;simp only [DW,h0,Gc,fF];refine ⟨⟨trivial,by simp,hm,by simpa using hm⟩,fun CT hn=>?_⟩
 have:=h.mv hn (.cells 1 ((out++r).map f) fr)
 have e : out.map f++r.map f=(out++r).map f:=by simp
 rw [e]
 have:=hk CT _ this
 simpa using this
theorem j0 (a : α) {v : AV} (h : AA H0 H l) (hv : v=f a)
  (hk : ∀ CT H',AA H0 H' ((CT,.cells 1 ([a].map f) 0)::l)→K (.buf CT [a].length) H') :
  DW 1 (some .A1) (some (.sl [v])) K H:=by
 subst hv;simp only [DW,Ct,Sd];refine ⟨⟨by simp [AL],by simp [AL],MC a⟩,fun id hn=>?_⟩
 have:=hk id _ (h.new hn (.cells 1 ([a].map f) 0))
 simpa [flat,CW] using this
end
section
variable {α : Type} {f : α→AV} [One f] {H0 H : AB} {l : List (Nat × AF)}
theorem Al {t id n fr : Nat} {out : List α} {F : Env→AB→Prop} {σ : Env} (h : AA H0 H ((id,.cells 1 (out.map f) fr)::l)) (hn : n=out.length)
  (hk : ∀ H',AA H0 H' l→F ((t,some (mL f out))::σ) H') : YC t id n F σ H (H.get id):=by
 subst hn
 have h0:=h.h0;simp only at h0;rw [h0,lE];refine ⟨⟨by simp,fun c hc=>?_⟩,hk _ (h.put _).tl⟩
 obtain ⟨a,_,rfl⟩:=List.mem_map.mp hc;exact One.one a
end
theorem Pe {k : Nat} (h : k<1125899906842624) : IntKind.i64.wrap ((k : Int)+1)=((k+1 : Nat) : Int):=by
 rw [wrap_i64 (by omega) (by omega)]; omega
theorem A7 {p : Prop} [Decidable p] (h : decide p=true) : p:=by simpa using h
theorem A9 {p : Prop} [Decidable p] (h : decide p=false) : ¬ p:=by simpa using h
end Go.AW
namespace Go.AW
structure oZ (P : Program) (B : Nat) (f : FuncId) (args : List AV) (r : AV) : Prop where
 run : Iz P B f args r
theorem oZ.go {P : Program} {B : Nat} {f : FuncId} {args : List AV} {r : AV} {H : AB} {K : Am} (h : oZ P B f args r) (hk : r.EY→K r H) : B7 P B f args H K :=
 h.run.go hk
end Go.AW
namespace Go.AW
noncomputable def dec (p : Prop) : Bool:=@decide p (Classical.propDecidable p)
theorem Aw {p : Prop} (h : p) : dec p=true:=by simp [dec,h]
theorem Aa {p : Prop} (h : ¬ p) : dec p=false:=by simp [dec,h]
theorem Fx {p : Prop} : dec p=true↔p:=by simp [dec]
theorem Oy {p : Prop} : dec p=false↔¬ p:=by simp [dec]
theorem BX {p q : Prop} (h : p↔q) : dec p=dec q:=by rw [show p=q from propext h]
theorem BK (p : Prop) [Decidable p] : decide p=dec p:=by
 by_cases h : p
 ·rw [Aw h]; simpa using h
 ·rw [Aa h]; simpa using h
theorem AG {k : Nat} {p : Nat→Prop} (h : ∀ i,i<k→p i) (hk : p k) : ∀ i,i<k+1→p i:=fun i hi=>by
 by_cases e : i=k
 ·subst e; exact hk
 ·exact h i (by omega)
theorem AE {α : Type} [Inhabited α] {l : List α} {a : α} : a∈l↔∃ i,i<l.length∧l.getD i default=a:=by
 rw [List.mem_iff_getElem]
 constructor
 ·rintro ⟨i,h,e⟩; exact ⟨i,h,by simpa [gE,h] using e⟩
 ·rintro ⟨i,h,e⟩; exact ⟨i,h,by simpa [gE,h] using e⟩
theorem DZ {α : Type} [Inhabited α] {l : List α} {p : α→Prop} : (∀ a,a∈l→p a)↔∀ i,i<l.length→p (l.getD i default):=by
 constructor
 ·intro h i hi; exact h _ (AE.mpr ⟨i,hi,rfl⟩)
 ·rintro h a ha; obtain ⟨i,hi,rfl⟩:=AE.mp ha; exact h i hi
@[go_sem] theorem mr {α : Type} [Inhabited α] (l : List α) (k : Nat) : ix l (k : Int)=l.getD k default:=AH l k
@[go_sem] theorem HU (k : Nat) : ((k : Int)).toNat=k:=Int.toNat_natCast k
@[go_sem] theorem rC (k : Nat) : (0≤(k : Int))=True:=by simp
@[go_sem] theorem yr (a b : Nat) : decide ((a : Int)<(b : Int))=decide (a<b):=by simp
theorem K1 {k : Nat} (h : 0<k) (h' : k<1125899906842624) : IntKind.i64.wrap ((k : Int) - 1)=((k - 1 : Nat) : Int):=by
 rw [wrap_i64 (by omega) (by omega)]; omega
def indexOf {α : Type} [DecidableEq α] (l : List α) (n : α) : Int:=match l.idxOf? n with
 | some i=>i
 | none=>-1
theorem EV {α : Type} [DecidableEq α] [Inhabited α] {l : List α} {n : α} {k : Nat} (hk : k<l.length) (Ak : ∀ i,i<k→l.getD i default≠n) (he : l.getD k default=n) : indexOf l n=k:=by
 have : l.idxOf? n=some k:=by
  rw [List.idxOf?_eq_some_iff];refine ⟨hk,by simpa [gE,hk] using he,fun j hj=>?_⟩
  have:=Ak j hj
  simpa [gE,show j<l.length by omega] using this
 simp [indexOf,this]
theorem Ej {α : Type} [DecidableEq α] [Inhabited α] {l : List α} {n : α} (Ak : ∀ i,i<l.length→l.getD i default≠n) : indexOf l n=-1:=by
 have : l.idxOf? n=none:=by
  rw [List.idxOf?_eq_none_iff]
  intro h; obtain ⟨i,hi,e⟩:=AE.mp h; exact Ak i hi e
 simp [indexOf,this]
end Go.AW
namespace Go.AW
theorem GL {α : Type} [DecidableEq α] (l : List α) (n : α) : -1≤indexOf l n∧indexOf l n<l.length:=by
 unfold indexOf
 split
 ·rename_i i h
  rw [List.idxOf?_eq_some_iff] at h
  obtain ⟨hi,_⟩:=h;omega
 ·omega
end Go.AW
namespace Go.AW
theorem bnt (b : Bool) : ((!b)=true)=(b=false):=by simp
theorem bnf (b : Bool) : ((!b)=false)=(b=true):=by simp
theorem dect (p : Prop) : (dec p=true)=p:=propext Fx
theorem decf (p : Prop) : (dec p=false)=¬ p:=propext Oy
end Go.AW
namespace Go.AW
@[go_sem] theorem yp (a b : Nat) : decide ((a : Int)=(b : Int))=decide (a=b):=by simp [Int.ofNat_inj]
@[go_sem] theorem fH (a b : Nat) : decide ((a : Int)≤(b : Int))=decide (a≤b):=by simp
def uZ (n : Option Nat) (off : Nat) : Option AF→Option AV
 | some (.cells _ cs _)=>match n with
  | none=>if off<cs.length then some (cs.getD off nv) else none
  | some n=>if off+n≤cs.length then some (.agg ((cs.drop off).take n)) else none
 | _=>none
@[go_sem] theorem ng (n : Option Nat) (id off : Nat) (H : AB) : aV n (some (.ref id off)) H=uZ n off (H.get id):=by
 unfold aV uZ
 cases n <;> (dsimp only; split <;> simp_all)
@[go_sem] theorem rc1_1 (off sz f : Nat) (cs : List AV) : uZ none off (some (.cells sz cs f))=if off<cs.length then some (cs.getD off nv) else none:=rfl
@[go_sem] theorem zJ (n off sz f : Nat) (cs : List AV) : uZ (some n) off (some (.cells sz cs f))=if off+n≤cs.length then some (.agg ((cs.drop off).take n)) else none:=rfl
theorem drop_cons {α : Type} [Inhabited α] (l : List α) {k : Nat} (h : k<l.length) : l.drop k=l.getD k default::l.drop (k+1):=by
 rw [List.drop_eq_getElem_cons h]; simp [gE,h]
attribute [go_sem] List.drop_succ_cons List.drop_zero List.take_succ_cons List.take_zero List.getD_cons_zero List.getD_cons_succ List.length_cons List.length_nil List.set_cons_succ List.set_cons_zero
end Go.AW
namespace Go.AW
theorem JZ (z : AV) : ∀ n,rep n [z]=List.replicate n z
 | 0=>rfl
 | n+1=>by simp [rep,JZ z n,List.replicate_succ]
section
variable {α : Type} {f : α→AV} [One f] {H0 H : AB} {l : List (Nat × AF)} {K : Am}
theorem lA {n : Nat} {z : AV} (f : α→AV) (h : AA H0 H l) (hk : ∀ id H',AA H0 H' ((id,.cells 1 (([] : List α).map f++List.replicate n z) 0)::l)→K (.buf id n) H') :
  Ef n 1 (rep n [z]) K H:=by
 rw [JZ]; exact Ae h hk
theorem qT {id off m : Nat} {z : AV} {A : List α} (a : α) {v : AV} (h : AA H0 H ((id,.cells 1 (A.map f++List.replicate (m+1) z) 0)::l)) (hv : v=f a) (ho : off=A.length)
  (hk : ∀ H',AA H0 H' ((id,.cells 1 ((A++[a]).map f++List.replicate m z) 0)::l)→K nv H') :
  OZ (H.get id) id off 1 [v] K H:=by
 subst hv ho
 have h0:=h.h0;simp only at h0;rw [h0,Mk];refine ⟨⟨by omega,by simp,rfl,fun c hc=>?_⟩, ?_⟩
 ·rw [List.mem_singleton] at hc; subst hc; exact One.one a
 ·have e : wr (A.map f++List.replicate (m+1) z) A.length [f a]=(A++[a]).map f++List.replicate m z:=by
   simp only [wr,List.replicate_succ,List.map_append,List.map_cons,List.map_nil,List.append_assoc];rw [List.set_append_right _ _ (by simp)]
   simp
  rw [e];exact hk _ (h.put _)
theorem jP {t id n : Nat} {z : AV} {A : List α} {F : Env→AB→Prop} {σ : Env} (h : AA H0 H ((id,.cells 1 (A.map f++List.replicate 0 z) 0)::l)) (hn : n=A.length)
  (hk : ∀ H',AA H0 H' l→F ((t,some (mL f A))::σ) H') : YC t id n F σ H (H.get id):=by
 rw [List.replicate_zero,List.append_nil] at h;exact Al h hn hk
end
theorem BW {α β : Type} [Inhabited α] (l : List α) (g : α→β) {k : Nat} (h : k<l.length) : (l.take (k+1)).map g=(l.take k).map g++[g (l.getD k default)]:=by
 rw [Co l h]; simp
theorem BF (p : Nat→Bool) (k : Nat) : (List.range (k+1)).filter p=(List.range k).filter p++if p k then [k] else []:=by
 rw [List.range_succ,List.filter_append]; simp [List.filter_cons]
end Go.AW
namespace Go.AW
theorem C7 {H0 H : AB} {i : Nat} {o : AF} (h : H0.sub H) (n : H0.get i=none) : H0.sub (H.set i o):=by
 intro j x hx;rw [AB.B1]
 ·exact h j x hx
 ·rintro rfl; rw [n] at hx; cases hx
attribute [go_sem] AB.Ek
end Go.AW
namespace Go.AW
@[go_sem] theorem vz (b : Bool) : (true ^^ b)=!b:=by simp
@[go_sem] theorem xor_fl (b : Bool) : (false ^^ b)=b:=by simp
@[go_sem] theorem qz (p q : Prop) [Decidable p] [Decidable q] : (decide p && decide q)=dec (p∧q):=by rw [← BK]; simp
end Go.AW
namespace Go.AW
def OY (P : Prop) (H0 : AB) : Am:=fun r H'=>H'=H0∧∃ k a b d : Int,r=.CG [.int .i64 k,.int .i64 a,.int .i64 b,.int .i64 d]∧(k=0↔P)
theorem CV {P : Prop} {H0 H : AB} {k a b d : Int} (h : k=0↔P) (hs : H0.sub H) : Ik (OY P H0) (.CG [.int .i64 k,.int .i64 a,.int .i64 b,.int .i64 d]) H :=
 ⟨H0,hs,rfl,k,a,b,d,rfl,h⟩
end Go.AW
namespace Go.Shf
open Go.AW
structure Ay where
 AO : Int
 AJ : List Int
 to : List Int
 Av : List Int
 comp : List (List Int)
 deriving Inhabited
structure SF where
 shape : Ay
 A4 : List Int
 AU : List (List Int)
 deriving Inhabited
structure Dw where
 shape : Ay
 AP : List (List (List Int))
 deriving Inhabited
structure SM where
 src : SF
 CA : SF
 parts : List (List Int)
 deriving Inhabited
@[go_sem] def Ay.cells (c : Ay) : List AV:=[iI c.AO,iL c.AJ,iL c.to,iL c.Av,BA c.comp]
@[go_sem] def SF.cells (f : SF) : List AV:=[iI f.shape.AO,iL f.shape.AJ,iL f.shape.to,iL f.shape.Av,BA f.shape.comp,iL f.A4,BA f.AU]
@[go_sem] def Dw.cells (j : Dw) : List AV:=[iI j.shape.AO,iL j.shape.AJ,iL j.shape.to,iL j.shape.Av,BA j.shape.comp,Ft j.AP]
@[go_sem] def SM.cells (m : SM) : List AV:=[iI m.src.shape.AO,iL m.src.shape.AJ,iL m.src.shape.to,iL m.src.shape.Av,BA m.src.shape.comp,iL m.src.A4,BA m.src.AU,
 iI m.CA.shape.AO,iL m.CA.shape.AJ,iL m.CA.shape.to,iL m.CA.shape.Av,BA m.CA.shape.comp,iL m.CA.A4,BA m.CA.AU,BA m.parts]
def cmp : List Int→List Int→Int
 | [],[]=>0
 | [],_::_=>-1
 | _::_,[]=>1
 | a::r,b::s=>if a=b then cmp r s else if a<b then -1 else 1
theorem Ca : ∀ {a b : List Int},cmp a b=0↔a=b
 | [],[]=>by simp [cmp]
 | [],_::_=>by simp [cmp]
 | _::_,[]=>by simp [cmp]
 | a::r,b::s=>by
  unfold cmp
  split
  ·rename_i h; rw [Ca]; simp [h]
  ·rename_i h; split <;> simp [h]
theorem Gt : ∀ (a b : List Int),cmp a b=- cmp b a
 | [],[]=>by simp [cmp]
 | [],_::_=>by simp [cmp]
 | _::_,[]=>by simp [cmp]
 | a::r,b::s=>by
  unfold cmp
  by_cases h : a=b
  ·simp only [h,if_true]; exact Gt r s
  ·have h3 : ¬ b=a:=fun e=>h e.symm;simp only [h,h3,if_false]
   by_cases h2 : a<b
   ·have h4 : ¬ b<a:=by omega
    simp [h2,h4]
   ·have h4 : b<a:=by omega
    simp [h2,h4]
theorem Hf : ∀ {a b c : List Int},cmp a b<0→cmp b c<0→cmp a c<0
 | [],[],_,h,_=>by simp [cmp] at h
 | [],_::_,[],_,h=>by simp [cmp] at h
 | [],_::_,_::_,_,_=>by simp [cmp]
 | _::_,[],_,h,_=>by simp [cmp] at h
 | _::_,_::_,[],_,h=>by simp [cmp] at h
 | a::r,b::s,c::t,h,k=>by
  unfold cmp at h k ⊢
  by_cases e1 : a=b
  ·by_cases e2 : b=c
   ·simp only [e1,e2,if_true] at h k ⊢; exact Hf h k
   ·subst e1; rw [if_neg e2] at k ⊢; exact k
  ·by_cases e2 : b=c
   ·subst e2; rw [if_neg e1] at h ⊢; exact h
   ·rw [if_neg e1] at h; rw [if_neg e2] at k
    split at h <;> split at k <;> first | omega | (rw [if_neg (by omega),if_pos (by omega)]; decide)
def Ht (l : List Int) : Prop:=∀ i,0<i→i<l.length→l.getD (i - 1) default<l.getD i default
def outs (c : Ay) (x : Int) : List Int:=((List.range c.AJ.length).filter fun i=>c.AJ.getD i default=x).map Int.ofNat
end Go.Shf
namespace Go.Shf
open Go.AW
structure Ay.Shape (c : Ay) : Prop where
 o : 0≤c.AO∧c.AO≤8
 m : c.AJ.length≤40
 AJ : ∀ y,y∈c.AJ→0≤y∧y<c.AO
 HN : c.to.length=c.AJ.length
 to : ∀ y,y∈c.to→0≤y∧y<c.AO
 cl : c.comp.length=c.AJ.length
 il : (c.Av.length : Int)=c.AO
 Av : ∀ y,y∈c.Av→0≤y∧y<(c.AJ.length : Int)
 Qj : ∀ x : Nat,x<c.Av.length→ix c.AJ (c.Av.getD x default)=x∧ix c.to (c.Av.getD x default)=x
 row : ∀ f : Nat,f<c.AJ.length→(c.comp.getD f default).length=c.AJ.length
 tB : ∀ f g : Nat,f<c.AJ.length→g<c.AJ.length→c.to.getD f default≠c.AJ.getD g default→(c.comp.getD f default).getD g default=-1
 yes : ∀ f g : Nat,f<c.AJ.length→g<c.AJ.length→c.to.getD f default=c.AJ.getD g default →
  (0≤(c.comp.getD f default).getD g default∧(c.comp.getD f default).getD g default<c.AJ.length) ∧
  ix c.AJ ((c.comp.getD f default).getD g default)=c.AJ.getD f default∧ix c.to ((c.comp.getD f default).getD g default)=c.to.getD g default
structure Ay.Laws (c : Ay) : Prop where
 ZO : ∀ f : Nat,f<c.AJ.length→ix (ix c.comp (ix c.Av (c.AJ.getD f default))) f=f∧ix (c.comp.getD f default) (ix c.Av (c.to.getD f default))=f
 assoc : ∀ f g h : Nat,f<c.AJ.length→g<c.AJ.length→h<c.AJ.length→c.to.getD f default=c.AJ.getD g default→c.to.getD g default=c.AJ.getD h default →
  ix (ix c.comp ((c.comp.getD f default).getD g default)) h=ix (c.comp.getD f default) ((c.comp.getD g default).getD h default)
def Ay.Is (c : Ay) : Prop:=c.Shape∧c.Laws
end Go.Shf
namespace Go.Shf
open Go.AW
theorem Ay.Shape.QV {c : Ay} (s : c.Shape) {f : Nat} (h : f<c.AJ.length) : 0≤c.AJ.getD f default∧(c.AJ.getD f default).toNat<c.Av.length:=by
 have:=s.AJ _ (AE.mpr ⟨f,h,rfl⟩); have:=s.il; omega
theorem Ay.Shape.vJ {c : Ay} (s : c.Shape) {f : Nat} (h : f<c.AJ.length) : 0≤c.to.getD f default∧(c.to.getD f default).toNat<c.Av.length:=by
 have:=s.to _ (AE.mpr ⟨f,by have:=s.HN; omega,rfl⟩); have:=s.il; omega
theorem Ay.Shape.CT {c : Ay} (s : c.Shape) {x : Int} (h : x.toNat<c.Av.length) : 0≤ix c.Av x∧(ix c.Av x).toNat<c.AJ.length:=by
 have:=s.Av _ (Bh h); omega
theorem Ay.Shape.L8 {c : Ay} (s : c.Shape) {a : Int} (h : a.toNat<c.AJ.length) : (ix c.comp a).length=c.AJ.length:=s.row _ h
theorem Ay.Shape.pos {c : Ay} (s : c.Shape) {f g : Nat} (hf : f<c.AJ.length) (hg : g<c.AJ.length) : (0≤(c.comp.getD f default).getD g default)↔c.to.getD f default=c.AJ.getD g default:=by
 constructor
 ·intro h; apply Classical.byContradiction; intro e; have:=s.tB f g hf hg e; omega
 ·intro e; exact (s.yes f g hf hg e).1.1
theorem Ay.Shape.lt {c : Ay} (s : c.Shape) {f g : Nat} (hf : f<c.AJ.length) (hg : g<c.AJ.length) : ((c.comp.getD f default).getD g default).toNat<c.AJ.length:=by
 by_cases e : c.to.getD f default=c.AJ.getD g default
 ·have:=(s.yes f g hf hg e).1; omega
 ·have:=s.tB f g hf hg e; omega
def Ay.dj (c : Ay) (f : Nat) : Prop:=ix (ix c.comp (ix c.Av (c.AJ.getD f default))) f=f∧ix (c.comp.getD f default) (ix c.Av (c.to.getD f default))=f
def Ay.Jg (c : Ay) (f g h : Nat) : Prop:=c.to.getD f default=c.AJ.getD g default→c.to.getD g default=c.AJ.getD h default →
  ix (ix c.comp ((c.comp.getD f default).getD g default)) h=ix (c.comp.getD f default) ((c.comp.getD g default).getD h default)
end Go.Shf
namespace Go.Shf
open Go.AW
structure Ay.Az (c : Ay) (x : Int) (l : List Int) : Prop where
 jL : Ht l
 QF : ∀ y,y∈l→0≤y∧y<(c.AJ.length : Int)
 src : ∀ y,y∈l→ix c.AJ y=x
 cls : ∀ a,a∈l→∀ b : Nat,b<c.AJ.length→ix c.to a=c.AJ.getD b default→(ix c.comp a).getD b default∈l
theorem BT {c : Ay} {x y : Int} : y∈outs c x↔0≤y∧y.toNat<c.AJ.length∧ix c.AJ y=x:=by
 simp only [outs,List.mem_map,List.mem_filter,List.mem_range,decide_eq_true_eq]
 constructor
 ·rintro ⟨b,⟨h1,h2⟩,rfl⟩; exact ⟨Int.natCast_nonneg b,by simpa using h1,by simpa [ix] using h2⟩
 ·rintro ⟨h1,h2,h3⟩; exact ⟨y.toNat,⟨h2,h3⟩,Int.toNat_of_nonneg h1⟩
end Go.Shf
namespace Go.Shf
open Go.AW
structure Dw.Form (j : Dw) : Prop where
 is : j.shape.Is
 len : (j.AP.length : Int)=j.shape.AO
 sv : ∀ x : Nat,x<j.AP.length→∀ k : Nat,k<(j.AP.getD x default).length→j.shape.Az x ((j.AP.getD x default).getD k default)
 ord : ∀ x : Nat,x<j.AP.length→∀ k : Nat,k+1<(j.AP.getD x default).length →
  cmp ((j.AP.getD x default).getD k default) ((j.AP.getD x default).getD (k+1) default)<0
end Go.Shf
namespace Go.Shf
open Go.AW
structure SF.Shape (f : SF) : Prop where
 is : f.shape.Is
 sl : (f.A4.length : Int)=f.shape.AO
 al : f.AU.length=f.shape.AJ.length
 sz : ∀ y,y∈f.A4→0≤y∧y<17
 act : ∀ a : Nat,a<f.AU.length→((f.AU.getD a default).length : Int)=ix f.A4 (f.shape.AJ.getD a default) ∧
  ∀ y,y∈f.AU.getD a default→0≤y∧y<ix f.A4 (f.shape.to.getD a default)
end Go.Shf
namespace Go.Shf
open Go.AW
structure SF.Laws (f : SF) : Prop where
 ZO : ∀ x : Nat,x<f.shape.Av.length→∀ e : Nat,e<(ix f.AU (f.shape.Av.getD x default)).length→(ix f.AU (f.shape.Av.getD x default)).getD e default=e
 comp : ∀ a b : Nat,a<f.shape.AJ.length→b<f.shape.AJ.length→f.shape.to.getD a default=f.shape.AJ.getD b default→∀ e : Nat,e<(f.AU.getD a default).length →
  (ix f.AU ((f.shape.comp.getD a default).getD b default)).getD e default=ix (f.AU.getD b default) ((f.AU.getD a default).getD e default)
def SF.Si (f : SF) (a b : Nat) : Prop:=f.shape.to.getD a default=f.shape.AJ.getD b default→∀ e : Nat,e<(f.AU.getD a default).length →
  (ix f.AU ((f.shape.comp.getD a default).getD b default)).getD e default=ix (f.AU.getD b default) ((f.AU.getD a default).getD e default)
def SF.Is (f : SF) : Prop:=f.Shape∧f.Laws
theorem SF.Shape.Cw {f : SF} (s : f.Shape) {a : Int} (h : a.toNat<f.shape.AJ.length) : ((ix f.AU a).length : Int)=ix f.A4 (ix f.shape.AJ a):=(s.act a.toNat (by rw [s.al]; exact h)).1
theorem SF.Shape.cN {f : SF} (s : f.Shape) {x : Nat} (h : x<f.shape.Av.length) : ((ix f.AU (f.shape.Av.getD x default)).length : Int)=f.A4.getD x default:=by
 have h1:=s.is.1.Av _ (AE.mpr ⟨x,h,rfl⟩);rw [s.Cw (by omega),(s.is.1.Qj x h).1,AH]
end Go.Shf
namespace Go.Shf
open Go.AW
def Eu (p : Nat→Bool) (n : Nat) : List Int:=((List.range n).filter p).map Int.ofNat
theorem It {p : Nat→Bool} {n : Nat} {y : Int} : y∈Eu p n↔0≤y∧y.toNat<n∧p y.toNat=true:=by
 simp only [Eu,List.mem_map,List.mem_filter,List.mem_range]
 constructor
 ·rintro ⟨b,⟨h1,h2⟩,rfl⟩; exact ⟨Int.natCast_nonneg b,by simpa using h1,by simpa using h2⟩
 ·rintro ⟨h1,h2,h3⟩; exact ⟨y.toNat,⟨h2,h3⟩,Int.toNat_of_nonneg h1⟩
theorem RO (p : Nat→Bool) (n : Nat) : Eu p (n+1)=Eu p n++if p n then [(n : Int)] else []:=by
 rw [Eu,BF,List.map_append]; congr 1; split <;> rfl
theorem On {p : Nat→Bool} {n : Nat} (h : p n=true) : Eu p (n+1)=Eu p n++[(n : Int)]:=by rw [RO,if_pos h]
theorem Kd {p : Nat→Bool} {n : Nat} (h : p n=false) : Eu p (n+1)=Eu p n:=by rw [RO,if_neg (by simp [h]),List.append_nil]
@[simp] theorem xo (p : Nat→Bool) : Eu p 0=[]:=rfl
theorem HZ (p : Nat→Bool) (n : Nat) : (Eu p n).length≤n:=by
 rw [Eu,List.length_map]; exact Nat.le_trans (List.length_filter_le _ _) (by simp)
theorem RI (c : Ay) (x : Int) : outs c x=Eu (fun i=>c.AJ.getD i default=x) c.AJ.length:=rfl
theorem DF {l : List Int} : Ht l↔l.Pairwise (·<·):=by
 constructor
 ·intro h;rw [List.pairwise_iff_getElem]
  intro i j hi hj n7
  have key : ∀ d i,i+d<l.length→0<d→l.getD i default<l.getD (i+d) default:=by
   intro d
   induction d with
   | zero=>intro i _ h; omega
   | succ d ih =>
    intro i hi _
    have h1:=h (i+d+1) (by omega) hi;simp only [Nat.add_sub_cancel] at h1
    by_cases hd : d=0
    ·subst hd; exact h1
    ·have:=ih i (by omega) (by omega); exact Int.lt_trans this h1
  have:=key (j - i) i (by omega) (by omega);rw [show i+(j - i)=j by omega] at this
  simpa [gE,hi,hj] using this
 ·intro h i h0 hi;rw [List.pairwise_iff_getElem] at h
  have:=h (i - 1) i (by omega) hi (by omega)
  simpa [gE,hi,show i - 1<l.length by omega] using this
theorem Du (p : Nat→Bool) (n : Nat) : Ht (Eu p n):=by
 rw [DF,Eu,List.pairwise_map];exact (List.pairwise_lt_range.filter _).imp fun {a b} h=>by simpa using h
theorem KR {l r : List Int} (hl : Ht l) (hr : Ht r) (h : ∀ y,y∈l↔y∈r) : l=r:=by
 rw [DF] at hl hr;refine List.Perm.eq_of_pairwise (le:=(·<·)) (fun a b _ _ h1 h2=>by omega) hl hr ?_;refine (List.perm_ext_iff_of_nodup ?_ ?_).mpr h
 ·exact hl.imp fun {a b} h=>by omega
 ·exact hr.imp fun {a b} h=>by omega
def Mz (c : Ay) (a : Int) (s : List Int) (b : Nat) : Bool:=decide (ix c.to a=c.AJ.getD b default) && decide ((ix c.comp a).getD b default∈s)
def Dc (c : Ay) (a : Int) (s : List Int) : List Int:=Eu (Mz c a s) c.AJ.length
theorem kZ {c : Ay} {a : Int} {s : List Int} {b : Nat} (h1 : ix c.to a=c.AJ.getD b default) (h2 : (ix c.comp a).getD b default∈s) : Mz c a s b=true:=by simp only [Mz,Bool.and_eq_true,decide_eq_true_eq]; exact ⟨h1,h2⟩
theorem YT {c : Ay} {a : Int} {s : List Int} {b : Nat} (h : ¬ (ix c.to a=c.AJ.getD b default∧(ix c.comp a).getD b default∈s)) : Mz c a s b=false:=by
 cases e : Mz c a s b with
 | false=>rfl
 | true=>simp only [Mz,Bool.and_eq_true,decide_eq_true_eq] at e; exact absurd e h
noncomputable def WM (c : Ay) (l : List Int) (h : Nat) : Bool:=dec (∃ a,a∈l∧∃ b : Nat,b<c.AJ.length∧ix c.to a=c.AJ.getD b default∧(ix c.comp a).getD b default=(h : Int))
noncomputable def Bl (c : Ay) (l : List Int) : List Int:=Eu (WM c l) c.AJ.length
section
variable {c : Ay}
theorem FB {a : Int} {s : List Int} {y : Int} : y∈Dc c a s↔(0≤y∧y.toNat<c.AJ.length)∧ix c.to a=ix c.AJ y∧ix (ix c.comp a) y∈s:=by
 simp only [Dc,Mz,It,Bool.and_eq_true,decide_eq_true_eq,and_assoc]; exact Iff.rfl
theorem GG {l : List Int} {y : Int} : y∈Bl c l↔(0≤y∧y.toNat<c.AJ.length)∧∃ a,a∈l∧∃ b : Int,(0≤b∧b.toNat<c.AJ.length)∧ix c.to a=ix c.AJ b∧ix (ix c.comp a) b=y:=by
 simp only [Bl,WM,It,Fx,and_assoc]
 constructor
 ·rintro ⟨h1,h2,a,ha,b,hb,e1,e2⟩;rw [Int.toNat_of_nonneg h1] at e2;exact ⟨h1,h2,a,ha,b,Int.natCast_nonneg b,by simpa using hb,by simpa [ix] using e1,by simpa [ix] using e2⟩
 ·rintro ⟨h1,h2,a,ha,b,hb0,hb,e1,e2⟩;refine ⟨h1,h2,a,ha,b.toNat,hb,e1, ?_⟩;rw [Int.toNat_of_nonneg h1]; exact e2
theorem Ay.Shape.comp (s : c.Shape) {a b : Int} (ha : 0≤a∧a.toNat<c.AJ.length) (hb : 0≤b∧b.toNat<c.AJ.length) (e : ix c.to a=ix c.AJ b) :
  (0≤ix (ix c.comp a) b∧(ix (ix c.comp a) b).toNat<c.AJ.length)∧ix c.AJ (ix (ix c.comp a) b)=ix c.AJ a∧ix c.to (ix (ix c.comp a) b)=ix c.to b:=by
 have:=s.yes a.toNat b.toNat ha.2 hb.2 e;refine ⟨⟨this.1.1, ?_⟩,this.2⟩
 have:=this.1; simp only [ix]; omega
theorem Ay.Is.assoc (h : c.Is) {f g k : Int} (hf : 0≤f∧f.toNat<c.AJ.length) (hg : 0≤g∧g.toNat<c.AJ.length) (hk : 0≤k∧k.toNat<c.AJ.length)
  (e1 : ix c.to f=ix c.AJ g) (e2 : ix c.to g=ix c.AJ k) : ix (ix c.comp (ix (ix c.comp f) g)) k=ix (ix c.comp f) (ix (ix c.comp g) k):=by
 have:=h.2.assoc f.toNat g.toNat k.toNat hf.2 hg.2 hk.2 e1 e2
 simpa only [ix,Int.toNat_natCast] using this
theorem Ay.Shape.Cb (s : c.Shape) {f : Int} (hf : f.toNat<c.AJ.length) : 0≤ix c.to f∧ix c.to f<c.AO:=s.to _ (Bh (by rw [s.HN]; exact hf))
theorem Ay.Shape.Cn (s : c.Shape) {f : Int} (hf : f.toNat<c.AJ.length) : 0≤ix c.AJ f∧ix c.AJ f<c.AO:=s.AJ _ (Bh hf)
theorem Ay.Shape.Um (s : c.Shape) {x : Int} (hx : 0≤x∧x<c.AO) : (0≤ix c.Av x∧(ix c.Av x).toNat<c.AJ.length)∧ix c.AJ (ix c.Av x)=x∧ix c.to (ix c.Av x)=x:=by
 have hl:=s.il
 have h1:=s.CT (x:=x) (by omega)
 have h2:=s.Qj x.toNat (by omega);rw [Int.toNat_of_nonneg hx.1] at h2;exact ⟨h1,h2⟩
theorem Ay.Is.BQ (h : c.Is) {f : Int} (hf : 0≤f∧f.toNat<c.AJ.length) : ix (ix c.comp f) (ix c.Av (ix c.to f))=f:=by
 have:=(h.2.ZO f.toNat hf.2).2;rw [Int.toNat_of_nonneg hf.1] at this; exact this
theorem Ay.Is.ZO (h : c.Is) {f : Int} (hf : 0≤f∧f.toNat<c.AJ.length) : ix (ix c.comp (ix c.Av (ix c.AJ f))) f=f:=by
 have:=(h.2.ZO f.toNat hf.2).1;rw [Int.toNat_of_nonneg hf.1] at this; exact this
theorem Ay.Az.arr {x : Int} {s : List Int} (h : c.Az x s) {a : Int} (ha : a∈s) : (0≤a∧a.toNat<c.AJ.length)∧ix c.AJ a=x:=by
 have:=h.QF a ha;exact ⟨⟨this.1,by omega⟩,h.src a ha⟩
theorem Ay.Az.QZ {x : Int} {s : List Int} (h : c.Az x s) {a b : Int} (ha : a∈s) (hb : 0≤b∧b.toNat<c.AJ.length) (e : ix c.to a=ix c.AJ b) : ix (ix c.comp a) b∈s :=
 h.cls a ha b.toNat hb.2 e
theorem Ay.Az.mk' {x : Int} {s : List Int} (hr : Ht s) (ha : ∀ a,a∈s→(0≤a∧a.toNat<c.AJ.length)∧ix c.AJ a=x)
  (hc : ∀ a b,a∈s→(0≤b∧b.toNat<c.AJ.length)→ix c.to a=ix c.AJ b→ix (ix c.comp a) b∈s) : c.Az x s :=
 ⟨hr,fun y hy=>⟨(ha y hy).1.1,by have:=(ha y hy).1; omega⟩,fun y hy=>(ha y hy).2,fun a hy b hb e=>by
  have:=hc a (b : Int) hy ⟨Int.natCast_nonneg b,by simpa using hb⟩ (by simpa [ix] using e)
  simpa [ix] using this⟩
theorem Ay.Az.ext {x : Int} {s t : List Int} (hs : c.Az x s) (ht : c.Az x t) (h : ∀ y,y∈s↔y∈t) : s=t:=KR hs.jL ht.jL h
theorem II (s : c.Shape) (x : Int) : c.Az x (outs c x) :=
 .mk' (RI c x ▸ Du _ _) (fun a ha=>by have:=BT.mp ha; exact ⟨⟨this.1,this.2.1⟩,this.2.2⟩) fun a b ha hb e=>by
  have h:=BT.mp ha
  have:=s.comp ⟨h.1,h.2.1⟩ hb e;exact BT.mpr ⟨this.1.1,this.1.2,this.2.1.trans h.2.2⟩
theorem Yw (x : Int) : c.Az x []:=.mk' (fun i _ h=>by simp at h) (fun a h=>by simp at h) fun a b h=>by simp at h
theorem HA (h : c.Is) {a : Int} {s : List Int} (ha : 0≤a∧a.toNat<c.AJ.length) (hs : c.Az (ix c.AJ a) s) : c.Az (ix c.to a) (Dc c a s) :=
 .mk' (Du _ _) (fun b hb=>by have:=FB.mp hb; exact ⟨this.1,this.2.1.symm⟩) fun b d hb hd e=>by
  have hb:=FB.mp hb
  have h1:=h.1.comp hb.1 hd e;refine FB.mpr ⟨h1.1,by rw [h1.2.1]; exact hb.2.1, ?_⟩;rw [← h.assoc ha hb.1 hd hb.2.1 e];exact hs.QZ hb.2.2 hd (by rw [(h.1.comp ha hb.1 hb.2.1).2.2]; exact e)
theorem IC (h : c.Is) {x : Int} {l : List Int} (hl : ∀ a,a∈l→(0≤a∧a.toNat<c.AJ.length)∧ix c.AJ a=x) : c.Az x (Bl c l) :=
 .mk' (Du _ _) (fun y hy=>by
  obtain ⟨h1,a,ha,b,hb,e1,e2⟩:=GG.mp hy;refine ⟨h1, ?_⟩;rw [← e2,(h.1.comp (hl a ha).1 hb e1).2.1]; exact (hl a ha).2) fun y d hy hd e=>by
  obtain ⟨h1,a,ha,b,hb,e1,e2⟩:=GG.mp hy
  have k1:=h.1.comp (hl a ha).1 hb e1
  have k2 : ix c.to b=ix c.AJ d:=by rw [← k1.2.2,e2]; exact e
  have k3:=h.1.comp hb hd k2;refine GG.mpr ⟨(h.1.comp h1 hd e).1,a,ha,_,k3.1,by rw [k3.2.1]; exact e1, ?_⟩;rw [← h.assoc (hl a ha).1 hb hd e1 k2,e2]
theorem GD (h : c.Is) {l : List Int} {a : Int} (ha : a∈l) (hl : 0≤a∧a.toNat<c.AJ.length) : a∈Bl c l:=by
 have h1:=h.1.Um (h.1.Cb hl.2);exact GG.mpr ⟨hl,a,ha,_,h1.1,h1.2.1.symm,h.BQ hl⟩
theorem Pa {x : Int} {l s : List Int} (hs : c.Az x s) (h : ∀ a,a∈l→a∈s) {y : Int} (hy : y∈Bl c l) : y∈s:=by
 obtain ⟨_,a,ha,b,hb,e1,e2⟩:=GG.mp hy;rw [← e2]; exact hs.QZ (h a ha) hb e1
theorem Uh (h : c.Is) {x : Int} {s l : List Int} (hs : c.Az x s) (h1 : ∀ a,a∈l↔a∈s) : Bl c l=s:=by
 have hl : ∀ a,a∈l→(0≤a∧a.toNat<c.AJ.length)∧ix c.AJ a=x:=fun a ha=>hs.arr ((h1 a).mp ha);refine (IC h hl).ext hs fun y=>⟨Pa hs fun a ha=>(h1 a).mp ha,fun hy=>GD h ((h1 y).mpr hy) (hs.arr hy).1⟩
theorem PA (h : c.Is) {x : Int} {L : List (List Int)} (h0 : []∈L) (hs : ∀ t,t∈L→c.Az x t) (hc : ∀ t,t∈L→∀ a,a∈outs c x→Bl c (t++[a])∈L) :
  ∀ s,c.Az x s→s∈L:=by
 intro s hS
 have key : ∀ n t,t∈L→(∀ a,a∈t→a∈s)→(s.filter fun a=>decide (a ∉ t)).length=n→s∈L:=by
  intro n
  induction n using Nat.strongRecOn with
  | _ n ih =>
   intro t ht Cs hn
   by_cases he : ∃ a,a∈s∧a ∉ t
   ·obtain ⟨a,ha,Hs⟩:=he
    have aR:=hS.arr ha
    have hl : ∀ b,b∈t++[a]→(0≤b∧b.toNat<c.AJ.length)∧ix c.AJ b=x:=by
     intro b hb
     rcases List.mem_append.mp hb with hb | hb
     ·exact (hs t ht).arr hb
     ·rw [List.mem_singleton] at hb; subst hb; exact aR
    have Eo:=hc t ht a (BT.mpr ⟨aR.1.1,aR.1.2,aR.2⟩);refine ih _ ?_ _ Eo (fun b hb=>Pa hS (fun b hb=>?_) hb) rfl
    ·rw [← hn]
     have gV : ∀ b,b∈t→b∈Bl c (t++[a]):=fun b hb=>GD h (by simp [hb]) (hl b (by simp [hb])).1
     have jB : a∈Bl c (t++[a]):=GD h (by simp) aR.1;rw [← List.countP_eq_length_filter,← List.countP_eq_length_filter]
     have h1 : List.countP (fun b=>decide (b ∉ Bl c (t++[a]))) s+1≤List.countP (fun b=>decide (b ∉ t)) s:=by
      obtain ⟨s1,s2,rfl⟩:=List.append_of_mem ha;simp only [List.countP_append,List.countP_cons]
      have i1 : List.countP (fun b=>decide (b ∉ Bl c (t++[a]))) s1≤List.countP (fun b=>decide (b ∉ t)) s1 :=
       List.countP_mono_left fun b _ hb=>by simp only [decide_eq_true_eq] at hb ⊢; exact fun h=>hb (gV b h)
      have i2 : List.countP (fun b=>decide (b ∉ Bl c (t++[a]))) s2≤List.countP (fun b=>decide (b ∉ t)) s2 :=
       List.countP_mono_left fun b _ hb=>by simp only [decide_eq_true_eq] at hb ⊢; exact fun h=>hb (gV b h)
      simp only [jB,Hs,not_true_eq_false,decide_false,not_false_eq_true,decide_true,if_true,Bool.false_eq_true,if_false];omega
     omega
    ·rcases List.mem_append.mp hb with hb | hb
     ·exact Cs b hb
     ·rw [List.mem_singleton] at hb; subst hb; exact ha
   ·have : t=s:=(hs t ht).ext hS fun y=>⟨Cs y,fun hy=>Classical.byContradiction fun hn=>he ⟨y,hy,hn⟩⟩;rw [← this]; exact ht
 exact key _ [] h0 (fun a ha=>by simp at ha) rfl
structure Ie (c : Ay) (x : Int) (L : List (List Int)) : Prop where
 N9 : L.Pairwise fun s t=>cmp s t<0
 mem : ∀ s,s∈L↔c.Az x s
theorem Ie.uniq {x : Int} {L M : List (List Int)} (h : Ie c x L) (k : Ie c x M) : L=M:=by
 refine List.Perm.eq_of_pairwise (le:=fun s t=>cmp s t<0) (fun a b _ _ h1 h2=>?_) h.N9 k.N9 ?_
 ·have:=Gt a b; omega
 ·refine (List.perm_ext_iff_of_nodup ?_ ?_).mpr fun s=>(h.mem s).trans (k.mem s).symm
  ·exact h.N9.imp fun {a b} h e=>by rw [Ca.mpr e] at h; omega
  ·exact k.N9.imp fun {a b} h e=>by rw [Ca.mpr e] at h; omega
theorem Ie.nodup {x : Int} {L : List (List Int)} (h : Ie c x L) : L.Nodup:=h.N9.imp fun {a b} h e=>by rw [Ca.mpr e] at h; omega
def OM (c : Ay) (x : Int) : Prop:=∃ L,Ie c x L∧L.length≤16
theorem OM.no {x : Int} {M : List (List Int)} (hn : M.Nodup) (hm : ∀ s,s∈M→c.Az x s) (hl : 16<M.length) : ¬ OM c x:=by
 rintro ⟨L,hL,h⟩
 have:=List.Nodup.length_le_of_subset hn fun s hs=>(hL.mem s).mpr (hm s hs);omega
open Classical in
noncomputable def Gl (c : Ay) (x : Int) : List (List Int):=if h : OM c x then Classical.choose h else []
theorem LB {x : Int} (h : OM c x) : Ie c x (Gl c x)∧(Gl c x).length≤16:=by
 rw [Gl,dif_pos h]; exact Classical.choose_spec h
theorem kS {x : Int} {L : List (List Int)} (h : Ie c x L) (hl : L.length≤16) : OM c x∧Gl c x=L :=
 have hf : OM c x:=⟨L,h,hl⟩
 ⟨hf,(LB hf).1.uniq h⟩
end
end Go.Shf
namespace Go.Shf
open Go.AW
def CE (f : SF) (s : List Int) (e : Int) : List Int:=s.map fun a=>ix (ix f.AU a) e
def Mu (f : SF) (s t : List Int) (e : Nat) : Bool:=decide (CE f s e=t)
def glue (f : SF) (x : Int) (s t : List Int) : List Int:=Eu (Mu f s t) (ix f.A4 x).toNat
end Go.Shf
namespace Go.Shf
open Go.AW
def Wg (c : Ay) (l : List Int) (i b h : Nat) : Prop:=ix c.to (l.getD i default)=c.AJ.getD b default∧(ix c.comp (l.getD i default)).getD b default=(h : Int)
def Cv (c : Ay) (l : List Int) (k b' : Nat) (A : List Bool) : Prop:=A.length=c.AJ.length ∧
 ∀ h,h<c.AJ.length→(A.getD h default=true↔(∃ i,i<k∧∃ b,b<c.AJ.length∧Wg c l i b h)∨∃ b,b<b'∧Wg c l k b h)
theorem Cv.zero (c : Ay) (l : List Int) : Cv c l 0 0 (List.replicate c.AJ.length false):=by
 refine ⟨by simp,fun h hh=>?_⟩;simp only [gE,List.getElem?_replicate,hh,if_true,Option.getD_some]
 constructor
 ·intro e; cases e
 ·rintro (⟨i,hi,_⟩ | ⟨b,hb,_⟩) <;> omega
theorem Cv.row {c : Ay} {l : List Int} {k : Nat} {A : List Bool} (h : Cv c l k c.AJ.length A) : Cv c l (k+1) 0 A:=by
 refine ⟨h.1,fun x hx=>(h.2 x hx).trans ⟨?_, ?_⟩⟩
 ·rintro (⟨i,hi,e⟩ | ⟨b,hb,e⟩)
  ·exact .inl ⟨i,by omega,e⟩
  ·exact .inl ⟨k,by omega,b,hb,e⟩
 ·rintro (⟨i,hi,b,hb,e⟩ | ⟨b,hb,e⟩)
  ·by_cases e2 : i=k
   ·subst e2; exact .inr ⟨b,hb,e⟩
   ·exact .inl ⟨i,by omega,b,hb,e⟩
  ·omega
theorem Cv.skip {c : Ay} {l : List Int} {k b' : Nat} {A : List Bool} (h : Cv c l k b' A) (hn : ¬ ix c.to (l.getD k default)=c.AJ.getD b' default) : Cv c l k (b'+1) A:=by
 refine ⟨h.1,fun x hx=>(h.2 x hx).trans (or_congr_right ⟨?_, ?_⟩)⟩
 ·rintro ⟨b,hb,e⟩; exact ⟨b,by omega,e⟩
 ·rintro ⟨b,hb,e⟩
  by_cases e2 : b=b'
  ·subst e2; exact absurd e.1 hn
  ·exact ⟨b,by omega,e⟩
theorem BH {α : Type} (l : List α) (i j : Nat) (a d : α) : (l.set i a).getD j d=if i=j∧j<l.length then a else l.getD j d:=by
 rw [gE,List.getElem?_set,gE]
 by_cases h : i=j
 ·subst h
  by_cases h2 : i<l.length
  ·simp [h2]
  ·simp [h2,List.getElem?_eq_none (show l.length≤i by omega)]
 ·simp [h]
theorem Cv.set {c : Ay} {l : List Int} {k b' : Nat} {A : List Bool} (h : Cv c l k b' A) (he : ix c.to (l.getD k default)=c.AJ.getD b' default)
  (hr : 0≤(ix c.comp (l.getD k default)).getD b' default) : Cv c l k (b'+1) (A.set ((ix c.comp (l.getD k default)).getD b' default).toNat true):=by
 refine ⟨by rw [List.length_set]; exact h.1,fun x hx=>?_⟩
 by_cases e : ((ix c.comp (l.getD k default)).getD b' default).toNat=x
 ·have : (A.set ((ix c.comp (l.getD k default)).getD b' default).toNat true).getD x default=true:=by
   rw [BH,if_pos ⟨e,by rw [h.1]; exact hx⟩]
  rw [this];exact ⟨fun _=>.inr ⟨b',by omega,he,by omega⟩,fun _=>rfl⟩
 ·have : (A.set ((ix c.comp (l.getD k default)).getD b' default).toNat true).getD x default=A.getD x default:=by
   rw [BH,if_neg fun h=>e h.1]
  rw [this,h.2 x hx];refine or_congr_right ⟨?_, ?_⟩
  ·rintro ⟨b,hb,e⟩; exact ⟨b,by omega,e⟩
  ·rintro ⟨b,hb,e3⟩
   by_cases e2 : b=b'
   ·subst e2; exact absurd (by have:=e3.2; omega) e
   ·exact ⟨b,by omega,e3⟩
theorem Cv.done {c : Ay} {l : List Int} {k : Nat} {A : List Bool} (h : Cv c l k 0 A) (hk : k=l.length) : Eu (fun i=>A.getD i default) A.length=Bl c l:=by
 subst hk;rw [Bl,h.1,Eu,Eu]
 congr 1
 refine List.filter_congr fun x hx=>?_;rw [List.mem_range] at hx;rw [Bool.eq_iff_iff,h.2 x hx,WM,Fx]
 constructor
 ·rintro (⟨i,hi,b,hb,e⟩ | ⟨b,hb,e⟩)
  ·exact ⟨_,AE.mpr ⟨i,hi,rfl⟩,b,hb,e⟩
  ·omega
 ·rintro ⟨a,ha,b,hb,e⟩
  obtain ⟨i,hi,rfl⟩:=AE.mp ha;exact .inl ⟨i,hi,b,hb,e⟩
def Kh (c : Ay) (l : List Int) (k j : Nat) (A : List Bool) : Prop:=A.length=c.AJ.length ∧
 ∀ h,h<c.AJ.length→(A.getD h default=true↔(∃ i,i<k∧∃ b,b<c.AJ.length∧Wg c l i b h) ∨
  ∃ i,i<j∧i<(outs c (ix c.to (l.getD k default))).length∧ix (ix c.comp (l.getD k default)) ((outs c (ix c.to (l.getD k default))).getD i default)=(h : Int))
theorem Cv.out {c : Ay} {l : List Int} {k : Nat} {A : List Bool} (h : Cv c l k 0 A) : Kh c l k 0 A :=
 ⟨h.1,fun x hx=>(h.2 x hx).trans (or_congr_right ⟨fun ⟨b,hb,_⟩=>by omega,fun ⟨b,hb,_⟩=>by omega⟩)⟩
theorem Kh.row {c : Ay} {l : List Int} {k j : Nat} {A : List Bool} (h : Kh c l k j A) (hj : (outs c (ix c.to (l.getD k default))).length≤j) : Cv c l (k+1) 0 A:=by
 refine Cv.row ⟨h.1,fun x hx=>(h.2 x hx).trans (or_congr_right ⟨?_, ?_⟩)⟩
 ·rintro ⟨i,_,hi,e⟩
  have hm : (outs c (ix c.to (l.getD k default))).getD i default∈outs c (ix c.to (l.getD k default)):=AE.mpr ⟨i,hi,rfl⟩
  have hm:=BT.mp hm;exact ⟨_,hm.2.1,hm.2.2.symm,e⟩
 ·rintro ⟨b,hb,e1,e2⟩
  have hm : (b : Int)∈outs c (ix c.to (l.getD k default)):=BT.mpr ⟨by omega,by simpa using hb,by rw [AH]; exact e1.symm⟩
  obtain ⟨i,hi,e⟩:=AE.mp hm;exact ⟨i,by omega,hi,by rw [e,AH]; exact e2⟩
theorem Kh.set {c : Ay} {l : List Int} {k j : Nat} {A : List Bool} (h : Kh c l k j A) (hj : j<(outs c (ix c.to (l.getD k default))).length)
  (hr : 0≤ix (ix c.comp (l.getD k default)) ((outs c (ix c.to (l.getD k default))).getD j default)) :
  Kh c l k (j+1) (A.set (ix (ix c.comp (l.getD k default)) ((outs c (ix c.to (l.getD k default))).getD j default)).toNat true):=by
 refine ⟨by rw [List.length_set]; exact h.1,fun x hx=>?_⟩;rw [BH]
 split
 ·rename_i e
  exact ⟨fun _=>.inr ⟨j,by omega,hj,by omega⟩,fun _=>rfl⟩
 ·rename_i e
  rw [h.2 x hx];refine or_congr_right ⟨?_, ?_⟩
  ·rintro ⟨i,h1,e1⟩; exact ⟨i,by omega,e1⟩
  ·rintro ⟨i,h1,h2,e1⟩
   by_cases e2 : i=j
   ·subst e2; exact absurd ⟨by rw [e1]; simp,by rw [h.1]; exact hx⟩ e
   ·exact ⟨i,by omega,h2,e1⟩
end Go.Shf
namespace Go.Shf
open Go.AW
structure Oq (c : Ay) (x : Int) (s : List Int) (found out : List (List Int)) : Prop where
 nd : out.Nodup
 sv : ∀ t,t∈out→c.Az x t
 le : out.length≤17
 sub : ∀ t,t∈found→t∈out
 all : 16<out.length∨(s∈out∧∀ t,t∈out→t ∉ found→∀ a,a∈outs c x→Bl c (t++[a])∈out)
structure J8 (c : Ay) (x : Int) (s : List Int) (found : List (List Int)) (k : Nat) (out : List (List Int)) : Prop where
 nd : out.Nodup
 sv : ∀ t,t∈out→c.Az x t
 le : out.length≤17
 sub : ∀ t,t∈found→t∈out
 own : s∈out
 all : 16<out.length∨((∀ t,t∈out→t ∉ found→t≠s→∀ a,a∈outs c x→Bl c (t++[a])∈out)∧∀ i,i<k→i<(outs c x).length→Bl c (s++[(outs c x).getD i default])∈out)
section
variable {c : Ay} {x : Int} {s : List Int} {found out : List (List Int)}
theorem Oq.stop (nd : found.Nodup) (sv : ∀ t,t∈found→c.Az x t) (le : found.length≤17) (h : s∈found∨16<found.length) : Oq c x s found found :=
 ⟨nd,sv,le,fun _ h=>h,h.elim (fun h=>.inr ⟨h,fun t h1 h2=>absurd h1 h2⟩) .inl⟩
theorem J8.zero (nd : found.Nodup) (sv : ∀ t,t∈found→c.Az x t) (hs : c.Az x s) (h : s ∉ found) (hl : found.length≤16) : J8 c x s found 0 (found++[s]):=by
 refine ⟨?_, ?_,by simp; omega,fun t ht=>by simp [ht],by simp,.inr ⟨fun t h1 h2 h3=>?_,fun i hi=>by omega⟩⟩
 ·rw [List.nodup_append];refine ⟨nd,by simp,fun a ha b hb=>?_⟩;rw [List.mem_singleton] at hb; subst hb
  rintro rfl; exact h ha
 ·intro t ht
  rcases List.mem_append.mp ht with ht | ht
  ·exact sv t ht
  ·rw [List.mem_singleton] at ht; subst ht; exact hs
 ·rcases List.mem_append.mp h1 with h1 | h1
  ·exact absurd h1 h2
  ·rw [List.mem_singleton] at h1; exact absurd h1 h3
theorem J8.skip {k : Nat} (h : J8 c x s found k out) (hk : k<(outs c x).length) (hm : Bl c (s++[(outs c x).getD k default])=s) : J8 c x s found (k+1) out :=
 ⟨h.nd,h.sv,h.le,h.sub,h.own,h.all.imp_right fun ⟨h1,h2⟩=>⟨h1,fun i hi hl=>by
  by_cases e : i=k
  ·subst e; rw [hm]; exact h.own
  ·exact h2 i (by omega) hl⟩⟩
theorem J8.step {k : Nat} {out' : List (List Int)} (h : J8 c x s found k out) (hk : k<(outs c x).length) (q : Oq c x (Bl c (s++[(outs c x).getD k default])) out out') : J8 c x s found (k+1) out':=by
 refine ⟨q.nd,q.sv,q.le,fun t ht=>q.sub t (h.sub t ht),q.sub s h.own, ?_⟩
 rcases h.all with h1 | ⟨h1,h2⟩
 ·left
  have:=List.Nodup.length_le_of_subset h.nd fun t ht=>q.sub t ht;omega
 ·refine q.all.imp_right fun ⟨q1,q2⟩=>⟨fun t ht hn hs a ha=>?_,fun i hi hl=>?_⟩
  ·by_cases e : t∈out
   ·exact q.sub _ (h1 t e hn hs a ha)
   ·exact q2 t ht e a ha
  ·by_cases e : i=k
   ·subst e; exact q1
   ·exact q.sub _ (h2 i (by omega) hl)
theorem J8.done {k : Nat} (h : J8 c x s found k out) (hk : (outs c x).length≤k) : Oq c x s found out :=
 ⟨h.nd,h.sv,h.le,h.sub,h.all.imp_right fun ⟨h1,h2⟩=>⟨h.own,fun t ht hn a ha=>by
  by_cases e : t=s
  ·subst e
   obtain ⟨i,hi,rfl⟩:=AE.mp ha;exact h2 i (by omega) hi
  ·exact h1 t ht hn e a ha⟩⟩
def missing (c : Ay) (x : Int) (s : List Int) : Nat:=(outs c x).countP fun a=>decide (a ∉ s)
theorem Vy (h : c.Is) (hs : c.Az x s) {a : Int} (ha : a∈outs c x) (hn : a ∉ s) : missing c x (Bl c (s++[a]))<missing c x s:=by
 have aR:=BT.mp ha
 have hl : ∀ b,b∈s++[a]→(0≤b∧b.toNat<c.AJ.length)∧ix c.AJ b=x:=by
  intro b hb
  rcases List.mem_append.mp hb with hb | hb
  ·exact hs.arr hb
  ·rw [List.mem_singleton] at hb; subst hb; exact ⟨⟨aR.1,aR.2.1⟩,aR.2.2⟩
 have gV : ∀ b,b∈s→b∈Bl c (s++[a]):=fun b hb=>GD h (by simp [hb]) (hl b (by simp [hb])).1
 have jB : a∈Bl c (s++[a]):=GD h (by simp) (hl a (by simp)).1;unfold missing
 obtain ⟨s1,s2,e⟩:=List.append_of_mem ha;rw [e];simp only [List.countP_append,List.countP_cons]
 have i1 : List.countP (fun b=>decide (b ∉ Bl c (s++[a]))) s1≤List.countP (fun b=>decide (b ∉ s)) s1 :=
  List.countP_mono_left fun b _ hb=>by simp only [decide_eq_true_eq] at hb ⊢; exact fun h=>hb (gV b h)
 have i2 : List.countP (fun b=>decide (b ∉ Bl c (s++[a]))) s2≤List.countP (fun b=>decide (b ∉ s)) s2 :=
  List.countP_mono_left fun b _ hb=>by simp only [decide_eq_true_eq] at hb ⊢; exact fun h=>hb (gV b h)
 simp only [jB,hn,not_true_eq_false,decide_false,not_false_eq_true,decide_true,if_true,Bool.false_eq_true,if_false];omega
theorem Z6 (h : c.Is) (hs : c.Az x s) {a : Int} (ha : a∈outs c x) : c.Az x (Bl c (s++[a])):=by
 have aR:=BT.mp ha;refine IC h fun b hb=>?_
 rcases List.mem_append.mp hb with hb | hb
 ·exact hs.arr hb
 ·rw [List.mem_singleton] at hb; subst hb; exact ⟨⟨aR.1,aR.2.1⟩,aR.2.2⟩
theorem cZ (h : c.Is) (hs : c.Az x s) {a : Int} (ha : a∈s) : Bl c (s++[a])=s :=
 Uh h hs fun b=>by
  rw [List.mem_append,List.mem_singleton];exact ⟨fun e=>e.elim id fun e=>e ▸ ha,.inl⟩
theorem UL (h : c.Is) {L M : List (List Int)} (nd : L.Nodup) (sv : ∀ t,t∈L→c.Az x t) (hp : M.Perm L) (hs : M.Pairwise fun s t=>cmp s t≤0)
  (ha : 16<L.length∨([]∈L∧∀ t,t∈L→∀ a,a∈outs c x→Bl c (t++[a])∈L)) : (L.length≤16↔OM c x)∧(OM c x→M=Gl c x):=by
 by_cases hl : L.length≤16
 ·obtain ⟨h1,h2⟩:=ha.resolve_left (by omega)
  have hM : Ie c x M:=by
   refine ⟨?_,fun s=>⟨fun hm=>sv s (hp.mem_iff.mp hm),fun hS=>hp.mem_iff.mpr (PA h h1 sv h2 s hS)⟩⟩
   have Hq : M.Nodup:=hp.nodup_iff.mpr nd;refine (hs.and Hq).imp fun {a b} ⟨h3,h4⟩=>?_
   have:=mt Ca.mp h4;omega
  have:=kS hM (by rw [hp.length_eq]; exact hl);exact ⟨⟨fun _=>this.1,fun _=>hl⟩,fun _=>this.2.symm⟩
 ·have : ¬ OM c x:=OM.no nd sv (by omega);exact ⟨⟨fun h=>absurd h hl,fun h=>absurd h this⟩,fun h=>absurd h this⟩
end
structure RK (l : List (List Int)) (i k : Nat) (A : List (List Int)) : Prop where
 pm : A.Perm l
 le : k≤i
 lt : i<l.length
 ord : ∀ a b,a<b→b≤i→b≠k→cmp (A.getD a default) (A.getD b default)≤0
theorem S5 {a b c : List Int} (h : cmp a b≤0) (k : cmp b c≤0) : cmp a c≤0:=by
 by_cases h1 : cmp a b=0
 ·rw [Ca.mp h1]; exact k
 ·by_cases h2 : cmp b c=0
  ·rw [← Ca.mp h2]; exact h
  ·have:=Hf (a:=a) (b:=b) (c:=c) (by omega) (by omega); omega
theorem RK.swap {l A : List (List Int)} {i k : Nat} (h : RK l i (k+1) A) (hc : cmp (A.getD (k+1) default) (A.getD k default)<0) :
  RK l i k ((A.set (k+1) (A.getD k default)).set k (A.getD (k+1) default)):=by
 have hl:=h.pm.length_eq
 have hi:=h.lt
 have hk:=h.le
 have g : ∀ j,((A.set (k+1) (A.getD k default)).set k (A.getD (k+1) default)).getD j default=if j=k then A.getD (k+1) default else if j=k+1 then A.getD k default else A.getD j default:=by
  intro j;rw [BH,BH,List.length_set]
  by_cases e : j=k
  ·subst e; rw [if_pos ⟨rfl,by omega⟩,if_pos rfl]
  ·rw [if_neg fun h=>e h.1.symm,if_neg e]
   by_cases e2 : j=k+1
   ·subst e2; rw [if_pos ⟨rfl,by omega⟩,if_pos rfl]
   ·rw [if_neg fun h=>e2 h.1.symm,if_neg e2]
 refine ⟨?_,by omega,h.lt,fun a b HL hb Bp=>?_⟩
 ·refine List.Perm.trans ?_ h.pm
  have:=List.set_set_perm (as:=A) (i:=k+1) (j:=k) (by omega) (by omega)
  simpa [gE,show k<A.length by omega,show k+1<A.length by omega] using this
 ·rw [g,g];rw [if_neg Bp]
  by_cases e1 : b=k+1
  ·subst e1;rw [if_pos rfl]
   by_cases e2 : a=k
   ·subst e2; rw [if_pos rfl]; omega
   ·rw [if_neg e2,if_neg (by omega)];exact h.ord a k (by omega) (by omega) (by omega)
  ·rw [if_neg e1]
   by_cases e2 : a=k
   ·subst e2; rw [if_pos rfl]; exact h.ord (a+1) b (by omega) hb e1
   ·rw [if_neg e2]
    by_cases e3 : a=k+1
    ·subst e3; rw [if_pos rfl]; exact h.ord k b (by omega) hb e1
    ·rw [if_neg e3]; exact h.ord a b HL hb e1
theorem RK.stop {l A : List (List Int)} {i k : Nat} (h : RK l i k A) (hc : k=0∨0<k∧¬ cmp (A.getD k default) (A.getD (k - 1) default)<0) : ∀ a b,a<b→b≤i→cmp (A.getD a default) (A.getD b default)≤0:=by
 intro a b HL hb
 by_cases e : b=k
 ·subst e
  rcases hc with rfl | ⟨h0,hc⟩
  ·omega
  ·have h1 : cmp (A.getD (b - 1) default) (A.getD b default)≤0:=by rw [Gt]; omega
   by_cases e2 : a=b - 1
   ·subst e2; exact h1
   ·exact S5 (h.ord a (b - 1) (by omega) (by omega) (by omega)) h1
 ·exact h.ord a b HL hb e
theorem Uw {A : List (List Int)} (h : ∀ a b,a<b→b<A.length→cmp (A.getD a default) (A.getD b default)≤0) : A.Pairwise fun s t=>cmp s t≤0:=by
 rw [List.pairwise_iff_getElem]
 intro i j hi hj n7
 have:=h i j n7 hj
 simpa [gE,hi,hj] using this
theorem Ay.Az.len {c : Ay} {x : Int} {s : List Int} (h : c.Az x s) : s.length≤c.AJ.length:=by
 have h1 : s.Nodup:=(DF.mp h.jL).imp fun {a b} h=>by omega
 have:=List.Nodup.length_le_of_subset (l₂:=(List.range c.AJ.length).map Int.ofNat) h1 fun y hy=>by
  have:=h.arr hy;rw [List.mem_map];exact ⟨y.toNat,List.mem_range.mpr this.1.2,Int.toNat_of_nonneg this.1.1⟩
 simpa using this
end Go.Shf
namespace Go.Shf
open Go.AW
def Bg (c : Ay) : Prop:=∀ x : Nat,x<c.AO.toNat→OM c x
noncomputable def AN (c : Ay) : List (List (List Int)):=(List.range c.AO.toNat).map fun x : Nat=>Gl c (x : Int)
open Classical in
noncomputable def bT (c : Ay) : List (List (List Int)):=if Bg c then AN c else []
theorem cL {c : Ay} (h : Bg c) : bT c=AN c:=by rw [bT,if_pos h]
theorem pM {c : Ay} (h : ¬ Bg c) : bT c=[]:=by rw [bT,if_neg h]
def KH (c : Ay) (L : List (List (List Int))) (a : Nat) : List Int:=(L.getD (c.AJ.getD a default).toNat default).map fun s=>indexOf (L.getD (c.to.getD a default).toNat default) (Dc c a s)
def BC (c : Ay) (L : List (List (List Int))) : List (List Int):=(List.range c.AJ.length).map (KH c L)
def YO (c : Ay) (L : List (List (List Int))) (x : Nat) : Int:=indexOf (L.getD x default) (outs c x)
def C4 (c : Ay) (L : List (List (List Int))) : List Int:=(List.range L.length).map (YO c L)
theorem Bb {α : Type} (f : Nat→α) (k : Nat) : (List.range (k+1)).map f=(List.range k).map f++[f k]:=by rw [List.range_succ]; simp
theorem AX {α : Type} (f : Nat→α) (d : α) {n k : Nat} (h : k<n) : ((List.range n).map f).getD k d=f k:=by
 simp [gE,h]
@[go_sem] def BE (c : Ay) (L : List (List (List Int))) : List AV:=[iI c.AO,iL c.AJ,iL c.to,iL c.Av,BA c.comp,Ft L,BA (BC c L),iL (C4 c L)]
@[go_sem] def MN : List AV:=[.int .i64 0,.A1,.A1,.A1,.A1,.A1,.A1,.A1]
open Classical in
noncomputable def eO (c : Ay) : List AV:=if Bg c then BE c (AN c) else MN
theorem XP {c : Ay} (h : Bg c) : eO c=BE c (AN c):=by rw [eO,if_pos h]
theorem Ww {c : Ay} (h : ¬ Bg c) : eO c=MN:=by rw [eO,if_neg h]
structure Ds (c : Ay) (L : List (List (List Int))) : Prop where
 is : c.Is
 len : (L.length : Int)=c.AO
 all : ∀ x : Nat,x<L.length→Ie c x (L.getD x default)
 Yh : ∀ x : Nat,x<L.length→(L.getD x default).length≤16
theorem Hj {c : Ay} (h : c.Is) (hf : Bg c) : Ds c (AN c):=by
 have ho:=h.1.o;refine ⟨h,by simp [AN]; omega,fun x hx=>?_,fun x hx=>?_⟩
 ·have hx : x<c.AO.toNat:=by simpa [AN] using hx
  rw [AN,AX _ _ hx]; exact (LB (hf x hx)).1
 ·have hx : x<c.AO.toNat:=by simpa [AN] using hx
  rw [AN,AX _ _ hx]; exact (LB (hf x hx)).2
theorem BD {α : Type} [DecidableEq α] [Inhabited α] {l : List α} {a : α} (h : a∈l) : 0≤indexOf l a∧(indexOf l a).toNat<l.length∧ix l (indexOf l a)=a:=by
 unfold indexOf
 split
 ·rename_i i e
  rw [List.idxOf?_eq_some_iff] at e
  obtain ⟨hi,e,_⟩:=e;refine ⟨by omega,by simpa using hi, ?_⟩
  simpa [ix,gE,hi] using e
 ·rename_i e; rw [List.idxOf?_eq_none_iff] at e; exact absurd h e
theorem Bk {α : Type} [DecidableEq α] [Inhabited α] {l : List α} (h : l.Nodup) {k : Nat} (hk : k<l.length) : indexOf l (l.getD k default)=k:=by
 refine EV hk (fun i hi e=>?_) rfl
 have h1 : i<l.length:=by omega
 have:=(List.getElem_inj h (h₀:=h1) (h₁:=hk)).mp (by simpa [gE,h1,hk] using e);omega
section
variable {c : Ay} {L : List (List (List Int))}
theorem Ds.sv (t : Ds c L) {x : Nat} (hx : x<L.length) {k : Nat} (hk : k<(L.getD x default).length) : c.Az x ((L.getD x default).getD k default) :=
 ((t.all x hx).mem _).mp (AE.mpr ⟨k,hk,rfl⟩)
theorem Ds.AJ (t : Ds c L) {a : Int} (h : 0≤a∧a.toNat<c.AJ.length) : 0≤ix c.AJ a∧(ix c.AJ a).toNat<L.length:=by
 have:=t.is.1.Cn h.2; have:=t.len; omega
theorem Ds.to (t : Ds c L) {a : Int} (h : 0≤a∧a.toNat<c.AJ.length) : 0≤ix c.to a∧(ix c.to a).toNat<L.length:=by
 have:=t.is.1.Cb h.2; have:=t.len; omega
theorem Ds.at (t : Ds c L) {x : Int} (h0 : 0≤x) (hx : x.toNat<L.length) : Ie c x (ix L x):=by
 have:=t.all x.toNat hx;rw [Int.toNat_of_nonneg h0] at this; exact this
theorem JY : (BC c L).length=c.AJ.length:=by simp [BC]
theorem M5 {a : Int} (h : 0≤a∧a.toNat<c.AJ.length) : ix (BC c L) a=(ix L (ix c.AJ a)).map fun s=>indexOf (ix L (ix c.to a)) (Dc c a s):=by
 rw [ix,BC,AX _ _ h.2];rw [KH,Int.toNat_of_nonneg h.1]; rfl
theorem Ja {a : Int} (h : 0≤a∧a.toNat<c.AJ.length) : (ix (BC c L) a).length=(ix L (ix c.AJ a)).length:=by rw [M5 h]; simp
theorem Ds.pull (t : Ds c L) {a : Int} (h : 0≤a∧a.toNat<c.AJ.length) {k : Nat} (hk : k<(ix L (ix c.AJ a)).length) :
  (0≤(ix (BC c L) a).getD k default∧((ix (BC c L) a).getD k default).toNat<(ix L (ix c.to a)).length) ∧
   ix (ix L (ix c.to a)) ((ix (BC c L) a).getD k default)=Dc c a ((ix L (ix c.AJ a)).getD k default):=by
 have hf:=t.AJ h
 have ht:=t.to h
 have hs : c.Az (ix c.AJ a) ((ix L (ix c.AJ a)).getD k default):=((t.at hf.1 hf.2).mem _).mp (AE.mpr ⟨k,hk,rfl⟩)
 have hp:=((t.at ht.1 ht.2).mem _).mpr (HA t.is h hs)
 have e : (ix (BC c L) a).getD k default=indexOf (ix L (ix c.to a)) (Dc c a ((ix L (ix c.AJ a)).getD k default)):=by
  rw [M5 h]; simp [gE,hk]
 rw [e]
 have:=BD hp;exact ⟨⟨this.1,this.2.1⟩,this.2.2⟩
theorem Hg : (C4 c L).length=L.length:=by simp [C4]
theorem Ds.top (t : Ds c L) {x : Nat} (hx : x<L.length) : (0≤(C4 c L).getD x default∧((C4 c L).getD x default).toNat<(L.getD x default).length)∧ix (L.getD x default) ((C4 c L).getD x default)=outs c x:=by
 have h:=((t.all x hx).mem _).mpr (II t.is.1 x)
 have e : (C4 c L).getD x default=indexOf (L.getD x default) (outs c x):=by rw [C4,AX _ _ hx,YO]
 rw [e]
 have:=BD h;exact ⟨⟨this.1,this.2.1⟩,this.2.2⟩
end
def mg (M : List (List Bool)) (x : Int) (k : Int) : Bool:=ix (ix M x) k
structure DU (L : List (List (List Int))) (M : List (List Bool)) : Prop where
 len : M.length=L.length
 row : ∀ x : Nat,x<L.length→(M.getD x default).length=(L.getD x default).length
def QT (c : Ay) (L : List (List (List Int))) (M : List (List Bool)) (x s k : Nat) : Prop :=
 ∀ i,i<((L.getD x default).getD s default).length→mg M (ix c.to (((L.getD x default).getD s default).getD i default)) ((ix (BC c L) (((L.getD x default).getD s default).getD i default)).getD k default)=true
def xO (c : Ay) (L : List (List (List Int))) (M : List (List Bool)) (x s a : Nat) : Prop:=c.AJ.getD a default=x→mg M (c.to.getD a default) (((BC c L).getD a default).getD s default)=true
def KOk (c : Ay) (L : List (List (List Int))) (M : List (List Bool)) (x s k : Nat) : Prop:=(M.getD x default).getD k default=true∨¬ QT c L M x s k
def SOk (c : Ay) (L : List (List (List Int))) (M : List (List Bool)) (x s : Nat) : Prop:=(M.getD x default).getD s default=true →
 (∀ a,a<c.AJ.length→xO c L M x s a)∧∀ k,k<(M.getD x default).length→KOk c L M x s k
def ZJ (c : Ay) (L : List (List (List Int))) (M : List (List Bool)) (x : Nat) : Prop:=mg M x ((C4 c L).getD x default)=true∧∀ s,s<(M.getD x default).length→SOk c L M x s
def ZK (c : Ay) (L : List (List (List Int))) (M : List (List Bool)) : Prop:=∀ x,x<M.length→ZJ c L M x
end Go.Shf
namespace Go.Shf
open Go.AW
theorem BB {α β : Type} [Inhabited α] (f : α→β) {l : List α} {k : Nat} {d : β} (h : k<l.length) : (l.map f).getD k d=f (l.getD k default):=by simp [gE,h]
def L6 (S C : List (List Int)) : List Bool:=S.map fun s=>decide (s∈C)
def KK (L C : List (List (List Int))) (x : Nat) : List Bool:=L6 (L.getD x default) (C.getD x default)
def marksOf (L C : List (List (List Int))) : List (List Bool):=(List.range L.length).map (KK L C)
structure Ia (c : Ay) (C : List (List (List Int))) : Prop where
 top : ∀ x : Nat,x<c.AO.toNat→outs c x∈C.getD x default
 pull : ∀ a : Nat,a<c.AJ.length→∀ s,s∈C.getD (c.AJ.getD a default).toNat default→Dc c a s∈C.getD (c.to.getD a default).toNat default
 loc : ∀ x : Nat,x<c.AO.toNat→∀ s,s∈C.getD x default→∀ t,c.Az x t→(∀ a,a∈s→Dc c a t∈C.getD (ix c.to a).toNat default)→t∈C.getD x default
section
variable {c : Ay} {L C : List (List (List Int))}
theorem E1 : (marksOf L C).length=L.length:=by simp [marksOf]
theorem MY {x : Nat} (hx : x<L.length) : (marksOf L C).getD x default=(L.getD x default).map fun s=>decide (s∈C.getD x default):=by
 rw [marksOf,AX _ _ hx]; rfl
theorem Eh {x k : Nat} (hx : x<L.length) (hk : k<(L.getD x default).length) : ((marksOf L C).getD x default).getD k default=decide ((L.getD x default).getD k default∈C.getD x default):=by
 rw [MY hx,BB _ hk]
theorem GH : DU L (marksOf L C):=⟨E1,fun x hx=>by rw [MY hx]; simp⟩
theorem Oo {x : Nat} {k : Int} (hx : x<L.length) (hk : k.toNat<(L.getD x default).length) : mg (marksOf L C) x k=decide (ix (L.getD x default) k∈C.getD x default):=by
 rw [mg,AH,ix,Eh hx hk]; rfl
theorem M4 {x k : Int} (h0 : 0≤x) (hx : x.toNat<L.length) (hk : k.toNat<(ix L x).length) : mg (marksOf L C) x k=decide (ix (ix L x) k∈C.getD x.toNat default):=by
 have:=Oo (C:=C) (x:=x.toNat) (k:=k) hx hk;rw [Int.toNat_of_nonneg h0] at this; rw [this]; rfl
theorem TR (t : Ds c L) (hC : ∀ x : Nat,x<L.length→∀ s,s∈C.getD x default→c.Az x s) : ZK c L (marksOf L C)↔Ia c C:=by
 have hLo:=t.len
 have ho:=t.is.1.o
 have loc : ∀ {x s k : Nat},x<L.length→s<(L.getD x default).length→k<(L.getD x default).length →
   (QT c L (marksOf L C) x s k↔∀ a,a∈(L.getD x default).getD s default→Dc c a ((L.getD x default).getD k default)∈C.getD (ix c.to a).toNat default):=by
  intro x s k hx hs hk
  have EZ:=t.sv hx hs;rw [QT,DZ];refine forall_congr' fun i=>imp_congr_right fun hi=>?_
  have ha:=EZ.arr (AE.mpr ⟨i,hi,rfl⟩)
  have jx : k<(ix L (ix c.AJ (((L.getD x default).getD s default).getD i default))).length:=by rw [ha.2,AH]; exact hk
  have hp:=t.pull ha.1 jx
  have ht:=t.to ha.1;rw [M4 ht.1 ht.2 hp.1.2,hp.2,decide_eq_true_eq,ha.2,AH]
 constructor
 ·intro h;refine ⟨fun x hx=>?_,fun a ha s hs=>?_,fun x hx s hs u hu l4=>?_⟩
  ·have hx : x<L.length:=by omega
   have:=(h x (by rw [E1]; exact hx)).1
   have Gm:=t.top hx;rw [Oo hx Gm.1.2,Gm.2,decide_eq_true_eq] at this;exact this
  ·have Ge : 0≤(a : Int)∧(a : Int).toNat<c.AJ.length:=⟨by omega,by simpa using ha⟩
   have hf:=t.AJ Ge
   have ht:=t.to Ge;simp only [AH] at hf ht
   have hm:=((t.all _ hf.2).mem s).mpr (hC _ hf.2 s hs)
   obtain ⟨k,hk,rfl⟩:=AE.mp hm
   have jx : k<(ix L (ix c.AJ a)).length:=by rw [AH]; exact hk
   have hp:=t.pull Ge jx
   have:=((h _ (by rw [E1]; exact hf.2)).2 k (by rw [GH.row _ hf.2]; exact hk) (by rw [Eh hf.2 hk,decide_eq_true_eq]; exact hs)).1 a ha (by rw [Int.toNat_of_nonneg hf.1]);simp only [AH] at hp;rw [M4 ht.1 ht.2 hp.1.2,hp.2,decide_eq_true_eq] at this;exact this
  ·have hx : x<L.length:=by omega
   have hm:=((t.all _ hx).mem s).mpr (hC _ hx s hs)
   obtain ⟨k,hk,rfl⟩:=AE.mp hm
   obtain ⟨k',Lu,rfl⟩:=AE.mp (((t.all _ hx).mem u).mpr hu)
   have:=((h _ (by rw [E1]; exact hx)).2 k (by rw [GH.row _ hx]; exact hk) (by rw [Eh hx hk,decide_eq_true_eq]; exact hs)).2 k' (by rw [GH.row _ hx]; exact Lu)
   rcases this with e | e
   ·rw [Eh hx Lu,decide_eq_true_eq] at e; exact e
   ·exact absurd ((loc hx hk Lu).mpr l4) e
 ·intro h x hx;rw [E1] at hx
  have Gm:=t.top hx;refine ⟨?_,fun s hs Kk=>⟨fun a ha e=>?_,fun k hk=>?_⟩⟩
  ·rw [Oo hx Gm.1.2,Gm.2,decide_eq_true_eq]; exact h.top x (by omega)
  ·rw [GH.row _ hx] at hs;rw [Eh hx hs,decide_eq_true_eq] at Kk
   have Ge : 0≤(a : Int)∧(a : Int).toNat<c.AJ.length:=⟨by omega,by simpa using ha⟩
   have ht:=t.to Ge;simp only [AH] at ht
   have iX : s<(ix L (ix c.AJ a)).length:=by rw [AH,e,AH]; exact hs
   have hp:=t.pull Ge iX;simp only [AH] at hp;rw [M4 ht.1 ht.2 hp.1.2,hp.2,decide_eq_true_eq];rw [e,AH];refine h.pull a ha _ ?_;rw [e]; exact Kk
  ·rw [GH.row _ hx] at hs hk;rw [Eh hx hs,decide_eq_true_eq] at Kk
   by_cases hl : QT c L (marksOf L C) x s k
   ·left
    rw [Eh hx hk,decide_eq_true_eq];exact h.loc x (by omega) _ Kk _ (t.sv hx hk) ((loc hx hs hk).mp hl)
   ·exact .inr hl
end
def PO (S C : List (List Int)) (k : Nat) (A : List Bool) : Prop:=A.length=S.length∧∀ i,i<S.length→(A.getD i default=true↔∃ j,j<k∧C.getD j default=S.getD i default)
theorem PO.zero (S C : List (List Int)) : PO S C 0 (List.replicate S.length false):=by
 refine ⟨by simp,fun i hi=>?_⟩;simp only [gE,List.getElem?_replicate,hi,if_true,Option.getD_some];exact ⟨fun e=>(by cases e),fun ⟨j,hj,_⟩=>(by omega)⟩
theorem PO.step {S C : List (List Int)} {k : Nat} {A : List Bool} (h : PO S C k A) (hn : S.Nodup) (hm : C.getD k default∈S) : PO S C (k+1) (A.set (indexOf S (C.getD k default)).toNat true):=by
 have hi:=BD hm;refine ⟨by rw [List.length_set]; exact h.1,fun i Ya=>?_⟩;rw [BH]
 split
 ·rename_i e
  refine ⟨fun _=>⟨k,by omega, ?_⟩,fun _=>rfl⟩;rw [← hi.2.2,ix,e.1]
 ·rename_i e
  rw [h.2 i Ya]
  constructor
  ·rintro ⟨j,hj,e2⟩; exact ⟨j,by omega,e2⟩
  ·rintro ⟨j,hj,e2⟩
   by_cases e3 : j=k
   ·subst e3
    exfalso; apply e
    refine ⟨?_,by rw [h.1]; exact Ya⟩;rw [e2,Bk hn Ya]; simp
   ·exact ⟨j,by omega,e2⟩
theorem PO.done {S C : List (List Int)} {A : List Bool} (h : PO S C C.length A) : A=L6 S C:=by
 refine List.ext_getElem (by rw [L6,List.length_map]; exact h.1) fun i h1 h2=>?_
 have hi : i<S.length:=by have:=h.1; omega
 have:=h.2 i hi;rw [Bool.eq_iff_iff]
 have e1 : A.getD i default=A[i]:=by simp [gE,h1]
 rw [e1] at this;rw [this];simp only [L6,List.getElem_map,decide_eq_true_eq]
 have e2 : S.getD i default=S[i]:=by simp [gE,hi]
 rw [e2,AE]
end Go.Shf
namespace Go.Shf
open Go.AW
def E4 (R : List (List Int)) (a : Int) : Bool:=decide (∀ s,s∈R→a∈s)
def EI (c : Ay) (C : List (List (List Int))) (x : Nat) : List Int:=(outs c x).filter (E4 (C.getD x default))
def Aq (c : Ay) (C : List (List (List Int))) : List (List Int):=(List.range C.length).map (EI c C)
theorem cM {R : List (List Int)} {a : Int} (h : ∀ k,k<R.length→a∈R.getD k default) : E4 R a=true:=by
 rw [E4,decide_eq_true_eq,DZ]; exact h
theorem eC {R : List (List Int)} {a : Int} {k : Nat} (hk : k<R.length) (h : a ∉ R.getD k default) : E4 R a=false:=by
 rw [E4,decide_eq_false_iff_not,DZ]; exact fun e=>h (e k hk)
end Go.Shf
namespace Go.Shf
open Go.AW
structure Lk where
 i : Int
 j : Int
 left : List Int
 right : List Int
 deriving Inhabited
def Fits (p : List Int) (l : Lk) : Prop:=0≤ix p l.i→0≤ix p l.j→ix l.left (ix p l.i)=ix l.right (ix p l.j)
def Cons (ls : List Lk) (p : List Int) : Prop:=∀ l,l∈ls→Fits p l
structure Gp (A4 : List Int) (ls : List Lk) : Prop where
 i : ∀ l,l∈ls→0≤l.i∧l.i.toNat<A4.length
 j : ∀ l,l∈ls→0≤l.j∧l.j.toNat<A4.length
 left : ∀ l,l∈ls→(l.left.length : Int)=ix A4 l.i
 right : ∀ l,l∈ls→(l.right.length : Int)=ix A4 l.j
 sz : ∀ y,y∈A4→0≤y∧y≤17
structure Ext (A4 : List Int) (ls : List Lk) (p t : List Int) : Prop where
 len : t.length=p.length
 new : ∀ n,n<p.length→p.getD n default=-1→0≤t.getD n default∧t.getD n default<A4.getD n default
 Jr : ∀ n,n<p.length→p.getD n default≠-1→t.getD n default=p.getD n default
 cons : Cons ls t
def vG (ls : List Lk) (p : List Int) (n : Nat) (e : Int) : Prop:=∀ l,l∈ls→l.i=n∨l.j=n→Fits (p.set n e) l
noncomputable def cY (ls : List Lk) (p : List Int) (n e : Nat) : Bool:=dec (vG ls p n e)
noncomputable def Bq (A4 : List Int) (ls : List Lk) (p : List Int) (n : Nat) : List Int:=Eu (cY ls p n) (A4.getD n default).toNat
def J2 (A4 : List Int) (p : List Int) : Prop:=p.length=A4.length∧∀ n,n<p.length→p.getD n default<0∨(0≤p.getD n default∧p.getD n default<A4.getD n default)
structure Dr (S : List Int→Prop) (L : List (List Int)) : Prop where
 N9 : L.Pairwise fun s t=>cmp s t<0
 mem : ∀ t,t∈L↔S t
theorem Dr.uniq {S : List Int→Prop} {L M : List (List Int)} (h : Dr S L) (k : Dr S M) : L=M:=by
 refine List.Perm.eq_of_pairwise (le:=fun s t=>cmp s t<0) (fun a b _ _ h1 h2=>?_) h.N9 k.N9 ?_
 ·have:=Gt a b; omega
 ·refine (List.perm_ext_iff_of_nodup ?_ ?_).mpr fun s=>(h.mem s).trans (k.mem s).symm
  ·exact h.N9.imp fun {a b} h e=>by rw [Ca.mpr e] at h; omega
  ·exact k.N9.imp fun {a b} h e=>by rw [Ca.mpr e] at h; omega
theorem RA : ∀ {s t : List Int} {n : Nat},n<s.length→n<t.length→(∀ i,i<n→s.getD i default=t.getD i default)→s.getD n default<t.getD n default→cmp s t<0
 | [],_,n,h,_,_,_=>by simp at h
 | _::_,[],n,_,h,_,_=>by simp at h
 | a::s,b::t,0,_,_,_,h=>by
  simp only [List.getD_cons_zero] at h;unfold cmp;rw [if_neg (by omega),if_pos h]; decide
 | a::s,b::t,n+1,h1,h2,h3,h4=>by
  have h0:=h3 0 (by omega);simp only [List.getD_cons_zero] at h0;simp only [List.getD_cons_succ] at h4;unfold cmp;rw [if_pos h0];exact RA (by simpa using h1) (by simpa using h2) (fun i hi=>by have:=h3 (i+1) (by omega); simpa using this) h4
section
variable {A4 : List Int} {ls : List Lk} {p t : List Int}
theorem GS (p : List Int) (n : Nat) (e i : Int) (h0 : 0≤i) : ix (p.set n e) i=if i=n∧n<p.length then e else ix p i:=by
 simp only [ix,BH]
 by_cases h : n=i.toNat∧i.toNat<p.length
 ·rw [if_pos h,if_pos ⟨by omega,by omega⟩]
 ·rw [if_neg h,if_neg fun h2=>h ⟨by omega,by omega⟩]
theorem Ext.choice (ok : Gp A4 ls) (hp : p.length=A4.length) (h : Ext A4 ls p t) {n : Nat} (hn : n<p.length) (h1 : p.getD n default=-1) :
  (0≤t.getD n default∧t.getD n default<A4.getD n default)∧vG ls p n (t.getD n default)∧Ext A4 ls (p.set n (t.getD n default)) t:=by
 have hr:=h.new n hn h1
 have key : ∀ i : Int,0≤i→i.toNat<p.length→0≤ix (p.set n (t.getD n default)) i→ix (p.set n (t.getD n default)) i=ix t i:=by
  intro i h0 hi h2;rw [GS _ _ _ _ h0] at h2 ⊢
  split
  ·rename_i e; simp only [ix]; rw [e.1,Int.toNat_natCast]
  ·rename_i e
   rw [if_neg e] at h2;simp only [ix] at h2 ⊢;exact (h.Jr _ hi (by omega)).symm
 refine ⟨hr,fun l hl _ h2 h3=>?_, ?_⟩
 ·have a:=ok.i l hl
  have b:=ok.j l hl;rw [key _ a.1 (by omega) h2] at *;rw [key _ b.1 (by omega) h3] at *;exact h.cons l hl h2 h3
 ·refine ⟨by rw [List.length_set]; exact h.len,fun m hm e=>?_,fun m hm e=>?_,h.cons⟩
  ·rw [List.length_set] at hm;rw [BH] at e
   split at e
   ·omega
   ·exact h.new m hm e
  ·rw [List.length_set] at hm;rw [BH] at e ⊢
   split
   ·rename_i e2; rw [e2.1]
   ·rename_i e2; rw [if_neg e2] at e; exact h.Jr m hm e
theorem Ext.Pq {n : Nat} (h1 : p.getD n default=-1) {e : Int} (he : 0≤e∧e<A4.getD n default) (hn : n<p.length) (h : Ext A4 ls (p.set n e) t) : Ext A4 ls p t∧t.getD n default=e:=by
 have aO : t.getD n default=e:=by
  have:=h.Jr n (by rw [List.length_set]; exact hn);rw [BH,if_pos ⟨rfl,hn⟩] at this;exact this (by omega)
 refine ⟨⟨by rw [h.len,List.length_set],fun m hm e2=>?_,fun m hm e2=>?_,h.cons⟩,aO⟩
 ·by_cases e3 : n=m
  ·subst e3; rw [aO]; exact he
  ·have:=h.new m (by rw [List.length_set]; exact hm);rw [BH,if_neg fun h=>e3 h.1] at this;exact this e2
 ·have e3 : n≠m:=by rintro rfl; exact e2 h1
  have:=h.Jr m (by rw [List.length_set]; exact hm);rw [BH,if_neg fun h=>e3 h.1] at this;exact this e2
theorem PF (ok : Gp A4 ls) {n : Nat} {e : Int} (hc : Cons ls p) (h : vG ls p n e) : Cons ls (p.set n e):=by
 intro l hl
 by_cases ht : l.i=n∨l.j=n
 ·exact h l hl ht
 ·have a:=ok.i l hl
  have b:=ok.j l hl
  have:=hc l hl;simp only [Fits] at this ⊢;rw [GS _ _ _ _ a.1,GS _ _ _ _ b.1,if_neg fun h=>ht (.inl h.1),if_neg fun h=>ht (.inr h.1)];exact this
theorem LG (h : ∀ t,¬ Ext A4 ls p t) : Dr (Ext A4 ls p) []:=⟨.nil,fun t=>by simp [h t]⟩
theorem ZM (ok : Gp A4 ls) (hp : p.length=A4.length) {n : Nat} (hn : n<p.length) (h1 : p.getD n default=-1) (h : Bq A4 ls p n=[]) : Dr (Ext A4 ls p) []:=by
 refine LG fun t ht=>?_
 have:=ht.choice ok hp hn h1
 have hm : t.getD n default∈Bq A4 ls p n:=by
  rw [Bq,It];refine ⟨this.1.1,by omega, ?_⟩;rw [cY,Fx,Int.toNat_of_nonneg this.1.1]; exact this.2.1
 rw [h] at hm; simp at hm
theorem Pm (hc : Cons ls p) (h : ∀ n,n<p.length→p.getD n default≠-1) : Dr (Ext A4 ls p) [p]:=by
 refine ⟨by simp,fun t=>?_⟩;rw [List.mem_singleton]
 constructor
 ·rintro rfl; exact ⟨rfl,fun n hn e=>absurd e (h n hn),fun n hn e=>rfl,hc⟩
 ·intro ht;refine List.ext_getElem ht.len fun i h1 h2=>?_
  have:=ht.Jr i h2 (h i h2)
  simpa [gE,h1,h2] using this
theorem FQ {n : Nat} {e : Int} : e∈Bq A4 ls p n↔(0≤e∧e<A4.getD n default)∧vG ls p n e:=by
 rw [Bq,It,cY,Fx]
 constructor
 ·rintro ⟨h1,h2,h3⟩; rw [Int.toNat_of_nonneg h1] at h3; exact ⟨⟨h1,by omega⟩,h3⟩
 ·rintro ⟨⟨h1,h2⟩,h3⟩; exact ⟨h1,by omega,by rw [Int.toNat_of_nonneg h1]; exact h3⟩
theorem V6 (ok : Gp A4 ls) (hp : p.length=A4.length) {n : Nat} (hn : n<p.length) (h1 : p.getD n default=-1) (hf : ∀ m,m<n→p.getD m default≠-1)
  (LL : Int→List (List Int)) (hL : ∀ e,e∈Bq A4 ls p n→Dr (Ext A4 ls (p.set n e)) (LL e)) : Dr (Ext A4 ls p) ((Bq A4 ls p n).flatMap LL):=by
 have Cs : ∀ e,e∈Bq A4 ls p n→∀ t,t∈LL e→Ext A4 ls p t∧t.getD n default=e:=by
  intro e he t ht
  have h:=((hL e he).mem t).mp ht;exact h.Pq h1 (FQ.mp he).1 hn
 refine ⟨?_,fun t=>?_⟩
 ·have hr : (Bq A4 ls p n).Pairwise (·<·):=DF.mp (Du _ _);rw [List.pairwise_flatMap];refine ⟨fun e he=>(hL e he).N9, ?_⟩
  have CJ : ∀ (l : List Int),l.Pairwise (·<·)→(∀ e,e∈l→e∈Bq A4 ls p n)→l.Pairwise fun a b=>∀ x,x∈LL a→∀ y,y∈LL b→cmp x y<0:=by
   intro l hl
   induction hl with
   | nil=>intro _; exact .nil
   | cons h _ ih =>
    intro hs;refine .cons (fun b hb x hx y hy=>?_) (ih fun e he=>hs e (by simp [he]))
    have a1:=Cs _ (hs _ (by simp)) x hx
    have a2:=Cs _ (hs b (by simp [hb])) y hy;refine RA (n:=n) (by rw [a1.1.len]; exact hn) (by rw [a2.1.len]; exact hn) (fun i hi=>?_) (by rw [a1.2,a2.2]; exact h b hb);rw [a1.1.Jr i (by omega) (hf i hi),a2.1.Jr i (by omega) (hf i hi)]
  exact CJ _ hr fun _ h=>h
 ·rw [List.mem_flatMap]
  constructor
  ·rintro ⟨e,he,ht⟩; exact (Cs e he t ht).1
  ·intro ht
   have:=ht.choice ok hp hn h1
   have hm:=FQ.mpr ⟨this.1,this.2.1⟩;exact ⟨_,hm,((hL _ hm).mem t).mpr this.2.2⟩
theorem Ext.part {q : List Int} (hq : q.length=A4.length) (h : Ext A4 ls (List.replicate A4.length (-1)) t) (hv : ∀ n,n<q.length→q.getD n default=-1∨q.getD n default=-2) (ok : Gp A4 ls) :
  ∃ u,Ext A4 ls q u:=by
 have IQ : t.length=A4.length:=by rw [h.len]; simp
 refine ⟨(List.range q.length).map fun n=>if q.getD n default=-1 then t.getD n default else -2,by simp,fun n hn e=>?_,fun n hn e=>?_,fun l hl=>?_⟩
 ·rw [AX _ _ hn,if_pos e];exact h.new n (by simp; omega) (by simp [gE,show n<A4.length by omega])
 ·rw [AX _ _ hn,if_neg e];exact ((hv n hn).resolve_left e).symm
 ·have a:=ok.i l hl
  have b:=ok.j l hl
  have key : ∀ i : Int,0≤i→i.toNat<A4.length→0≤ix ((List.range q.length).map fun n=>if q.getD n default=-1 then t.getD n default else -2) i →
    ix ((List.range q.length).map fun n=>if q.getD n default=-1 then t.getD n default else -2) i=ix t i:=by
   intro i h0 hi h2;simp only [ix] at h2 ⊢;rw [AX _ _ (by omega)] at h2 ⊢
   split
   ·rfl
   ·rename_i e; rw [if_neg e] at h2; omega
  intro h2 h3;rw [key _ a.1 a.2 h2] at *;rw [key _ b.1 b.2 h3] at *;exact h.cons l hl h2 h3
end
end Go.Shf
namespace Go.Shf
open Go.AW
section
variable {l : Lk} {p : List Int} {n : Nat} {e : Int}
theorem rJ (hi : l.i=n) (hj : l.j=n) (hn : n<p.length) (he : 0≤e) : Fits (p.set n e) l↔ix l.left e=ix l.right e:=by
 have h1 : ix (p.set n e) l.i=e:=by rw [GS _ _ _ _ (by omega),if_pos ⟨hi,hn⟩]
 have h2 : ix (p.set n e) l.j=e:=by rw [GS _ _ _ _ (by omega),if_pos ⟨hj,hn⟩]
 rw [Fits,h1,h2]; exact ⟨fun h=>h he he,fun h _ _=>h⟩
theorem rI (hi : l.i=n) (hj : l.j≠n) (kz : 0≤l.j) (hn : n<p.length) (he : 0≤e) (hp : 0≤ix p l.j) : Fits (p.set n e) l↔ix l.left e=ix l.right (ix p l.j):=by
 have h1 : ix (p.set n e) l.i=e:=by rw [GS _ _ _ _ (by omega),if_pos ⟨hi,hn⟩]
 have h2 : ix (p.set n e) l.j=ix p l.j:=by rw [GS _ _ _ _ kz,if_neg fun h=>hj h.1]
 rw [Fits,h1,h2]; exact ⟨fun h=>h he hp,fun h _ _=>h⟩
theorem jX (hj : l.j≠n) (kz : 0≤l.j) (hp : ¬ 0≤ix p l.j) : Fits (p.set n e) l:=by
 have h2 : ix (p.set n e) l.j=ix p l.j:=by rw [GS _ _ _ _ kz,if_neg fun h=>hj h.1]
 intro _ h; rw [h2] at h; exact absurd h hp
theorem qK (hj : l.j=n) (hi : l.i≠n) (mh : 0≤l.i) (hn : n<p.length) (he : 0≤e) (hp : 0≤ix p l.i) : Fits (p.set n e) l↔ix l.left (ix p l.i)=ix l.right e:=by
 have h1 : ix (p.set n e) l.j=e:=by rw [GS _ _ _ _ (by omega),if_pos ⟨hj,hn⟩]
 have h2 : ix (p.set n e) l.i=ix p l.i:=by rw [GS _ _ _ _ mh,if_neg fun h=>hi h.1]
 rw [Fits,h1,h2]; exact ⟨fun h=>h hp he,fun h _ _=>h⟩
theorem kP (hi : l.i≠n) (mh : 0≤l.i) (hp : ¬ 0≤ix p l.i) : Fits (p.set n e) l:=by
 have h2 : ix (p.set n e) l.i=ix p l.i:=by rw [GS _ _ _ _ mh,if_neg fun h=>hi h.1]
 intro h; rw [h2] at h; exact absurd h hp
end
structure j6 (A4 : List Int) (ls : List Lk) (at' : List (List Int)) : Prop where
 len : at'.length=A4.length
 mem : ∀ n : Nat,n<A4.length→∀ y,y∈at'.getD n default↔0≤y∧y.toNat<ls.length∧((ls.getD y.toNat default).i=n∨(ls.getD y.toNat default).j=n)
theorem pH {A4 : List Int} {ls : List Lk} {at' : List (List Int)} (h : j6 A4 ls at') {p : List Int} {n : Nat} {e : Int} (hn : n<A4.length) :
  vG ls p n e↔∀ k,k<(at'.getD n default).length→Fits (p.set n e) (ix ls ((at'.getD n default).getD k default)):=by
 constructor
 ·intro hc k hk
  have:=(h.mem n hn _).mp (AE.mpr ⟨k,hk,rfl⟩);exact hc _ (Bh this.2.1) this.2.2
 ·intro hc l hl ht
  obtain ⟨i,hi,rfl⟩:=AE.mp hl
  have:=(h.mem n hn i).mpr ⟨by omega,by simpa using hi,by simpa using ht⟩
  obtain ⟨k,hk,e⟩:=AE.mp this
  have:=hc k hk;rw [e,AH] at this; exact this
end Go.Shf
namespace Go.Shf
open Go.AW
def DY (p : List Int) : Nat:=p.countP fun y=>decide (y=-1)
section
variable {A4 : List Int} {ls : List Lk} {p : List Int}
theorem MI {n : Nat} {e : Int} (hn : n<p.length) (h1 : p.getD n default=-1) (he : 0≤e) : DY (p.set n e)<DY p:=by
 have hg : p[n]=-1:=by simpa [gE,hn] using h1
 have rQ : 0<DY p:=by
  rw [DY,List.countP_pos_iff]; exact ⟨p[n],List.getElem_mem hn,by simp [hg]⟩
 rw [DY,List.countP_set hn]
 have h2 : ¬ e=-1:=by omega
 simp only [hg,decide_true,if_true,h2,decide_false,Bool.false_eq_true,if_false];unfold DY at rQ ⊢; omega
theorem J2.set {n : Nat} {e : Int} (h : J2 A4 p) (he : 0≤e∧e<A4.getD n default) : J2 A4 (p.set n e):=by
 refine ⟨by rw [List.length_set]; exact h.1,fun m hm=>?_⟩;rw [List.length_set] at hm;rw [BH]
 split
 ·rename_i e2; rw [← e2.1]; exact .inr he
 ·exact h.2 m hm
theorem qO (ok : Gp A4 ls) : ∀ (n : Nat) (p : List Int),DY p=n→J2 A4 p→Cons ls p→∃ L,Dr (Ext A4 ls p) L:=by
 intro n
 induction n using Nat.strongRecOn with
 | _ n ih =>
  intro p hn hp hc
  by_cases hf : ∃ m,m<p.length∧p.getD m default=-1
  ·have : ∃ f,(f<p.length∧p.getD f default=-1)∧∀ m,m<f→¬ (m<p.length∧p.getD m default=-1):=by
    have key : ∀ k,(∃ m,m≤k∧m<p.length∧p.getD m default=-1)→∃ f,(f<p.length∧p.getD f default=-1)∧∀ m,m<f→¬ (m<p.length∧p.getD m default=-1):=by
     intro k
     induction k with
     | zero=>rintro ⟨m,h0,h⟩; exact ⟨m,h,fun i hi=>by omega⟩
     | succ k ihk =>
      rintro ⟨m,h0,h⟩
      by_cases h2 : ∃ m,m≤k∧m<p.length∧p.getD m default=-1
      ·exact ihk h2
      ·exact ⟨m,h,fun i hi hh=>h2 ⟨i,by omega,hh⟩⟩
    obtain ⟨m,hm⟩:=hf;exact key m ⟨m,Nat.le_refl _,hm⟩
   obtain ⟨f,⟨Fc,h1⟩,rY⟩:=this
   have hL : ∀ e,e∈Bq A4 ls p f→∃ L,Dr (Ext A4 ls (p.set f e)) L:=by
    intro e he
    have hm:=FQ.mp he;exact ih _ (hn ▸ MI Fc h1 hm.1.1) _ rfl (hp.set hm.1) (PF ok hc hm.2)
   have : ∃ LL : Int→List (List Int),∀ e,e∈Bq A4 ls p f→Dr (Ext A4 ls (p.set f e)) (LL e):=by
    refine ⟨fun e=>@dite _ (e∈Bq A4 ls p f) (Classical.propDecidable _) (fun h=>Classical.choose (hL e h)) fun _=>[],fun e he=>?_⟩
    show Dr _ (@dite _ (e∈Bq A4 ls p f) (Classical.propDecidable _) (fun h=>Classical.choose (hL e h)) fun _=>[])
    rw [dif_pos he]; exact Classical.choose_spec (hL e he)
   obtain ⟨LL,hLL⟩:=this;exact ⟨_,V6 ok hp.1 Fc h1 (fun m hm e=>rY m hm ⟨by omega,e⟩) LL hLL⟩
  ·exact ⟨[p],Pm hc fun m hm e=>hf ⟨m,hm,e⟩⟩
open Classical in
noncomputable def H7 (A4 : List Int) (ls : List Lk) (p : List Int) : List (List Int):=if h : ∃ L,Dr (Ext A4 ls p) L then Classical.choose h else []
theorem GP {L : List (List Int)} (h : Dr (Ext A4 ls p) L) : H7 A4 ls p=L:=by
 have he : ∃ L,Dr (Ext A4 ls p) L:=⟨L,h⟩;rw [H7,dif_pos he];exact (Classical.choose_spec he).uniq h
theorem SY (ok : Gp A4 ls) (hp : J2 A4 p) (hc : Cons ls p) : Dr (Ext A4 ls p) (H7 A4 ls p):=by
 have he:=qO ok _ p rfl hp hc;rw [H7,dif_pos he]; exact Classical.choose_spec he
theorem Uo (ok : Gp A4 ls) (hp : J2 A4 p) (hc : Cons ls p) {n : Nat} (hn : n<p.length) (h1 : p.getD n default=-1) (hf : ∀ m,m<n→p.getD m default≠-1) :
  H7 A4 ls p=(Bq A4 ls p n).flatMap fun e=>H7 A4 ls (p.set n e) :=
 GP (V6 ok hp.1 hn h1 hf _ fun e he=>by
  have hm:=FQ.mp he;exact SY ok (hp.set hm.1) (PF ok hc hm.2))
end
def qI (A4 : List Int) (ls : List Lk) (p : List Int) (k : Nat) (first : Int) (ch : List Int) : Prop :=
 (first=-1∧ch=[]∧∀ m,k≤m→m<p.length→p.getD m default≠-1) ∨
 ∃ f : Nat,first=f∧k≤f∧f<p.length∧p.getD f default=-1∧(∀ m,k≤m→m<f→p.getD m default≠-1)∧ch=Bq A4 ls p f∧ch≠[]
theorem qI.skip {A4 : List Int} {ls : List Lk} {p : List Int} {k : Nat} {first : Int} {ch : List Int} (h : qI A4 ls p (k+1) first ch) (hk : p.getD k default≠-1) : qI A4 ls p k first ch:=by
 rcases h with ⟨h1,h2,h3⟩ | ⟨f,h1,h2,h3,h4,h5,h6⟩
 ·exact .inl ⟨h1,h2,fun m hm hl=>by
   by_cases e : m=k
   ·subst e; exact hk
   ·exact h3 m (by omega) hl⟩
 ·exact .inr ⟨f,h1,by omega,h3,h4,fun m hm hl=>by
   by_cases e : m=k
   ·subst e; exact hk
   ·exact h5 m (by omega) hl,h6⟩
theorem qI.XR {A4 : List Int} {ls : List Lk} {p : List Int} {k : Nat} (hl : k<p.length) (hk : p.getD k default=-1) (hc : Bq A4 ls p k≠[]) : qI A4 ls p k k (Bq A4 ls p k) :=
 .inr ⟨k,rfl,Nat.le_refl _,hl,hk,fun m h1 h2=>by omega,rfl,hc⟩
end Go.Shf
namespace Go.Shf
open Go.AW
structure j8 (n : Nat) (ls : List Lk) (k : Nat) (As : List (List Int)) : Prop where
 len : As.length=n
 mem : ∀ m : Nat,m<n→∀ y,y∈As.getD m []↔0≤y∧y.toNat<k∧((ls.getD y.toNat default).i=m∨(ls.getD y.toNat default).j=m)
 lens : ∀ m : Nat,m<n→(As.getD m []).length≤k
theorem j8.zero (n : Nat) (ls : List Lk) : j8 n ls 0 (List.replicate n []):=by
 refine ⟨by simp,fun m hm y=>?_,fun m hm=>?_⟩
 ·simp [gE,hm]
 ·simp [gE,hm]
theorem j8.step {n : Nat} {ls : List Lk} {k : Nat} {As : List (List Int)} (h : j8 n ls k As) {i j : Nat} (hi : i<n) (hj : j<n) (ei : (ls.getD k default).i=i) (ej : (ls.getD k default).j=j) :
  j8 n ls (k+1) (if i=j then As.set i (As.getD i []++[(k : Int)]) else (As.set i (As.getD i []++[(k : Int)])).set j ((As.set i (As.getD i []++[(k : Int)])).getD j []++[(k : Int)])):=by
 have hl:=h.len
 have gm : ∀ m : Nat,m<n→(if i=j then As.set i (As.getD i []++[(k : Int)]) else (As.set i (As.getD i []++[(k : Int)])).set j ((As.set i (As.getD i []++[(k : Int)])).getD j []++[(k : Int)])).getD m [] =
   if m=i∨m=j then As.getD m []++[(k : Int)] else As.getD m []:=by
  intro m hm
  by_cases e : i=j
  ·subst e;rw [if_pos rfl,BH]
   by_cases e2 : i=m
   ·subst e2; rw [if_pos ⟨rfl,by omega⟩,if_pos (.inl rfl)]
   ·rw [if_neg fun h=>e2 h.1,if_neg]; rintro (h | h) <;> exact e2 h.symm
  ·rw [if_neg e,BH,List.length_set]
   by_cases e2 : j=m
   ·subst e2;rw [if_pos ⟨rfl,by omega⟩,if_pos (.inr rfl),BH,if_neg fun h=>e h.1]
   ·rw [if_neg fun h=>e2 h.1,BH]
    by_cases e3 : i=m
    ·subst e3; rw [if_pos ⟨rfl,by omega⟩,if_pos (.inl rfl)]
    ·rw [if_neg fun h=>e3 h.1,if_neg]; rintro (h | h)
     ·exact e3 h.symm
     ·exact e2 h.symm
 refine ⟨?_,fun m hm y=>?_,fun m hm=>?_⟩
 ·split <;> simp [hl]
 ·rw [gm m hm]
  have:=h.mem m hm y
  split
  ·rename_i e
   rw [List.mem_append,List.mem_singleton,this]
   constructor
   ·rintro (⟨h1,h2,h3⟩ | rfl)
    ·exact ⟨h1,by omega,h3⟩
    ·refine ⟨by omega,by simp, ?_⟩;rw [Int.toNat_natCast,ei,ej]
     rcases e with e | e
     ·exact .inl (by rw [e])
     ·exact .inr (by rw [e])
   ·rintro ⟨h1,h2,h3⟩
    by_cases e2 : y.toNat=k
    ·exact .inr (by omega)
    ·exact .inl ⟨h1,by omega,h3⟩
  ·rename_i e
   rw [this]
   constructor
   ·rintro ⟨h1,h2,h3⟩; exact ⟨h1,by omega,h3⟩
   ·rintro ⟨h1,h2,h3⟩;refine ⟨h1, ?_,h3⟩
    by_cases e2 : y.toNat=k
    ·exfalso; apply e
     rw [e2,ei,ej] at h3
     rcases h3 with h3 | h3
     ·exact .inl (by omega)
     ·exact .inr (by omega)
    ·omega
 ·rw [gm m hm]
  have:=h.lens m hm
  split
  ·rw [List.length_append,List.length_singleton]; omega
  ·omega
theorem j8.ok {A4 : List Int} {ls : List Lk} {As : List (List Int)} (h : j8 A4.length ls ls.length As) : j6 A4 ls As:=⟨h.len,fun n hn y=>by
 have:=h.mem n hn y;exact this⟩
theorem Pf {ls : List Lk} {A4 p : List Int} (ok : Gp A4 ls) (hl : p.length=A4.length) (h : ∀ n,n<p.length→p.getD n default<0) : Cons ls p:=by
 intro l hm h1 _
 have:=ok.i l hm
 have:=h l.i.toNat (by omega);simp only [ix] at h1; omega
end Go.Shf
namespace Go.Shf
open Go.AW
def H8 (c : Ay) (s : List Int) (i b : Nat) : List Int:=[(i : Int),(b : Int),indexOf s (ix (ix c.comp (s.getD i default)) b)]
def ZV (c : Ay) (s : List Int) (i b : Nat) : Bool:=decide (c.AJ.getD b default=ix c.to (s.getD i default))
def E5 (c : Ay) (s : List Int) (i n : Nat) : List (List Int):=((List.range n).filter (ZV c s i)).map (H8 c s i)
def EM (c : Ay) (s : List Int) (k : Nat) : List (List Int):=(List.range k).flatMap fun i=>E5 c s i c.AJ.length
theorem fN {c : Ay} {s : List Int} {i n : Nat} (h : ZV c s i n=true) : E5 c s i (n+1)=E5 c s i n++[H8 c s i n]:=by
 rw [E5,BF,if_pos h,List.map_append]; rfl
theorem fA {c : Ay} {s : List Int} {i n : Nat} (h : ZV c s i n=false) : E5 c s i (n+1)=E5 c s i n:=by
 rw [E5,BF,if_neg (by simp [h]),List.map_append]; simp [E5]
theorem JB (c : Ay) (s : List Int) (k : Nat) : EM c s (k+1)=EM c s k++E5 c s k c.AJ.length:=by
 rw [EM,List.range_succ,List.flatMap_append]; simp [EM]
theorem OP (c : Ay) (s : List Int) (i n : Nat) : (E5 c s i n).length≤n:=by
 rw [E5,List.length_map]; exact Nat.le_trans (List.length_filter_le _ _) (by simp)
theorem GO (c : Ay) (s : List Int) : ∀ k,(EM c s k).length≤k*c.AJ.length
 | 0=>by simp [EM]
 | k+1=>by
  rw [JB,List.length_append,Nat.add_mul]
  have:=GO c s k
  have:=OP c s k c.AJ.length;omega
def rowsOf (c : Ay) (s : List Int) : List (List Int):=EM c s s.length
def B0 (f : SF) (s : List Int) : List Int:=s.map fun a=>ix f.A4 (ix f.shape.to a)
def My (n : Int) : List Int:=(List.range n.toNat).map Int.ofNat
theorem LY {n y : Int} (h : 0≤y∧y<n) : ix (My n) y=y:=by
 rw [ix,My,AX _ _ (by omega)]; exact Int.toNat_of_nonneg h.1
def Jn (f : SF) (s r : List Int) : Lk:=⟨r.getD 0 default,r.getD 2 default,ix f.AU (r.getD 1 default),My (ix (B0 f s) (r.getD 2 default))⟩
def E9 (f : SF) (s : List Int) : List Lk:=(rowsOf f.shape s).map (Jn f s)
noncomputable def Wb (A4 : List Int) (ls : List Lk) : List (List Int):=H7 A4 ls (List.replicate A4.length (-1))
noncomputable def C8 (f : SF) (s : List Int) : List (List Int):=Wb (B0 f s) (E9 f s)
structure Qc (f : SF) (s t : List Int) : Prop where
 len : t.length=s.length
 QF : ∀ i,i<s.length→0≤t.getD i default∧t.getD i default<ix f.A4 (ix f.shape.to (s.getD i default))
 link : ∀ i,i<s.length→∀ b : Nat,b<f.shape.AJ.length→f.shape.AJ.getD b default=ix f.shape.to (s.getD i default) →
  ix (f.AU.getD b default) (t.getD i default)=ix t (indexOf s (ix (ix f.shape.comp (s.getD i default)) b))
theorem GM {c : Ay} {s r : List Int} : r∈rowsOf c s↔∃ i,i<s.length∧∃ b,b<c.AJ.length∧c.AJ.getD b default=ix c.to (s.getD i default)∧r=H8 c s i b:=by
 simp only [rowsOf,EM,List.mem_flatMap,List.mem_range,E5,List.mem_map,List.mem_filter,ZV,decide_eq_true_eq]
 constructor
 ·rintro ⟨i,hi,b,⟨hb,e⟩,rfl⟩; exact ⟨i,hi,b,hb,e,rfl⟩
 ·rintro ⟨i,hi,b,hb,e,rfl⟩; exact ⟨i,hi,b,⟨hb,e⟩,rfl⟩
section
variable {f : SF} {x : Int} {s : List Int}
theorem SF.Shape.DH (h : f.Shape) {y : Int} (hy : 0≤y∧y<f.shape.AO) : 0≤ix f.A4 y∧ix f.A4 y≤16:=by
 have:=h.sl
 have:=h.sz _ (Bh (l:=f.A4) (i:=y) (by omega)); omega
theorem DG (h : f.Shape) (hs : f.shape.Az x s) {i : Nat} (hi : i<s.length) : (B0 f s).getD i default=ix f.A4 (ix f.shape.to (s.getD i default))∧0≤(B0 f s).getD i default∧(B0 f s).getD i default≤16:=by
 have e : (B0 f s).getD i default=ix f.A4 (ix f.shape.to (s.getD i default)):=by rw [B0,BB _ hi]
 have ha:=hs.arr (AE.mpr ⟨i,hi,rfl⟩)
 have:=h.DH (h.is.1.Cb ha.1.2);exact ⟨e,by rw [e]; exact this⟩
theorem F6 (h : f.Shape) (hs : f.shape.Az x s) {i b : Nat} (hi : i<s.length) (hb : b<f.shape.AJ.length) (e : f.shape.AJ.getD b default=ix f.shape.to (s.getD i default)) :
  (0≤indexOf s (ix (ix f.shape.comp (s.getD i default)) b)∧(indexOf s (ix (ix f.shape.comp (s.getD i default)) b)).toNat<s.length) ∧
   ix s (indexOf s (ix (ix f.shape.comp (s.getD i default)) b))=ix (ix f.shape.comp (s.getD i default)) b∧ix f.shape.to (ix (ix f.shape.comp (s.getD i default)) b)=f.shape.to.getD b default:=by
 have ha:=hs.arr (AE.mpr ⟨i,hi,rfl⟩)
 have bC : 0≤(b : Int)∧(b : Int).toNat<f.shape.AJ.length:=⟨by omega,by simpa using hb⟩
 have hm:=hs.QZ (AE.mpr ⟨i,hi,rfl⟩) bC (by rw [AH]; exact e.symm)
 have:=BD hm
 have hc:=h.is.1.comp ha.1 bC (by rw [AH]; exact e.symm);rw [AH] at hc;exact ⟨⟨this.1,this.2.1⟩,this.2.2,hc.2.2⟩
theorem YU (h : f.Shape) (hs : f.shape.Az x s) : Gp (B0 f s) (E9 f s):=by
 have hl : (B0 f s).length=s.length:=by simp [B0]
 have key : ∀ l,l∈E9 f s→∃ i b : Nat,i<s.length∧b<f.shape.AJ.length∧f.shape.AJ.getD b default=ix f.shape.to (s.getD i default) ∧
   l=⟨i,indexOf s (ix (ix f.shape.comp (s.getD i default)) b),f.AU.getD b default,My (ix (B0 f s) (indexOf s (ix (ix f.shape.comp (s.getD i default)) b)))⟩:=by
  intro l hl
  obtain ⟨r,hr,rfl⟩:=List.mem_map.mp hl
  obtain ⟨i,hi,b,hb,e,rfl⟩:=GM.mp hr;exact ⟨i,b,hi,hb,e,by simp [Jn,H8,AH]⟩
 refine ⟨fun l hm=>?_,fun l hm=>?_,fun l hm=>?_,fun l hm=>?_,fun y hy=>?_⟩
 ·obtain ⟨i,b,hi,hb,e,rfl⟩:=key l hm;exact ⟨by simp,by rw [hl]; simpa using hi⟩
 ·obtain ⟨i,b,hi,hb,e,rfl⟩:=key l hm
  have:=(F6 h hs hi hb e).1;exact ⟨this.1,by rw [hl]; exact this.2⟩
 ·obtain ⟨i,b,hi,hb,e,rfl⟩:=key l hm
  have:=(h.act b (by rw [h.al]; exact hb)).1;simp only [AH];rw [this,e,(DG h hs hi).1]
 ·obtain ⟨i,b,hi,hb,e,rfl⟩:=key l hm
  have hx:=(F6 h hs hi hb e).1
  have:=(DG h hs hx.2).2;simp only [My,List.length_map,List.length_range,ix] at this ⊢;omega
 ·obtain ⟨i,hi,rfl⟩:=AE.mp hy
  have:=(DG h hs (i:=i) (by omega)).2;omega
theorem jW (h : f.Shape) (hs : f.shape.Az x s) {t : List Int} : Ext (B0 f s) (E9 f s) (List.replicate (B0 f s).length (-1)) t↔Qc f s t:=by
 have hl : (B0 f s).length=s.length:=by simp [B0]
 have VR : ∀ n,n<s.length→(List.replicate s.length (-1 : Int)).getD n default=-1:=fun n hn=>by simp [gE,hn]
 rw [hl]
 constructor
 ·intro he
  have hlen : t.length=s.length:=by rw [he.len]; simp
  have fZ : ∀ i,i<s.length→0≤t.getD i default∧t.getD i default<ix f.A4 (ix f.shape.to (s.getD i default)):=by
   intro i hi
   have:=he.new i (by simpa using hi) (VR i hi);rw [(DG h hs hi).1] at this; exact this
  refine ⟨hlen,fZ,fun i hi b hb e=>?_⟩
  have hx:=F6 h hs hi hb e
  have:=he.cons (Jn f s (H8 f.shape s i b)) (List.mem_map.mpr ⟨_,GM.mpr ⟨i,hi,b,hb,e,rfl⟩,rfl⟩);simp only [Fits,Jn,H8,List.getD_cons_zero,List.getD_cons_succ,AH] at this
  have h2:=fZ _ hx.1.2
  have:=this (fZ i hi).1 (by simp only [ix]; exact h2.1);rw [this]
  have h3:=(DG h hs hx.1.2).1;refine LY ⟨h2.1, ?_⟩
  have h6:=h2.2;rw [← h3] at h6
  simpa only [ix,AH,Int.toNat_natCast] using h6
 ·intro hf;refine ⟨by simp [hf.len],fun n hn e=>?_,fun n hn e=>?_,fun l hm=>?_⟩
  ·have hn : n<s.length:=by simpa using hn
   rw [(DG h hs hn).1]; exact hf.QF n hn
  ·exact absurd (VR n (by simpa using hn)) e
  ·obtain ⟨r,hr,rfl⟩:=List.mem_map.mp hm
   obtain ⟨i,hi,b,hb,e,rfl⟩:=GM.mp hr
   have hx:=F6 h hs hi hb e
   intro h1 h2;simp only [Jn,H8,List.getD_cons_zero,List.getD_cons_succ,AH] at h1 h2 ⊢;rw [hf.link i hi b hb e]
   have h3:=(DG h hs hx.1.2).1
   have h5:=hf.QF _ hx.1.2
   symm
   refine LY ⟨h5.1, ?_⟩
   have h6:=h5.2;rw [← h3] at h6
   simpa only [ix,AH,Int.toNat_natCast] using h6
end
end Go.Shf
namespace Go.Shf
open Go.AW
structure Ba (c : Ay) (V : List (List Int)) : Prop where
 len : (V.length : Int)=c.AO
 sv : ∀ x : Nat,x<V.length→c.Az x (V.getD x default)
 st : ∀ a : Int,0≤a∧a.toNat<c.AJ.length→∀ b,b∈ix V (ix c.to a)→ix (ix c.comp a) b∈ix V (ix c.AJ a)
def Bz (c : Ay) (V : List (List Int)) (a : Int) (t : List Int) : List Int:=(ix V (ix c.to a)).map fun b=>ix t (indexOf (ix V (ix c.AJ a)) (ix (ix c.comp a) b))
noncomputable def B2 (f : SF) (V : List (List Int)) (x : Nat) : List (List Int):=C8 f (V.getD x default)
noncomputable def BN (f : SF) (V : List (List Int)) : List (List (List Int)):=(List.range V.length).map (B2 f V)
noncomputable def DH (f : SF) (V : List (List Int)) (x : Nat) : Int:=((B2 f V x).length : Int)
noncomputable def BM (f : SF) (V : List (List Int)) : List Int:=(List.range V.length).map (DH f V)
noncomputable def Gw (f : SF) (V : List (List Int)) (a : Nat) : List Int :=
 (B2 f V (f.shape.AJ.getD a default).toNat).map fun t=>indexOf (B2 f V (f.shape.to.getD a default).toNat) (Bz f.shape V a t)
noncomputable def BZ (f : SF) (V : List (List Int)) : List (List Int):=(List.range f.shape.AJ.length).map (Gw f V)
noncomputable def AS (f : SF) (V : List (List Int)) : SF:=⟨f.shape,BM f V,BZ f V⟩
def Bu (f : SF) (V : List (List Int)) : Prop:=∀ x,x<V.length→(B2 f V x).length≤16
def SF.DJ (f : SF) : Prop:=∀ a b : Int,(0≤a∧a.toNat<f.shape.AJ.length)→(0≤b∧b.toNat<f.shape.AJ.length)→ix f.shape.to a=ix f.shape.AJ b→∀ e : Int,0≤e∧e.toNat<(ix f.AU a).length →
 ix (ix f.AU (ix (ix f.shape.comp a) b)) e=ix (ix f.AU b) (ix (ix f.AU a) e)
theorem SF.Is.Ei {f : SF} (h : f.Is) : f.DJ:=fun a b ha hb e x hx=>by
 have:=h.2.comp a.toNat b.toNat ha.2 hb.2 e x.toNat hx.2;exact this
section
variable {f : SF} {x : Int} {s t : List Int}
theorem C5 (h : f.Shape) (hs : f.shape.Az x s) : Dr (Qc f s) (C8 f s):=by
 have hl : (B0 f s).length=s.length:=by simp [B0]
 have hr : ∀ n,n<(List.replicate (B0 f s).length (-1 : Int)).length→(List.replicate (B0 f s).length (-1 : Int)).getD n default<0:=fun n hn=>by
  rw [List.length_replicate] at hn
  simp [gE,hn]
 have:=SY (YU h hs) (p:=List.replicate (B0 f s).length (-1)) ⟨by simp,fun n hn=>.inl (hr n hn)⟩ (Pf (YU h hs) (by simp) hr);exact ⟨this.N9,fun t=>(this.mem t).trans (jW h hs)⟩
theorem Dr.nodup {S : List Int→Prop} {L : List (List Int)} (h : Dr S L) : L.Nodup:=h.N9.imp fun {a b} h e=>by rw [Ca.mpr e] at h; omega
def entry (s t : List Int) (a : Int) : Int:=ix t (indexOf s a)
theorem Qc.F7 (hf : Qc f s t) {a : Int} (ha : a∈s) : 0≤entry s t a∧entry s t a<ix f.A4 (ix f.shape.to a):=by
 have h1:=BD ha
 have:=hf.QF _ h1.2.1
 have e : s.getD (indexOf s a).toNat default=a:=h1.2.2;rw [e] at this; exact this
theorem Qc.GR (h : f.Shape) (hs : f.shape.Az x s) (hf : Qc f s t) {a b : Int} (ha : a∈s) (hb : 0≤b∧b.toNat<f.shape.AJ.length) (e : ix f.shape.to a=ix f.shape.AJ b) :
  ix (ix f.AU b) (entry s t a)=entry s t (ix (ix f.shape.comp a) b):=by
 have h1:=BD ha
 have e1 : s.getD (indexOf s a).toNat default=a:=h1.2.2
 have:=hf.link _ h1.2.1 b.toNat hb.2 (by rw [e1]; exact e.symm);rw [e1,Int.toNat_of_nonneg hb.1] at this;exact this
theorem Rp (h : f.Shape) (hs : f.shape.Az x s) (g : Int→Int) (hr : ∀ a,a∈s→0≤g a∧g a<ix f.A4 (ix f.shape.to a))
  (hl : ∀ a b,a∈s→(0≤b∧b.toNat<f.shape.AJ.length)→ix f.shape.to a=ix f.shape.AJ b→ix (ix f.AU b) (g a)=g (ix (ix f.shape.comp a) b)) : Qc f s (s.map g):=by
 refine ⟨by simp,fun i hi=>?_,fun i hi b hb e=>?_⟩
 ·rw [BB _ hi]; exact hr _ (AE.mpr ⟨i,hi,rfl⟩)
 ·have hx:=F6 h hs hi hb e;rw [BB _ hi]
  have:=hl (s.getD i default) b (AE.mpr ⟨i,hi,rfl⟩) ⟨by omega,by simpa using hb⟩ (by rw [AH]; exact e.symm);rw [AH] at this;rw [this];rw [show ix (s.map g) (indexOf s (ix (ix f.shape.comp (s.getD i default)) b))=(s.map g).getD (indexOf s (ix (ix f.shape.comp (s.getD i default)) b)).toNat default from rfl,BB _ hx.1.2];exact congrArg g hx.2.1.symm
theorem E0 {g : Int→Int} {a : Int} (ha : a∈s) : entry s (s.map g) a=g a:=by
 have h1:=BD ha;rw [entry,ix,BB _ h1.2.1];exact congrArg g h1.2.2
theorem JV {u : List Int} (Hq : s.Nodup) (ht : t.length=s.length) (hu : u.length=s.length) (h : ∀ a,a∈s→entry s t a=entry s u a) : t=u:=by
 refine List.ext_getElem (by omega) fun i h1 h2=>?_
 have:=h (s.getD i default) (AE.mpr ⟨i,by omega,rfl⟩);rw [entry,entry,Bk Hq (by omega),AH,AH] at this
 simpa [gE,h1,h2] using this
theorem Ay.Az.nodup {c : Ay} (hs : c.Az x s) : s.Nodup:=(DF.mp hs.jL).imp fun {a b} h=>by omega
theorem HY (h : f.Shape) (hc : f.DJ) (hs : f.shape.Az x s) {e : Int} (he : 0≤e∧e<ix f.A4 x) : Qc f s (CE f s e):=by
 have Np:=h.al;refine Rp h hs (fun a=>ix (ix f.AU a) e) (fun a ha=>?_) fun a b ha hb HL=>?_
 ·have hv:=hs.arr ha
  have h1:=h.Cw hv.1.2;rw [hv.2] at h1;exact (h.act a.toNat (by omega)).2 _ (Bh (l:=ix f.AU a) (by omega))
 ·have hv:=hs.arr ha
  have h1:=h.Cw hv.1.2;rw [hv.2] at h1;exact (hc a b hv.1 hb HL e ⟨he.1,by omega⟩).symm
end
section
variable {f : SF} {V : List (List Int)}
theorem Ba.at {c : Ay} (v : Ba c V) {x : Int} (h : 0≤x∧x<c.AO) : c.Az x (ix V x):=by
 have:=v.len
 have:=v.sv x.toNat (by omega);rw [Int.toNat_of_nonneg h.1] at this; exact this
theorem Ba.AJ {c : Ay} (hc : c.Is) (v : Ba c V) {a : Int} (h : 0≤a∧a.toNat<c.AJ.length) : c.Az (ix c.AJ a) (ix V (ix c.AJ a)):=v.at (hc.1.Cn h.2)
theorem Ba.to {c : Ay} (hc : c.Is) (v : Ba c V) {a : Int} (h : 0≤a∧a.toNat<c.AJ.length) : c.Az (ix c.to a) (ix V (ix c.to a)):=v.at (hc.1.Cb h.2)
theorem DP {c : Ay} {a b : Int} {t : List Int} (hb : b∈ix V (ix c.to a)) : entry (ix V (ix c.to a)) (Bz c V a t) b=entry (ix V (ix c.AJ a)) t (ix (ix c.comp a) b):=E0 hb
theorem M7 (h : f.Shape) (v : Ba f.shape V) {a : Int} (ha : 0≤a∧a.toNat<f.shape.AJ.length) {t : List Int} (ht : Qc f (ix V (ix f.shape.AJ a)) t) : Qc f (ix V (ix f.shape.to a)) (Bz f.shape V a t):=by
 have HM:=v.to h.is ha
 have vi:=v.AJ h.is ha;refine Rp h HM (fun b=>entry (ix V (ix f.shape.AJ a)) t (ix (ix f.shape.comp a) b)) (fun b hb=>?_) fun b d hb hd e=>?_
 ·have QC:=HM.arr hb
  have:=ht.F7 (v.st a ha b hb);rw [(h.is.1.comp ha QC.1 QC.2.symm).2.2] at this; exact this
 ·have QC:=HM.arr hb
  have HL:=h.is.1.comp ha QC.1 QC.2.symm
  have:=ht.GR h vi (v.st a ha b hb) hd (by rw [HL.2.2]; exact e);rw [this,h.is.assoc ha QC.1 hd QC.2.symm e]
theorem Wz (h : f.Shape) (v : Ba f.shape V) {a b : Int} (ha : 0≤a∧a.toNat<f.shape.AJ.length) (hb : 0≤b∧b.toNat<f.shape.AJ.length) (e : ix f.shape.to a=ix f.shape.AJ b) (t : List Int) :
  Bz f.shape V (ix (ix f.shape.comp a) b) t=Bz f.shape V b (Bz f.shape V a t):=by
 have HL:=h.is.1.comp ha hb e
 have HM:=v.to h.is hb;refine JV (s:=ix V (ix f.shape.to b)) HM.nodup (by rw [Bz,List.length_map,HL.2.2]) (by rw [Bz,List.length_map]) fun d hd=>?_
 have Yb:=HM.arr hd
 have T9:=v.st b hb d hd
 have h1:=DP (c:=f.shape) (V:=V) (a:=ix (ix f.shape.comp a) b) (b:=d) (t:=t) (by rw [HL.2.2]; exact hd);rw [HL.2.2,HL.2.1] at h1;rw [h1,DP hd];rw [← e] at T9 ⊢;rw [DP T9,h.is.assoc ha hb Yb.1 e Yb.2.symm]
theorem CL (v : Ba f.shape V) {x : Int} (hx : 0≤x∧x<f.shape.AO) : ix (BM f V) x=((C8 f (ix V x)).length : Int):=by
 have:=v.len;rw [ix,BM,AX _ _ (by omega)]; rfl
theorem Gv {a : Int} (ha : 0≤a∧a.toNat<f.shape.AJ.length) : ix (BZ f V) a=(C8 f (ix V (ix f.shape.AJ a))).map fun t=>indexOf (C8 f (ix V (ix f.shape.to a))) (Bz f.shape V a t):=by
 rw [ix,BZ,AX _ _ ha.2,Gw,Int.toNat_of_nonneg ha.1]; rfl
theorem GN (h : f.Shape) (v : Ba f.shape V) {a : Int} (ha : 0≤a∧a.toNat<f.shape.AJ.length) {k : Int} (hk : 0≤k∧k.toNat<(C8 f (ix V (ix f.shape.AJ a))).length) :
  ix (ix (BZ f V) a) k=indexOf (C8 f (ix V (ix f.shape.to a))) (Bz f.shape V a (ix (C8 f (ix V (ix f.shape.AJ a))) k)) ∧
  Bz f.shape V a (ix (C8 f (ix V (ix f.shape.AJ a))) k)∈C8 f (ix V (ix f.shape.to a)):=by
 refine ⟨by rw [Gv ha,ix,BB _ hk.2]; rfl, ?_⟩;refine ((C5 h (v.to h.is ha)).mem _).mpr (M7 h v ha ?_);exact ((C5 h (v.AJ h.is ha)).mem _).mp (Bh hk.2)
theorem CX (h : f.Shape) (v : Ba f.shape V) (hf : Bu f V) : (AS f V).Shape:=by
 have hl:=v.len;refine ⟨h.is, ?_, ?_,fun y hy=>?_,fun a ha=>?_⟩
 ·show ((BM f V).length : Int)=_
  simp [BM]; exact hl
 ·show (BZ f V).length=_
  simp [BZ,AS]
 ·obtain ⟨x,hx,rfl⟩:=List.mem_map.mp (show y∈BM f V from hy)
  have:=hf x (List.mem_range.mp hx);unfold DH; omega
 ·have ha : a<f.shape.AJ.length:=by
   have : (AS f V).AU.length=f.shape.AJ.length:=by show (BZ f V).length=_; simp [BZ]
   omega
  have Ge : 0≤(a : Int)∧(a : Int).toNat<f.shape.AJ.length:=⟨by omega,by simpa using ha⟩
  have JP:=h.is.1.Cn Ge.2
  have DS:=h.is.1.Cb Ge.2
  have e:=Gv (f:=f) (V:=V) Ge;simp only [AH] at e JP DS
  constructor
  ·show (((BZ f V).getD a default).length : Int)=ix (BM f V) (f.shape.AJ.getD a default)
   rw [e,CL v JP,List.length_map]
  ·intro y hy
   replace hy : y∈(BZ f V).getD a default:=hy;rw [e] at hy
   obtain ⟨t,ht,rfl⟩:=List.mem_map.mp hy
   show _∧_<ix (BM f V) (f.shape.to.getD a default)
   rw [CL v DS]
   have h1:=v.AJ h.is Ge
   have h2:=v.to h.is Ge
   have hm:=M7 h v Ge (t:=t) (by
    simp only [AH] at h1 ⊢;exact ((C5 h h1).mem _).mp ht)
   have:=((C5 h h2).mem _).mpr hm;simp only [AH] at this
   have:=BD this;omega
theorem HW (h : f.Shape) (v : Ba f.shape V) (hf : Bu f V) : (AS f V).DJ:=by
 intro a b ha hb e k hk
 replace hk : 0≤k∧k.toNat<(ix (BZ f V) a).length:=hk
 replace e : ix f.shape.to a=ix f.shape.AJ b:=e
 replace ha : 0≤a∧a.toNat<f.shape.AJ.length:=ha
 replace hb : 0≤b∧b.toNat<f.shape.AJ.length:=hb
 show ix (ix (BZ f V) (ix (ix f.shape.comp a) b)) k=ix (ix (BZ f V) b) (ix (ix (BZ f V) a) k)
 rw [Gv ha,List.length_map] at hk
 have HL:=h.is.1.comp ha hb e
 have h1:=GN h v ha hk
 have h2:=GN h v HL.1 (k:=k) (by rw [HL.2.1]; exact hk)
 have Eo:=BD h1.2
 have h3:=GN h v hb (k:=ix (ix (BZ f V) a) k) (by rw [h1.1,← e]; exact ⟨Eo.1,Eo.2.1⟩);rw [h2.1,h3.1,h1.1,← e,Eo.2.2,HL.2.1,HL.2.2,Wz h v ha hb e]
end
theorem HQ {c : Ay} {C : List (List (List Int))} {x : Nat} {a : Int} : a∈EI c C x↔a∈outs c x∧∀ s,s∈C.getD x default→a∈s:=by
 rw [EI,List.mem_filter,E4,decide_eq_true_eq]
theorem R4 {c : Ay} {C : List (List (List Int))} {x : Int} (h : x.toNat<C.length) : ix (Aq c C) x=EI c C x.toNat:=by
 rw [ix,Aq,AX _ _ h]
theorem MT {c : Ay} {C : List (List (List Int))} (hc : c.Is) (hl : (C.length : Int)=c.AO) (hs : ∀ x : Nat,x<C.length→∀ s,s∈C.getD x default→c.Az x s) (t : Ia c C) : Ba c (Aq c C):=by
 have Qi : (Aq c C).length=C.length:=by simp [Aq]
 refine ⟨by rw [Qi]; exact hl,fun x hx=>?_,fun a ha b hb=>?_⟩
 ·rw [Qi] at hx
  have e : (Aq c C).getD x default=EI c C x:=by rw [Aq,AX _ _ hx]
  rw [e]
  have ho:=II hc.1 (x:=(x : Int));refine .mk' ?_ (fun a ha=>ho.arr (HQ.mp ha).1) fun a b ha hb e=>?_
  ·have:=DF.mp ho.jL;rw [DF,EI];exact this.filter _
  ·have:=HQ.mp ha;exact HQ.mpr ⟨ho.QZ this.1 hb e,fun s Kk=>(hs x hx s Kk).QZ (this.2 s Kk) hb e⟩
 ·have hf:=hc.1.Cn ha.2
  have ht:=hc.1.Cb ha.2;rw [R4 (by omega),HQ] at hb ⊢;rw [Int.toNat_of_nonneg ht.1] at hb;rw [Int.toNat_of_nonneg hf.1]
  have hbo:=BT.mp hb.1
  have gR:=hc.1.comp ha ⟨hbo.1,hbo.2.1⟩ hbo.2.2.symm;refine ⟨BT.mpr ⟨gR.1.1,gR.1.2,gR.2.1⟩,fun s Kk=>?_⟩
  have hp:=t.pull a.toNat ha.2 s (by exact Kk);rw [Int.toNat_of_nonneg ha.1] at hp
  have:=hb.2 _ hp;exact (FB.mp this).2.2
end Go.Shf
namespace Go.Shf
open Go.AW
structure JO (A4 : List Int) (ls : List Lk) (p : List Int) (i : Nat) (e : Int) (p' : List Int) (N : List Int) (ok : Bool) : Prop where
 len : p'.length=p.length
 ext : ∀ q,q<p.length→p.getD q default≠-1→p'.getD q default=p.getD q default
 part : ∀ q,q<p.length→p'.getD q default=-1∨(0≤p'.getD q default∧p'.getD q default<A4.getD q default)
 new : ∀ y,y∈N↔0≤y∧y.toNat<p.length∧p.getD y.toNat default=-1∧p'.getD y.toNat default≠-1
 yes : ok=true→p'.getD i default=e∧(∀ y,y∈N→∀ l,l∈ls→l.i=y→ix p' l.j=ix l.left (ix p' y))∧∀ t,Ext A4 ls p t→t.getD i default=e→Ext A4 ls p' t
 no : ok=false→∀ t,Ext A4 ls p t→t.getD i default≠e
def GU (A4 : List Int) (p : List Int) : Prop:=p.length=A4.length∧∀ q,q<p.length→p.getD q default=-1∨(0≤p.getD q default∧p.getD q default<A4.getD q default)
theorem GU.part {A4 p : List Int} (h : GU A4 p) : J2 A4 p:=⟨h.1,fun n hn=>(h.2 n hn).imp (fun e=>by omega) id⟩
def KP (ls : List Lk) (p : List Int) : Prop:=∀ l,l∈ls→0≤ix p l.i→ix p l.j=ix l.left (ix p l.i)
structure Ju (A4 : List Int) (ls : List Lk) : Prop where
 ok : Gp A4 ls
 rt : ∀ l,l∈ls→l.right=My (ix A4 l.j)
 lf : ∀ l,l∈ls→∀ y,y∈l.left→0≤y∧y<ix A4 l.j
section
variable {A4 : List Int} {ls : List Lk} {p : List Int}
theorem KP.cons (h : Ju A4 ls) (hp : GU A4 p) (hc : KP ls p) : Cons ls p:=by
 intro l hl h1 h2
 have a:=h.ok.i l hl
 have b:=h.ok.j l hl;rw [h.rt l hl]
 have:=hp.2 l.j.toNat (by rw [hp.1]; exact b.2);rw [LY ⟨h2,by rcases this with e | e <;> simp only [ix] at h2 ⊢ <;> omega⟩]
 exact (hc l hl h1).symm
theorem Ext.link (h : Ju A4 ls) {t : List Int} (hp : GU A4 p) (ht : Ext A4 ls p t) {l : Lk} (hl : l∈ls) : ix t l.j=ix l.left (ix t l.i):=by
 have a:=h.ok.i l hl
 have b:=h.ok.j l hl
 have full : ∀ q,q<p.length→0≤t.getD q default∧t.getD q default<A4.getD q default:=by
  intro q hq
  rcases hp.2 q hq with e | e
  ·exact ht.new q hq e
  ·rw [ht.Jr q hq (by omega)]; exact e
 have h1:=full l.i.toNat (by rw [hp.1]; exact a.2)
 have h2:=full l.j.toNat (by rw [hp.1]; exact b.2)
 have:=ht.cons l hl h1.1 h2.1;rw [h.rt l hl,LY (n:=ix A4 l.j) (y:=ix t l.j) h2] at this;exact this.symm
theorem JO.Jr (hp : GU A4 p) {i : Nat} {e : Int} (hi : i<p.length) (h : p.getD i default≠-1) : JO A4 ls p i e p [] (decide (p.getD i default=e)):=by
 refine ⟨rfl,fun _ _ _=>rfl,hp.2,fun y=>?_,fun ho=>⟨of_decide_eq_true ho,by simp,fun t ht _=>ht⟩,fun ho t ht aO=>?_⟩
 ·simp only [List.not_mem_nil,false_iff,not_and]; intro _ _ h1 h2; exact h2 h1
 ·rw [ht.Jr i hi h] at aO; exact of_decide_eq_false ho aO
structure NI (A4 : List Int) (ls : List Lk) (p : List Int) (i : Nat) (e : Int) (rs : List Lk) (k : Nat) (p' : List Int) (N : List Int) : Prop where
 len : p'.length=p.length
 ext : ∀ q,q<p.length→p.getD q default≠-1→p'.getD q default=p.getD q default
 part : ∀ q,q<p.length→p'.getD q default=-1∨(0≤p'.getD q default∧p'.getD q default<A4.getD q default)
 new : ∀ y,y∈N↔0≤y∧y.toNat<p.length∧p.getD y.toNat default=-1∧p'.getD y.toNat default≠-1
 own : p'.getD i default=e
 cl : ∀ y,y∈N→y≠i→∀ l,l∈ls→l.i=y→ix p' l.j=ix l.left (ix p' y)
 kg : ∀ j,j<k→j<rs.length→ix p' (rs.getD j default).j=ix (rs.getD j default).left e
 ex : ∀ t,Ext A4 ls p t→t.getD i default=e→Ext A4 ls p' t
theorem NI.zero {rs : List Lk} (hp : GU A4 p) {i : Nat} {e : Int} (hi : i<p.length) (h : p.getD i default=-1) (he : 0≤e∧e<A4.getD i default) : NI A4 ls p i e rs 0 (p.set i e) [(i : Int)]:=by
 refine ⟨by simp,fun q hq Bp=>?_,fun q hq=>?_,fun y=>?_, ?_,fun y hy Bp=>?_,fun j hj=>by omega,fun t ht aO=>?_⟩
 ·rw [BH,if_neg]; rintro ⟨rfl,_⟩; exact Bp h
 ·rw [BH]
  split
  ·rename_i e2; rw [← e2.1]; exact .inr he
  ·exact hp.2 q hq
 ·rw [List.mem_singleton]
  constructor
  ·rintro rfl;refine ⟨by omega,by simpa using hi,by simpa using h, ?_⟩;rw [Int.toNat_natCast,BH,if_pos ⟨rfl,hi⟩]; omega
  ·rintro ⟨h1,h2,h3,h4⟩;rw [BH] at h4
   split at h4
   ·rename_i e2; omega
   ·exact absurd h3 h4
 ·rw [BH,if_pos ⟨rfl,hi⟩]
 ·rw [List.mem_singleton] at hy; exact absurd hy Bp
 ·refine ⟨by rw [ht.len]; simp,fun q hq e2=>?_,fun q hq e2=>?_,ht.cons⟩
  ·rw [List.length_set] at hq;rw [BH] at e2
   split at e2
   ·omega
   ·exact ht.new q hq e2
  ·rw [List.length_set] at hq;rw [BH] at e2 ⊢
   split
   ·rename_i e3; rw [← e3.1]; exact aO
   ·rename_i e3; rw [if_neg e3] at e2; exact ht.Jr q hq e2
theorem NI.gv {rs : List Lk} {i k : Nat} {e : Int} {p' N : List Int} (hp : GU A4 p) (h : NI A4 ls p i e rs k p' N) : GU A4 p':=⟨by rw [h.len]; exact hp.1,fun q hq=>h.part q (by rw [← h.len]; exact hq)⟩
theorem NI.step {rs : List Lk} {i k : Nat} {e : Int} {p' N p2 N2 : List Int} (hp : GU A4 p) (hi : i<p.length) (h : NI A4 ls p i e rs k p' N) (hk : k<rs.length) (hr : (rs.getD k default).j.toNat<p.length) (he : e≠-1) (hjn : 0≤(rs.getD k default).j)
  (q : JO A4 ls p' (rs.getD k default).j.toNat (ix (rs.getD k default).left e) p2 N2 true) (hjs : ∀ j,j<rs.length→0≤(rs.getD j default).j∧(rs.getD j default).j.toNat<p.length∧0≤ix (rs.getD j default).left e)
  (hm : ∀ j,j<rs.length→rs.getD j default∈ls∧(rs.getD j default).i=i) (Hp : Ju A4 ls) : NI A4 ls p i e rs (k+1) p2 (N++N2):=by
 obtain ⟨y1,y2,y3⟩:=q.yes rfl
 have Q1 : p2.length=p.length:=by rw [q.len,h.len]
 have B6 : ∀ r,r<p.length→p'.getD r default≠-1→p2.getD r default=p'.getD r default:=fun r hr Bp=>q.ext r (by rw [h.len]; exact hr) Bp;refine ⟨Q1,fun r hr Bp=>?_,fun r hr=>q.part r (by rw [h.len]; exact hr),fun y=>?_, ?_,fun y hy Bp l hl e2=>?_,fun j hj VW=>?_,fun t ht aO=>?_⟩
 ·have:=h.ext r hr Bp; rw [B6 r hr (by rw [this]; exact Bp),this]
 ·rw [List.mem_append,h.new,q.new,h.len]
  constructor
  ·rintro (⟨h1,h2,h3,h4⟩ | ⟨h1,h2,h3,h4⟩)
   ·exact ⟨h1,h2,h3,by rw [B6 _ h2 h4]; exact h4⟩
   ·refine ⟨h1,h2, ?_,h4⟩;apply Classical.byContradiction; intro hn;rw [h.ext _ h2 hn] at h3; exact hn h3
  ·rintro ⟨h1,h2,h3,h4⟩
   by_cases e2 : p'.getD y.toNat default=-1
   ·exact .inr ⟨h1,h2,e2,h4⟩
   ·exact .inl ⟨h1,h2,h3,e2⟩
 ·rw [B6 i hi (by rw [h.own]; exact he),h.own]
 ·rcases List.mem_append.mp hy with hy | hy
  ·have hn:=(h.new y).mp hy
   have h1:=h.cl y hy Bp l hl e2
   have nY : ix p2 y=ix p' y:=B6 _ hn.2.1 hn.2.2.2
   have b:=Hp.ok.j l hl
   have mF : ix p2 l.j=ix p' l.j:=by
    refine B6 _ (by rw [hp.1]; exact b.2) ?_
    have a:=Hp.ok.left l hl
    have Eo : ix p' y<ix A4 l.i:=by
     rcases h.part _ hn.2.1 with e3 | e3
     ·exact absurd e3 hn.2.2.2
     ·rw [e2]; exact e3.2
    have h0 : 0≤ix p' y:=by
     rcases h.part _ hn.2.1 with e3 | e3
     ·exact absurd e3 hn.2.2.2
     ·exact e3.1
    have:=Hp.lf l hl _ (Bh (i:=ix p' y) (l:=l.left) (by omega));rw [← h1] at this;simp only [ix] at this; omega
   rw [mF,nY]; exact h1
  ·exact y2 y hy l hl e2
 ·by_cases e2 : j=k
  ·subst e2; exact y1
  ·have h1:=h.kg j (by omega) VW
   have hb:=hjs j VW
   have : p'.getD (rs.getD j default).j.toNat default≠-1:=by
    simp only [ix] at h1; rw [h1]
    have:=hb.2.2;simp only [ix] at this; omega
   have Hm:=B6 _ hb.2.1 this;simp only [ix] at h1 ⊢;rw [Hm]; exact h1
 ·refine y3 t (h.ex t ht aO) ?_
  have h1:=ht.link Hp hp (hm k hk).1;rw [(hm k hk).2,AH,aO] at h1;exact h1
theorem NI.fail {rs : List Lk} {i k : Nat} {e : Int} {p' N p2 N2 : List Int} (hp : GU A4 p) (hi : i<p.length) (h0 : p.getD i default=-1) (h : NI A4 ls p i e rs k p' N) (hk : k<rs.length)
  (q : JO A4 ls p' (rs.getD k default).j.toNat (ix (rs.getD k default).left e) p2 N2 false) (he : e≠-1)
  (hm : ∀ j,j<rs.length→rs.getD j default∈ls∧(rs.getD j default).i=i) (Hp : Ju A4 ls) : JO A4 ls p i e p2 (N++N2) false:=by
 have B6 : ∀ r,r<p.length→p'.getD r default≠-1→p2.getD r default=p'.getD r default:=fun r hr Bp=>q.ext r (by rw [h.len]; exact hr) Bp;refine ⟨by rw [q.len,h.len],fun r hr Bp=>?_,fun r hr=>q.part r (by rw [h.len]; exact hr),fun y=>?_,fun e=>(by cases e),fun _ t ht aO=>?_⟩
 ·have:=h.ext r hr Bp; rw [B6 r hr (by rw [this]; exact Bp),this]
 ·rw [List.mem_append,h.new,q.new,h.len]
  constructor
  ·rintro (⟨h1,h2,h3,h4⟩ | ⟨h1,h2,h3,h4⟩)
   ·exact ⟨h1,h2,h3,by rw [B6 _ h2 h4]; exact h4⟩
   ·refine ⟨h1,h2, ?_,h4⟩;apply Classical.byContradiction; intro hn;rw [h.ext _ h2 hn] at h3; exact hn h3
  ·rintro ⟨h1,h2,h3,h4⟩
   by_cases e2 : p'.getD y.toNat default=-1
   ·exact .inr ⟨h1,h2,e2,h4⟩
   ·exact .inl ⟨h1,h2,h3,e2⟩
 ·refine q.no rfl t (h.ex t ht aO) ?_
  have h1:=ht.link Hp hp (hm k hk).1;rw [(hm k hk).2,AH,aO] at h1;exact h1
theorem NI.done {rs : List Lk} {i k : Nat} {e : Int} {p' N : List Int} (h : NI A4 ls p i e rs k p' N) (hk : rs.length≤k)
  (Ak : ∀ l,l∈ls→l.i=i→l∈rs) : JO A4 ls p i e p' N true:=by
 refine ⟨h.len,h.ext,h.part,h.new,fun _=>⟨h.own,fun y hy l hl e2=>?_,h.ex⟩,fun e=>(by cases e)⟩
 by_cases nY : y=i
 ·subst nY
  obtain ⟨j,hj,rfl⟩:=AE.mp (Ak l hl e2);rw [h.kg j (by omega) hj,AH,h.own]
 ·exact h.cl y hy nY l hl e2
theorem KP.set (Hp : Ju A4 ls) (hp : GU A4 p) (hc : KP ls p) {i : Nat} {e : Int} {p' N : List Int} (q : JO A4 ls p i e p' N true) : KP ls p':=by
 intro l hl h0
 have a:=Hp.ok.i l hl
 have b:=Hp.ok.j l hl
 by_cases e2 : p.getD l.i.toNat default=-1
 ·exact (q.yes rfl).2.1 l.i ((q.new _).mpr ⟨a.1,by rw [hp.1]; exact a.2,e2,by simp only [ix] at h0; omega⟩) l hl rfl
 ·have h1 : ix p' l.i=ix p l.i:=q.ext _ (by rw [hp.1]; exact a.2) e2
  have h2:=hc l hl (by rw [← h1]; exact h0)
  have h3 : ix p' l.j=ix p l.j:=by
   refine q.ext _ (by rw [hp.1]; exact b.2) ?_
   have Ii:=Hp.ok.left l hl
   have hr : ix p l.i<ix A4 l.i:=by
    rcases hp.2 l.i.toNat (by rw [hp.1]; exact a.2) with e3 | e3
    ·exact absurd e3 e2
    ·exact e3.2
   rw [h1] at h0
   have:=Hp.lf l hl _ (Bh (i:=ix p l.i) (l:=l.left) (by omega));rw [← h2] at this;simp only [ix] at this; omega
  rw [h1,h3]; exact h2
theorem JO.ext_iff {i : Nat} {e : Int} {p' N : List Int} (hi : i<p.length) (h0 : p.getD i default=-1) (he : 0≤e∧e<A4.getD i default) (q : JO A4 ls p i e p' N true) (t : List Int) : Ext A4 ls (p.set i e) t↔Ext A4 ls p' t:=by
 constructor
 ·intro h
  have:=h.Pq h0 he hi;exact (q.yes rfl).2.2 t this.1 this.2
 ·intro h;refine ⟨by rw [h.len,q.len]; simp,fun r hr e2=>?_,fun r hr e2=>?_,h.cons⟩
  ·rw [List.length_set] at hr;rw [BH] at e2
   split at e2
   ·omega
   ·by_cases e3 : p'.getD r default=-1
    ·exact h.new r (by rw [q.len]; exact hr) e3
    ·rw [h.Jr r (by rw [q.len]; exact hr) e3]
     rcases q.part r hr with e4 | e4
     ·exact absurd e4 e3
     ·exact e4
  ·rw [List.length_set] at hr;rw [BH] at e2 ⊢
   split
   ·rename_i e3
    rw [← e3.1,h.Jr i (by rw [q.len]; exact hi) (by rw [(q.yes rfl).1]; omega),(q.yes rfl).1]
   ·rename_i e3
    rw [if_neg e3] at e2;rw [h.Jr r (by rw [q.len]; exact hr) (by rw [q.ext r hr e2]; exact e2),q.ext r hr e2]
theorem JO.none {i : Nat} {e : Int} {p' N : List Int} (hi : i<p.length) (h0 : p.getD i default=-1) (he : 0≤e∧e<A4.getD i default) (q : JO A4 ls p i e p' N false) : H7 A4 ls (p.set i e)=[] :=
 GP (LG fun t h=>by
  have:=h.Pq h0 he hi;exact q.no rfl t this.1 this.2)
theorem ZY {q : List Int} (h : ∀ t,Ext A4 ls p t↔Ext A4 ls q t) : H7 A4 ls p=H7 A4 ls q:=by
 have : Ext A4 ls p=Ext A4 ls q:=funext fun t=>propext (h t)
 by_cases he : ∃ L,Dr (Ext A4 ls p) L
 ·obtain ⟨L,hL⟩:=he;rw [GP hL,GP (this ▸ hL)]
 ·rw [H7,dif_neg he,H7,dif_neg (by rw [← this]; exact he)]
theorem Vo {S T : List Int→Prop} {L : List (List Int)} (h : Dr S L) (hs : ∀ t,T t→S t) : ∃ M,Dr T M:=by
 classical
 refine ⟨L.filter fun t=>decide (T t),h.N9.filter _,fun t=>?_⟩;rw [List.mem_filter,decide_eq_true_eq,h.mem];exact ⟨fun e=>e.2,fun e=>⟨hs t e,e⟩⟩
theorem lR (Hp : Ju A4 ls) (hp : GU A4 p) (hc : KP ls p) {n : Nat} (hn : n<p.length) (h1 : p.getD n default=-1) (hf : ∀ m,m<n→p.getD m default≠-1) :
  H7 A4 ls p=((List.range (A4.getD n default).toNat).map Int.ofNat).flatMap fun e=>H7 A4 ls (p.set n e):=by
 have nU:=hc.cons Hp hp
 have ur:=SY Hp.ok hp.part nU
 have hex : ∀ e : Int,0≤e∧e<A4.getD n default→Dr (Ext A4 ls (p.set n e)) (H7 A4 ls (p.set n e)):=by
  intro e he
  obtain ⟨M,hM⟩:=Vo ur (T:=Ext A4 ls (p.set n e)) fun t ht=>(ht.Pq h1 he hn).1;rw [GP hM]; exact hM
 rw [Uo Hp.ok hp.part nU hn h1 hf,Bq,Eu]
 generalize hN : (A4.getD n default).toNat=N at *
 have key : ∀ k,k≤N→(((List.range k).filter (cY ls p n)).map Int.ofNat).flatMap (fun e=>H7 A4 ls (p.set n e))=((List.range k).map Int.ofNat).flatMap fun e=>H7 A4 ls (p.set n e):=by
  intro k
  induction k with
  | zero=>intro _; rfl
  | succ k ih =>
   intro hk;rw [BF,List.map_append,List.flatMap_append,ih (by omega),List.range_succ,List.map_append,List.flatMap_append]
   congr 1
   by_cases rW : cY ls p n k=true
   ·rw [if_pos rW]
   ·rw [if_neg rW];simp only [List.map_nil,List.flatMap_nil,List.map_cons,List.flatMap_cons,List.append_nil]
    have he : (0 : Int)≤(k : Int)∧(k : Int)<A4.getD n default:=by omega
    symm
    refine GP (LG fun t ht=>rW ?_)
    have h2:=ht.Pq h1 he hn
    have h3:=h2.1.choice Hp.ok hp.1 hn h1;rw [h2.2] at h3;rw [cY,Fx]; exact h3.2.1
 exact key N (Nat.le_refl _)
end
end Go.Shf
namespace Go.Shf
open Go.AW
def HS (p N : List Int) (k : Nat) : List Int:=(List.range p.length).map fun r : Nat=>if (r : Int)∈N.take k then -1 else p.getD r default
theorem Tx (p N : List Int) (k : Nat) : (HS p N k).length=p.length:=by simp [HS]
theorem Yp (p N : List Int) : HS p N 0=p:=by
 apply List.ext_getElem (by simp [HS])
 intro i h1 h2
 simp [HS,gE,h2]
theorem Zy (p N : List Int) {k : Nat} (hk : k<N.length) (h0 : 0≤N.getD k default) : HS p N (k+1)=(HS p N k).set (N.getD k default).toNat (-1):=by
 apply List.ext_getElem (by simp [HS])
 intro i h1 h2
 have hN : N[k]=N.getD k default:=by simp [gE,hk]
 have ht : N.take (k+1)=N.take k++[N.getD k default]:=by rw [← hN]; exact (List.take_append_getElem hk).symm
 simp only [HS,List.getElem_map,List.getElem_range,List.getElem_set,ht,List.mem_append,List.mem_singleton]
 by_cases e : (N.getD k default).toNat=i
 ·rw [if_pos (by right; omega),if_pos e]
 ·rw [if_neg e]
  have : ¬ (i : Int)=N.getD k default:=by omega
  simp only [this,or_false]
theorem JO.qZ {A4 : List Int} {ls : List Lk} {p p' N : List Int} {i : Nat} {e : Int} {ok : Bool} (q : JO A4 ls p i e p' N ok) : HS p' N N.length=p:=by
 apply List.ext_getElem (by rw [Tx,q.len])
 intro r h1 h2;simp only [HS,List.getElem_map,List.getElem_range,List.take_length]
 have hr : p[r]=p.getD r default:=by simp [gE,h2]
 rw [hr]
 have:=q.new r;simp only [Int.toNat_natCast] at this
 split
 ·rename_i h
  exact (this.mp h).2.2.1.symm
 ·rename_i h
  by_cases e2 : p.getD r default=-1
  ·rw [e2];apply Classical.byContradiction; intro hn;exact h (this.mpr ⟨by omega,h2,e2,hn⟩)
  ·exact q.ext r h2 e2
theorem cT {A4 : List Int} {ls : List Lk} {p p' N : List Int} {i : Nat} {e : Int} (q : JO A4 ls p i e p' N true) (hi : i<p.length) (h0 : p.getD i default=-1) (he : 0≤e) (h : N.length+DY p'≤DY p) : DY p'<DY p:=by
 have : (i : Int)∈N:=(q.new i).mpr ⟨by omega,by simpa using hi,by simpa using h0,by rw [Int.toNat_natCast,(q.yes rfl).1]; omega⟩
 have:=List.length_pos_of_mem this;omega
noncomputable def CI (A4 : List Int) (ls : List Lk) (p : List Int) (n k : Nat) : List (List Int):=((List.range k).map Int.ofNat).flatMap fun e=>H7 A4 ls (p.set n e)
theorem Mw (A4 : List Int) (ls : List Lk) (p : List Int) (n : Nat) : CI A4 ls p n 0=[]:=rfl
theorem Mn (A4 : List Int) (ls : List Lk) (p : List Int) (n k : Nat) : CI A4 ls p n (k+1)=CI A4 ls p n k++H7 A4 ls (p.set n k):=by
 rw [CI,List.range_succ,List.map_append,List.flatMap_append,CI]
 simp
theorem Wv (A4 : List Int) (ls : List Lk) (p : List Int) (n : Nat) {k m : Nat} (h : k≤m) : ∃ r,CI A4 ls p n m=CI A4 ls p n k++r:=by
 induction m with
 | zero =>
      obtain rfl : k=0:=by omega
      exact ⟨[],by simp⟩
 | succ m ih =>
  by_cases e : k=m+1
  ·subst e; exact ⟨[],by simp⟩
  ·obtain ⟨r,hr⟩:=ih (by omega);exact ⟨r++H7 A4 ls (p.set n m),by rw [Mn,hr,List.append_assoc]⟩
end Go.Shf
namespace Go.Shf
open Go.AW
def DQ (f : SF) (x : Int) (s t : List Int) : Prop:=(glue f x s t).length=1
def La (f : SF) (x : Int) (s : List Int) : Prop:=(C8 f s).length≤16∧∀ t,t∈C8 f s→DQ f x s t
def R2 (f : SF) (x : Int) (s : List Int) : Prop:=(∀ e : Nat,e<(ix f.A4 x).toNat→DQ f x s (CE f s e))∧((C8 f s).length : Int)=ix f.A4 x
section
variable {f : SF} {x : Int} {s t : List Int}
theorem Hc {e : Int} : e∈glue f x s t↔(0≤e∧e<ix f.A4 x)∧CE f s e=t:=by
 rw [glue,It,Mu,decide_eq_true_eq]
 constructor
 ·rintro ⟨h1,h2,h3⟩; rw [Int.toNat_of_nonneg h1] at h3; exact ⟨⟨h1,by omega⟩,h3⟩
 ·rintro ⟨⟨h1,h2⟩,h3⟩; exact ⟨h1,by omega,by rw [Int.toNat_of_nonneg h1]; exact h3⟩
theorem FO : DQ f x s t↔∃ e : Int,((0≤e∧e<ix f.A4 x)∧CE f s e=t)∧∀ e' : Int,0≤e'∧e'<ix f.A4 x→CE f s e'=t→e'=e:=by
 have Hq : (glue f x s t).Nodup:=(DF.mp (Du _ _)).imp fun {a b} h=>by omega
 rw [DQ]
 constructor
 ·intro h
  obtain ⟨e,he⟩:=List.length_eq_one_iff.mp h;refine ⟨e,Hc.mp (by rw [he]; simp),fun e' h1 h2=>?_⟩
  have:=Hc.mpr ⟨h1,h2⟩;rw [he] at this
  simpa using this
 ·rintro ⟨e,h1,h2⟩
  have hm:=Hc.mpr h1
  have h3 : ∀ y,y∈glue f x s t→y=e:=fun y hy=>h2 y (Hc.mp hy).1 (Hc.mp hy).2
  generalize glue f x s t=L at *
  match L,hm,h3,Hq with
  | [a],_,_,_=>rfl
  | a::b::r,_,h3,Hq =>
   have h4:=h3 a (by simp)
   have h5:=h3 b (by simp);simp only [List.nodup_cons,List.mem_cons,not_or] at Hq;exact absurd (h4.trans h5.symm) Hq.1.1
theorem N4 {g : Nat→List Int} {n : Nat} (h : ∀ a b : Nat,a<n→b<n→g a=g b→a=b) : ((List.range n).map g).Nodup:=by
 rw [List.Nodup,List.pairwise_map];refine List.Pairwise.imp_of_mem ?_ List.nodup_range
 intro a b ha hb Bp e;exact Bp (h a b (List.mem_range.mp ha) (List.mem_range.mp hb) e)
theorem Oc (h : f.Shape) (hc : f.DJ) (hs : f.shape.Az x s) (hx : 0≤x∧x<f.shape.AO) : La f x s↔R2 f x s:=by
 have hz:=h.DH hx
 have HH:=C5 h hs
 have s9 : ∀ e : Nat,e<(ix f.A4 x).toNat→CE f s e∈C8 f s:=fun e he=>(HH.mem _).mpr (HY h hc hs ⟨by omega,by omega⟩)
 constructor
 ·rintro ⟨h1,h2⟩
  have hu:=fun (e : Nat) he=>h2 _ (s9 e he);refine ⟨hu, ?_⟩
  have a1 : ((List.range (ix f.A4 x).toNat).map fun e : Nat=>CE f s e).length≤(C8 f s).length:=by
   refine List.Nodup.length_le_of_subset (N4 fun a b ha hb e=>?_) fun t ht=>?_
   ·obtain ⟨e0,_,h4⟩:=FO.mp (hu a ha)
    have q1:=h4 a ⟨by omega,by omega⟩ rfl
    have q2:=h4 b ⟨by omega,by omega⟩ e.symm;omega
   ·obtain ⟨e,he,rfl⟩:=List.mem_map.mp ht;exact s9 e (List.mem_range.mp he)
  have a2 : (C8 f s).length≤((List.range (ix f.A4 x).toNat).map fun e : Nat=>CE f s e).length:=by
   refine List.Nodup.length_le_of_subset HH.nodup fun t ht=>?_
   obtain ⟨e,⟨h4,h5⟩,_⟩:=FO.mp (h2 t ht);exact List.mem_map.mpr ⟨e.toNat,List.mem_range.mpr (by omega),by rw [Int.toNat_of_nonneg h4.1]; exact h5⟩
  simp only [List.length_map,List.length_range] at a1 a2;omega
 ·rintro ⟨h1,h2⟩;refine ⟨by omega,fun t ht=>?_⟩
  have Hq : ((List.range (ix f.A4 x).toNat).map fun e : Nat=>CE f s e).Nodup:=N4 fun a b ha hb e=>by
   obtain ⟨e0,_,h4⟩:=FO.mp (h1 a ha)
   have q1:=h4 a ⟨by omega,by omega⟩ rfl
   have q2:=h4 b ⟨by omega,by omega⟩ e.symm;omega
  have CJ : t∈(List.range (ix f.A4 x).toNat).map fun e : Nat=>CE f s e:=by
   apply Classical.byContradiction; intro hn
   have:=List.Nodup.length_le_of_subset (l₁:=t::(List.range (ix f.A4 x).toNat).map fun e : Nat=>CE f s e) (l₂:=C8 f s) (List.nodup_cons.mpr ⟨hn,Hq⟩) fun u hu=>by
    rcases List.mem_cons.mp hu with rfl | hu
    ·exact ht
    ·obtain ⟨e,he,rfl⟩:=List.mem_map.mp hu;exact s9 e (List.mem_range.mp he)
   simp only [List.length_cons,List.length_map,List.length_range] at this;omega
  obtain ⟨e,he,rfl⟩:=List.mem_map.mp CJ;exact h1 e (List.mem_range.mp he)
end
theorem lT {f : SF} {V : List (List Int)} (h : f.Shape) (hc : f.DJ) (v : Ba f.shape V) (hg : ∀ x : Int,0≤x∧x<f.shape.AO→La f x (ix V x)) {x : Int} (hx : 0≤x∧x<f.shape.AO) {s : List Int} (hs : f.shape.Az x s)
  (Cs : ∀ a,a∈ix V x→a∈s) : La f x s:=by
 have hz:=h.DH hx
 have hv:=v.at hx
 have HH:=C5 h hs
 have Np:=h.al
 have key : ∀ t,t∈C8 f s→DQ f x s t:=by
  intro t ht
  have Q2:=(HH.mem t).mp ht
  have hr : Qc f (ix V x) ((ix V x).map (entry s t)):=Rp h hv _ (fun a ha=>Q2.F7 (Cs a ha)) fun a b ha hb e=>Q2.GR h hs (Cs a ha) hb e
  obtain ⟨e,⟨iU,jJ⟩,he3⟩:=FO.mp ((hg x hx).2 _ (((C5 h hv).mem _).mpr hr))
  have Lq : ∀ a,(0≤a∧a.toNat<f.shape.AJ.length)→ix f.shape.AJ a=x→0≤ix (ix f.AU a) e∧ix (ix f.AU a) e<ix f.A4 (ix f.shape.to a):=fun a ha Q5=>by
   have h1:=h.Cw ha.2;rw [Q5] at h1;exact (h.act a.toNat (by omega)).2 _ (Bh (l:=ix f.AU a) (by omega))
  refine FO.mpr ⟨e,⟨iU, ?_⟩,fun e' h1 h2=>he3 e' h1 ?_⟩
  ·refine JV (s:=s) hs.nodup (by simp [CE]) Q2.len fun a ha=>?_
   have N7:=hs.arr ha;rw [CE,E0 ha]
   have DS:=h.is.1.Cb N7.1.2
   have hvy:=v.at DS
   have r1:=Lq a N7.1 N7.2
   have r2:=Q2.F7 ha
   have YY : CE f (ix V (ix f.shape.to a)) (ix (ix f.AU a) e)=CE f (ix V (ix f.shape.to a)) (entry s t a):=by
    rw [CE,CE];refine List.map_congr_left fun b hb=>?_
    have QC:=hvy.arr hb
    have HL : ix (ix f.shape.comp a) b∈ix V x:=by
     have:=v.st a N7.1 b hb;rw [N7.2] at this; exact this
    have h1:=h.Cw N7.1.2;rw [N7.2] at h1
    have c1:=hc a b N7.1 QC.1 QC.2.symm e ⟨iU.1,by omega⟩
    have c2:=Q2.GR h hs ha QC.1 QC.2.symm;rw [c2,← c1]
    have c3 : entry (ix V x) (CE f (ix V x) e) (ix (ix f.shape.comp a) b)=entry (ix V x) ((ix V x).map (entry s t)) (ix (ix f.shape.comp a) b):=by rw [jJ]
    rw [CE,E0 HL,E0 HL] at c3;exact c3
   have IW:=HY h hc hvy r2
   obtain ⟨e0,_,q⟩:=FO.mp ((hg _ DS).2 _ (((C5 h hvy).mem _).mpr IW));exact (q _ r1 YY).trans (q _ r2 rfl).symm
  ·rw [← h2,CE,CE];exact List.map_congr_left fun a ha=>(E0 (g:=fun a=>ix (ix f.AU a) e') (Cs a ha)).symm
 refine ⟨?_,key⟩
 have:=List.Nodup.length_le_of_subset (l₂:=(List.range (ix f.A4 x).toNat).map fun e : Nat=>CE f s e) HH.nodup fun t ht=>by
  obtain ⟨e,⟨h4,h5⟩,_⟩:=FO.mp (key t ht);exact List.mem_map.mpr ⟨e.toNat,List.mem_range.mpr (by omega),by rw [Int.toNat_of_nonneg h4.1]; exact h5⟩
 simp only [List.length_map,List.length_range] at this;omega
theorem Zn {c : Ay} {C : List (List (List Int))} (hc : c.Is) (hl : (C.length : Int)=c.AO) (hs : ∀ x : Nat,x<C.length→∀ s,s∈C.getD x default→c.Az x s) (t : Ia c C) {x : Nat} (hx : x<C.length) : EI c C x∈C.getD x default:=by
 have bA : x<c.AO.toNat:=by omega
 have ho:=II hc.1 (x:=(x : Int))
 suffices key : ∀ R : List (List Int),(∀ s,s∈R→s∈C.getD x default)→c.Az x ((outs c x).filter (E4 R))∧(outs c x).filter (E4 R)∈C.getD x default from (key _ fun s h=>h).2
 intro R
 have mem : ∀ (R : List (List Int)) (a : Int),a∈(outs c x).filter (E4 R)↔a∈outs c x∧∀ s,s∈R→a∈s:=fun R a=>by rw [List.mem_filter,E4,decide_eq_true_eq]
 induction R with
 | nil =>
  intro _
  have e : (outs c x).filter (E4 [])=outs c x:=List.filter_eq_self.mpr fun a _=>by simp [E4]
  rw [e];exact ⟨ho,t.top x bA⟩
 | cons s R ih =>
  intro hR
  obtain ⟨i1,i2⟩:=ih fun u hu=>hR u (by simp [hu])
  have hsC:=hR s (by simp)
  have gG:=hs x hx s hsC
  have EZ : c.Az x ((outs c x).filter (E4 (s::R))):=by
   refine .mk' ?_ (fun a ha=>ho.arr ((mem _ a).mp ha).1) fun a b ha hb e=>?_
   ·have:=DF.mp ho.jL;rw [DF];exact this.filter _
   ·have:=(mem _ a).mp ha;refine (mem _ _).mpr ⟨ho.QZ this.1 hb e,fun u hu=>?_⟩
    rcases List.mem_cons.mp hu with rfl | Lx
    ·exact gG.QZ (this.2 _ (by simp)) hb e
    ·exact (hs x hx u (hR u hu)).QZ (this.2 u hu) hb e
  refine ⟨EZ,t.loc x bA _ i2 _ EZ fun a ha=>?_⟩
  have N7:=i1.arr ha
  have hp:=t.pull a.toNat N7.1.2 s (by
   have e : c.AJ.getD a.toNat default=x:=N7.2;rw [e]; simpa using hsC)
  rw [Int.toNat_of_nonneg N7.1.1] at hp
  have e2 : Dc c a ((outs c x).filter (E4 (s::R)))=Dc c a s:=by
   refine Ay.Az.ext (c:=c) (x:=ix c.to a) (HA hc N7.1 (by rw [N7.2]; exact EZ)) (HA hc N7.1 (by rw [N7.2]; exact gG)) fun b=>?_;rw [FB,FB];refine and_congr_right fun hb=>and_congr_right fun HL=>?_;rw [mem]
   constructor
   ·exact fun h=>h.2 s (by simp)
   ·intro h
    have hm:=(mem R a).mp ha;refine ⟨ho.QZ hm.1 hb HL,fun u hu=>?_⟩
    rcases List.mem_cons.mp hu with rfl | Lx
    ·exact h
    ·exact (hs x hx u (hR u hu)).QZ (hm.2 u Lx) hb HL
  rw [e2];exact hp
def cH (f : SF) (C : List (List (List Int))) : Prop:=∀ x : Nat,x<C.length→∀ s,s∈C.getD x default→La f x s
def BL (f : SF) (V : List (List Int)) : Prop:=∀ x : Nat,x<V.length→R2 f x (V.getD x default)
theorem ZH {f : SF} {C : List (List (List Int))} (h : f.Shape) (hc : f.DJ) (hl : (C.length : Int)=f.shape.AO) (hs : ∀ x : Nat,x<C.length→∀ s,s∈C.getD x default→f.shape.Az x s) (t : Ia f.shape C) :
  cH f C↔BL f (Aq f.shape C):=by
 have v:=MT h.is hl hs t
 have Qi : (Aq f.shape C).length=C.length:=by simp [Aq]
 have e : ∀ x : Nat,x<C.length→(Aq f.shape C).getD x default=EI f.shape C x:=fun x hx=>by rw [Aq,AX _ _ hx]
 constructor
 ·intro q x hx;rw [Qi] at hx
  have EZ:=v.sv x (by omega);refine (Oc h hc EZ ⟨by omega,by omega⟩).mp ?_;rw [e x hx];exact q x hx _ (Zn h.is hl hs t hx)
 ·intro q x hx s Kk;refine lT h hc v (fun y hy=>?_) (x:=(x : Int)) ⟨by omega,by omega⟩ (hs x hx s Kk) fun a ha=>?_
  ·have:=q y.toNat (by omega)
   have EZ:=v.at hy;refine (Oc h hc EZ hy).mpr ?_;rw [Int.toNat_of_nonneg hy.1] at this;exact this
  ·rw [R4 (by simpa using hx)] at ha;exact (HQ.mp ha).2 s (by simpa using Kk)
end Go.Shf
namespace Go.Shf
open Go.AW
structure D5 (f g : SF) (p : List (List Int)) : Prop where
 len : (p.length : Int)=f.shape.AO
 pl : ∀ x : Int,0≤x∧x<f.shape.AO→((ix p x).length : Int)=ix f.A4 x∧∀ e : Int,0≤e∧e<ix f.A4 x→0≤ix (ix p x) e∧ix (ix p x) e<ix g.A4 x
 nl : ∀ b : Int,0≤b∧b.toNat<f.shape.AJ.length→∀ e : Int,0≤e∧e<ix f.A4 (ix f.shape.AJ b)→ix (ix p (ix f.shape.to b)) (ix (ix f.AU b) e)=ix (ix g.AU b) (ix (ix p (ix f.shape.AJ b)) e)
def EN (c : Ay) (p : List (List Int)) (s t : List Int) : List Int:=(List.range s.length).map fun k=>ix (ix p (ix c.to (s.getD k default))) (t.getD k default)
theorem eM (c : Ay) (p : List (List Int)) (s t : List Int) : (EN c p s t).length=s.length:=by simp [EN]
theorem Jj {c : Ay} {p : List (List Int)} {s t : List Int} (Hq : s.Nodup) : EN c p s t=s.map fun a=>ix (ix p (ix c.to a)) (entry s t a):=by
 refine List.ext_getElem (by simp [EN]) fun i h1 h2=>?_
 have hi : i<s.length:=by simpa [EN] using h1
 have:=Bk Hq hi
 have e : s.getD i default=s[i]:=by simp [gE,hi]
 simp only [EN,List.getElem_map,List.getElem_range,entry];rw [e] at this ⊢;rw [this,AH]
section
variable {f g : SF} {p : List (List Int)} {V : List (List Int)}
theorem Kz (h : f.Shape) (hg : g.Shape) (e : f.shape=g.shape) (m : D5 f g p) {x : Int} {s t : List Int} (hs : f.shape.Az x s) (ht : Qc f s t) : Qc g s (EN f.shape p s t):=by
 rw [Jj hs.nodup]
 have Hl:=hs;rw [e] at Hl;refine Rp hg Hl _ (fun a ha=>?_) fun a b ha hb HL=>?_
 ·have hv:=hs.arr ha
  have:=(m.pl _ (h.is.1.Cb hv.1.2)).2 _ (ht.F7 ha);rw [← e]; exact this
 ·rw [← e] at hb HL
  have hv:=hs.arr ha
  have hr:=ht.F7 ha;rw [HL] at hr
  have h1:=m.nl b hb _ hr;rw [ht.GR h hs ha hb HL] at h1;rw [← e,HL,← h1,(h.is.1.comp hv.1 hb HL).2.2]
theorem Vs (h : f.Shape) (v : Ba f.shape V) {b : Int} (hb : 0≤b∧b.toNat<f.shape.AJ.length) (t : List Int) :
  EN f.shape p (ix V (ix f.shape.to b)) (Bz f.shape V b t)=Bz f.shape V b (EN f.shape p (ix V (ix f.shape.AJ b)) t):=by
 have HM:=v.to h.is hb
 have vi:=v.AJ h.is hb;refine JV (s:=ix V (ix f.shape.to b)) HM.nodup (eM ..) (by rw [Bz,List.length_map]) fun d hd=>?_
 have Yb:=HM.arr hd
 have T9:=v.st b hb d hd;rw [Jj HM.nodup,Jj vi.nodup,E0 hd,DP hd,DP hd,E0 T9,(h.is.1.comp hb Yb.1 Yb.2.symm).2.2]
end
end Go.Shf
namespace Go.Shf
open Go.AW
def gl (f : SF) (x : Int) (s t : List Int) : Int:=ix (glue f x s t) 0
theorem Lh {f : SF} {x : Int} {s t : List Int} (h : DQ f x s t) : ((0≤gl f x s t∧gl f x s t<ix f.A4 x)∧CE f s (gl f x s t)=t)∧∀ e : Int,0≤e∧e<ix f.A4 x→CE f s e=t→e=gl f x s t:=by
 have h1:=h;rw [DQ] at h1
 have hm : gl f x s t∈glue f x s t:=Bh (l:=glue f x s t) (i:=0) (by simp; omega)
 have h2:=Hc.mp hm;refine ⟨h2,fun e he hi=>?_⟩
 obtain ⟨e0,_,q⟩:=FO.mp h;exact (q e he hi).trans (q _ h2.1 h2.2).symm
noncomputable def EL (f g : SF) (V : List (List Int)) (p : List (List Int)) (x : Nat) : List Int:=(B2 f V x).map fun t=>gl g x (V.getD x default) (EN f.shape p (V.getD x default) t)
noncomputable def Cm (f g : SF) (V : List (List Int)) (p : List (List Int)) : List (List Int):=(List.range V.length).map (EL f g V p)
section
variable {f g : SF} {p : List (List Int)} {V : List (List Int)}
theorem GC (hg : g.Shape) (hc : g.DJ) (v : Ba g.shape V) (hs : BL g V) {x : Int} (hx : 0≤x∧x<g.shape.AO) {t : List Int} (ht : Qc g (ix V x) t) : DQ g x (ix V x) t:=by
 have hl:=v.len
 have h1:=hs x.toNat (by omega);rw [Int.toNat_of_nonneg hx.1] at h1;exact ((Oc hg hc (v.at hx) hx).mpr h1).2 t (((C5 hg (v.at hx)).mem _).mpr ht)
theorem ED (h : f.Shape) (hg : g.Shape) (hc : g.DJ) (e : f.shape=g.shape) (m : D5 f g p) (v : Ba f.shape V) (hs : BL g V) : D5 (AS f V) g (Cm f g V p):=by
 have hl:=v.len
 have v':=v;rw [e] at v'
 have IW : ∀ x : Int,0≤x∧x<f.shape.AO→∀ t,t∈C8 f (ix V x)→Qc g (ix V x) (EN f.shape p (ix V x) t):=fun x hx t ht=>Kz h hg e m (v.at hx) (((C5 h (v.at hx)).mem _).mp ht)
 have wH : ∀ x : Int,0≤x∧x<f.shape.AO→∀ t,t∈C8 f (ix V x)→DQ g x (ix V x) (EN f.shape p (ix V x) t):=fun x hx t ht=>GC hg hc v' hs (by rw [← e]; exact hx) (IW x hx t ht)
 have Hs : ∀ x : Int,0≤x∧x<f.shape.AO→ix (Cm f g V p) x=(C8 f (ix V x)).map fun t=>gl g x (ix V x) (EN f.shape p (ix V x) t):=fun x hx=>by
  rw [ix,Cm,AX _ _ (by omega)]
  show (B2 f V x.toNat).map _=_
  rw [Int.toNat_of_nonneg hx.1]; rfl
 refine ⟨by show ((Cm f g V p).length : Int)=_; simp [Cm]; exact hl,fun x hx=>?_,fun b hb k hk=>?_⟩
 ·replace hx : 0≤x∧x<f.shape.AO:=hx;refine ⟨?_,fun k hk=>?_⟩
  ·show ((ix (Cm f g V p) x).length : Int)=ix (BM f V) x
   rw [Hs x hx,CL v hx,List.length_map]
  ·replace hk : 0≤k∧k<ix (BM f V) x:=hk;rw [CL v hx] at hk;rw [Hs x hx,ix,BB _ (by omega)];exact (Lh (wH x hx _ (Bh (l:=C8 f (ix V x)) (i:=k) (by omega)))).1.1
 ·replace hb : 0≤b∧b.toNat<f.shape.AJ.length:=hb
  have JP:=h.is.1.Cn hb.2
  have DS:=h.is.1.Cb hb.2
  replace hk : 0≤k∧k<ix (BM f V) (ix f.shape.AJ b):=hk;rw [CL v JP] at hk
  show ix (ix (Cm f g V p) (ix f.shape.to b)) (ix (ix (BZ f V) b) k)=ix (ix g.AU b) (ix (ix (Cm f g V p) (ix f.shape.AJ b)) k)
  have sO:=Bh (l:=C8 f (ix V (ix f.shape.AJ b))) (i:=k) (by omega)
  have s1:=GN h v hb (k:=k) (by omega)
  have i1:=BD s1.2
  have e1 : ix (ix (Cm f g V p) (ix f.shape.AJ b)) k=gl g (ix f.shape.AJ b) (ix V (ix f.shape.AJ b)) (EN f.shape p (ix V (ix f.shape.AJ b)) (ix (C8 f (ix V (ix f.shape.AJ b))) k)):=by
   rw [Hs _ JP,ix,BB _ (by omega)]; rfl
  have e3 : (C8 f (ix V (ix f.shape.to b))).getD (indexOf (C8 f (ix V (ix f.shape.to b))) (Bz f.shape V b (ix (C8 f (ix V (ix f.shape.AJ b))) k))).toNat default=Bz f.shape V b (ix (C8 f (ix V (ix f.shape.AJ b))) k):=i1.2.2;rw [e1,s1.1,Hs _ DS,ix,BB _ i1.2.1,e3]
  have u1:=Lh (wH _ JP _ sO)
  have u2:=Lh (wH _ DS _ s1.2)
  generalize ht : ix (C8 f (ix V (ix f.shape.AJ b))) k=t at *
  generalize gl g (ix f.shape.AJ b) (ix V (ix f.shape.AJ b)) (EN f.shape p (ix V (ix f.shape.AJ b)) t)=y at *
  have hgb : 0≤b∧b.toNat<g.shape.AJ.length:=by rw [← e]; exact hb
  have Np:=hg.al
  have hlen:=hg.Cw (a:=b) (by omega);rw [← e] at hlen;refine (u2.2 _ ?_ ?_).symm
  ·have:=(hg.act b.toNat (by omega)).2 _ (Bh (l:=ix g.AU b) (i:=y) (by omega));rw [← e] at this;exact this
  ·rw [Vs h v hb]
   have HM:=v.to h.is hb
   have vi:=v.AJ h.is hb;rw [CE,Bz];refine List.map_congr_left fun d hd=>?_
   have Yb:=HM.arr hd
   have T9:=v.st b hb d hd
   have Md:=hc b d hgb (by rw [← e]; exact Yb.1) (by rw [← e]; exact Yb.2.symm) y ⟨u1.1.1.1,by omega⟩;rw [← e] at Md;rw [← Md]
   have:=u1.1.2
   have c3 : entry (ix V (ix f.shape.AJ b)) (CE g (ix V (ix f.shape.AJ b)) y) (ix (ix f.shape.comp b) d)=entry (ix V (ix f.shape.AJ b)) (EN f.shape p (ix V (ix f.shape.AJ b)) t) (ix (ix f.shape.comp b) d):=by rw [this]
   rw [CE,E0 T9] at c3;exact c3
end
end Go.Shf
namespace Go.Shf
open Go.AW
section
variable {f : SF} {V : List (List Int)}
theorem Sb (h : f.Shape) (v : Ba f.shape V) {x : Int} (hx : 0≤x∧x<f.shape.AO) {k : Int} (hk : 0≤k∧k.toNat<(C8 f (ix V x)).length) : Qc f (ix V x) (ix (C8 f (ix V x)) k)∧indexOf (C8 f (ix V x)) (ix (C8 f (ix V x)) k)=k:=by
 have hf:=C5 h (v.at hx);refine ⟨(hf.mem _).mp (Bh hk.2), ?_⟩
 have:=Bk hf.nodup hk.2;rw [Int.toNat_of_nonneg hk.1] at this;exact this
theorem j9 (h : f.Shape) (v : Ba f.shape V) {x : Int} (hx : 0≤x∧x<f.shape.AO) {t : List Int} (ht : Qc f (ix V x) t) : (0≤indexOf (C8 f (ix V x)) t∧(indexOf (C8 f (ix V x)) t).toNat<(C8 f (ix V x)).length)∧ix (C8 f (ix V x)) (indexOf (C8 f (ix V x)) t)=t:=by
 have:=BD (((C5 h (v.at hx)).mem _).mpr ht);exact ⟨⟨this.1,this.2.1⟩,this.2.2⟩
theorem GI {s : List Int} {e a : Int} (ha : a∈s) : entry s (CE f s e) a=ix (ix f.AU a) e:=E0 ha
theorem YD (h : f.Shape) {x a e : Int} (ha : 0≤a∧a.toNat<f.shape.AJ.length) (hx : ix f.shape.AJ a=x) (he : 0≤e∧e<ix f.A4 x) : 0≤ix (ix f.AU a) e∧ix (ix f.AU a) e<ix f.A4 (ix f.shape.to a):=by
 have Np:=h.al
 have h1:=h.Cw ha.2;rw [hx] at h1;exact (h.act a.toNat (by omega)).2 _ (Bh (l:=ix f.AU a) (by omega))
theorem jY (h : f.Shape) {x a e : Int} (ha : 0≤a∧a.toNat<f.shape.AJ.length) (hx : ix f.shape.AJ a=x) (he : 0≤e∧e<ix f.A4 x) : 0≤e∧e.toNat<(ix f.AU a).length:=by
 have h1:=h.Cw ha.2;rw [hx] at h1;omega
end
end Go.Shf
namespace Go.Shf
open Go.AW
section
variable {f : SF} {L p : List (List (List Int))} {q m : List (List Int)}
theorem SF.Shape.Nq (h : f.Shape) {a e : Int} (ha : 0≤a∧a.toNat<f.shape.AJ.length) (he : 0≤e∧e<ix f.A4 (ix f.shape.AJ a)) : 0≤e∧e.toNat<(ix f.AU a).length:=by
 have:=h.Cw ha.2; omega
theorem SF.Shape.vE (h : f.Shape) {x : Int} (hx : 0≤x∧x<f.shape.AO) : 0≤x∧x.toNat<f.A4.length:=by have:=h.sl; omega
theorem SF.Shape.Xk (h : f.Shape) {a e : Int} (ha : 0≤a∧a.toNat<f.shape.AJ.length) (he : 0≤e∧e<ix f.A4 (ix f.shape.AJ a)) : 0≤ix (ix f.AU a) e∧ix (ix f.AU a) e<ix f.A4 (ix f.shape.to a) :=
 (h.act a.toNat (by rw [h.al]; exact ha.2)).2 _ (Bh (h.Nq ha he).2)
theorem D5.ext {g : SF} {m n : List (List Int)} (hm : D5 f g m) (hn : D5 f g n) (h : ∀ x e : Int,0≤x∧x<f.shape.AO→0≤e∧e<ix f.A4 x→ix (ix m x) e=ix (ix n x) e) : m=n:=by
 have l1:=hm.len
 have l2:=hn.len;refine List.ext_getElem (by omega) fun i h1 h2=>?_
 have hi : 0≤(i : Int)∧(i : Int)<f.shape.AO:=by omega
 have r1:=(hm.pl i hi).1
 have r2:=(hn.pl i hi).1
 have e1 : ix m (i : Int)=m[i]:=by simp [AH,gE,h1]
 have e2 : ix n (i : Int)=n[i]:=by simp [AH,gE,h2]
 rw [e1] at r1;rw [e2] at r2;refine List.ext_getElem (by omega) fun j k1 k2=>?_
 have:=h i j hi (by omega);rw [e1,e2] at this
 simpa [AH,gE,k1,k2] using this
end
end Go.Shf
namespace Go.Shf
open Go.AW
def uE (s t : List (List Int)) : Prop:=∃ x e : Nat,(∀ y i : Nat,(y<x∨(y=x∧i<e))→(s.getD y default).getD i default=(t.getD y default).getD i default) ∧
 (s.getD x default).getD e default<(t.getD x default).getD e default
theorem RJ {s t : List (List Int)} (h : uE s t) (k : uE t s) : False:=by
 obtain ⟨x,e,h1,h2⟩:=h
 obtain ⟨y,i,k1,k2⟩:=k
 by_cases D1 : y<x∨(y=x∧i<e)
 ·have:=h1 y i D1; omega
 ·by_cases hgt : x<y∨(x=y∧e<i)
  ·have:=k1 x e hgt; omega
  ·obtain rfl : x=y:=by omega
   obtain rfl : e=i:=by omega
   omega
def MR (p : List (List Int)) (y i k : Int) : List (List Int):=p.set y.toNat ((ix p y).set i.toNat k)
theorem Pg (p : List (List Int)) (y i k : Int) : (MR p y i k).length=p.length:=by simp [MR]
theorem Nz (p : List (List Int)) (y i k : Int) (x : Nat) : ((MR p y i k).getD x default).length=(p.getD x default).length:=by
 simp only [MR,gE,List.getElem?_set]
 by_cases h : y.toNat=x
 ·subst h
  by_cases h2 : y.toNat<p.length
  ·simp [h2,ix,gE]
  ·simp [h2,List.getElem?_eq_none (Nat.not_lt.mp h2)]
 ·rw [if_neg h]
theorem Nj (p : List (List Int)) {y i k : Int} (hy : 0≤y∧y.toNat<p.length) (hi : 0≤i∧i.toNat<(ix p y).length) {x e : Int} (hx : 0≤x) (he : 0≤e) :
  ix (ix (MR p y i k) x) e=if x=y∧e=i then k else ix (ix p x) e:=by
 simp only [MR,ix,gE,List.getElem?_set]
 by_cases h : y.toNat=x.toNat
 ·have hxy : x=y:=by omega
  subst hxy;simp only [if_true,hy.2,if_true,Option.getD_some]
  have sQ:=hi.2;simp only [ix,gE] at sQ;rw [List.getElem?_set]
  by_cases h2 : i.toNat=e.toNat
  ·have : e=i:=by omega
   subst this
   simp [sQ]
  ·have : ¬ e=i:=fun h=>h2 (by rw [h])
   simp [h2,this]
 ·have : ¬ x=y:=fun e=>h (by rw [e]);rw [if_neg h]
  simp [this]
section
variable {f g : SF}
structure PT (f g : SF) (p : List (List Int)) : Prop where
 len : p.length=f.A4.length
 row : ∀ x : Nat,x<f.A4.length→((p.getD x default).length : Int)=f.A4.getD x default
 val : ∀ x e : Int,0≤x∧x<f.shape.AO→0≤e∧e<ix f.A4 x→ix (ix p x) e=-1∨(0≤ix (ix p x) e∧ix (ix p x) e<ix g.A4 x)
 cls : ∀ a : Int,(0≤a∧a.toNat<f.shape.AJ.length)→∀ e : Int,0≤e∧e<ix f.A4 (ix f.shape.AJ a)→0≤ix (ix p (ix f.shape.AJ a)) e →
  ix (ix p (ix f.shape.to a)) (ix (ix f.AU a) e)=ix (ix g.AU a) (ix (ix p (ix f.shape.AJ a)) e)
theorem PT.ew {p : List (List Int)} (h : f.Shape) (hp : PT f g p) {x e : Int} (hx : 0≤x∧x<f.shape.AO) (he : 0≤e∧e<ix f.A4 x) : (0≤x∧x.toNat<p.length)∧0≤e∧e.toNat<(ix p x).length:=by
 have hX:=h.vE hx
 have:=hp.row x.toNat hX.2
 have e0 : ix f.A4 x=f.A4.getD x.toNat default:=rfl
 have e1 : (ix p x).length=(p.getD x.toNat default).length:=rfl
 have:=hp.len;exact ⟨⟨hx.1,by omega⟩,he.1,by omega⟩
def HR (f g : SF) (p t : List (List Int)) : Prop:=D5 f g t∧∀ x e : Int,0≤x∧x<f.shape.AO→0≤e∧e<ix f.A4 x→0≤ix (ix p x) e→ix (ix t x) e=ix (ix p x) e
structure Dl (f g : SF) (p : List (List Int)) (M : List (List (List Int))) : Prop where
 N9 : M.Pairwise uE
 mem : ∀ t,t∈M↔HR f g p t
theorem Dl.nodup {p : List (List Int)} {M : List (List (List Int))} (h : Dl f g p M) : M.Nodup:=h.N9.imp fun {a b} h e=>by subst e; exact RJ h h
theorem Dl.uniq {p : List (List Int)} {M N : List (List (List Int))} (h : Dl f g p M) (k : Dl f g p N) : M=N :=
 List.Perm.eq_of_pairwise (le:=uE) (fun a b _ _ h1 h2=>(RJ h1 h2).elim) h.N9 k.N9 ((List.perm_ext_iff_of_nodup h.nodup k.nodup).mpr fun t=>(h.mem t).trans (k.mem t).symm)
structure E7 (f g : SF) (p : List (List Int)) (x e d : Int) (k : Nat) (p' : List (List Int)) (N : List (Int × Int)) : Prop where
 len : p'.length=p.length
 row : ∀ y : Nat,(p'.getD y default).length=(p.getD y default).length
 new : ∀ y i : Int,0≤y→0≤i→ix (ix p' y) i=ix (ix p y) i∨((y,i)∈N∧∃ a,a∈(outs f.shape x).take k∧ix f.shape.to a=y∧ix (ix f.AU a) e=i∧ix (ix p' y) i=ix (ix g.AU a) d)
 Jr : ∀ y i : Int,(y,i)∈N→(0≤y∧y.toNat<p.length)∧(0≤i∧i.toNat<(ix p y).length)∧ix (ix p y) i=-1
 XR : ∀ a,a∈(outs f.shape x).take k→ix (ix p' (ix f.shape.to a)) (ix (ix f.AU a) e)=ix (ix g.AU a) d
 nl : N.length≤k
theorem E7.zero (f g : SF) (p : List (List Int)) (x e d : Int) : E7 f g p x e d 0 p []:=⟨rfl,fun _=>rfl,fun _ _ _ _=>.inl rfl,fun _ _ h=>by simp at h,fun a h=>by simp at h,by simp⟩
theorem E7.zE {p p' : List (List Int)} {x e d : Int} {k : Nat} {N : List (Int × Int)} (s : E7 f g p x e d k p' N) (y : Int) : (ix p' y).length=(ix p y).length:=s.row y.toNat
variable {p p' : List (List Int)} {x e d : Int} {k : Nat} {N : List (Int × Int)}
theorem take_one {α : Type} [Inhabited α] (l : List α) {k : Nat} (hk : k<l.length) : l.take (k+1)=l.take k++[l.getD k default]:=by
 have hN : l[k]=l.getD k default:=by simp [gE,hk]
 rw [← hN]; exact (List.take_append_getElem hk).symm
theorem De {α : Type} [Inhabited α] {l : List α} {k : Nat} (hk : k<l.length) {a : α} : a∈l.take (k+1)↔a∈l.take k∨a=l.getD k default:=by
 rw [take_one l hk]; simp
theorem E7.same (s : E7 f g p x e d k p' N) (hk : k<(outs f.shape x).length) {a : Int} (ea : (outs f.shape x).getD k default=a) (h : ix (ix p' (ix f.shape.to a)) (ix (ix f.AU a) e)=ix (ix g.AU a) d) :
  E7 f g p x e d (k+1) p' N where
 len:=s.len
 row:=s.row
 new y i hy hi:=(s.new y i hy hi).imp id fun ⟨h1,b,h2,h3⟩=>⟨h1,b,(De hk).mpr (.inl h2),h3⟩
 Jr:=s.Jr
 XR b hb:=by
  rcases (De hk).mp hb with h1 | h1
  ·exact s.XR b h1
  ·rw [h1,ea]; exact h
 nl:=by have:=s.nl; omega
structure TL (f g : SF) (x e d : Int) : Prop where
 hf : f.Is
 hg : g.Is
 sh : f.shape=g.shape
 hx : 0≤x∧x<f.shape.AO
 he : 0≤e∧e<ix f.A4 x
 hd : 0≤d∧d<ix g.A4 x
theorem TL.arr (w : TL f g x e d) {b : Int} (hb : b∈outs f.shape x) : (0≤b∧b.toNat<f.shape.AJ.length)∧ix f.shape.AJ b=x∧(0≤ix f.shape.to b∧ix f.shape.to b<f.shape.AO) ∧
  (0≤ix (ix f.AU b) e∧ix (ix f.AU b) e<ix f.A4 (ix f.shape.to b))∧(0≤ix (ix g.AU b) d∧ix (ix g.AU b) d<ix g.A4 (ix f.shape.to b)):=by
 have h:=BT.mp hb
 have Nb : 0≤b∧b.toNat<f.shape.AJ.length:=⟨h.1,h.2.1⟩
 have h3 : ix f.shape.AJ b=x:=h.2.2;refine ⟨Nb,h3,w.hf.1.is.1.Cb Nb.2,w.hf.1.Xk Nb (by rw [h3]; exact w.he), ?_⟩
 have:=w.hg.1.Xk (a:=b) (e:=d) (by rw [← w.sh]; exact Nb) (by rw [← w.sh,h3]; exact w.hd);rw [← w.sh] at this;exact this
theorem E7.fresh (w : TL f g x e d) (hP : PT f g p) (s : E7 f g p x e d k p' N) (hk : k<(outs f.shape x).length) {a : Int} (ea : (outs f.shape x).getD k default=a)
  (h : ¬ 0≤ix (ix p' (ix f.shape.to a)) (ix (ix f.AU a) e)) :
  E7 f g p x e d (k+1) (MR p' (ix f.shape.to a) (ix (ix f.AU a) e) (ix (ix g.AU a) d)) (N++[(ix f.shape.to a,ix (ix f.AU a) e)]):=by
 have hA:=w.arr (b:=a) (AE.mpr ⟨k,hk,ea⟩)
 have Eo:=hP.ew w.hf.1 hA.2.2.1 hA.2.2.2.1
 have hp:=hP.val _ _ hA.2.2.1 hA.2.2.2.1
 have hy' : 0≤ix f.shape.to a∧(ix f.shape.to a).toNat<p'.length:=by rw [s.len]; exact Eo.1
 have Fh : 0≤ix (ix f.AU a) e∧(ix (ix f.AU a) e).toNat<(ix p' (ix f.shape.to a)).length:=by rw [s.zE]; exact Eo.2
 refine ⟨by rw [Pg,s.len],fun y=>by rw [Nz,s.row],fun y i h0 h1=>?_,fun y i hm=>?_,fun b hb=>?_,by have:=s.nl; simp; omega⟩
 ·rw [Nj p' hy' Fh h0 h1]
  by_cases e1 : y=ix f.shape.to a∧i=ix (ix f.AU a) e
  ·rw [if_pos e1];exact .inr ⟨by rw [e1.1,e1.2]; simp,a,(De hk).mpr (.inr ea.symm),e1.1.symm,e1.2.symm,rfl⟩
  ·rw [if_neg e1];exact (s.new y i h0 h1).imp id fun ⟨q1,b,q2,q3⟩=>⟨by simp [q1],b,(De hk).mpr (.inl q2),q3⟩
 ·rcases List.mem_append.mp hm with hm | hm
  ·exact s.Jr y i hm
  ·rw [List.mem_singleton] at hm
   injection hm with e1 e2
   subst e1 e2;refine ⟨Eo.1,Eo.2, ?_⟩
   rcases s.new _ _ Eo.1.1 Eo.2.1 with q | ⟨_,b,hb,q3,q4,q5⟩
   ·rw [q] at h; exact hp.resolve_right fun h2=>h h2.1
   ·rw [q5] at h;exact absurd (w.arr (List.mem_of_mem_take hb)).2.2.2.2.1 h
 ·by_cases hq : ix f.shape.to b=ix f.shape.to a∧ix (ix f.AU b) e=ix (ix f.AU a) e
  ·rcases (De hk).mp hb with hb | hb
   ·have:=s.XR b hb;rw [hq.1,hq.2] at this;rw [this] at h;exact absurd (w.arr (List.mem_of_mem_take hb)).2.2.2.2.1 h
   ·rw [ea] at hb;subst hb;rw [Nj p' hy' Fh Eo.1.1 Eo.2.1,if_pos ⟨rfl,rfl⟩]
  ·rcases (De hk).mp hb with hb | hb
   ·have hB:=w.arr (List.mem_of_mem_take hb);rw [Nj p' hy' Fh hB.2.2.1.1 hB.2.2.2.1.1,if_neg hq];exact s.XR b hb
   ·rw [ea] at hb; subst hb; exact absurd ⟨rfl,rfl⟩ hq
theorem E7.bad (w : TL f g x e d) (s : E7 f g p x e d k p' N) (hk : k<(outs f.shape x).length) {a : Int} (ea : (outs f.shape x).getD k default=a)
  (h : 0≤ix (ix p' (ix f.shape.to a)) (ix (ix f.AU a) e)) (Bp : ix (ix p' (ix f.shape.to a)) (ix (ix f.AU a) e)≠ix (ix g.AU a) d) (t : List (List Int)) (ht : HR f g p t) : ix (ix t x) e≠d:=by
 intro ed
 have key : ∀ b,b∈outs f.shape x→ix (ix t (ix f.shape.to b)) (ix (ix f.AU b) e)=ix (ix g.AU b) d:=fun b hb=>by
  have hB:=w.arr hb;rw [ht.1.nl b hB.1 e (by rw [hB.2.1]; exact w.he),hB.2.1,ed]
 have hA:=w.arr (b:=a) (AE.mpr ⟨k,hk,ea⟩)
 have h1:=key a (AE.mpr ⟨k,hk,ea⟩)
 rcases s.new _ _ hA.2.2.1.1 hA.2.2.2.1.1 with q | ⟨_,b,hb,q3,q4,q5⟩
 ·rw [q] at h Bp;exact Bp ((ht.2 _ _ hA.2.2.1 hA.2.2.2.1 h).symm.trans h1)
 ·have h2:=key b (List.mem_of_mem_take hb);rw [q3,q4] at h2;exact Bp (q5.trans (h2.symm.trans h1))
theorem SF.Is.nN (h : f.Is) {x e : Int} (hx : 0≤x∧x<f.shape.AO) (he : 0≤e∧e<ix f.A4 x) : ix (ix f.AU (ix f.shape.Av x)) e=e:=by
 have hl:=h.1.is.1.il
 have h2:=h.1.cN (x:=x.toNat) (by omega)
 have h3:=h.2.ZO x.toNat (by omega) e.toNat (by
  have e0 : ix f.A4 x=f.A4.getD x.toNat default:=rfl;omega)
 rw [Int.toNat_of_nonneg he.1] at h3;exact h3
theorem E7.B6 (s : E7 f g p x e d k p' N) {y i : Int} (h0 : 0≤y) (h1 : 0≤i) (h : ix (ix p y) i≠-1) : ix (ix p' y) i=ix (ix p y) i:=by
 rcases s.new y i h0 h1 with q | ⟨q,_⟩
 ·exact q
 ·exact absurd (s.Jr y i q).2.2 h
section
variable (w : TL f g x e d) (hP : PT f g p) (s : E7 f g p x e d (outs f.shape x).length p' N)
include w hP s
theorem E7.pt : PT f g p' where
 len:=s.len.trans hP.len
 row y hy:=by rw [s.row]; exact hP.row y hy
 val y i hy hi:=by
  rcases s.new y i hy.1 hi.1 with q | ⟨_,b,hb,q3,q4,q5⟩
  ·rw [q]; exact hP.val y i hy hi
  ·have hB:=w.arr (List.mem_of_mem_take hb);rw [q5,← q3]; exact .inr hB.2.2.2.2
 cls a ha i hi h:=by
  have hf:=w.hf.1.is.1.Cn ha.2
  have ht:=w.hf.1.is.1.Cb ha.2
  have hai:=w.hf.1.Xk ha hi
  rcases s.new _ i hf.1 hi.1 with q | ⟨_,b,hb,q3,q4,q5⟩
  ·rw [q] at h ⊢
   have hc:=hP.cls a ha i hi h
   have hv:=(hP.val _ i hf hi).resolve_left (by omega)
   have hg:=w.hg.1.Xk (a:=a) (e:=ix (ix p (ix f.shape.AJ a)) i) (by rw [← w.sh]; exact ha) (by rw [← w.sh]; exact hv);rw [s.B6 ht.1 hai.1 (by rw [hc]; omega),hc]
  ·have hb:=List.mem_of_mem_take hb
   have hB:=w.arr hb
   have hc:=w.hf.1.is.1.comp hB.1 ha q3
   have hm : ix (ix f.shape.comp b) a∈outs f.shape x:=BT.mpr ⟨hc.1.1,hc.1.2,hc.2.1.trans hB.2.1⟩
   have hh:=s.XR _ (by rw [List.take_length]; exact hm)
   have XW:=w.hf.Ei b a hB.1 ha q3 e (w.hf.1.Nq hB.1 (by rw [hB.2.1]; exact w.he))
   have IY:=w.hg.Ei b a (by rw [← w.sh]; exact hB.1) (by rw [← w.sh]; exact ha) (by rw [← w.sh]; exact q3) d (w.hg.1.Nq (by rw [← w.sh]; exact hB.1) (by rw [← w.sh,hB.2.1]; exact w.hd));rw [← w.sh] at IY;rw [hc.2.2,XW,IY,q4] at hh;rw [q5]; exact hh
theorem E7.atE : ix (ix p' x) e=d:=by
 have K9:=w.hf.1.is.1.Um w.hx
 have:=s.XR (ix f.shape.Av x) (by rw [List.take_length]; exact BT.mpr ⟨K9.1.1,K9.1.2,K9.2.1⟩)
 have h2:=w.hg.nN (x:=x) (e:=d) (by rw [← w.sh]; exact w.hx) w.hd;rw [← w.sh] at h2;rw [K9.2.2,w.hf.nN w.hx w.he,h2] at this;exact this
theorem E7.ext (t : List (List Int)) : HR f g p' t↔HR f g p t∧ix (ix t x) e=d:=by
 constructor
 ·rintro ⟨h1,h2⟩;refine ⟨⟨h1,fun y i hy hi h=>?_⟩, ?_⟩
  ·have:=s.B6 hy.1 hi.1 (by omega);rw [← this] at h ⊢;exact h2 y i hy hi h
  ·have:=s.atE w hP;rw [h2 x e w.hx w.he (by rw [this]; exact w.hd.1),this]
 ·rintro ⟨⟨h1,h2⟩,ed⟩;refine ⟨h1,fun y i hy hi h=>?_⟩
  rcases s.new y i hy.1 hi.1 with q | ⟨_,b,hb,q3,q4,q5⟩
  ·rw [q] at h ⊢; exact h2 y i hy hi h
  ·have hB:=w.arr (List.mem_of_mem_take hb);rw [q5,← q3,← q4,h1.nl b hB.1 e (by rw [hB.2.1]; exact w.he),hB.2.1,ed]
end
def Tg (f : SF) : List (Int × Int):=(List.range f.A4.length).flatMap fun x=>(List.range (f.A4.getD x default).toNat).map fun e : Nat=>((x : Int),(e : Int))
theorem Oh (h : f.Shape) {y i : Int} : (y,i)∈Tg f↔(0≤y∧y<f.shape.AO)∧0≤i∧i<ix f.A4 y:=by
 have hs:=h.sl;simp only [Tg,List.mem_flatMap,List.mem_range,List.mem_map,Prod.mk.injEq]
 constructor
 ·rintro ⟨a,ha,b,hb,rfl,rfl⟩;rw [AH];omega
 ·rintro ⟨h1,h2,h3⟩
  have e0 : ix f.A4 y=f.A4.getD y.toNat default:=rfl;exact ⟨y.toNat,by omega,i.toNat,by omega,by omega,by omega⟩
def Iv (f : SF) (p : List (List Int)) : Nat:=(Tg f).countP fun q=>decide (ix (ix p q.1) q.2=-1)
theorem Ix {α : Type} {P Q : α→Bool} {b : α} : ∀ {l : List α},(∀ a,a∈l→P a=true→Q a=true)→b∈l→P b=false→Q b=true→l.countP P<l.countP Q
 | [],_,hb,_,_=>by simp at hb
 | a::r,h,hb,hp,hq=>by
  have hle : r.countP P≤r.countP Q:=List.countP_mono_left fun a ha=>h a (List.mem_cons_of_mem _ ha);rw [List.countP_cons,List.countP_cons]
  by_cases e : b∈r
  ·have:=Ix (fun a ha=>h a (List.mem_cons_of_mem _ ha)) e hp hq
   have ha:=h a List.mem_cons_self
   cases uq : P a with
   | true=>rw [ha uq]; simpa using this
   | false=>cases Q a <;> simp <;> omega
  ·rcases List.mem_cons.mp hb with rfl | hb
   ·rw [hp,hq]; simp; omega
   ·exact absurd hb e
theorem E7.less (w : TL f g x e d) (hP : PT f g p) (s : E7 f g p x e d (outs f.shape x).length p' N) (h : ix (ix p x) e=-1) : Iv f p'<Iv f p:=by
 refine Ix (b:=(x,e)) (fun q hq Mf=>?_) ((Oh w.hf.1).mpr ⟨w.hx,w.he⟩) ?_ (decide_eq_true h)
 ·obtain ⟨y,i⟩:=q
  have hr:=(Oh w.hf.1).mp hq
  have Mf:=of_decide_eq_true Mf;refine decide_eq_true ?_
  rcases s.new y i hr.1.1 hr.2.1 with q | ⟨_,b,hb,q3,q4,q5⟩
  ·rw [← q]; exact Mf
  ·have hB:=w.arr (List.mem_of_mem_take hb);rw [q5] at Mf
   have:=hB.2.2.2.2;omega
 ·have:=s.atE w hP
  have hd:=w.hd;exact decide_eq_false (by rw [this]; omega)
theorem lH {p q : List (List Int)} (hl : p.length=q.length) (hr : ∀ x : Nat,(p.getD x default).length=(q.getD x default).length) (h : ∀ x e : Int,0≤x∧x.toNat<p.length→0≤e∧e.toNat<(ix p x).length→ix (ix p x) e=ix (ix q x) e) : p=q:=by
 refine List.ext_getElem hl fun i h1 h2=>?_
 have r:=hr i
 have e1 : ix p (i : Int)=p[i]:=by simp [AH,gE,h1]
 have e2 : ix q (i : Int)=q[i]:=by simp [AH,gE,h2]
 rw [← AH,← AH,e1,e2] at r;refine List.ext_getElem r fun j k1 k2=>?_
 have:=h i j ⟨by omega,by simpa using h1⟩ ⟨by omega,by rw [e1]; simpa using k1⟩;rw [e1,e2] at this
 simpa [AH,gE,k1,k2] using this
def G9 (p : List (List Int)) (N : List (Int × Int)) : List (List Int):=N.foldl (fun p q=>MR p q.1 q.2 (-1)) p
theorem Qw (N : List (Int × Int)) : ∀ p : List (List Int),(G9 p N).length=p.length:=by
 induction N with
 | nil=>intro p; rfl
 | cons a r ih=>intro p; rw [G9,List.foldl_cons]; exact (ih _).trans (Pg _ _ _ _)
theorem RS (N : List (Int × Int)) (y : Nat) : ∀ p : List (List Int),((G9 p N).getD y default).length=(p.getD y default).length:=by
 induction N with
 | nil=>intro p; rfl
 | cons a r ih=>intro p; rw [G9,List.foldl_cons]; exact (ih _).trans (Nz _ _ _ _ _)
theorem c6 (N : List (Int × Int)) {y i : Int} (hy : 0≤y) (hi : 0≤i) : ∀ p : List (List Int),(∀ q,q∈N→(0≤q.1∧q.1.toNat<p.length)∧0≤q.2∧q.2.toNat<(ix p q.1).length) →
  ix (ix (G9 p N) y) i=if (y,i)∈N then -1 else ix (ix p y) i:=by
 induction N with
 | nil=>intro p _; simp [G9]
 | cons a r ih =>
  intro p hr
  have ha:=hr a List.mem_cons_self;rw [G9,List.foldl_cons]
  have:=ih (MR p a.1 a.2 (-1)) fun q hq=>by
   have:=hr q (List.mem_cons_of_mem _ hq);rw [Pg];refine ⟨this.1,this.2.1, ?_⟩;rw [ix,Nz]; exact this.2.2
  refine this.trans ?_;rw [Nj p ha.1 ha.2 hy hi]
  by_cases h1 : (y,i)∈r
  ·rw [if_pos h1,if_pos (List.mem_cons_of_mem _ h1)]
  ·rw [if_neg h1]
   by_cases h2 : y=a.1∧i=a.2
   ·rw [if_pos h2,if_pos (by rw [h2.1,h2.2]; exact List.mem_cons_self)]
   ·rw [if_neg h2,if_neg];rw [List.mem_cons]
    rintro (h3 | h3)
    ·exact h2 ⟨by rw [← h3],by rw [← h3]⟩
    ·exact h1 h3
theorem XM (p : List (List Int)) {N : List (Int × Int)} {j : Nat} (hj : j<N.length) : G9 p (N.take (j+1))=MR (G9 p (N.take j)) (N.getD j default).1 (N.getD j default).2 (-1):=by
 rw [take_one N hj,G9,List.foldl_append]; rfl
theorem E7.qZ (s : E7 f g p x e d k p' N) : G9 p' N=p:=by
 have hr : ∀ q,q∈N→(0≤q.1∧q.1.toNat<p'.length)∧0≤q.2∧q.2.toNat<(ix p' q.1).length:=fun q hq=>by
  have:=s.Jr q.1 q.2 hq;rw [s.len,s.zE]; exact ⟨this.1,this.2.1⟩
 refine lH (by rw [Qw,s.len]) (fun y=>by rw [RS,s.row]) fun y i hy hi=>?_;rw [c6 N hy.1 hi.1 p' hr]
 by_cases h : (y,i)∈N
 ·rw [if_pos h,(s.Jr y i h).2.2]
 ·rw [if_neg h]
  rcases s.new y i hy.1 hi.1 with q | ⟨q,_⟩
  ·exact q
  ·exact absurd q h
structure FP (f g : SF) (p : List (List Int)) (x e : Int) (k : Int) (M : List (List (List Int))) : Prop where
 N9 : M.Pairwise uE
 mem : ∀ t,t∈M↔HR f g p t∧ix (ix t x) e<k
variable {M M' : List (List (List Int))}
theorem FP.zero (hx : 0≤x∧x<f.shape.AO) (he : 0≤e∧e<ix f.A4 x) : FP f g p x e 0 []:=⟨.nil,fun t=>by
 simp only [List.not_mem_nil,false_iff]
 rintro ⟨h1,h2⟩
 have:=((h1.1.pl x hx).2 e he).1;omega⟩
theorem FP.none {j : Int} (h : FP f g p x e j M) (hn : ∀ t,HR f g p t→ix (ix t x) e≠j) : FP f g p x e (j+1) M:=⟨h.N9,fun t=>by
 rw [h.mem]
 constructor
 ·rintro ⟨h1,h2⟩; exact ⟨h1,by omega⟩
 ·rintro ⟨h1,h2⟩; have:=hn t h1; exact ⟨h1,by omega⟩⟩
theorem FP.more (hx : 0≤x∧x<f.shape.AO) (he : 0≤e∧e<ix f.A4 x) {j : Int} (h : FP f g p x e j M) (h2 : Dl f g p' M') (hs : (f.A4.length : Int)=f.shape.AO) (hv : ∀ y i : Int,0≤y∧y<f.shape.AO→0≤i∧i<ix f.A4 y→ix (ix p y) i=-1∨0≤ix (ix p y) i)
  (hp : ∀ t,HR f g p' t↔HR f g p t∧ix (ix t x) e=j) (hf : ∀ y i : Int,0≤y∧y<f.shape.AO→0≤i∧i<ix f.A4 y→(y<x∨(y=x∧i<e))→ix (ix p y) i≠-1) : FP f g p x e (j+1) (M++M'):=by
 refine ⟨List.pairwise_append.mpr ⟨h.N9,h2.N9,fun s Hl t ht=>?_⟩,fun t=>?_⟩
 ·obtain ⟨s1,s2⟩:=(h.mem s).mp Hl
  obtain ⟨t1,t2⟩:=(hp t).mp ((h2.mem t).mp ht);refine ⟨x.toNat,e.toNat,fun y i hyi=>?_, ?_⟩
  ·have hy : (0 : Int)≤(y : Int)∧(y : Int)<f.shape.AO:=by omega
   have l1:=(s1.1.pl y hy).1
   have l2:=(t1.1.pl y hy).1
   by_cases hi : (i : Int)<ix f.A4 y
   ·have Fh : (0 : Int)≤(i : Int)∧(i : Int)<ix f.A4 y:=⟨by omega,hi⟩
    have Bp:=hf y i hy Fh (by omega)
    have XU:=(hv y i hy Fh).resolve_left Bp
    have a1:=s1.2 y i hy Fh XU
    have a2:=t1.2 y i hy Fh XU
    have:=a1.trans a2.symm
    simpa only [AH] using this
   ·rw [AH] at l1 l2;rw [gE,gE (l:=t.getD y default),List.getElem?_eq_none (by omega),List.getElem?_eq_none (by omega)]
  ·have : ix (ix s x) e<ix (ix t x) e:=by rw [t2]; exact s2
   exact this
 ·rw [List.mem_append,h.mem,h2.mem,hp]
  constructor
  ·rintro (⟨h1,h2⟩ | ⟨h1,h2⟩)
   ·exact ⟨h1,by omega⟩
   ·exact ⟨h1,by omega⟩
  ·rintro ⟨h1,h2⟩
   by_cases hj : ix (ix t x) e=j
   ·exact .inr ⟨h1,hj⟩
   ·exact .inl ⟨h1,by omega⟩
theorem FP.done (hx : 0≤x∧x<f.shape.AO) (he : 0≤e∧e<ix f.A4 x) (h : FP f g p x e (ix g.A4 x) M) : Dl f g p M:=⟨h.N9,fun t=>by
 rw [h.mem];exact ⟨fun h=>h.1,fun h=>⟨h,((h.1.pl x hx).2 e he).2⟩⟩⟩
theorem KO (h : f.Is) (hP : PT f g p) (hf : ∀ y i : Int,0≤y∧y<f.shape.AO→0≤i∧i<ix f.A4 y→ix (ix p y) i≠-1) : Dl f g p [p]:=by
 have hm : D5 f g p:=by
  refine ⟨by rw [hP.len]; exact h.1.sl,fun y hy=>⟨?_,fun i hi=>?_⟩,fun b hb i hi=>?_⟩
  ·exact hP.row y.toNat (h.1.vE hy).2
  ·exact (hP.val y i hy hi).resolve_left (hf y i hy hi)
  ·have hfb:=h.1.is.1.Cn hb.2;exact hP.cls b hb i hi ((hP.val _ i hfb hi).resolve_left (hf _ i hfb hi)).1
 refine ⟨List.pairwise_singleton _ _,fun t=>?_⟩;rw [List.mem_singleton]
 constructor
 ·rintro rfl; exact ⟨hm,fun _ _ _ _ _=>rfl⟩
 ·rintro ⟨h1,h2⟩;refine h1.ext hm fun y i hy hi=>?_;exact h2 y i hy hi ((hP.val y i hy hi).resolve_left (hf y i hy hi)).1
def BR (f : SF) : List (List Int):=f.A4.map fun n=>List.replicate n.toNat (-1)
theorem PR (h : f.Shape) {y i : Int} (hy : 0≤y∧y<f.shape.AO) (hi : 0≤i∧i<ix f.A4 y) : ix (ix (BR f) y) i=-1:=by
 have hX:=h.vE hy
 have e0 : ix f.A4 y=f.A4.getD y.toNat default:=rfl
 have sQ : i.toNat<(f.A4.getD y.toNat default).toNat:=by omega
 rw [ix,ix,BR,BB _ hX.2,gE,List.getElem?_replicate,if_pos sQ]; rfl
theorem LA (h : f.Shape) : PT f g (BR f) where
 len:=by simp [BR]
 row x hx:=by
  have:=h.sz _ (AE.mpr ⟨x,hx,rfl⟩);rw [BR,BB _ hx,List.length_replicate]; omega
 val y i hy hi:=.inl (PR h hy hi)
 cls a ha i hi h0:=by
  rw [PR h (h.is.1.Cn ha.2) hi] at h0; omega
theorem RX (h : f.Shape) {t : List (List Int)} : HR f g (BR f) t↔D5 f g t:=⟨fun h=>h.1,fun hm=>⟨hm,fun y i hy hi h0=>by rw [PR h hy hi] at h0; omega⟩⟩
end
end Go.Shf
namespace Go.Shf
open Go.AW
theorem FC {α : Type} [Inhabited α] (l : List α) {i : Nat} (a : α) (hi : i<l.length) {y : Nat} : (l.set i a).getD y default=if y=i then a else l.getD y default:=by
 simp only [gE,List.getElem?_set]
 by_cases h : i=y
 ·subst h; simp [hi]
 ·rw [if_neg h,if_neg (Ne.symm h)]
structure SF.zx (f : SF) (c : Ay) (N : Nat) : Prop where
 sh : f.shape=c
 sl : (f.A4.length : Int)=c.AO
 al : f.AU.length=c.AJ.length
 sz : ∀ y,y∈f.A4→0≤y∧y≤N
 act : ∀ a : Nat,a<c.AJ.length→((f.AU.getD a default).length : Int)=ix f.A4 (c.AJ.getD a default)∧∀ y,y∈f.AU.getD a default→0≤y∧y<ix f.A4 (c.to.getD a default)
structure FreeI (c : Ay) (os : List Int) (k h : Nat) (LL : List (List (List Int))) : Prop where
 len : (LL.length : Int)=c.AO
 of : ∀ y : Nat,y<LL.length→∀ q,q∈LL.getD y default→∃ i j : Nat,q=[(i : Int),(j : Int)]∧i<os.length∧j<c.AJ.length∧c.AJ.getD j default=os.getD i default∧c.to.getD j default=y
 all : ∀ i j : Nat,(i<k∨(i=k∧j<h))→i<os.length→j<c.AJ.length→c.AJ.getD j default=os.getD i default→([(i : Int),(j : Int)] : List Int)∈LL.getD (c.to.getD j default).toNat default
 bd : ∀ y : Nat,(LL.getD y default).length≤k*c.AJ.length+h
section
variable {c : Ay} {os : List Int} {k h : Nat} {LL : List (List (List Int))}
theorem FreeI.zero (hc : 0≤c.AO) : FreeI c os 0 0 (List.replicate c.AO.toNat []) where
 len:=by simp; omega
 of y hy q hq:=by
  rw [List.length_replicate] at hy
  simp [gE,hy] at hq
 all i j h:=by omega
 bd y:=by
  by_cases hy : y<c.AO.toNat
  ·simp [gE,hy]
  ·rw [gE,List.getElem?_eq_none (by simp; omega)]
   simp
   rfl
theorem FreeI.skip (s : FreeI c os k h LL) (hn : c.AJ.getD h default≠os.getD k default) : FreeI c os k (h+1) LL:=⟨s.len,s.of,fun i j n7 hi hj e=>by
 by_cases e1 : i=k∧j=h
 ·rw [e1.1,e1.2] at e; exact absurd e hn
 ·exact s.all i j (by omega) hi hj e,fun y=>by have:=s.bd y; omega⟩
theorem FreeI.XR (s : FreeI c os k h LL) (hc : c.Shape) (hk : k<os.length) (hh : h<c.AJ.length) (e : c.AJ.getD h default=os.getD k default) :
  FreeI c os k (h+1) (LL.set (c.to.getD h default).toNat (LL.getD (c.to.getD h default).toNat default++[[(k : Int),(h : Int)]])):=by
 have ht:=hc.Cb (f:=(h : Int)) (by simpa using hh);rw [AH] at ht
 have hl:=s.len
 have Eo : (c.to.getD h default).toNat<LL.length:=by omega
 have Cj : ∀ y : Nat,(LL.set (c.to.getD h default).toNat (LL.getD (c.to.getD h default).toNat default++[[(k : Int),(h : Int)]])).getD y default =
   if y=(c.to.getD h default).toNat then LL.getD y default++[[(k : Int),(h : Int)]] else LL.getD y default:=by
  intro y;rw [FC _ _ Eo]
  by_cases hy : y=(c.to.getD h default).toNat
  ·rw [if_pos hy,if_pos hy,hy]
  ·rw [if_neg hy,if_neg hy]
 refine ⟨by rw [List.length_set]; exact hl,fun y hy q hq=>?_,fun i j n7 hi hj e1=>?_,fun y=>?_⟩
 ·rw [List.length_set] at hy;rw [Cj] at hq
  split at hq
  ·rename_i hyy
   rcases List.mem_append.mp hq with hq | hq
   ·exact s.of y hy q hq
   ·rw [List.mem_singleton] at hq;exact ⟨k,h,hq,hk,hh,e,by rw [hyy]; omega⟩
  ·exact s.of y hy q hq
 ·rw [Cj]
  by_cases e2 : i=k∧j=h
  ·rw [e2.1,e2.2,if_pos rfl]; simp
  ·have:=s.all i j (by omega) hi hj e1
   split
   ·exact List.mem_append_left _ this
   ·exact this
 ·rw [Cj]
  have:=s.bd y
  split
  ·rw [List.length_append,List.length_singleton]; omega
  ·omega
theorem FreeI.next (s : FreeI c os k c.AJ.length LL) : FreeI c os (k+1) 0 LL:=⟨s.len,s.of,fun i j n7 hi hj e=>s.all i j (by omega) hi hj e,fun y=>by
 have:=s.bd y;rw [Nat.succ_mul]; omega⟩
def Dn (c : Ay) (LL : List (List (List Int))) (a : Nat) : List Int:=(LL.getD (c.AJ.getD a default).toNat default).map fun q=>indexOf (LL.getD (c.to.getD a default).toNat default) [ix q 0,(ix c.comp (ix q 1)).getD a default]
def Ib (c : Ay) (LL : List (List (List Int))) : SF:=⟨c,LL.map fun l=>(l.length : Int),(List.range c.AJ.length).map (Dn c LL)⟩
theorem c7 (hc : c.Is) (s : FreeI c os os.length 0 LL) {N : Nat} (hN : os.length*c.AJ.length≤N) : (Ib c LL).zx c N where
 sh:=rfl
 sl:=by simp only [Ib,List.length_map]; exact s.len
 al:=by simp [Ib]
 sz y hy:=by
  obtain ⟨l,hl,rfl⟩:=List.mem_map.mp hy
  obtain ⟨i,hi,rfl⟩:=AE.mp hl
  have:=s.bd i; omega
 act a ha:=by
  have hl:=s.len
  have hf:=hc.1.Cn (f:=(a : Int)) (by simpa using ha)
  have ht:=hc.1.Cb (f:=(a : Int)) (by simpa using ha);rw [AH] at hf ht
  have e1 : (Ib c LL).AU.getD a default=Dn c LL a:=by rw [Ib]; exact AX _ _ ha
  have e2 : ∀ y : Int,0≤y∧y<c.AO→ix (Ib c LL).A4 y=((LL.getD y.toNat default).length : Int):=fun y hy=>by
   rw [ix,Ib]; exact BB _ (by omega)
  rw [e1,e2 _ hf,e2 _ ht];refine ⟨by simp [Dn],fun y hy=>?_⟩
  obtain ⟨q,hq,rfl⟩:=List.mem_map.mp hy
  obtain ⟨i,j,rfl,hi,hj,e3,e4⟩:=s.of _ (by omega) q hq
  have h1 : (0 : Int)≤(j : Int)∧(j : Int).toNat<c.AJ.length:=⟨by omega,by simpa using hj⟩
  have h2 : (0 : Int)≤(a : Int)∧(a : Int).toNat<c.AJ.length:=⟨by omega,by simpa using ha⟩
  have jM:=hc.1.comp h1 h2 (by rw [AH,AH,e4]; omega)
  obtain ⟨v,hv⟩ : ∃ v : Nat,ix (ix c.comp (j : Int)) (a : Int)=v:=⟨_,(Int.toNat_of_nonneg jM.1.1).symm⟩;rw [hv] at jM;simp only [AH] at jM
  have Ak:=s.all i v (.inl hi) hi (by simpa using jM.1.2) (by rw [jM.2.1,e3]);rw [jM.2.2] at Ak
  have e5 : ([ix [(i : Int),(j : Int)] 0,(ix c.comp (ix [(i : Int),(j : Int)] 1)).getD a default] : List Int)=[(i : Int),(v : Int)]:=by
   have : (ix c.comp (j : Int)).getD a default=v:=by rw [← hv,AH (ix c.comp (j : Int))]
   show [(i : Int),(ix c.comp (j : Int)).getD a default]=_
   rw [this]
  rw [e5]
  have:=BD Ak;omega
end
def QU (l : List Int) : Nat:=((List.range l.length).flatMap fun d=>(List.range l.length).map fun e=>(d,e)).countP fun q : Nat × Nat=>decide (l.getD q.1 default≠l.getD q.2 default)
theorem ZN {l m : List Int} (hl : m.length=l.length) (h : ∀ i j : Nat,i<l.length→j<l.length→l.getD i default=l.getD j default→m.getD i default=m.getD j default)
  {u v : Nat} (hu : u<l.length) (hv : v<l.length) (h1 : l.getD u default≠l.getD v default) (h2 : m.getD u default=m.getD v default) : QU m<QU l:=by
 unfold QU;rw [hl];refine Ix (b:=(u,v)) (fun q hq Mf=>?_) (by simp; exact ⟨hu,hv⟩) (decide_eq_false (by simpa using h2)) (decide_eq_true h1);simp only [List.mem_flatMap,List.mem_range,List.mem_map] at hq
 obtain ⟨i,hi,j,hj,rfl⟩:=hq
 have Mf:=of_decide_eq_true Mf;exact decide_eq_true fun e=>Mf (h i j hi hj e)
def Q8 (C : List (List Int)) : Nat:=(C.map QU).sum
theorem YF : ∀ (C : List (List Int)) (y : Nat) (m : List Int),y<C.length→QU m<QU (C.getD y default)→Q8 (C.set y m)<Q8 C
 | [],_,_,h,_=>by simp at h
 | a::C,0,m,_,h=>by
  simp only [Q8,List.set_cons_zero,List.map_cons,List.sum_cons]
  have : QU m<QU a:=h;omega
 | a::C,y+1,m,hy,h=>by
  have:=YF C y m (by simpa using hy) (by simpa using h);simp only [Q8,List.set_cons_succ,List.map_cons,List.sum_cons] at this ⊢;omega
def Fp (p : List Int) : List (List Int):=(List.range p.length).map fun i=>[indexOf p (p.getD i default),(i : Int)]
def Gn (ps : List (List Int)) (m : List Int) : Prop:=∀ q,q∈ps→ix m (ix q 0)=ix m (ix q 1)
theorem Ws {l m : List Int} (hl : m.length=l.length) {u v : Int} (hu : 0≤u∧u.toNat<l.length) (hv : 0≤v∧v.toNat<l.length) (h1 : ix l u≠ix l v) (hg : Gn (Fp l++[[u,v]]) m) : QU m<QU l:=by
 refine ZN hl (fun i j hi hj e=>?_) hu.2 hv.2 h1 ?_
 ·have hp : ∀ i : Nat,i<l.length→m.getD (indexOf l (l.getD i default)).toNat default=m.getD i default:=fun i hi=>by
   have:=hg [indexOf l (l.getD i default),(i : Int)] (List.mem_append_left _ (List.mem_map.mpr ⟨i,List.mem_range.mpr hi,rfl⟩))
   have e : ix m (ix [indexOf l (l.getD i default),(i : Int)] 1)=m.getD i default:=AH m i;rw [e] at this;exact this
  rw [← hp i hi,← hp j hj,e]
 ·exact hg [u,v] (List.mem_append_right _ (by simp))
theorem WX {l : List Int} {u v : Int} (hu : 0≤u∧u.toNat<l.length) (hv : 0≤v∧v.toNat<l.length) : ∀ q,q∈Fp l++[[u,v]]→2≤q.length∧(0≤q.getD 0 default∧(q.getD 0 default).toNat<l.length)∧(0≤q.getD 1 default∧(q.getD 1 default).toNat<l.length):=by
 intro q hq
 rcases List.mem_append.mp hq with hq | hq
 ·obtain ⟨i,hi,rfl⟩:=List.mem_map.mp hq;rw [List.mem_range] at hi
  have h:=BD (l:=l) (a:=l.getD i default) (AE.mpr ⟨i,hi,rfl⟩);exact ⟨by simp,⟨h.1,h.2.1⟩,by simp,by simpa using hi⟩
 ·rw [List.mem_singleton] at hq;subst hq;exact ⟨by simp,hu,hv⟩
def Dp (A : List Int) (a b : Int) : List Int:=A.map fun v=>if v=b then a else v
theorem F8 (A : List Int) (a b : Int) : (Dp A a b).length=A.length:=by simp [Dp]
theorem LU {A : List Int} {a b i : Int} (h : i.toNat<A.length) : ix (Dp A a b) i=if ix A i=b then a else ix A i:=by
 rw [ix,Dp,BB _ h]; rfl
theorem Gn.Dp {ps : List (List Int)} {A : List Int} (hp : ∀ q,q∈ps→(ix q 0).toNat<A.length∧(ix q 1).toNat<A.length) (h : Gn ps A) (a b : Int) : Gn ps (Dp A a b):=fun q hq=>by
 have h1:=hp q hq;rw [LU h1.1,LU h1.2,h q hq]
theorem Gn.step {ps : List (List Int)} {A : List Int} (hp : ∀ q,q∈ps→(ix q 0).toNat<A.length∧(ix q 1).toNat<A.length) {q : List Int} (hq : (ix q 0).toNat<A.length∧(ix q 1).toNat<A.length) (h : Gn ps A) :
  Gn (ps++[q]) (Go.Shf.Dp A (ix A (ix q 0)) (ix A (ix q 1))):=fun r hr=>by
 rcases List.mem_append.mp hr with hr | hr
 ·exact h.Dp hp _ _ r hr
 ·rw [List.mem_singleton] at hr;subst hr;rw [LU hq.1,LU hq.2,if_pos rfl]
  split <;> rfl
end Go.Shf
namespace Go.Shf
open Go.AW
theorem Rt {s : List Int} {u v : Int} (h : u∈s) : indexOf (s++[v]) u=indexOf s u:=by
 obtain ⟨h1,h2,h3⟩:=BD h;unfold indexOf
 have : (s++[v]).idxOf? u=s.idxOf? u:=by
  have hs : ∃ i,s.idxOf? u=some i:=by
   cases e : s.idxOf? u with
   | some i=>exact ⟨i,rfl⟩
   | none=>rw [List.idxOf?_eq_none_iff] at e; exact absurd h e
  obtain ⟨i,hi⟩:=hs;rw [hi];rw [List.idxOf?_eq_some_iff] at hi ⊢
  obtain ⟨k1,k2,k3⟩:=hi;refine ⟨by simp; omega,by rw [List.getElem_append_left k1]; exact k2,fun j hj=>?_⟩;rw [List.getElem_append_left (by omega)]; exact k3 j hj
 rw [this]
theorem SX {s : List Int} {v : Int} (h : v ∉ s) : indexOf (s++[v]) v=s.length:=by
 refine EV (k:=s.length) (by simp) (fun i hi e=>h ?_) (by simp [gE]);rw [gE,List.getElem?_append_left hi,← gE] at e;exact AE.mpr ⟨i,hi,e⟩
def EC (l : List Int) : List Int:=l.foldl (fun s v=>if v∈s then s else s++[v]) []
theorem G7 (l : List Int) (v : Int) : EC (l++[v])=if v∈EC l then EC l else EC l++[v]:=by rw [EC,List.foldl_append]; rfl
theorem HO : ∀ (k : Nat) (l : List Int),l.length=k→∀ v,v∈EC l↔v∈l
 | 0,l,h,v=>by rw [List.length_eq_zero_iff] at h; subst h; simp [EC]
 | k+1,l,h,v=>by
  have Bp : l≠[]:=fun e=>by rw [e] at h; simp at h
  obtain ⟨r,x,rfl⟩ : ∃ r x,l=r++[x]:=⟨l.dropLast,l.getLast Bp,(List.dropLast_concat_getLast Bp).symm⟩
  have ih:=HO k r (by simpa using h);rw [G7]
  by_cases hx : x∈EC r
  ·rw [if_pos hx,ih];simp only [List.mem_append,List.mem_singleton];exact ⟨.inl,fun h=>h.elim id fun e=>e ▸ (ih x).mp hx⟩
  ·rw [if_neg hx];simp only [List.mem_append,List.mem_singleton,ih]
theorem MM : ∀ (k : Nat) (l : List Int),l.length=k→(EC l).length≤k
 | 0,l,h=>by rw [List.length_eq_zero_iff] at h; subst h; simp [EC]
 | k+1,l,h=>by
  have Bp : l≠[]:=fun e=>by rw [e] at h; simp at h
  obtain ⟨r,x,rfl⟩ : ∃ r x,l=r++[x]:=⟨l.dropLast,l.getLast Bp,(List.dropLast_concat_getLast Bp).symm⟩
  have ih:=MM k r (by simpa using h);rw [G7]
  split
  ·omega
  ·simp; omega
def En (l : List Int) : List Int:=l.map fun v=>indexOf (EC l) v
theorem Oj (l : List Int) : (En l).length=l.length:=by simp [En]
theorem TS (l : List Int) (v : Int) : En (l++[v])=En l++[indexOf (EC (l++[v])) v]:=by
 rw [En,List.map_append,List.map_cons,List.map_nil]
 congr 1
 refine List.map_congr_left fun u hu=>?_
 have:=(HO _ l rfl u).mpr hu;rw [G7]
 split
 ·rfl
 ·exact Rt this
theorem Wf {l : List Int} {v : Int} (h : v∈En l) : 0≤v∧v<l.length:=by
 obtain ⟨u,hu,rfl⟩:=List.mem_map.mp h
 have:=BD ((HO _ l rfl u).mpr hu)
 have:=MM _ l rfl;omega
theorem Gn.class {ps : List (List Int)} {l : List Int} (hp : ∀ q,q∈ps→(ix q 0).toNat<l.length∧(ix q 1).toNat<l.length) (h : Gn ps l) : Gn ps (En l):=fun q hq=>by
 have h1:=hp q hq
 have key : ∀ i : Int,i.toNat<l.length→ix (En l) i=indexOf (EC l) (ix l i):=fun i hi=>by rw [ix,En,BB _ hi]; rfl
 rw [key _ h1.1,key _ h1.2,h q hq]
def LJ (n : Nat) (ps : List (List Int)) : List Int:=ps.foldl (fun A q=>Dp A (ix A (ix q 0)) (ix A (ix q 1))) ((List.range n).map Int.ofNat)
theorem Zc (n : Nat) (ps : List (List Int)) (q : List Int) : LJ n (ps++[q])=Dp (LJ n ps) (ix (LJ n ps) (ix q 0)) (ix (LJ n ps) (ix q 1)):=by simp [LJ,List.foldl_append]
theorem aA (n : Nat) (ps : List (List Int)) {k : Nat} (hk : k<ps.length) : LJ n (ps.take (k+1))=Dp (LJ n (ps.take k)) (ix (LJ n (ps.take k)) (ix (ps.getD k default) 0)) (ix (LJ n (ps.take k)) (ix (ps.getD k default) 1)):=by
 rw [take_one ps hk,Zc]
theorem Z5 (ps : List (List Int)) : ∀ (done : List (List Int)) (A : List Int),(∀ q,q∈done++ps→(ix q 0).toNat<A.length∧(ix q 1).toNat<A.length)→Gn done A →
  (ps.foldl (fun A q=>Dp A (ix A (ix q 0)) (ix A (ix q 1))) A).length=A.length∧Gn (done++ps) (ps.foldl (fun A q=>Dp A (ix A (ix q 0)) (ix A (ix q 1))) A):=by
 induction ps with
 | nil=>intro done A _ h; exact ⟨rfl,by simpa using h⟩
 | cons q r ih =>
  intro done A hr h
  have hq:=hr q (by simp)
  have h2:=h.step (fun q hq=>hr q (by simp [hq])) hq
  have:=ih (done++[q]) (Dp A (ix A (ix q 0)) (ix A (ix q 1))) (fun p hp=>by
   rw [F8]; exact hr p (by simpa using hp)) h2
  rw [List.foldl_cons];rw [F8] at this;exact ⟨this.1,by simpa using this.2⟩
theorem LX (n : Nat) (ps : List (List Int)) : (LJ n ps).length=n:=by
 have : ∀ (ps : List (List Int)) (A : List Int),(ps.foldl (fun A q=>Dp A (ix A (ix q 0)) (ix A (ix q 1))) A).length=A.length:=by
  intro ps
  induction ps with
  | nil=>intro A; rfl
  | cons q r ih=>intro A; rw [List.foldl_cons,ih,F8]
 rw [LJ,this]; simp
def Ic (n : Nat) (ps : List (List Int)) : List Int:=En (LJ n ps)
theorem MO (n : Nat) (ps : List (List Int)) : (Ic n ps).length=n:=by rw [Ic,Oj,LX]
theorem R6 {n : Nat} {ps : List (List Int)} {v : Int} (h : v∈Ic n ps) : 0≤v∧v<n:=by
 have:=Wf h
 rwa [LX] at this
theorem Ux {n : Nat} {ps : List (List Int)} (hp : ∀ q,q∈ps→(ix q 0).toNat<n∧(ix q 1).toNat<n) : Gn ps (Ic n ps):=by
 have hr : ∀ q,q∈ps→(ix q 0).toNat<((List.range n).map Int.ofNat).length∧(ix q 1).toNat<((List.range n).map Int.ofNat).length:=fun q hq=>by simpa using hp q hq
 have:=(Z5 ps [] ((List.range n).map Int.ofNat) (by simpa using hr) (fun q hq=>by simp at hq)).2;refine Gn.class (fun q hq=>by rw [LX]; exact hp q hq) ?_
 simpa [LJ] using this
def DT (A : List Int) (a b : Int) (i : Nat) : List Int:=Dp (A.take i) a b++A.drop i
theorem V1 (A : List Int) (a b : Int) {i : Nat} (hi : i≤A.length) : (DT A a b i).length=A.length:=by simp [DT,F8]; omega
theorem Se (A : List Int) (a b : Int) : DT A a b 0=A:=by simp [DT,Dp]
theorem V9 (A : List Int) (a b : Int) : DT A a b A.length=Dp A a b:=by simp [DT]
theorem Pj (A : List Int) (a : Int) : Dp A a a=A:=by
 rw [Dp]
 have : ∀ v,v∈A→(if v=a then a else v)=v:=fun v _=>by split <;> simp_all
 rw [List.map_congr_left this,List.map_id']
theorem Uk (A : List Int) (a b : Int) {i : Nat} (hi : i<A.length) : (DT A a b i).getD i default=A.getD i default:=by
 rw [DT,gE,List.getElem?_append_right (by rw [F8,List.length_take]; omega),F8,List.length_take];rw [show i - min i A.length=0 by omega,List.getElem?_drop,gE]; simp
theorem SJ (A : List Int) (a b : Int) {i : Nat} (hi : i<A.length) : DT A a b (i+1)=(DT A a b i).set i (if A.getD i default=b then a else A.getD i default):=by
 have hl : (Dp (A.take i) a b).length=i:=by rw [F8,List.length_take]; omega
 rw [DT,DT,take_one A hi]
 have e1 : Dp (A.take i++[A.getD i default]) a b=Dp (A.take i) a b++[if A.getD i default=b then a else A.getD i default]:=by simp [Dp]
 have e2 : A.drop i=A.getD i default::A.drop (i+1):=by
  rw [List.drop_eq_getElem_cons hi]; simp [gE,hi]
 rw [e1,e2,List.set_append_right _ _ (by omega),hl,Nat.sub_self,List.set_cons_zero,List.append_assoc]; rfl
end Go.Shf
namespace Go.Shf
open Go.AW
structure ClsOk (sz : List Int) (CC : List (List Int)) : Prop where
 len : CC.length=sz.length
 row : ∀ x : Nat,x<sz.length→((CC.getD x default).length : Int)=sz.getD x default
 QF : ∀ x : Nat,x<sz.length→∀ v,v∈CC.getD x default→0≤v∧v<sz.getD x default
def Kx (sz : List Int) (PP : List (List (List Int))) (x : Nat) : List Int:=Ic (sz.getD x default).toNat (PP.getD x default)
theorem bR {sz : List Int} (h : ∀ y,y∈sz→0≤y) (PP : List (List (List Int))) : ClsOk sz ((List.range sz.length).map (Kx sz PP)) where
 len:=by simp
 row x hx:=by
  have:=h _ (AE.mpr ⟨x,hx,rfl⟩);rw [AX _ _ hx,Kx,MO]; omega
 QF x hx v hv:=by
  have:=h _ (AE.mpr ⟨x,hx,rfl⟩);rw [AX _ _ hx,Kx] at hv
  have:=R6 hv; omega
theorem ClsOk.set {sz : List Int} {CC : List (List Int)} (s : ClsOk sz CC) {y : Nat} (hy : y<sz.length) {m : List Int} (hm : (m.length : Int)=sz.getD y default) (hr : ∀ v,v∈m→0≤v∧v<sz.getD y default) : ClsOk sz (CC.set y m):=by
 have hg : ∀ x,(CC.set y m).getD x default=if x=y then m else CC.getD x default:=fun x=>FC CC m (by rw [s.len]; exact hy)
 refine ⟨by rw [List.length_set]; exact s.len,fun x hx=>?_,fun x hx v hv=>?_⟩
 ·rw [hg]
  by_cases e : x=y
  ·rw [if_pos e,e]; exact hm
  ·rw [if_neg e]; exact s.row x hx
 ·rw [hg] at hv
  by_cases e : x=y
  ·rw [if_pos e] at hv; rw [e]; exact hr v hv
  ·rw [if_neg e] at hv; exact s.QF x hx v hv
def Jd (l : List Int) : Int:=l.foldl (fun n v=>if v+1 > n then v+1 else n) 0
theorem cK (l : List Int) (v : Int) : Jd (l++[v])=if v+1 > Jd l then v+1 else Jd l:=by rw [Jd,List.foldl_append]; rfl
theorem TU (l : List Int) {k : Nat} (hk : k<l.length) : Jd (l.take (k+1))=if l.getD k default+1 > Jd (l.take k) then l.getD k default+1 else Jd (l.take k):=by rw [take_one l hk,cK]
theorem YA {l : List Int} {N : Int} (h0 : 0≤N) (h : ∀ v,v∈l→0≤v∧v<N) : ∀ k,k≤l.length→(0≤Jd (l.take k)∧Jd (l.take k)≤N)∧∀ i,i<k→l.getD i default<Jd (l.take k)
 | 0,_=>⟨by simpa [Jd] using h0,fun i hi=>by omega⟩
 | k+1,hk=>by
  have ih:=YA h0 h k (by omega)
  have hv:=h _ (AE.mpr ⟨k,hk,rfl⟩);rw [TU l hk];refine ⟨by split <;> omega,fun i hi=>?_⟩
  by_cases e : i=k
  ·subst e; split <;> omega
  ·have:=ih.2 i (by omega)
   split <;> omega
theorem Rv {l : List Int} {N : Int} (h0 : 0≤N) (h : ∀ v,v∈l→0≤v∧v<N) : (0≤Jd l∧Jd l≤N)∧∀ v,v∈l→v<Jd l:=by
 have:=YA h0 h l.length (Nat.le_refl _);rw [List.take_length] at this;exact ⟨this.1,fun v hv=>by obtain ⟨i,hi,rfl⟩:=AE.mp hv; exact this.2 i hi⟩
end Go.Shf
namespace Go.Shf
open Go.AW
structure QS where
 v : List Int
 l : List (Int × Int)
 r : List (Int × Int)
 o : List Int
def Em (c : Ay) (v : List Int) (t : Int × Int) : Prop:=(0≤t.1∧t.1.toNat<v.length)∧(0≤t.2∧t.2.toNat<c.AJ.length)∧ix c.AJ t.2=ix v t.1
end Go.Shf
namespace Go.Shf
open Go.AW
section
variable {c : Ay} {q : QS} {G f : SF} {cls : Int × Int→Int}
theorem Em.comp (h : c.Is) {p : Int × Int} (hp : Em c q.v p) {a : Int} (ha : 0≤a∧a.toNat<c.AJ.length) (e : ix c.to p.2=ix c.AJ a) :
  Em c q.v (p.1,ix (ix c.comp p.2) a)∧ix c.to (ix (ix c.comp p.2) a)=ix c.to a:=by
 have:=h.1.comp hp.2.1 ha e;exact ⟨⟨hp.1,this.1,this.2.1.trans hp.2.2⟩,this.2.2⟩
end
end Go.Shf
namespace Go.Shf
open Go.AW
section
variable {c : Ay} {q : QS}
theorem UM {P : List Int→Prop} (h0 : P []) (h1 : ∀ l v,P l→P (l++[v])) : ∀ (k : Nat) (l : List Int),l.length=k→P l
 | 0,l,h=>by rw [List.length_eq_zero_iff] at h; subst h; exact h0
 | k+1,l,h=>by
  have Bp : l≠[]:=fun e=>by rw [e] at h; simp at h
  obtain ⟨r,x,rfl⟩ : ∃ r x,l=r++[x]:=⟨l.dropLast,l.getLast Bp,(List.dropLast_concat_getLast Bp).symm⟩;exact h1 r x (UM h0 h1 k r (by simpa using h))
theorem Us (l : List Int) : (EC l).Nodup:=by
 refine UM (P:=fun l=>(EC l).Nodup) (by simp [EC]) (fun l v ih=>?_) _ l rfl;rw [G7]
 split
 ·exact ih
 ·rename_i h
  refine List.nodup_append.mpr ⟨ih,by simp,fun a ha b hb e=>?_⟩;simp only [List.mem_singleton] at hb;subst hb; subst e; exact h ha
def PL (c : Ay) (v : List Int) : List (Int × Int):=(List.range v.length).flatMap fun i : Nat=>(outs c (v.getD i default)).map fun h=>((i : Int),h)
theorem WC {v : List Int} {p : Int × Int} : p∈PL c v↔Em c v p:=by
 simp only [PL,List.mem_flatMap,List.mem_range,List.mem_map,BT]
 constructor
 ·rintro ⟨i,hi,h,⟨h1,h2,h3⟩,rfl⟩;exact ⟨⟨by simp,by simpa using hi⟩,⟨h1,h2⟩,by simp only [AH]; exact h3⟩
 ·rintro ⟨⟨h1,h2⟩,⟨h3,h4⟩,h5⟩;refine ⟨p.1.toNat,h2,p.2,⟨h3,h4,h5⟩, ?_⟩;rw [Int.toNat_of_nonneg h1]
theorem Po {β : Type} (g : Nat→List β) (hn : ∀ i,(g i).Nodup) (hd : ∀ i k,i≠k→∀ x,x∈g i→x ∉ g k) : ∀ n : Nat,((List.range n).flatMap g).Nodup
 | 0=>by simp
 | n+1=>by
  rw [List.range_succ,List.flatMap_append];refine List.nodup_append.mpr ⟨Po g hn hd n,by simpa using hn n,fun a ha b hb e=>?_⟩;subst e
  obtain ⟨i,hi,hx⟩:=List.mem_flatMap.mp ha;rw [List.mem_range] at hi;simp only [List.flatMap_cons,List.flatMap_nil,List.append_nil] at hb;exact hd i n (by omega) a hx hb
theorem SB (v : List Int) : (PL c v).Nodup:=by
 refine Po _ (fun i=>?_) (fun i k um x hx IX=>?_) v.length
 ·refine List.pairwise_map.mpr ?_
  have : (outs c (v.getD i default)).Nodup:=by
   rw [outs];refine List.pairwise_map.mpr ((List.nodup_range.sublist List.filter_sublist).imp fun {a b} h e=>h ?_);exact Int.ofNat.inj e
  exact this.imp fun {a b} h e=>h (Prod.mk.inj e).2
 ·obtain ⟨h,_,rfl⟩:=List.mem_map.mp hx
  obtain ⟨h',_,e⟩:=List.mem_map.mp IX
  have:=(Prod.mk.inj e).1; omega
def DE (c : Ay) (v : List Int) (y : Int) : List (Int × Int):=(PL c v).filter fun p=>decide (ix c.to p.2=y)
theorem Nx {v : List Int} {y : Int} {p : Int × Int} : p∈DE c v y↔Em c v p∧ix c.to p.2=y:=by
 rw [DE,List.mem_filter,WC,decide_eq_true_eq]
end
end Go.Shf
namespace Go.Shf
open Go.AW
section
variable {c : Ay} {q : QS}
theorem W2 {v : List Int} {y : Int} {i : Nat} (hi : i<(DE c v y).length) : Em c v ((DE c v y).getD i default)∧ix c.to ((DE c v y).getD i default).2=y:=Nx.mp (AE.mpr ⟨i,hi,rfl⟩)
end
end Go.Shf
namespace Go.Shf
open Go.AW
section
variable {c : Ay} {q : QS}
def b9 (c : Ay) (x y : Int) : List Int:=(outs c x).filter fun h=>decide (ix c.to h=y)
def ND (c : Ay) (x y : Int) (k : Nat) : List Int:=((List.range k).filter fun i=>decide (c.AJ.getD i default=x) && decide (c.to.getD i default=y)).map Int.ofNat
theorem ZD (c : Ay) (x y : Int) : ND c x y c.AJ.length=b9 c x y:=by
 rw [ND,b9,outs,List.filter_map,List.filter_filter]
 congr 1
 refine List.filter_congr fun i _=>?_;simp only [Function.comp_def];rw [Bool.and_comm]
 congr 1
theorem qJ {x y : Int} {k : Nat} (h1 : c.AJ.getD k default=x) (h2 : c.to.getD k default=y) : ND c x y (k+1)=ND c x y k++[(k : Int)]:=by
 rw [ND,BF,if_pos (by rw [decide_eq_true h1,decide_eq_true h2]; rfl),List.map_append]; rfl
theorem bJ {x y : Int} {k : Nat} (h : ¬ (c.AJ.getD k default=x∧c.to.getD k default=y)) : ND c x y (k+1)=ND c x y k:=by
 have e : (decide (c.AJ.getD k default=x) && decide (c.to.getD k default=y))=false:=by
  rw [Bool.and_eq_false_iff,decide_eq_false_iff_not,decide_eq_false_iff_not]
  by_cases h1 : c.AJ.getD k default=x
  ·exact .inr fun h2=>h ⟨h1,h2⟩
  ·exact .inl h1
 rw [ND,BF,if_neg (by rw [e]; simp),List.append_nil]; rfl
def Tn (c : Ay) (v : List Int) (y : Int) (n : Nat) : List (Int × Int):=(List.range n).flatMap fun i : Nat=>(b9 c (v.getD i default) y).map fun h=>((i : Int),h)
theorem Ig {α β : Type} (p : β→Bool) (g : α→List β) : ∀ l : List α,(l.flatMap g).filter p=l.flatMap fun a=>(g a).filter p
 | []=>rfl
 | a::l=>by rw [List.flatMap_cons,List.filter_append,Ig p g l,List.flatMap_cons]
theorem Zm (v : List Int) (y : Int) : Tn c v y v.length=DE c v y:=by
 rw [Tn,DE,PL,Ig]
 congr 1
 funext i
 rw [List.filter_map,b9]
 rfl
theorem Za (v : List Int) (y : Int) (n : Nat) : Tn c v y (n+1)=Tn c v y n++(b9 c (v.getD n default) y).map fun h=>((n : Int),h):=by
 rw [Tn,List.range_succ,List.flatMap_append]; simp [Tn]
theorem P5 (v : List Int) (y : Int) : (DE c v y).Nodup:=(SB v).sublist List.filter_sublist
def KX (c : Ay) (v : List Int) (p : Int × Int) : Int:=indexOf (DE c v (ix c.to p.2)) p
theorem T3 {v : List Int} {p : Int × Int} (h : Em c v p) : (0≤KX c v p∧(KX c v p).toNat<(DE c v (ix c.to p.2)).length)∧(DE c v (ix c.to p.2)).getD (KX c v p).toNat default=p:=by
 have:=BD (Nx.mpr ⟨h,rfl⟩ : p∈DE c v (ix c.to p.2));exact ⟨⟨this.1,this.2.1⟩,this.2.2⟩
theorem kD {v : List Int} {y : Int} {i : Nat} (hi : i<(DE c v y).length) : KX c v ((DE c v y).getD i default)=i:=by
 rw [KX,(W2 hi).2]; exact Bk (P5 v y) hi
def cB (c : Ay) (v : List Int) (a : Int) (e : Nat) : Int:=KX c v (((DE c v (ix c.AJ a)).getD e default).1,ix (ix c.comp ((DE c v (ix c.AJ a)).getD e default).2) a)
theorem fI {v : List Int} {a : Int} {p : Int × Int} (hp : Em c v p) (e : ix c.to p.2=ix c.AJ a) : cB c v a (KX c v p).toNat=KX c v (p.1,ix (ix c.comp p.2) a):=by
 have:=(T3 hp).2;rw [e] at this;rw [cB,this]
end
end Go.Shf
namespace Go.Shf
open Go.AW
theorem SA {α : Type} [Inhabited α] (l : List α) {i : Nat} (h : i<l.length) : l[i]=l.getD i default:=by simp [gE,h]
def Kr (p : Int × Int) : List Int:=[p.1,p.2]
theorem c4 {p p' : Int × Int} (h : Kr p=Kr p') : p=p':=by
 simp only [Kr,List.cons.injEq,and_true] at h;exact Prod.ext h.1 h.2
theorem Tj (l : List (Int × Int)) {p : Int × Int} (h : p∈l) (nd : l.Nodup) : indexOf (l.map Kr) (Kr p)=indexOf l p:=by
 obtain ⟨i,hi,e⟩:=AE.mp h
 have nd2 : (l.map Kr).Nodup:=List.pairwise_map.mpr (nd.imp fun {a b} HL e=>HL (c4 e))
 have h1:=Bk nd hi
 have h2:=Bk nd2 (show i<(l.map Kr).length by simpa using hi);rw [BB _ hi,e] at h2;rw [e] at h1;rw [h1,h2]
structure GW (c : Ay) (os : List Int) (k h : Nat) (LL : List (List (List Int))) : Prop extends FreeI c os k h LL where
 ex : ∀ y : Nat,y<LL.length→LL.getD y default=(Tn c os y k).map Kr++(ND c (os.getD k default) y h).map fun j=>[(k : Int),j]
section
variable {c : Ay} {os : List Int} {k h : Nat} {LL : List (List (List Int))}
theorem GW.zero (hc : 0≤c.AO) : GW c os 0 0 (List.replicate c.AO.toNat []) where
 toFreeI:=FreeI.zero hc
 ex y hy:=by
  rw [List.length_replicate] at hy
  simp [gE,hy,Tn,ND]
theorem GW.skip (s : GW c os k h LL) (hn : c.AJ.getD h default≠os.getD k default) : GW c os k (h+1) LL where
 toFreeI:=s.toFreeI.skip hn
 ex y hy:=by rw [s.ex y hy,bJ fun e=>hn e.1]
theorem GW.XR (s : GW c os k h LL) (hc : c.Shape) (hk : k<os.length) (hh : h<c.AJ.length) (e : c.AJ.getD h default=os.getD k default) :
  GW c os k (h+1) (LL.set (c.to.getD h default).toNat (LL.getD (c.to.getD h default).toNat default++[[(k : Int),(h : Int)]])) where
 toFreeI:=s.toFreeI.XR hc hk hh e
 ex y hy:=by
  rw [List.length_set] at hy
  have ht:=hc.Cb (f:=(h : Int)) (by simpa using hh);rw [AH] at ht
  have hl:=s.len;rw [FC _ _ (by omega)]
  by_cases ey : y=(c.to.getD h default).toNat
  ·rw [if_pos ey,← ey,s.ex y hy,qJ e (by omega),List.map_append,List.append_assoc]; rfl
  ·rw [if_neg ey,s.ex y hy,bJ fun h2=>ey (by have:=h2.2; omega)]
theorem GW.next (s : GW c os k c.AJ.length LL) : GW c os (k+1) 0 LL where
 toFreeI:=s.toFreeI.next
 ex y hy:=by
  rw [s.ex y hy,ZD,Za,List.map_append,List.map_map];simp only [ND,List.range_zero,List.filter_nil,List.map_nil,List.append_nil]
  rfl
def YB (c : Ay) (os : List Int) : List (List (List Int)):=(List.range c.AO.toNat).map fun y : Nat=>(DE c os y).map Kr
theorem GW.full (s : GW c os os.length 0 LL) : LL=YB c os:=by
 have hl:=s.len;refine List.ext_getElem (by simp [YB]; omega) fun y h1 h2=>?_
 have:=s.ex y h1;rw [Zm] at this;simp only [ND,List.range_zero,List.filter_nil,List.map_nil,List.append_nil] at this;simp only [YB,List.getElem_map,List.getElem_range]
 simpa [gE,h1] using this
theorem W7 {y : Int} (hy : 0≤y∧y<c.AO) : (YB c os).getD y.toNat default=(DE c os y).map Kr:=by
 rw [YB,AX _ _ (by omega),Int.toNat_of_nonneg hy.1]
def Ey (c : Ay) (os : List Int) : SF:=Ib c (YB c os)
theorem O5 {y : Int} (hy : 0≤y∧y<c.AO) : ix (Ey c os).A4 y=((DE c os y).length : Int):=by
 have hl : y.toNat<(YB c os).length:=by simp [YB]; omega
 rw [ix,Ey,Ib]
 show ((YB c os).map fun l=>(l.length : Int)).getD y.toNat default=_
 rw [BB _ hl,show (YB c os).getD y.toNat default=(DE c os y).map Kr from W7 hy,List.length_map]
theorem Z8 (hc : c.Is) {a : Nat} (ha : a<c.AJ.length) : (Ey c os).AU.getD a default=(List.range (DE c os (ix c.AJ (a : Int))).length).map fun e=>cB c os a e:=by
 have haI : 0≤(a : Int)∧((a : Int)).toNat<c.AJ.length:=by omega
 have hf:=hc.1.Cn haI.2
 have ht:=hc.1.Cb haI.2
 have Na : ix c.AJ (a : Int)=c.AJ.getD a default:=AH _ _
 have iy : ix c.to (a : Int)=c.to.getD a default:=AH _ _
 have hA : ∀ e,cB c os a e=KX c os (((DE c os (c.AJ.getD a default)).getD e default).1,ix (ix c.comp ((DE c os (c.AJ.getD a default)).getD e default).2) (a : Int)):=fun e=>by rw [cB,Na]
 rw [Na] at hf ⊢;rw [iy] at ht;rw [Ey,Ib]
 show ((List.range c.AJ.length).map (Dn c (YB c os))).getD a default=_
 rw [AX _ _ ha,Dn];rw [show (YB c os).getD (c.AJ.getD a default).toNat default=_ from W7 hf,show (YB c os).getD (c.to.getD a default).toNat default=_ from W7 ht,List.map_map];refine List.ext_getElem (by simp) fun e h1 h2=>?_
 have he : e<(DE c os (c.AJ.getD a default)).length:=by simpa using h1
 simp only [List.getElem_map,List.getElem_range,Function.comp_def]
 have e1 : (DE c os (c.AJ.getD a default))[e]=(DE c os (c.AJ.getD a default)).getD e default:=SA _ he;rw [e1,hA]
 have hm:=W2 he
 have jM:=Em.comp (q:=⟨os,[],[],[]⟩) hc hm.1 haI (by rw [Na]; exact hm.2)
 have CJ : (((DE c os (c.AJ.getD a default)).getD e default).1,ix (ix c.comp ((DE c os (c.AJ.getD a default)).getD e default).2) (a : Int))∈DE c os (c.to.getD a default):=Nx.mpr ⟨jM.1,by rw [jM.2,iy]⟩
 have:=Tj _ CJ (P5 os _);rw [Kr] at this
 have e2 : ([ix (Kr ((DE c os (c.AJ.getD a default)).getD e default)) 0,(ix c.comp (ix (Kr ((DE c os (c.AJ.getD a default)).getD e default)) 1)).getD a default] : List Int)=[((DE c os (c.AJ.getD a default)).getD e default).1,ix (ix c.comp ((DE c os (c.AJ.getD a default)).getD e default).2) (a : Int)]:=by
  rw [AH (ix c.comp ((DE c os (c.AJ.getD a default)).getD e default).2)]; rfl
 rw [e2,this,KX]
 show _=indexOf (DE c os (ix c.to (ix (ix c.comp ((DE c os (c.AJ.getD a default)).getD e default).2) (a : Int)))) _
 rw [jM.2,iy]
end
end Go.Shf
namespace Go.Shf
open Go.AW
def cD (l : List Int) : Prop:=∀ k : Int,0≤k→k<Jd l→k∈l
theorem Ta (l : List Int) : cD (En l):=fun k h0 hk=>by
 have hN : ∀ v,v∈En l→0≤v∧v<((EC l).length : Int):=fun v hv=>by
  obtain ⟨u,hu,rfl⟩:=List.mem_map.mp hv
  have:=BD ((HO _ l rfl u).mpr hu);omega
 have hb:=(Rv (N:=((EC l).length : Int)) (by omega) hN).1
 have hl : k.toNat<(EC l).length:=by omega
 have hi:=Bk (Us l) hl;refine List.mem_map.mpr ⟨(EC l).getD k.toNat default,(HO _ l rfl _).mp (AE.mpr ⟨_,hl,rfl⟩), ?_⟩;rw [hi]; omega
theorem OJ (n : Nat) (ps : List (List Int)) : cD (Ic n ps):=Ta _
def lQ (f : SF) (CC : List (List Int)) (a d e : Nat) : Prop :=
 (ix CC (f.shape.AJ.getD a default)).getD d default=(ix CC (f.shape.AJ.getD a default)).getD e default →
 ix (ix CC (f.shape.to.getD a default)) ((f.AU.getD a default).getD d default)=ix (ix CC (f.shape.to.getD a default)) ((f.AU.getD a default).getD e default)
def xx (f : SF) (CC : List (List Int)) (a d k : Nat) : Prop:=∀ e : Nat,e<k→lQ f CC a d e
def nM (f : SF) (CC : List (List Int)) (a k : Nat) : Prop:=∀ d : Nat,d<k→xx f CC a d d
def Cg (f : SF) (CC : List (List Int)) (k : Nat) : Prop:=∀ a : Nat,a<k→nM f CC a (f.AU.getD a default).length
theorem nM.at {f : SF} {CC : List (List Int)} {a k : Nat} (h : nM f CC a k) {d e : Nat} (hd : d<k) (he : e<k) : lQ f CC a d e:=fun q=>by
 rcases Nat.lt_trichotomy d e with l | l | l
 ·exact (h e he d l q.symm).symm
 ·rw [l]
 ·exact h d hd e l q
def LC (f : SF) (CC : List (List Int)) (a : Nat) (A : List Int) (k : Nat) : Prop:=(A.length : Int)=Jd (ix CC (f.shape.AJ.getD a default)) ∧
 ∀ e : Nat,e<k→ix A ((ix CC (f.shape.AJ.getD a default)).getD e default)=ix (ix CC (f.shape.to.getD a default)) ((f.AU.getD a default).getD e default)
theorem LC.set {f : SF} {CC : List (List Int)} {a k : Nat} {A : List Int} (h : LC f CC a A k) (hC : nM f CC a (f.AU.getD a default).length) (hk : k<(f.AU.getD a default).length)
  (h0 : ∀ e : Nat,e≤k→0≤(ix CC (f.shape.AJ.getD a default)).getD e default) (h1 : ((ix CC (f.shape.AJ.getD a default)).getD k default).toNat<A.length) :
  LC f CC a (A.set ((ix CC (f.shape.AJ.getD a default)).getD k default).toNat (ix (ix CC (f.shape.to.getD a default)) ((f.AU.getD a default).getD k default))) (k+1):=by
 refine ⟨by rw [List.length_set]; exact h.1,fun e he=>?_⟩;rw [ix,FC _ _ h1]
 split
 ·rename_i q
  have e0:=h0 e (by omega)
  have ek:=h0 k (by omega);exact hC.at hk (by omega) (by omega)
 ·rename_i q
  have Bp : e≠k:=fun h=>q (by rw [h]);exact h.2 e (by omega)
structure YK (f : SF) (CC : List (List Int)) (g : SF) : Prop where
 sh : g.shape=f.shape
 sz : g.A4=CC.map Jd
 al : g.AU.length=f.AU.length
 row : ∀ a : Nat,a<f.AU.length→LC f CC a (g.AU.getD a default) (f.AU.getD a default).length
structure eE (c : Ay) (v : List Int) (G : SF) (cls : Int × Int→Int) : Prop where
 sh : G.shape=c
 sl : (G.A4.length : Int)=c.AO
 al : G.AU.length=c.AJ.length
 sz : ∀ y,y∈G.A4→0≤y∧y<17
 len : ∀ a : Int,0≤a∧a.toNat<c.AJ.length→((ix G.AU a).length : Int)=ix G.A4 (ix c.AJ a)
 rng : ∀ p,Em c v p→0≤cls p∧cls p<ix G.A4 (ix c.to p.2)
 mA : ∀ y e : Int,0≤y∧y<c.AO→0≤e∧e<ix G.A4 y→∃ p,Em c v p∧ix c.to p.2=y∧cls p=e
 act : ∀ p,Em c v p→∀ a : Int,0≤a∧a.toNat<c.AJ.length→ix c.to p.2=ix c.AJ a→ix (ix G.AU a) (cls p)=cls (p.1,ix (ix c.comp p.2) a)
theorem eE.is {c : Ay} {v : List Int} {G : SF} {cls : Int × Int→Int} (k : eE c v G cls) (h : c.Is) : G.Is:=by
 obtain ⟨rfl,sl,al,sz,len,rng,mA,act⟩:=k
 have cmp:=fun (p : Int × Int) (hp : Em G.shape v p) (a : Int) (ha : 0≤a∧a.toNat<G.shape.AJ.length) (e : ix G.shape.to p.2=ix G.shape.AJ a)=>Em.comp (q:=⟨v,[],[],[]⟩) h hp ha e;refine ⟨⟨h,sl,al,sz,fun a ha=>?_⟩,⟨fun x hx e he=>?_,fun a b ha hb HL e he=>?_⟩⟩
 ·have QE : 0≤(a : Int)∧(a : Int).toNat<G.shape.AJ.length:=by omega
  have hl:=len a QE;rw [AH,AH] at hl;refine ⟨hl,fun y hy=>?_⟩
  obtain ⟨e,he,rfl⟩:=AE.mp hy
  have hf:=h.1.Cn QE.2
  obtain ⟨p,hp,ep,e2⟩:=mA (ix G.shape.AJ a) e hf (by rw [AH]; omega)
  have h1:=act p hp a QE ep
  have h2:=cmp p hp a QE ep
  have h3:=rng _ h2.1;rw [h2.2,← h1,e2,AH,AH,AH G.shape.to a] at h3;exact h3
 ·have Ya:=h.1.il
  have bA : 0≤(x : Int)∧(x : Int)<G.shape.AO:=by omega
  obtain ⟨i1,i2,i3⟩:=h.1.Um bA
  have e0 : ix G.shape.Av (x : Int)=G.shape.Av.getD x default:=AH _ _;rw [← e0] at he ⊢
  have hl:=len _ i1;rw [i2] at hl
  obtain ⟨p,hp,ep,e2⟩:=mA x e bA (by omega)
  have h1:=act p hp _ i1 (ep.trans i2.symm);rw [e2,AH,← ep,h.BQ hp.2.1,e2] at h1;rw [← ep]; exact h1
 ·have QE : 0≤(a : Int)∧(a : Int).toNat<G.shape.AJ.length:=by omega
  have Nb : 0≤(b : Int)∧(b : Int).toNat<G.shape.AJ.length:=by omega
  have hf:=h.1.Cn QE.2
  have hl:=len a QE;rw [AH,AH] at hl
  have tF : ix G.shape.to (a : Int)=ix G.shape.AJ (b : Int):=by rw [AH,AH]; exact HL
  obtain ⟨p,hp,ep,e2⟩:=mA (ix G.shape.AJ a) e hf (by rw [AH]; omega)
  have hc:=h.1.comp QE Nb tF
  have h1:=act p hp a QE ep
  have uq:=cmp p hp a QE ep
  have h2:=act _ uq.1 b Nb (uq.2.trans tF)
  have h3:=act p hp _ hc.1 (ep.trans hc.2.1.symm);simp only at h2;rw [← h1,h.assoc hp.2.1 QE Nb ep tF,← h3,e2] at h2;simp only [AH] at h2;exact h2.symm
theorem YK.is {c : Ay} {os : List Int} {CC : List (List Int)} {g : SF} (h : c.Is) (hK : ClsOk (Ey c os).A4 CC) (ct : ∀ x : Nat,x<CC.length→cD (CC.getD x default)) (q : YK (Ey c os) CC g) (h17 : ∀ y,y∈g.A4→y<17) : g.Is:=by
 have Fc : (Ey c os).A4.length=c.AO.toNat:=by simp [Ey,Ib,YB]
 have Q5 : (Ey c os).AU.length=c.AJ.length:=by simp [Ey,Ib]
 have TM:=h.1.o
 have Md : CC.length=c.AO.toNat:=by rw [hK.len,Fc]
 have CU : ∀ y : Int,0≤y∧y<c.AO→ix g.A4 y=Jd (ix CC y):=fun y hy=>by rw [ix,q.sz,BB _ (by omega)]; rfl
 have B3 : ∀ y : Int,0≤y∧y<c.AO→(ix CC y).length=(DE c os y).length:=fun y hy=>by
  have h1:=hK.row y.toNat (by omega)
  have h2:=O5 (os:=os) hy;rw [ix] at h2 ⊢;omega
 have fZ : ∀ y : Int,0≤y∧y<c.AO→∀ v,v∈ix CC y→0≤v∧v<Jd (ix CC y):=fun y hy v hv=>by
  have h1:=hK.QF y.toNat (by omega)
  have h2:=O5 (os:=os) hy;exact ⟨(h1 v hv).1,(Rv (N:=ix (Ey c os).A4 y) (by omega) h1).2 v hv⟩
 refine eE.is (c:=c) (v:=os) (cls:=fun p=>ix (ix CC (ix c.to p.2)) (KX c os p)) ⟨q.sh, ?_,by rw [q.al,Q5],fun y hy=>⟨?_,h17 y hy⟩,fun a ha=>?_,fun p hp=>?_,fun y e hy he=>?_,fun p hp a ha e=>?_⟩ h
 ·rw [q.sz,List.length_map]; omega
 ·rw [q.sz] at hy
  obtain ⟨l,hl,rfl⟩:=List.mem_map.mp hy
  obtain ⟨x,hx,rfl⟩:=AE.mp hl
  have h1:=hK.QF x (by rw [← hK.len]; exact hx)
  have h2:=hK.row x (by rw [← hK.len]; exact hx);exact (Rv (N:=(Ey c os).A4.getD x default) (by omega) h1).1.1
 ·have hf:=h.1.Cn ha.2
  have:=(q.row a.toNat (by rw [Q5]; exact ha.2)).1;rw [CU _ hf];exact this
 ·have ht:=h.1.Cb hp.2.1.2
  have Er:=(T3 hp).1;rw [CU _ ht];exact fZ _ ht _ (Bh (by rw [B3 _ ht]; exact Er.2))
 ·rw [CU y hy] at he
  have hc:=ct y.toNat (by omega) e he.1 he.2
  obtain ⟨i,hi,ei⟩:=AE.mp hc
  have hi : i<(DE c os y).length:=by rw [← B3 y hy]; exact hi
  obtain ⟨h1,h2⟩:=W2 hi;refine ⟨_,h1,h2, ?_⟩
  show ix (ix CC (ix c.to ((DE c os y).getD i default).2)) (KX c os ((DE c os y).getD i default))=e
  rw [h2,kD hi,AH]; exact ei
 ·have hf:=h.1.Cn ha.2
  have Vc:=T3 hp;rw [e] at Vc
  have h1:=Z8 (os:=os) h ha.2;rw [Int.toNat_of_nonneg ha.1] at h1
  have hl : ((Ey c os).AU.getD a.toNat default).length=(DE c os (ix c.AJ a)).length:=by rw [h1]; simp
  have h2:=(q.row a.toNat (by rw [Q5]; exact ha.2)).2 (KX c os p).toNat (by rw [hl]; exact Vc.1.2);rw [h1,AX _ _ Vc.1.2,fI hp e] at h2
  have h3:=h.1.comp hp.2.1 ha e
  show ix (ix g.AU a) (ix (ix CC (ix c.to p.2)) (KX c os p))=ix (ix CC (ix c.to (ix (ix c.comp p.2) a))) (KX c os (p.1,ix (ix c.comp p.2) a))
  rw [e,h3.2.2];exact h2
structure LQ (sz : List Int) (CC : List (List Int)) : Prop extends ClsOk sz CC where
 ct : ∀ x : Nat,x<sz.length→cD (CC.getD x default)
theorem Zh {sz : List Int} (h : ∀ y,y∈sz→0≤y) (PP : List (List (List Int))) : LQ sz ((List.range sz.length).map (Kx sz PP)) where
 toClsOk:=bR h PP
 ct x hx:=by rw [AX _ _ hx,Kx]; exact OJ _ _
theorem LQ.set {sz : List Int} {CC : List (List Int)} (s : LQ sz CC) {y : Nat} (hy : y<sz.length) {m : List Int} (hm : (m.length : Int)=sz.getD y default) (hr : ∀ v,v∈m→0≤v∧v<sz.getD y default) (hc : cD m) : LQ sz (CC.set y m) where
 toClsOk:=s.toClsOk.set hy hm hr
 ct x hx:=by
  rw [FC CC m (by rw [s.len]; exact hy)]
  split
  ·exact hc
  ·exact s.ct x hx
theorem ZX {P : Nat→List Int→Prop} {RR : List (List Int)} {A : List Int} {a : Nat} (hl : RR.length=a) (h : ∀ i : Nat,i<a→P i (RR.getD i default)) (hA : P a A) : ∀ i : Nat,i<a+1→P i ((RR++[A]).getD i default):=fun i hi=>by
 by_cases e : i=a
 ·subst e;rw [show (RR++[A]).getD i default=A by simp [gE,← hl]]; exact hA
 ·rw [show (RR++[A]).getD i default=RR.getD i default by simp [gE,List.getElem?_append_left (show i<RR.length by omega)]];exact h i (by omega)
end Go.Shf
namespace Go.Shf
open Go.AW
theorem kV {P : Nat→Bool} {n a : Nat} (ha : a<n) (h : P a=true) : ((List.range n).filter P).getD ((List.range a).filter P).length default=a∧((List.range a).filter P).length<((List.range n).filter P).length:=by
 obtain ⟨m,rfl⟩ : ∃ m,n=a+1+m:=⟨n - (a+1),by omega⟩
 have e : (List.range (a+1+m)).filter P=(List.range a).filter P++a::((List.range m).map (a+1+·)).filter P:=by
  rw [List.range_add,List.filter_append,List.range_succ,List.filter_append,List.filter_cons,if_pos h]; simp
 rw [e]
 constructor
 ·rw [gE,List.getElem?_append_right (Nat.le_refl _),Nat.sub_self]; rfl
 ·simp
section
variable {f g : SF} {p p' : List (List Int)} {x e d : Int} {k : Nat} {N : List (Int × Int)} {M M' : List (List (List Int))}
def LN (c : Ay) (x : Int) (a : Nat) : Nat:=((List.range a).filter fun i=>decide (c.AJ.getD i default=x)).length
theorem Qq (c : Ay) (x : Int) (a : Nat) : LN c x (a+1)=if c.AJ.getD a default=x then LN c x a+1 else LN c x a:=by
 rw [LN,LN,List.range_succ,List.filter_append,List.length_append]
 by_cases h : c.AJ.getD a default=x
 ·rw [if_pos h,List.filter_cons,if_pos (decide_eq_true h)]; simp
 ·rw [if_neg h,List.filter_cons,if_neg (by simpa using h)]; simp
def iR (f g : SF) (p : List (List Int)) (x e d : Int) : Prop:=∃ p' N,E7 f g p x e d (outs f.shape x).length p' N
theorem E7.bad2 (w : TL f g x e d) (s : E7 f g p x e d k p' N) (hk : k<(outs f.shape x).length) {a : Int} (ea : (outs f.shape x).getD k default=a)
  (h : 0≤ix (ix p' (ix f.shape.to a)) (ix (ix f.AU a) e)) (Bp : ix (ix p' (ix f.shape.to a)) (ix (ix f.AU a) e)≠ix (ix g.AU a) d) (t : List (List Int))
  (key : ∀ b,b∈outs f.shape x→ix (ix t (ix f.shape.to b)) (ix (ix f.AU b) e)=ix (ix g.AU b) d)
  (ht : ∀ y i : Int,0≤y∧y<f.shape.AO→0≤i∧i<ix f.A4 y→0≤ix (ix p y) i→ix (ix t y) i=ix (ix p y) i) : False:=by
 have hA:=w.arr (b:=a) (AE.mpr ⟨k,hk,ea⟩)
 have h1:=key a (AE.mpr ⟨k,hk,ea⟩)
 rcases s.new _ _ hA.2.2.1.1 hA.2.2.2.1.1 with q | ⟨_,b,hb,q3,q4,q5⟩
 ·rw [q] at h Bp;exact Bp ((ht _ _ hA.2.2.1 hA.2.2.2.1 h).symm.trans h1)
 ·have h2:=key b (List.mem_of_mem_take hb);rw [q3,q4] at h2;exact Bp (q5.trans (h2.symm.trans h1))
theorem E7.uY (w : TL f g x e d) (s : E7 f g p x e d k p' N) (hk : k<(outs f.shape x).length) {a : Int} (ea : (outs f.shape x).getD k default=a)
  (h : 0≤ix (ix p' (ix f.shape.to a)) (ix (ix f.AU a) e)) (Bp : ix (ix p' (ix f.shape.to a)) (ix (ix f.AU a) e)≠ix (ix g.AU a) d) : ¬ iR f g p x e d:=fun ⟨q,N',hq⟩ =>
 s.bad2 w hk ea h Bp q (fun b hb=>hq.XR b (by rw [List.take_length]; exact hb)) fun y i hy hi h0=>hq.B6 hy.1 hi.1 (by omega)
theorem dP (w : TL f g x e d) (hP : PT f g p) : iR f g p x e d∨∀ t,HR f g p t→ix (ix t x) e≠d:=by
 have key : ∀ k,k≤(outs f.shape x).length→(∃ p' N,E7 f g p x e d k p' N)∨∀ t,HR f g p t→ix (ix t x) e≠d:=by
  intro k
  induction k with
  | zero=>intro _; exact .inl ⟨p,[],.zero f g p x e d⟩
  | succ k ih =>
   intro hk
   rcases ih (by omega) with ⟨p',N,s⟩ | h
   ·by_cases h0 : 0≤ix (ix p' (ix f.shape.to ((outs f.shape x).getD k default))) (ix (ix f.AU ((outs f.shape x).getD k default)) e)
    ·by_cases h1 : ix (ix p' (ix f.shape.to ((outs f.shape x).getD k default))) (ix (ix f.AU ((outs f.shape x).getD k default)) e)=ix (ix g.AU ((outs f.shape x).getD k default)) d
     ·exact .inl ⟨_,_,s.same (by omega) rfl h1⟩
     ·exact .inr (s.bad w (by omega) rfl h0 h1)
    ·exact .inl ⟨_,_,s.fresh w hP (by omega) rfl h0⟩
   ·exact .inr h
 exact key _ (Nat.le_refl _)
theorem Nr (w : TL f g x e d) (hP : PT f g p) (h : ¬ iR f g p x e d) : ∀ t,HR f g p t→ix (ix t x) e≠d:=(dP w hP).resolve_left h
structure Ug (f : SF) (p : List (List Int)) (x e : Int) : Prop where
 hx : 0≤x∧x<f.shape.AO
 he : 0≤e∧e<ix f.A4 x
 un : ix (ix p x) e=-1
 fst : ∀ y i : Int,0≤y∧y<f.shape.AO→0≤i∧i<ix f.A4 y→(y<x∨(y=x∧i<e))→ix (ix p y) i≠-1
theorem pG (h : Ug f p x e) (hP : PT f g p) (hs : (f.A4.length : Int)=f.shape.AO) {s t : List (List Int)} (s1 : HR f g p s) (t1 : HR f g p t) (D1 : ix (ix s x) e<ix (ix t x) e) : uE s t:=by
 refine ⟨x.toNat,e.toNat,fun y i hyi=>?_,D1⟩
 have hx:=h.hx
 have he:=h.he
 have hy : (0 : Int)≤(y : Int)∧(y : Int)<f.shape.AO:=by omega
 have l1:=(s1.1.pl y hy).1
 have l2:=(t1.1.pl y hy).1
 by_cases hi : (i : Int)<ix f.A4 y
 ·have Fh : (0 : Int)≤(i : Int)∧(i : Int)<ix f.A4 y:=⟨by omega,hi⟩
  have Bp:=h.fst y i hy Fh (by omega)
  have XU:=((hP.val y i hy Fh).resolve_left Bp).1
  have a1:=s1.2 y i hy Fh XU
  have a2:=t1.2 y i hy Fh XU
  have:=a1.trans a2.symm
  simpa only [AH] using this
 ·rw [AH] at l1 l2;rw [gE,gE (l:=t.getD y default),List.getElem?_eq_none (by omega),List.getElem?_eq_none (by omega)]
theorem FP.skip {j j' : Int} (h : FP f g p x e j M) (hj : j≤j') (hn : ∀ u,j≤u→u<j'→∀ t,HR f g p t→ix (ix t x) e≠u) : FP f g p x e j' M:=⟨h.N9,fun t=>by
 rw [h.mem]
 constructor
 ·rintro ⟨h1,h2⟩; exact ⟨h1,by omega⟩
 ·rintro ⟨h1,h2⟩;refine ⟨h1, ?_⟩
  by_cases D1 : ix (ix t x) e<j
  ·exact D1
  ·exact absurd rfl (hn _ (by omega) h2 t h1)⟩
theorem FP.next (h : Ug f p x e) (hP : PT f g p) (hs : (f.A4.length : Int)=f.shape.AO) {j : Int} (ha : FP f g p x e j M) (h2 : Dl f g p' M') (hp : ∀ t,HR f g p' t↔HR f g p t∧ix (ix t x) e=j) : FP f g p x e (j+1) (M++M') :=
 ha.more h.hx h.he h2 hs (fun y i hy hi=>(hP.val y i hy hi).imp id fun h=>h.1) hp h.fst
theorem FP.pre (h : Ug f p x e) (hP : PT f g p) (hs : (f.A4.length : Int)=f.shape.AO) {j : Int} (ha : FP f g p x e j M) {L : List (List (List Int))} (hL : Dl f g p L) : M <+: L:=by
 have : Dl f g p (M++L.filter fun t=>decide (j≤ix (ix t x) e)):=by
  refine ⟨List.pairwise_append.mpr ⟨ha.N9,hL.N9.sublist List.filter_sublist,fun s Hl t ht=>?_⟩,fun t=>?_⟩
  ·obtain ⟨s1,s2⟩:=(ha.mem s).mp Hl;rw [List.mem_filter,decide_eq_true_eq,hL.mem] at ht;exact pG h hP hs s1 ht.1 (by omega)
  ·rw [List.mem_append,ha.mem,List.mem_filter,decide_eq_true_eq,hL.mem]
   constructor
   ·rintro (h | h) <;> exact h.1
   ·intro h1
    by_cases D1 : ix (ix t x) e<j
    ·exact .inl ⟨h1,D1⟩
    ·exact .inr ⟨h1,by omega⟩
 rw [hL.uniq this];exact List.prefix_append _ _
theorem cS {P : Nat→Prop} (h : ∃ n,P n) : ∃ n,P n∧∀ m,m<n→¬ P m:=by
 obtain ⟨n,hn⟩:=h
 induction n using Nat.strongRecOn with
 | _ n ih =>
  by_cases hc : ∃ m,m<n∧P m
  ·obtain ⟨m,h1,h2⟩:=hc;exact ih m h1 h2
  ·exact ⟨n,hn,fun m hm hP=>hc ⟨m,hm,hP⟩⟩
theorem qG (hf : f.Is) (hP : PT f g p) : (∃ x e,Ug f p x e)∨∀ y i : Int,0≤y∧y<f.shape.AO→0≤i∧i<ix f.A4 y→ix (ix p y) i≠-1:=by
 cases hq : (Tg f).find? fun q=>decide (ix (ix p q.1) q.2=-1) with
 | none =>
  refine .inr fun y i hy hi e=>?_
  have:=List.find?_eq_none.mp hq (y,i) ((Oh hf.1).mpr ⟨hy,hi⟩)
  simp [e] at this
 | some q =>
  by_cases hn : ∀ y i : Int,0≤y∧y<f.shape.AO→0≤i∧i<ix f.A4 y→ix (ix p y) i≠-1
  ·exact .inr hn
  ·refine .inl ?_
   have hex : ∃ n : Nat,∃ i : Int,((n : Int)<f.shape.AO)∧(0≤i∧i<ix f.A4 n)∧ix (ix p n) i=-1:=by
    false_or_by_contra
    rename_i hc
    refine hn fun y i hy hi he=>hc ⟨y.toNat,i, ?_, ?_, ?_⟩
    ·omega
    ·rw [Int.toNat_of_nonneg hy.1]; exact hi
    ·rw [Int.toNat_of_nonneg hy.1]; exact he
   obtain ⟨n,⟨i0,l7,mh,kl⟩,rY⟩:=cS hex
   have hex2 : ∃ m : Nat,((m : Int)<ix f.A4 n)∧ix (ix p n) m=-1:=⟨i0.toNat,by omega,by rw [Int.toNat_of_nonneg mh.1]; exact kl⟩
   obtain ⟨m,⟨mc,wT⟩,jo⟩:=cS hex2;refine ⟨n,m,⟨by omega,l7⟩,⟨by omega,mc⟩,wT,fun y i hy hi D1 he=>?_⟩
   rcases D1 with h | ⟨rfl,h⟩
   ·refine rY y.toNat (by omega) ⟨i,by omega, ?_, ?_⟩
    ·rw [Int.toNat_of_nonneg hy.1]; exact hi
    ·rw [Int.toNat_of_nonneg hy.1]; exact he
   ·refine jo i.toNat (by omega) ⟨by omega, ?_⟩;rw [Int.toNat_of_nonneg hi.1]; exact he
theorem eK (hf : f.Is) (hg : g.Is) (sh : f.shape=g.shape) : ∀ (n : Nat) (p : List (List Int)),Iv f p=n→PT f g p→∃ M,Dl f g p M:=by
 intro n
 induction n using Nat.strongRecOn with
 | _ n ih =>
 intro p hn hP
 rcases qG hf hP with ⟨x,e,h⟩ | h
 rotate_left 1
 ·exact ⟨[p],KO hf hP h⟩
 have Fg:=hf.1.sl
 have key : ∀ d : Nat,(d : Int)≤ix g.A4 x→∃ M,FP f g p x e d M:=by
  intro d
  induction d with
  | zero=>intro _; exact ⟨[],.zero h.hx h.he⟩
  | succ d ihd =>
   intro hd
   obtain ⟨M,hM⟩:=ihd (by omega)
   have Hs : TL f g x e d:=⟨hf,hg,sh,h.hx,h.he,by omega⟩
   rcases dP Hs hP with ⟨p',N,s⟩ | ES
   ·obtain ⟨M',wI⟩:=ih (Iv f p') (by rw [← hn]; exact s.less Hs hP h.un) p' rfl (s.pt Hs hP);exact ⟨M++M',by rw [Int.natCast_succ]; exact hM.next h hP Fg wI fun t=>s.ext Hs hP t⟩
   ·exact ⟨M,by rw [Int.natCast_succ]; exact hM.none ES⟩
 have hX:=hg.1.vE (x:=x) (by rw [← sh]; exact h.hx)
 have h0:=(hg.1.sz _ (Bh hX.2)).1
 obtain ⟨M,hM⟩:=key (ix g.A4 x).toNat (by omega);rw [Int.toNat_of_nonneg h0] at hM;exact ⟨M,hM.done h.hx h.he⟩
noncomputable def Cz (f g : SF) (p : List (List Int)) : List (List (List Int)):=open Classical in if h : ∃ M,Dl f g p M then Classical.choose h else []
theorem Gb (hf : f.Is) (hg : g.Is) (sh : f.shape=g.shape) (hP : PT f g p) : Dl f g p (Cz f g p):=by
 have h:=eK hf hg sh _ p rfl hP;rw [Cz,dif_pos h]; exact Classical.choose_spec h
theorem J0 (hf : f.Is) (hg : g.Is) (sh : f.shape=g.shape) (hP : PT f g p) {M : List (List (List Int))} (h : Dl f g p M) : M=Cz f g p:=h.uniq (Gb hf hg sh hP)
noncomputable def EK (f g : SF) (p : List (List Int)) (x e : Int) (n : Nat) : List Int:=open Classical in ((List.range n).filter fun u : Nat=>decide (iR f g p x e u)).map Int.ofNat
theorem qB {n : Nat} (h : iR f g p x e n) : EK f g p x e (n+1)=EK f g p x e n++[(n : Int)]:=by
 classical
 rw [EK,List.range_succ,List.filter_append,List.filter_cons,if_pos (decide_eq_true h),List.map_append]; rfl
theorem qM {n : Nat} (h : ¬ iR f g p x e n) : EK f g p x e (n+1)=EK f g p x e n:=by
 classical
 rw [EK,List.range_succ,List.filter_append,List.filter_cons,if_neg (by simpa using h),List.map_append]; simp [EK]
theorem Ub (n : Nat) : (EK f g p x e n).length≤n:=by
 rw [EK,List.length_map];refine Nat.le_trans (List.length_filter_le _ _) ?_;rw [List.length_range]; exact Nat.le_refl _
theorem J9 {n : Nat} {u : Int} : u∈EK f g p x e n↔(0≤u∧u<n)∧iR f g p x e u:=by
 classical
 simp only [EK,List.mem_map,List.mem_filter,List.mem_range,decide_eq_true_eq]
 constructor
 ·rintro ⟨a,⟨h1,h2⟩,rfl⟩;exact ⟨⟨by simp,by simpa using h1⟩,h2⟩
 ·rintro ⟨⟨h1,h2⟩,h3⟩;refine ⟨u.toNat,⟨by omega, ?_⟩,by simp [Int.toNat_of_nonneg h1]⟩;rw [Int.toNat_of_nonneg h1]; exact h3
theorem fJ (n : Nat) : (EK f g p x e n).Pairwise (·<·):=by
 classical
 rw [EK,List.pairwise_map];refine List.Pairwise.imp (R:=fun a b : Nat=>a<b) (fun {a b} h=>by simpa using h) ?_;exact List.Pairwise.sublist List.filter_sublist List.pairwise_lt_range
theorem dK (hf : f.Is) (hg : g.Is) (sh : f.shape=g.shape) (hP : PT f g p) (hx : 0≤x∧x<f.shape.AO) (he : 0≤e∧e<ix f.A4 x) (h : EK f g p x e (ix g.A4 x).toNat=[]) : Dl f g p []:=by
 refine ⟨.nil,fun t=>⟨fun h=>by simp at h,fun ht=>?_⟩⟩
 have hv:=(ht.1.pl x hx).2 e he
 have Hs : TL f g x e (ix (ix t x) e):=⟨hf,hg,sh,hx,he,hv⟩
 have ES : ¬ iR f g p x e (ix (ix t x) e):=fun Eb=>by
  have : ix (ix t x) e∈EK f g p x e (ix g.A4 x).toNat:=J9.mpr ⟨⟨hv.1,by omega⟩,Eb⟩;rw [h] at this; simp at this
 exact absurd rfl (Nr Hs hP ES t ht)
structure V7 (f g : SF) (p : List (List Int)) (x e : Int) (n i : Nat) (b : Int) (M : List (List (List Int))) : Prop where
 acc : FP f g p x e b M
 b0 : 0≤b∧b≤n
 lo : ∀ u,u∈(EK f g p x e n).drop i→b≤u
 hi : ∀ u,b≤u→u<n→iR f g p x e u→u∈(EK f g p x e n).drop i
theorem V7.start (hx : 0≤x∧x<f.shape.AO) (he : 0≤e∧e<ix f.A4 x) (n : Nat) : V7 f g p x e n 0 0 [] :=
 ⟨.zero hx he,by omega,fun u hu=>(J9.mp (by simpa using hu)).1.1,fun u h1 h2 h3=>by simpa using J9.mpr ⟨⟨h1,h2⟩,h3⟩⟩
theorem V7.step (w : ∀ d,0≤d→d<ix g.A4 x→TL f g x e d) (h : Ug f p x e) (hP : PT f g p) (hs : (f.A4.length : Int)=f.shape.AO) {n i : Nat} {b : Int} (hn : (n : Int)=ix g.A4 x) (s : V7 f g p x e n i b M) (hi : i<(EK f g p x e n).length)
  {c : Int} (hc : (EK f g p x e n).getD i default=c) (h2 : Dl f g p' M') (hp : ∀ t,HR f g p' t↔HR f g p t∧ix (ix t x) e=c) : V7 f g p x e n (i+1) (c+1) (M++M'):=by
 have hm:=J9.mp (AE.mpr ⟨i,hi,hc⟩)
 have ed : (EK f g p x e n).drop i=c::(EK f g p x e n).drop (i+1):=by
  rw [List.drop_eq_getElem_cons hi]
  congr 1
  rw [← hc,gE,List.getElem?_eq_getElem hi]; rfl
 have iX : ∀ u,u∈(EK f g p x e n).drop (i+1)→c<u:=by
  have:=(fJ (f:=f) (g:=g) (p:=p) (x:=x) (e:=e) n).sublist (List.drop_sublist i _);rw [ed,List.pairwise_cons] at this;exact this.1
 have hbc:=s.lo c (by rw [ed]; simp);refine ⟨FP.next h hP hs (s.acc.skip hbc fun u h1 h2 t ht=>?_) h2 hp,by omega,fun u hu=>by have:=iX u hu; omega,fun u h1 h2 h3=>?_⟩
 ·have h0:=s.b0;refine Nr (w u (by omega) (by omega)) hP (fun Eb=>?_) t ht
  have:=s.hi u h1 (by omega) Eb;rw [ed] at this
  rcases List.mem_cons.mp this with rfl | hu
  ·omega
  ·have:=iX u hu; omega
 ·have:=s.hi u (by omega) h2 h3;rw [ed] at this
  rcases List.mem_cons.mp this with rfl | hu
  ·omega
  ·exact hu
theorem V7.done (w : ∀ d,0≤d→d<ix g.A4 x→TL f g x e d) (h : Ug f p x e) (hP : PT f g p) {n : Nat} {b : Int} (hn : (n : Int)=ix g.A4 x) (s : V7 f g p x e n (EK f g p x e n).length b M) : Dl f g p M:=by
 refine FP.done h.hx h.he ?_;refine s.acc.skip (by have:=s.b0; omega) fun u h1 h2 t ht=>?_
 have h0:=s.b0;refine Nr (w u (by omega) h2) hP (fun Eb=>?_) t ht
 have:=s.hi u h1 (by omega) Eb
 simp at this
end
end Go.Shf
namespace Go.Shf
open Go.AW
section
variable {f g : SF} {p : List (List Int)} {x e : Int}
def Ez (f : SF) (p : List (List Int)) (Y D x e : Int) : Prop :=
 ((x=-1∧e=-1)∨((0≤x∧x<f.shape.AO)∧(0≤e∧e<ix f.A4 x)∧ix (ix p x) e=-1∧(Y<x∨(Y=x∧D≤e)))) ∧
  ∀ y i : Int,0≤y∧y<f.shape.AO→0≤i∧i<ix f.A4 y→(Y<y∨(Y=y∧D≤i))→ix (ix p y) i=-1→0≤x∧(x<y∨(x=y∧e≤i))
theorem Ez.start {n : Int} (hn : f.shape.AO≤n) : Ez f p n 0 (-1) (-1):=⟨.inl ⟨rfl,rfl⟩,fun y i hy _ h _=>by omega⟩
theorem Ez.row {Y D : Int} (hD : ix f.A4 Y≤D) (s : Ez f p (Y+1) 0 x e) : Ez f p Y D x e:=⟨s.1.imp id fun ⟨h1,h2,h3,h4⟩=>⟨h1,h2,h3,by omega⟩,fun y i hy hi h h0=>by
 refine s.2 y i hy hi ?_ h0
 rcases h with h | ⟨rfl,h⟩
 ·rcases Int.lt_or_le (Y+1) y with h2 | h2
  ·exact .inl h2
  ·exact .inr ⟨by omega,hi.1⟩
 ·omega⟩
theorem Ez.B6 {Y D : Int} (s : Ez f p Y (D+1) x e) (h0 : ix (ix p Y) D≠-1) : Ez f p Y D x e:=⟨s.1.imp id fun ⟨h1,h2,h3,h4⟩=>⟨h1,h2,h3,by omega⟩,fun y i hy hi h h1=>by
 refine s.2 y i hy hi ?_ h1
 rcases h with h | ⟨rfl,h⟩
 ·exact .inl h
 ·refine .inr ⟨rfl, ?_⟩
  by_cases e : i=D
  ·subst e; exact absurd h1 h0
  ·omega⟩
theorem Ez.XR {Y D : Int} (s : Ez f p Y (D+1) x e) (hY : 0≤Y∧Y<f.shape.AO) (hD : 0≤D∧D<ix f.A4 Y) (h0 : ix (ix p Y) D=-1) : Ez f p Y D Y D:=⟨.inr ⟨hY,hD,h0,.inr ⟨rfl,by omega⟩⟩,fun y i hy hi h h1=>⟨hY.1,h⟩⟩
theorem Ez.none (s : Ez f p 0 0 x e) (hx : x<0) : ∀ y i : Int,0≤y∧y<f.shape.AO→0≤i∧i<ix f.A4 y→ix (ix p y) i≠-1:=fun y i hy hi h=>by
 have:=(s.2 y i hy hi (by omega) h).1;omega
theorem Ez.fst (s : Ez f p 0 0 x e) (hx : ¬ x<0) : Ug f p x e:=by
 rcases s.1 with h | ⟨h1,h2,h3,_⟩
 ·omega
 ·refine ⟨h1,h2,h3,fun y i hy hi D1 h=>?_⟩
  have:=s.2 y i hy hi (by omega) h;omega
end
end Go.Shf
namespace Go.AW
def Cp (a : AV) : Prop:=∀ (g g' : Gh) (v : Value),(∀ i p,g.io i=some p→g'.io i=some p)→Ab g a v→Ab g' a v
theorem Cp.int (k : IntKind) (n : Int) : Cp (.int k n):=fun g g' v _ h=>by cases h; exact .int k n
theorem Cp.bool (b : Bool) : Cp (.bool b):=fun g g' v _ h=>by cases h; exact .bool b
theorem Cp.buf (i n : Nat) : Cp (.buf i n):=fun g g' v hg h=>by
 cases h with
 | DX _ h=>exact .DX _ (hg _ _ h)
 | buf _ _ b cap h=>exact .buf _ _ b cap (hg _ _ h)
theorem Cp.A1 : Cp .A1:=fun g g' v hg h=>by cases h; exact .A1
theorem Cp.agg {cs : List AV} (hc : ∀ c,c∈cs→Cp c) : Cp (.agg cs):=fun g g' v hg h=>by
 cases h with
 | agg _ vs hs hv =>
  refine .agg cs vs hs fun i hi=>hc _ ?_ g g' _ hg (hv i hi);rw [gE,List.getElem?_eq_getElem hi]; simp
theorem Cp.CG {cs : List AV} (hc : ∀ c,c∈cs→Cp c) : Cp (.CG cs):=fun g g' v hg h=>by
 cases h with
 | CG _ vs hs hv =>
  refine .CG cs vs hs fun i hi=>hc _ ?_ g g' _ hg (hv i hi);rw [gE,List.getElem?_eq_getElem hi]; simp
def AF.plain : AF→Prop
 | .cells _ cs _=>∀ c,c∈cs→Cp c
 | .map _ _=>False
def AF.Ov : AF→AF
 | .cells sz cs _=>.cells sz cs cs.length
 | o=>o
def AF.isMap : AF→Bool
 | .map _ _=>true
 | _=>false
def Yr : Option AF→Option AF
 | some (.cells sz cs _)=>some (.cells sz cs cs.length)
 | _=>none
def AB.Ov (H : AB) : AB:=(H.filter fun x=>!((H.get x.1).elim false AF.isMap)).map fun x=>(x.1,x.2.Ov)
theorem AB.get_filter (H : AB) (p : Nat→Bool) (i : Nat) : AB.get (H.filter fun x=>p x.1) i=if p i then H.get i else none:=by
 induction H with
 | nil=>simp [AB.get]
 | cons x r ih =>
  obtain ⟨j,o⟩:=x;simp only [AB.get,List.filter_cons,List.lookup] at ih ⊢
  by_cases hp : p j
  ·simp only [hp,if_true,List.lookup]
   by_cases e : i=j
   ·subst e; simp [hp]
   ·have : (i == j)=false:=by simpa using e
    simp [this,ih]
  ·simp only [hp,Bool.false_eq_true,if_false]
   by_cases e : i=j
   ·subst e; rw [ih]; simp [hp]
   ·have : (i == j)=false:=by simpa using e
    simp [this,ih]
theorem AB.get_map (H : AB) (f : AF→AF) (i : Nat) : AB.get (H.map fun x=>(x.1,f x.2)) i=(H.get i).map f:=by
 induction H with
 | nil=>rfl
 | cons x r ih =>
  obtain ⟨j,o⟩:=x;simp only [AB.get,List.map_cons,List.lookup] at ih ⊢
  by_cases e : i=j
  ·subst e; simp
  ·have : (i == j)=false:=by simpa using e
   simp [this,ih]
theorem AB.LW (H : AB) (i : Nat) : H.Ov.get i=Yr (H.get i):=by
 unfold AB.Ov;rw [AB.get_map,AB.get_filter H fun j=>!((H.get j).elim false AF.isMap)]
 cases h : H.get i with
 | none=>simp [Yr]
 | some o=>cases o <;> simp [AF.isMap,Yr,AF.Ov]
theorem RT {o : Option AF} {x : AF} (h : Yr o=some x) : ∃ sz cs f,o=some (.cells sz cs f)∧x=.cells sz cs cs.length:=by
 unfold Yr at h
 split at h
 ·cases h; exact ⟨_,_,_,rfl,rfl⟩
 ·cases h
inductive Tr (H : AB) : AV→AV→Prop
 | val (a : AV) : Tr H a a
 | buf (id f : Nat) (cs es : List AV) (h : H.get id=some (.cells 1 cs f)) (hl : es.length=cs.length) (h1 : ∀ i,i<cs.length→(es.getD i nv).cells=[es.getD i nv])
   (ht : ∀ i,i<cs.length→Tr H (cs.getD i nv) (es.getD i nv)) : Tr H (.buf id cs.length) (.sl es)
 | agg (cs es : List AV) (hl : es.length=cs.length) (ht : ∀ i,i<cs.length→Tr H (cs.getD i nv) (es.getD i nv)) : Tr H (.agg cs) (.agg es)
 | ref (id sz f : Nat) (cs es : List AV) (h : H.get id=some (.cells sz cs f)) (hl : es.length=cs.length) (ht : ∀ i,i<cs.length→Tr H (cs.getD i nv) (es.getD i nv)) : Tr H (.ref id 0) (.ptr es)
def nD : Option Obj→Option (Array MapEntry)
 | some (.map es _)=>some es
 | _=>none
noncomputable def Gh.EB (g : Gh) (H : AB) (w : World) : Gh :=
 {
  fz:=fun b o=>@ite _ (∃ id cap sz cs f,H.get id=some (.cells sz cs f)∧g.io id=some (.HC b cap)∧o<cs.length) (Classical.propDecidable _) (w.cell? ⟨b,o,none⟩) (g.fz b o)
  fm:=fun b=>@ite _ (∃ id ks vs,H.get id=some (.map ks vs)∧g.io id=some (.mp b)) (Classical.propDecidable _) (nD w.heap[b]?) (g.fm b)
  io:=g.io }
theorem Gh.IM {g : Gh} {B : Nat} {H : AB} {w : World} (h : Ao g B H w) : g.le (g.EB H w):=by
 refine ⟨fun b o v e=>?_,fun b es e=>?_,fun _ _ h=>h⟩
 ·simp only [Gh.EB]
  split
  ·exact h.fz b o v e
  ·exact e
 ·simp only [Gh.EB]
  split
  ·obtain ⟨clk,hc⟩:=h.fm b es e;rw [hc]; rfl
  ·exact e
theorem Ao.EB {g : Gh} {B : Nat} {H : AB} {w : World} (h : Ao g B H w) : Ao (g.EB H w) B H.Ov w:=by
 have hle:=Gh.IM h
 have Yc : ∀ i,(H.Ov.get i).isSome→(H.get i).isSome:=by
  intro i e
  obtain ⟨o,e⟩:=Option.isSome_iff_exists.1 e;rw [AB.LW] at e
  obtain ⟨sz,cs,f,e,_⟩:=RT e
  simp [e]
 constructor
 ·intro b o v e;simp only [Gh.EB] at e
  split at e
  ·exact e
  ·exact h.fz b o v e
 ·intro b es e;simp only [Gh.EB] at e
  split at e
  ·unfold nD at e
   split at e
   ·rename_i es' clk hc; cases e; exact ⟨clk,hc⟩
   ·cases e
  ·exact h.fm b es e
 ·intro i o e;rw [AB.LW] at e
  obtain ⟨sz,cs,f,e1,rfl⟩:=RT e;clear e
  obtain ⟨p,hp,hr⟩:=h.ob i _ e1;refine ⟨p,hp, ?_⟩
  cases p with
  | nil=>simp only [Aj] at hr ⊢; simp [hr.1]
  | HC b cap =>
   simp only [Aj] at hr ⊢
   obtain ⟨h1,h2,h3,h4,c,el,h5,h6,h7,h8⟩:=hr;refine ⟨h1,Nat.le_refl _,h3,fun x hx=>?_,c,el,h5,h6,h7,fun i hi=>(h8 i hi).mono hle⟩;simp only [Gh.EB];rw [if_neg,h4 x (by omega)]
   rintro ⟨id,cap',sz',cs',f',a1,a2,a3⟩
   by_cases K9 : id=i
   ·subst K9; rw [e1] at a1; cases a1; omega
   ·exact h.inj id i b cap' cap K9 (by simp [a1]) (by simp [e1]) a2 hp
  | mp b=>simp [Aj] at hr
 ·intro i j b c c' n e1 e2;exact h.inj i j b c c' n (Yc i e1) (Yc j e2)
 ·intro i j b n e1 e2;exact h.HK i j b n (Yc i e1) (Yc j e2)
 ·exact h.base
 ·exact h.fin
theorem Tr.zu {g : Gh} {B : Nat} {H : AB} {w : World} (hW : Ao g B H w) {a e : AV} (t : Tr H a e) : ∀ v,Ab g a v→Ab (g.EB H w) e v:=by
 induction t with
 | val a=>intro v h; exact h.mono (Gh.IM hW)
 | buf id f cs es h hl h1 ht ih =>
  intro v hv
  obtain ⟨p,hp,hr⟩:=hW.ob id _ h
  generalize hn : cs.length=n at *
  cases hv with
  | DX _ hq =>
   have : es=[]:=List.eq_nil_of_length_eq_zero hl;subst this;exact .slnil none 0
  | buf _ _ b cap hq =>
   rw [hp] at hq; cases hq;simp only [Aj] at hr
   obtain ⟨r1,r2,r3,r4,c,el,r5,r6,r7,r8⟩:=hr
   have oH : es.length=cs.length:=by omega
   have key : ∀ i j,i<es.length→j<1→i*1+j=i:=by intro i j _ hj; omega
   refine hl ▸ Ab.sl es b 0 1 cap (fun i=>c.getD i undef) (by omega) (by omega) (fun i hi=>?_) (fun i j hi hj=>?_) (fun i j hi hj=>?_)
   ·rw [h1 i (by omega)]; rfl
   ·rw [key i j hi hj,Nat.zero_add];simp only [Gh.EB];rw [if_pos ⟨id,cap,1,cs,f,h,hp,by omega⟩];rw [cell_of_row w b i c el (0,0) r5]
    have : i<c.size:=by omega
    simp [Array.getD,this]
   ·rw [key i j hi hj,h1 i (by omega)]
    obtain rfl : j=0:=by omega
    exact ih i (by omega) _ (r8 i (by omega))
 | agg cs es hl ht ih =>
  intro v hv
  cases hv with
  | agg _ vs hs hv=>exact .agg es vs (by omega) fun i hi=>ih i (by omega) _ (hv i (by omega))
 | ref id sz f cs es h hl ht ih =>
  intro v hv
  obtain ⟨p,hp,hr⟩:=hW.ob id _ h
  cases hv with
  | ref _ _ b cap hq =>
   rw [hp] at hq; cases hq;simp only [Aj] at hr
   obtain ⟨r1,r2,r3,r4,c,el,r5,r6,r7,r8⟩:=hr;refine .ptr es b 0 (fun i=>c.getD i undef) (fun i hi=>?_) (fun i hi=>ih i (by omega) _ (r8 i (by omega)));rw [Nat.zero_add];simp only [Gh.EB];rw [if_pos ⟨id,cap,sz,cs,f,h,hp,by omega⟩];rw [cell_of_row w b i c el (0,0) r5]
   have : i<c.size:=by omega
   simp [Array.getD,this]
theorem AB.get_append (l H : AB) (i : Nat) : AB.get (l++H) i=(AB.get l i).or (H.get i):=by
 induction l with
 | nil=>simp [AB.get]
 | cons x r ih =>
  obtain ⟨j,o⟩:=x;simp only [AB.get,List.cons_append,List.lookup] at ih ⊢
  by_cases e : i=j
  ·subst e; simp
  ·have : (i == j)=false:=by simpa using e
   simp [this,ih]
theorem AB.get_mem {l : AB} {i : Nat} {o : AF} (h : AB.get l i=some o) : (i,o)∈l:=by
 induction l with
 | nil=>simp [AB.get] at h
 | cons x r ih =>
  obtain ⟨j,o'⟩:=x;simp only [AB.get,List.lookup] at ih h
  by_cases e : i=j
  ·subst e; simp at h; simp [h]
  ·have : (i == j)=false:=by simpa using e
   simp only [this] at h;exact List.mem_cons_of_mem _ (ih h)
theorem AB.Xn {l : AB} (nd : (l.map Prod.fst).Nodup) {x : Nat × AF} (h : x∈l) : AB.get l x.1=some x.2:=by
 induction l with
 | nil=>simp at h
 | cons y r ih =>
  obtain ⟨j,o'⟩:=y;simp only [List.map_cons,List.nodup_cons] at nd;simp only [AB.get,List.lookup]
  rcases List.mem_cons.mp h with rfl | hm
  ·simp
  ·have : (x.1 == j)=false:=by
    simp only [beq_eq_false_iff_ne,ne_eq]
    intro e; exact nd.1 (e ▸ List.mem_map_of_mem hm)
   simp only [this];exact ih nd.2 hm
theorem Ao.bM {g g' : Gh} {B : Nat} {H H' l : AB} {w w' : World} (h : Ao g B H w) (hg : (g.EB H w).le g')
  (h' : Ao g' B H' w') (ho : AA H.Ov H' l) (hl : ∀ x,x∈l→x.2.plain∧H.get x.1=none) : g.le { g with io:=g'.io }∧Ao { g with io:=g'.io } B (l++H) w':=by
 have iJ:=(Gh.IM h).trans hg
 have hle : g.le { g with io:=g'.io }:=⟨fun _ _ _ h=>h,fun _ _ h=>h,iJ.io⟩
 have fzn : ∀ b o,g'.fz b o=none→g.fz b o=none:=by
  intro b o e
  cases e2 : g.fz b o with
  | none=>rfl
  | some v=>rw [iJ.fz _ _ _ e2] at e; cases e
 have D3 : ∀ i o,H.get i=some o→∃ p,g.io i=some p∧g'.io i=some p∧Aj g B w p o:=by
  intro i o e
  obtain ⟨p,hp,hr⟩:=h.ob i o e;exact ⟨p,hp,iJ.io _ _ hp,hr⟩
 have cases : ∀ i,(AB.get (l++H) i).isSome→(∃ sz cs f,H'.get i=some (.cells sz cs f))∨∃ ks vs,H.get i=some (.map ks vs):=by
  intro i e;rw [AB.get_append] at e
  cases e1 : AB.get l i with
  | some o =>
   have hm:=AB.get_mem e1
   have h1:=ho.get _ hm
   have h2:=(hl _ hm).1;simp only at h1 h2
   cases o with
   | cells sz cs f=>exact .inl ⟨_,_,_,h1⟩
   | map ks vs=>exact absurd h2 (by simp [AF.plain])
  | none =>
   rw [e1,Option.none_or] at e
   obtain ⟨o,e⟩:=Option.isSome_iff_exists.1 e
   cases o with
   | cells sz cs f =>
    have : H.Ov.get i=some (.cells sz cs cs.length):=by rw [AB.LW,e]; rfl
    exact .inl ⟨_,_,_,ho.sub _ _ this⟩
   | map ks vs=>exact .inr ⟨_,_,e⟩
 refine ⟨hle, ?_⟩
 constructor
 ·intro b o v e; exact h'.fz _ _ _ (iJ.fz _ _ _ e)
 ·intro b es e; exact h'.fm _ _ (iJ.fm _ _ e)
 ·intro i o e;rw [AB.get_append] at e
  cases e1 : AB.get l i with
  | some o1 =>
   rw [e1,Option.some_or] at e; cases e
   have hm:=AB.get_mem e1
   obtain ⟨p,Vc,hr⟩:=h'.ob i o (ho.get _ hm)
   have Kn:=(hl _ hm).1;refine ⟨p,Vc, ?_⟩
   cases o with
   | map ks vs=>exact absurd Kn (by simp [AF.plain])
   | cells sz cs f =>
    cases p with
    | nil=>exact hr
    | mp b=>simp [Aj] at hr
    | HC b cap =>
     simp only [Aj] at hr ⊢
     obtain ⟨r1,r2,r3,r4,c,el,r5,r6,r7,r8⟩:=hr;refine ⟨r1,r2,r3,fun o ho=>fzn _ _ (r4 o ho),c,el,r5,r6,r7,fun i hi=>Kn _ ?_ g' _ _ (fun _ _ h=>h) (r8 i hi)⟩;rw [gE,List.getElem?_eq_getElem hi]; simp
  | none =>
   rw [e1,Option.none_or] at e
   obtain ⟨p,gA,Io,XZ⟩:=D3 i o e;refine ⟨p,Io, ?_⟩
   cases o with
   | map ks vs =>
    cases p with
    | nil=>simp [Aj] at XZ
    | HC b cap=>simp [Aj] at XZ
    | mp b =>
     simp only [Aj] at XZ ⊢
     obtain ⟨q1,q2,es,clk,q3,q4,q5,q6,q7⟩:=XZ
     have Q0 : (g.EB H w).fm b=some es:=by
      simp only [Gh.EB];rw [if_pos ⟨i,ks,vs,e,gA⟩,q3]; rfl
     obtain ⟨clk',hc⟩:=h'.fm _ _ (hg.fm _ _ Q0);exact ⟨q1,q2,es,clk',hc,q4,q5,fun i hi=>(q6 i hi).mono hle,fun i hi=>(q7 i hi).mono hle⟩
   | cells sz cs f =>
    have e2 : H.Ov.get i=some (.cells sz cs cs.length):=by rw [AB.LW,e]; rfl
    obtain ⟨p',Vc,hr⟩:=h'.ob i _ (ho.sub _ _ e2);rw [Io] at Vc; cases Vc
    cases p with
    | nil=>exact XZ
    | mp b=>simp [Aj] at XZ
    | HC b cap =>
     simp only [Aj] at hr XZ ⊢
     obtain ⟨q1,q2,q3,q4,c0,el0,q5,q6,q7,q8⟩:=XZ
     obtain ⟨r1,r2,r3,r4,c,el,r5,r6,r7,r8⟩:=hr;refine ⟨r1,q2,r3,q4,c,el,r5,r6,r7,fun j hj=>?_⟩
     have h1 : w.cell? ⟨b,j,none⟩=some (c0.getD j undef):=by
      rw [cell_of_row w b j c0 el0 (0,0) q5]
      have : j<c0.size:=by omega
      simp [Array.getD,this]
     have h2 : w'.cell? ⟨b,j,none⟩=some (c0.getD j undef):=by
      refine h'.fz _ _ _ (hg.fz _ _ _ ?_);simp only [Gh.EB];rw [if_pos ⟨i,cap,sz,cs,f,e,gA,hj⟩]; exact h1
     rw [cell_of_row w' b j c el (0,0) r5] at h2
     have h3 : c.getD j undef=c0.getD j undef:=by
      have VM : j<c.size:=by omega
      rw [Array.getElem?_eq_getElem VM] at h2;rw [← Option.some.inj h2]; simp [Array.getD,VM]
     rw [h3]; exact (q8 j hj).mono hle
 ·intro i j b c c' n e1 e2 e3 e4
  rcases cases i e1 with ⟨sz,cs,f,k1⟩ | ⟨ks,vs,k1⟩
  ·rcases cases j e2 with ⟨sz',cs',f',k2⟩ | ⟨ks,vs,k2⟩
   ·exact h'.inj i j b c c' n (by simp [k1]) (by simp [k2]) e3 e4
   ·obtain ⟨p,gA,Io,XZ⟩:=D3 j _ k2;simp only at e4; rw [Io] at e4; cases e4; simp [Aj] at XZ
  ·obtain ⟨p,gA,Io,XZ⟩:=D3 i _ k1;simp only at e3; rw [Io] at e3; cases e3; simp [Aj] at XZ
 ·intro i j b n e1 e2 e3 e4
  rcases cases i e1 with ⟨sz,cs,f,k1⟩ | ⟨ks,vs,k1⟩
  ·obtain ⟨p,hp,hr⟩:=h'.ob i _ k1;simp only at e3; rw [hp] at e3; cases e3; simp [Aj] at hr
  ·rcases cases j e2 with ⟨sz',cs',f',k2⟩ | ⟨ks',vs',k2⟩
   ·obtain ⟨p,hp,hr⟩:=h'.ob j _ k2;simp only at e4; rw [hp] at e4; cases e4; simp [Aj] at hr
   ·obtain ⟨p,gA,Io,_⟩:=D3 i _ k1
    obtain ⟨q,wN,RZ,_⟩:=D3 j _ k2;simp only at e3 e4;rw [Io] at e3; cases e3;rw [RZ] at e4; cases e4;exact h.HK i j b n (by simp [k1]) (by simp [k2]) gA wN
 ·exact h'.base
 ·exact h'.fin
theorem Ao.kK {g g' : Gh} {B : Nat} {H H' l : AB} {w w' : World} (h : Ao g B H w) (hg : (g.EB H w).le g') (h' : Ao g' B H' w') (ho : AA H.Ov H' l) (hl : ∀ x,x∈l→x.2.plain) :
  ∀ x,x∈l→H.get x.1=none:=by
 intro x hx
 have h1:=ho.out x hx
 have h2:=ho.get x hx
 have h3:=hl x hx;rw [AB.LW] at h1
 cases e : H.get x.1 with
 | none=>rfl
 | some o =>
  rw [e] at h1
  cases o with
  | cells sz cs f=>simp [Yr] at h1
  | map ks vs =>
   obtain ⟨p,hp,hr⟩:=h.ob _ _ e
   cases p with
   | nil=>simp [Aj] at hr
   | HC b cap=>simp [Aj] at hr
   | mp b =>
    have NZ:=((Gh.IM h).trans hg).io _ _ hp
    obtain ⟨q,hq,BV⟩:=h'.ob _ _ h2;rw [NZ] at hq; cases hq
    cases ho2 : x.2 with
    | cells sz cs f=>rw [ho2] at BV; simp [Aj] at BV
    | map ks vs=>rw [ho2] at h3; simp [AF.plain] at h3
theorem B7.borrow {P : Program} {B : Nat} {f : FuncId} {args es : List AV} {H : AB} {K0 K : Am} (hl : es.length=args.length)
  (ht : ∀ i,i<args.length→∀ g w v,Ao g B H w→Ab g (args.getD i nv) v→Ab (g.EB H w) (es.getD i nv) v)
  (h : B7 P B f es H.Ov K0) (hk : ∀ r H',K0 r H'→∃ l,AA H.Ov H' l∧(∀ x,x∈l→x.2.plain)∧Cp r∧((∀ x,x∈l→H.get x.1=none)→K r (l++H))) : B7 P B f args H K:=by
 refine ⟨h.1,fun g w vs hW hv=>?_⟩;refine (h.2 _ w vs hW.EB ⟨by rw [hv.1,hl],fun i hi=>ht i (by omega) g w _ hW (hv.2 i (by omega))⟩).mono fun e w' ⟨v,he,g',r,H',a,b,c,d,k⟩=>?_
 obtain ⟨l,ho,Kn,D3,hK⟩:=hk r H' b
 have hn:=hW.kK a d ho Kn
 obtain ⟨q1,q2⟩:=hW.bM a d ho fun x hx=>⟨Kn x hx,hn x hx⟩;exact ⟨v,he,_,r,_,q1,hK hn,D3 g' _ _ (fun _ _ h=>h) c,q2,k⟩
theorem B7.FV {P : Program} {B : Nat} {f : FuncId} {args es : List AV} {H : AB} {K : Am} {r : AV} (hr : Cp r) (hl : es.length=args.length)
  (ht : ∀ i,i<args.length→∀ g w v,Ao g B H w→Ab g (args.getD i nv) v→Ab (g.EB H w) (es.getD i nv) v)
  (h : Iz P B f es r) (hk : K r H) : B7 P B f args H K :=
 B7.borrow hl ht (h _) fun r' H' ⟨e1,e2⟩=>⟨[],e2 ▸ .nil _,by simp,e1 ▸ hr,fun _=>by rw [e1]; exact hk⟩
theorem Tr.arg {B : Nat} {H : AB} {a e : AV} (t : Tr H a e) : ∀ g w v,Ao g B H w→Ab g a v→Ab (g.EB H w) e v:=fun g w v hW hv=>t.zu hW v hv
theorem DA {B : Nat} {H : AB} (a : AV) : ∀ g w v,Ao g B H w→Ab g a v→Ab (g.EB H w) a v:=fun g w v hW hv=>hv.mono (Gh.IM hW)
theorem AA.Ov {H H' l : AB} (h : AA H.Ov H' l) (hn : ∀ x,x∈l→H.get x.1=none) : AA H (l++H) l:=by
 refine ⟨fun i o e=>?_,fun x hx=>?_,h.nd,hn⟩
 ·rw [AB.get_append]
  cases e1 : AB.get l i with
  | some o1=>have:=hn _ (AB.get_mem e1); simp only at this; rw [this] at e; cases e
  | none=>simpa using e
 ·rw [AB.get_append,AB.Xn h.nd hx]; rfl
theorem Th {α : Type} [Inhabited α] {f : α→AV} [One f] {B : Nat} {H0 H : AB} {l : List (Nat × AF)} {id n fr : Nat} {A : List α} (o : AA H0 H ((id,.cells 1 (A.map f) fr)::l)) (hn : n=A.length) :
  ∀ g w v,Ao g B H w→Ab g (.buf id n) v→Ab (g.EB H w) (mL f A) v:=by
 subst hn
 have h0:=o.h0;simp only at h0
 have:=Tr.buf (H:=H) id fr (A.map f) (A.map f) h0 rfl (fun i hi=>by rw [List.length_map] at hi; rw [getD_map A hi]; exact CW _) (fun i _=>.val _);rw [List.length_map] at this;exact this.arg
theorem MK {α : Type} [Inhabited α] {f : α→AV} [One f] {P : Program} {B : Nat} {fn : FuncId} {args : List AV} {H0 H : AB} {l : List (Nat × AF)} {K : Am} {id n fr : Nat} {A : List α} {r : AV} (t : Nat)
  (ha : args[t]? = some (.buf id n)) (o : AA H0 H ((id,.cells 1 (A.map f) fr)::l)) (hn : n=A.length) (hr : Cp r) (h : Iz P B fn (args.set t (mL f A)) r) (hk : K r H) : B7 P B fn args H K:=by
 refine B7.FV hr (by simp) (fun i hi=>?_) h hk
 by_cases e : i=t
 ·subst e
  have e1 : args.getD i nv=.buf id n:=by rw [gE,ha]; rfl
  have e2 : (args.set i (mL f A)).getD i nv=mL f A:=by simp [gE,hi]
  rw [e1,e2];exact Th o hn
 ·have e2 : (args.set t (mL f A)).getD i nv=args.getD i nv:=by
   rw [gE,List.getElem?_set_ne (by omega),← gE]
  rw [e2]; exact DA _
theorem AA.trans {H0 H H' base l : AB} (h : AA H0 H base) (k : AA H H' l) : AA H0 H' (l++base):=by
 refine ⟨h.sub.trans k.sub,fun x hx=>?_, ?_,fun x hx=>?_⟩
 ·rcases List.mem_append.mp hx with hx | hx
  ·exact k.get x hx
  ·exact k.sub _ _ (h.get x hx)
 ·rw [List.map_append,List.nodup_append];refine ⟨k.nd,h.nd,fun a ha b hb=>?_⟩
  obtain ⟨x,hx,rfl⟩:=List.mem_map.mp ha
  obtain ⟨y,hy,rfl⟩:=List.mem_map.mp hb
  intro e
  have h1:=k.out x hx
  have h2:=h.get y hy;rw [← e,h1] at h2; cases h2
 ·rcases List.mem_append.mp hx with hx | hx
  ·cases e : H0.get x.1 with
   | none=>rfl
   | some o=>have:=h.sub _ _ e; rw [k.out x hx] at this; cases this
  ·exact h.out x hx
end Go.AW
namespace Go.AW
attribute [go_sem] Nat.mul_one Bool.not_true Bool.not_false
section
variable {α : Type} [Inhabited α] {f : α→AV} [One f] {H0 H : AB} {l : List (Nat × AF)} {K : Am}
omit [Inhabited α] in
theorem DD {n : Nat} {z : AV} (f : α→AV) (a : α) (hz : z=f a) (h : AA H0 H l) (hk : ∀ id H',AA H0 H' ((id,.cells 1 ((List.replicate n a).map f) 0)::l)→K (.buf id n) H') :
  Ef n 1 (rep n [z]) K H:=by
 rw [JZ]; subst hz;refine Ae h fun id H' o=>hk id H' ?_;rw [List.map_replicate]; exact o
omit [One f] in
theorem BU {id off fr sz : Nat} {A : List α} (h : AA H0 H ((id,.cells sz (A.map f) fr)::l)) (ho : off<A.length) (hk : K (f (A.getD off default)) H) :
  M3 (H.get id) none off K H:=by
 have h0:=h.h0;simp only at h0;rw [h0,YL];refine ⟨by simpa using ho, ?_⟩;rw [getD_map A ho]; exact hk
omit [Inhabited α] in
theorem Bw {id off : Nat} {A : List α} (a : α) {v : AV} (h : AA H0 H ((id,.cells 1 (A.map f) 0)::l)) (hv : v=f a) (ho : off<A.length)
  (hk : ∀ H',AA H0 H' ((id,.cells 1 ((A.set off a).map f) 0)::l)→K nv H') : OZ (H.get id) id off 1 [v] K H:=by
 subst hv
 have h0:=h.h0;simp only at h0;rw [h0,Mk];refine ⟨⟨by omega,by rw [List.length_map]; omega,rfl,fun c hc=>?_⟩, ?_⟩
 ·rw [List.mem_singleton] at hc; subst hc; exact One.one a
 ·have e : wr (A.map f) off [f a]=(A.set off a).map f:=by
   simp only [wr,List.map_set]
  rw [e];exact hk _ (h.put _)
end
theorem c5 {α : Type} [Inhabited α] {p : α→Bool} {l : List α} {k : Nat} (h : k<l.length) (hp : p (l.getD k default)=true) : (l.take (k+1)).filter p=(l.take k).filter p++[l.getD k default]:=by
 rw [Co l h,List.filter_append]; simp only [List.filter_cons,hp,if_true,List.filter_nil]
theorem dL {α : Type} [Inhabited α] {p : α→Bool} {l : List α} {k : Nat} (h : k<l.length) (hp : p (l.getD k default)=false) : (l.take (k+1)).filter p=(l.take k).filter p:=by
 rw [Co l h,List.filter_append]; simp only [List.filter_cons,hp,Bool.false_eq_true,if_false,List.filter_nil,List.append_nil]
theorem Ts {α : Type} (p : α→Bool) (l : List α) (k : Nat) : ((l.take k).filter p).length≤k:=Nat.le_trans (List.length_filter_le _ _) (by rw [List.length_take]; omega)
theorem Wk.call {P : Program} {B : Nat} {fn : FuncId} {args args' : List AV} {H H' : AB} {K : Am} (hl : args'.length=args.length)
  (hw : ∀ g w vs,Ao g B H w→Fi g args vs→∃ g',g.le g'∧Ao g' B H' w∧Fi g' args' vs) (h : B7 P B fn args' H' K) : B7 P B fn args H K:=by
 refine ⟨h.1,fun g w vs hW hv=>?_⟩
 obtain ⟨g',q1,q2,q3⟩:=hw g w vs hW hv;exact (h.2 g' w vs q2 q3).mono fun e w' ⟨v,he,g2,r,H2,a,b⟩=>⟨v,he,g2,r,H2,q1.trans a,b⟩
theorem Ks {α : Type} [Inhabited α] {f : α→AV} [One f] {P : Program} {B : Nat} {fn : FuncId} {args : List AV} {H0 H : AB} {l : List (Nat × AF)} {K : Am} {id n fr : Nat} {A : List α} (t : Nat)
  (ha : args[t]? = some (.buf id n)) (o : AA H0 H ((id,.cells 1 (A.map f) fr)::l)) (hn : n=A.length)
  (hk : ∀ H',AA H0 H' l→B7 P B fn (args.set t (mL f A)) H' K) : B7 P B fn args H K:=by
 subst hn
 have h0:=o.h0;simp only at h0
 have ht : t<args.length:=by
  rcases Nat.lt_or_ge t args.length with h | h
  ·exact h
  ·rw [List.getElem?_eq_none h] at ha; cases ha
 have Iq : ∀ c,c∈A.map f→c.one=true:=by
  intro c hc; obtain ⟨a,_,rfl⟩:=List.mem_map.mp hc; exact One.one a
 refine Wk.call (by simp) (fun g w vs hW hv=>?_) (hk _ (o.put (.cells 1 (A.map f) (A.map f).length)).tl)
 obtain ⟨σ',H',aH,rfl,rfl⟩:=cJ (t:=t) (σ:=[(t,some (.buf id A.length))]) (H:=H) (F:=fun σ' H'=>σ'=Env.put [(t,some (.buf id A.length))] t (.sl (A.map f))∧H'=H.set id (.cells 1 (A.map f) (A.map f).length)) (by
  have : Env.get [(t,some (AV.buf id A.length))] t=some (.buf id A.length):=by simp [Env.get]
  rw [this];simp only [dM,h0,YC];refine ⟨⟨by simp,by omega,Iq⟩, ?_,trivial⟩;rw [G6 _ _ (by simp)])
 obtain ⟨g',q1,q2,q3⟩:=aH g B w vs hW (fun s v e=>by
  simp only [Env.get] at e
  split at e
  ·rename_i e2; subst e2; cases e
   have:=hv.2 s ht;rw [gE,ha] at this;exact ⟨by rw [hv.1]; exact ht,this⟩
  ·cases e)
 refine ⟨g',q1,q2,by rw [hv.1]; simp,fun i hi=>?_⟩;rw [List.length_set] at hi
 by_cases e : i=t
 ·subst e
  have:=(q3 i (.sl (A.map f)) (by simp [Env.put,Env.get])).2
  have e2 : (args.set i (mL f A)).getD i nv=.sl (A.map f):=by simp [gE,hi,mL]
  rw [e2]; exact this
 ·have e2 : (args.set t (mL f A)).getD i nv=args.getD i nv:=by
   rw [gE,List.getElem?_set_ne (by omega),← gE]
  rw [e2]; exact (hv.2 i hi).mono q1
end Go.AW
