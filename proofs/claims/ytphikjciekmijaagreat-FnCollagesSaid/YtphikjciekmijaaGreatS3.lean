/- Plain data, plain laws. -/
import Derived.Test.YtphikjciekmijaaGreatS2
set_option linter.unusedVariables false
set_option linter.unusedSimpArgs false
set_option linter.unusedSectionVars false
namespace Go.AW
class One {α : Type} (f : α→AV) : Prop where
 cells : ∀ a,(f a).cells=[f a]
 one : ∀ a,(f a).one=true
def mL {α : Type} (f : α→AV) (l : List α) : AV:=.sl (l.map f)
abbrev iI : Int→AV:=AV.int .i64
abbrev iL : List Int→AV:=mL iI
abbrev B5 : List (List Int)→AV:=mL iL
abbrev BE : List (List (List Int))→AV:=mL B5
abbrev bL : List Bool→AV:=mL AV.bool
instance : One iI:=⟨fun _=>rfl,fun _=>rfl⟩
instance : One AV.bool:=⟨fun _=>rfl,fun _=>rfl⟩
instance : One AV.str:=⟨fun _=>rfl,fun _=>rfl⟩
instance {α : Type} (f : α→AV) : One (mL f):=⟨fun _=>rfl,fun _=>rfl⟩
def ix {α : Type} [Inhabited α] (l : List α) (i : Int) : α:=l.getD i.toNat default
theorem AR {α : Type} [Inhabited α] (l : List α) (k : Nat) : ix l (k : Int)=l.getD k default:=by simp [ix]
section
variable {P : Program} {B : Nat} {F : Env→AA→Prop} {σ : Env} {H : AA} {d : Option Nat} {α : Type} [Inhabited α] {f : α→AV}
theorem getD_map (l : List α) {i : Nat} (h : i<l.length) : (l.map f).getD i nv=f (l.getD i default):=by
 simp [Go.AW.gE,h]
theorem C7 [One f] (a : α) : (f a).cells=[f a]:=One.cells a
@[go_sem] theorem vH (l : List α) : (mL f l).cells=[mL f l]:=rfl
@[go_sem] theorem cN (l : List α) : Ds (some (mL f l))=some (True,.int .i64 l.length):=by simp [mL,Ds]
@[go_sem] theorem fp [One f] (l : List α) (k : IntKind) (i : Int) :
  pE d F σ H (Gn 1 (some (mL f l)) (some (.int k i)))=((0≤i∧i.toNat<l.length)∧CR d F σ (.ptr [f (ix l i)]) H):=by
 simp only [mL,Gn,pE,pW,List.length_map,eq_iff_iff]
 constructor
 ·rintro ⟨⟨h1,h2,h3⟩,h4⟩;rw [getD_map l h2,C7] at h4;exact ⟨⟨h1,h2⟩,h4⟩
 ·rintro ⟨⟨h1,h2⟩,h4⟩;rw [getD_map l h2,C7];exact ⟨⟨h1,h2,rfl⟩,h4⟩
theorem ZN [One f] (l : List α) : flat (l.map f)=l.map f:=by
 induction l with
 | nil=>rfl
 | cons a r ih=>simp [flat,C7,ih]
theorem Ia [One f] (l : List α) : Cc 1 (l.map f):=by
 intro e he
 obtain ⟨a,_,rfl⟩:=List.mem_map.mp he;rw [C7];refine ⟨rfl,fun c hc=>?_⟩;rw [List.mem_singleton] at hc; subst hc; exact One.one a
@[go_sem] theorem YA [One f] (l : List α) : C5 1 (some (mL f l)) H=some (True,l.length,l.map f):=by
 simp [mL,C5,Ia,ZN]
@[go_sem] theorem dv [One f] (l : List α) (k : IntKind) (a : Int) : JH 1 (some (mL f l)) (some (some (.int k a))) none=some (0≤a∧a≤l.length,mL f (l.drop a.toNat)):=by
 have : List.take l.length (l.map f)=l.map f:=List.take_of_length_le (by simp)
 simp [mL,JH,Lg,Na,Pq,Ia,this]
@[go_sem] theorem gz [One f] (l : List α) (k : IntKind) (b : Int) : JH 1 (some (mL f l)) none (some (some (.int k b)))=some (0≤b∧b≤l.length,mL f (l.take b.toNat)):=by
 simp [mL,JH,Lg,Na,Pq,Ia,← List.map_take]
@[go_sem] theorem nW [One f] (l : List α) (k k' : IntKind) (a b : Int) : JH 1 (some (mL f l)) (some (some (.int k a))) (some (some (.int k' b)))=some (0≤a∧a≤b∧b≤l.length,mL f ((l.take b.toNat).drop a.toNat)):=by
 simp [mL,JH,Lg,Na,Pq,Ia,← List.map_take,← List.map_drop]
@[go_sem] theorem mW (n : Nat) : Cc n []=True:=by simp [Cc]
@[go_sem] theorem jA (n : Nat) (a : AV) (r : List AV) : Cc n (a::r)=((a.cells.length=n∧∀ c,c∈a.cells→c.one=true)∧Cc n r):=by
 simp [Cc]
theorem Km [One f] (a : α) : Cc 1 [f a]:=by
 intro e he;rw [List.mem_singleton] at he; subst he;rw [C7];refine ⟨rfl,fun c hc=>?_⟩;rw [List.mem_singleton] at hc; subst hc; exact One.one a
theorem AZ {l : List α} (h : AV.Dn (mL f l)) : l.length≤AN:=by simpa using h.v7
theorem TD [One f] {l : List α} (h : AV.Dn (mL f l)) {a : α} (ha : a∈l) : AV.Dn (f a) :=
 h.iP (List.mem_map_of_mem ha) (C7 a)
theorem BL {l : List α} {i : Int} (h : i.toNat<l.length) : ix l i∈l:=by
 rw [ix,Go.AW.gE]; simp [h]
theorem Th [One f] {l : List α} (h : AV.Dn (mL f l)) {i : Int} (hi : i.toNat<l.length) : AV.Dn (f (ix l i)):=TD h (BL hi)
theorem Ar (l : List α) {k : Nat} (h : k<l.length) : l.take (k+1)=l.take k++[l.getD k default]:=by
 rw [List.take_add_one]; simp [Go.AW.gE,h]
end
@[go_sem] theorem sV (p : Prop) : (p∧True)=p:=and_true p
@[go_sem] theorem jG (p : Prop) : (True∧p)=p:=true_and p
@[go_sem] theorem zle (n : Nat) : (0≤n)=True:=by simp
@[go_sem] theorem tM : (1≤AN)=True:=by simp [AN]
@[go_sem] theorem p9 : (2≤AN)=True:=by simp [AN]
@[go_sem] theorem az (k : IntKind) (n : Int) : (AV.int k n).one=true:=rfl
@[go_sem] theorem Ay {α : Type} (f : α→AV) (l : List α) : (mL f l).one=true:=rfl
@[go_sem] theorem pN (b : Bool) : (AV.bool b).one=true:=rfl
@[go_sem] theorem z4 (b : List UInt8) : (AV.str b).one=true:=rfl
@[go_sem] theorem sn (b : List AV) : (AV.sl b).one=true:=rfl
@[go_sem] theorem gk (i n : Nat) : (AV.buf i n).one=true:=rfl
@[go_sem] theorem cw (b : List AV) : (AV.ptr b).one=true:=rfl
@[go_sem] theorem JL (p : AV→Prop) : (∀ c,c∈([] : List AV)→p c)=True:=by simp
@[go_sem] theorem Gk (p : AV→Prop) (a : AV) (r : List AV) : (∀ c,c∈a::r→p c)=(p a∧∀ c,c∈r→p c):=by simp
@[go_sem] theorem len1 (a : AV) : [a].length=1:=rfl
@[go_sem] theorem len0 : ([] : List AV).length=0:=rfl
theorem AD {P : Program} {B : Nat} {l : List Nat} {c : SC} {Q : AQ} {σ : Env} {H : AA} (lf : List Nat) {G : Type} (E : Nat→G→Env) (J : Nat→G→AA→Prop) (n : Nat) (g : G)
  (h0 : J 0 g H) (he : Env.BF l σ=E 0 g++Env.BF lf σ)
  (h : ∀ k g H,k≤n→J k g H→Dx P B c (iA l (fun m σ' H=>∃ k g,k≤n∧m=n - k∧J k g H∧σ'=E k g++Env.BF lf σ) (n - k) Q) (E k g++Env.BF lf σ) H) :
  Dx P B (.loop l c) Q σ H :=
 SY (fun m σ' H=>∃ k g,k≤n∧m=n - k∧J k g H∧σ'=E k g++Env.BF lf σ) n ⟨0,g,by omega,rfl,h0,he⟩
  fun m σ H ⟨k,g,h1,h2,h3,h4⟩=>h2 ▸ h4 ▸ h k g H h1 h3
theorem A4 {G : Type} {S : Nat→G→Env} {J : Nat→G→AA→Prop} {n k : Nat} {σ : Env} {H : AA} (g : G) (h : k<n) (hj : J (k+1) g H) (he : σ=S (k+1) g) :
  ∃ m σ' H',m<n - k∧(∃ k g,k≤n∧m=n - k∧J k g H'∧σ'=S k g)∧Wk σ H σ' H' :=
 ⟨n - (k+1),σ,H,by omega,⟨k+1,g,h,rfl,hj,he⟩,.refl _ _⟩
theorem E3 {P : Program} {B : Nat} {l : List Nat} {c : SC} {Q : AQ} {σ : Env} {H : AA} (lf : List Nat) {G : Type} (E : G→Env) (J : Nat→G→AA→Prop) (n : Nat) (g : G)
  (h0 : J n g H) (he : Env.BF l σ=E g++Env.BF lf σ)
  (h : ∀ m g H,J m g H→Dx P B c (iA l (fun m σ' H=>∃ g,J m g H∧σ'=E g++Env.BF lf σ) m Q) (E g++Env.BF lf σ) H) :
  Dx P B (.loop l c) Q σ H :=
 SY (fun m σ' H=>∃ g,J m g H∧σ'=E g++Env.BF lf σ) n ⟨g,h0,he⟩
  fun m σ H ⟨g,h3,h4⟩=>h4 ▸ h m g H h3
theorem CJ {G : Type} {S : G→Env} {J : Nat→G→AA→Prop} {m : Nat} {σ : Env} {H : AA} (m' : Nat) (g : G) (h : m'<m) (hj : J m' g H) (he : σ=S g) :
  ∃ m' σ' H',m'<m∧(∃ g,J m' g H'∧σ'=S g)∧Wk σ H σ' H' :=
 ⟨m',σ,H,h,⟨g,hj,he⟩,.refl _ _⟩
@[go_sem] theorem bM (a : Nat × Option AV) (l r : Env) : (a::l)++r=a::(l++r):=rfl
@[go_sem] theorem fR (r : Env) : ([] : Env)++r=r:=rfl
structure A9 (H0 H : AA) (l : List (Nat × AG)) : Prop where
 sub : H0.sub H
 get : ∀ x,x∈l→H.get x.1=some x.2
 nd : (l.map Prod.fst).Nodup
 out : ∀ x,x∈l→H0.get x.1=none
theorem A9.nil (H : AA) : A9 H H []:=⟨.refl H,by simp,by simp,by simp⟩
theorem A9.h0 {H0 H : AA} {a : Nat × AG} {l : List (Nat × AG)} (h : A9 H0 H (a::l)) : H.get a.1=some a.2:=h.get a (by simp)
theorem A9.tl {H0 H : AA} {a : Nat × AG} {l : List (Nat × AG)} (h : A9 H0 H (a::l)) : A9 H0 H l :=
 ⟨h.sub,fun x hx=>h.get x (by simp [hx]),(by simpa using h.nd : _∧_).2,fun x hx=>h.out x (by simp [hx])⟩
theorem A9.perm {H0 H : AA} {l r : List (Nat × AG)} (h : A9 H0 H l) (hp : l.Perm r) : A9 H0 H r :=
 ⟨h.sub,fun x hx=>h.get x (hp.mem_iff.mpr hx),((hp.map _).nodup_iff.mp h.nd),fun x hx=>h.out x (hp.mem_iff.mpr hx)⟩
theorem A9.swap {H0 H : AA} {a b : Nat × AG} {l : List (Nat × AG)} (h : A9 H0 H (a::b::l)) : A9 H0 H (b::a::l):=h.perm (List.Perm.swap b a l)
theorem A9.new {H0 H : AA} {l : List (Nat × AG)} (h : A9 H0 H l) {id : Nat} (hn : H.get id=none) (o : AG) : A9 H0 (H.set id o) ((id,o)::l):=by
 refine ⟨fun i x hx=>?_,fun x hx=>?_, ?_,fun x hx=>?_⟩
 ·have:=h.sub i x hx;rw [AA.Aw]; exact this
  rintro rfl; rw [hn] at this; cases this
 ·simp only [List.mem_cons] at hx
  rcases hx with rfl | hx
  ·simp
  ·rw [AA.Aw]; exact h.get x hx
   intro e; have:=h.get x hx; rw [e,hn] at this; cases this
 ·simp only [List.map_cons,List.nodup_cons];refine ⟨fun hm=>?_,h.nd⟩
  obtain ⟨x,hx,e⟩:=List.mem_map.mp hm
  have:=h.get x hx; rw [e,hn] at this; cases this
 ·simp only [List.mem_cons] at hx
  rcases hx with rfl | hx
  ·cases hh : H0.get id with
   | none=>rfl
   | some o'=>have:=h.sub _ _ hh; rw [hn] at this; cases this
  ·exact h.out x hx
theorem A9.put {H0 H : AA} {l : List (Nat × AG)} {id : Nat} {o : AG} (h : A9 H0 H ((id,o)::l)) (o' : AG) : A9 H0 (H.set id o') ((id,o')::l):=by
 have OO:=h.nd;simp only [List.map_cons,List.nodup_cons] at OO
 have Bg : ∀ x,x∈l→x.1≠id:=fun x hx e=>OO.1 (e ▸ List.mem_map_of_mem hx)
 have ho:=h.out (id,o) (by simp);refine ⟨fun i x hx=>?_,fun x hx=>?_,by simpa using OO,fun x hx=>?_⟩
 ·rw [AA.Aw]; exact h.sub i x hx
  rintro rfl; simp only at ho; rw [ho] at hx; cases hx
 ·simp only [List.mem_cons] at hx
  rcases hx with rfl | hx
  ·simp
  ·rw [AA.Aw _ _ (Bg x hx)]; exact h.get x (by simp [hx])
 ·simp only [List.mem_cons] at hx
  rcases hx with rfl | hx
  ·exact ho
  ·exact h.out x (by simp [hx])
theorem A9.mv {H0 H : AA} {l : List (Nat × AG)} {id Bz : Nat} {o : AG} (h : A9 H0 H ((id,o)::l)) (hn : H.get Bz=none) (o' : AG) : A9 H0 ((H.del id).set Bz o') ((Bz,o')::l):=by
 have OO:=h.nd;simp only [List.map_cons,List.nodup_cons] at OO
 have Bg : ∀ x,x∈l→x.1≠id:=fun x hx e=>OO.1 (e ▸ List.mem_map_of_mem hx)
 have ho:=h.out (id,o) (by simp)
 have hd : A9 H0 (H.del id) l:=by
  refine ⟨fun i x hx=>?_,fun x hx=>?_,OO.2,fun x hx=>h.out x (by simp [hx])⟩
  ·rw [AA.Bd]; exact h.sub i x hx
   rintro rfl; simp only at ho; rw [ho] at hx; cases hx
  ·rw [AA.Bd _ (Bg x hx)]; exact h.get x (by simp [hx])
 refine hd.new ?_ o'
 by_cases e : Bz=id
 ·subst e; exact AA.C1 _ _
 ·rw [AA.Bd _ e]; exact hn
section
variable {α : Type} [Inhabited α] {f : α→AV} [One f] {H0 H : AA} {l : List (Nat × AG)} {K : Ak}
theorem AP {n sz : Nat} {cs : List AV} (h : A9 H0 H l) (hk : ∀ id H',A9 H0 H' ((id,.cells sz cs 0)::l)→K (.buf id n) H') : DX n sz cs K H :=
 fun id hn=>hk id _ (h.new hn _)
theorem Ai {sz : Nat} {cs : List AV} (h : A9 H0 H l) (hk : ∀ id H',A9 H0 H' ((id,.cells sz cs 0)::l)→K (.ref id 0) H') : G5 sz cs K H :=
 fun id hn=>hk id _ (h.new hn _)
theorem MM (h : A9 H0 H l) (hk : ∀ id H',A9 H0 H' ((id,.map [] [])::l)→K (.Fa id) H') : Ur K H :=
 fun id hn=>hk id _ (h.new hn _)
omit [Inhabited α] in
/-- An empty list of ours. -/
theorem Az (f : α→AV) (h : A9 H0 H l) (hk : ∀ id H',A9 H0 H' ((id,.cells 1 (([] : List α).map f) 0)::l)→K (.buf id ([] : List α).length) H') : DX 0 1 [] K H :=
 AP h hk
theorem Ae {id fr n : Nat} {out : List α} (a : α) {v : AV} (h : A9 H0 H ((id,.cells 1 (out.map f) fr)::l)) (hv : v=f a) (hn : n=out.length) (hm : out.length+1≤AN)
  (hk : ∀ Bz H',A9 H0 H' ((Bz,.cells 1 ((out++[a]).map f) fr)::l)→K (.buf Bz (out++[a]).length) H') :
  Co 1 (some (.buf id n)) (some (.sl [v])) K H:=by
 subst hv hn
 have h0:=h.h0;simp only at h0;simp only [Co,h0,C5,Fh];refine ⟨⟨trivial,by simp,by simpa using hm,by simpa using hm,Km a⟩,fun Bz hn=>?_⟩
 have:=h.mv hn (.cells 1 ((out++[a]).map f) fr)
 have e : out.map f++flat [f a]=(out++[a]).map f:=by simp [flat,C7]
 rw [e]
 have:=hk Bz _ this
 simpa using this
theorem Hh {id fr n : Nat} {out r : List α} (h : A9 H0 H ((id,.cells 1 (out.map f) fr)::l)) (hn : n=out.length) (hm : out.length+r.length≤AN)
  (hk : ∀ Bz H',A9 H0 H' ((Bz,.cells 1 ((out++r).map f) fr)::l)→K (.buf Bz (out++r).length) H') :
  Co 1 (some (.buf id n)) (some (mL f r)) K H:=by
 subst hn
 have h0:=h.h0;simp only at h0;simp only [Co,h0,Fh,YA];refine ⟨⟨trivial,by simp,hm,by simpa using hm⟩,fun Bz hn=>?_⟩
 have:=h.mv hn (.cells 1 ((out++r).map f) fr)
 have e : out.map f++r.map f=(out++r).map f:=by simp
 rw [e]
 have:=hk Bz _ this
 simpa using this
theorem iR (a : α) {v : AV} (h : A9 H0 H l) (hv : v=f a)
  (hk : ∀ Bz H',A9 H0 H' ((Bz,.cells 1 ([a].map f) 0)::l)→K (.buf Bz [a].length) H') :
  Co 1 (some .A0) (some (.sl [v])) K H:=by
 subst hv;simp only [Co,C5,RN];refine ⟨⟨by simp [AN],by simp [AN],Km a⟩,fun id hn=>?_⟩
 have:=hk id _ (h.new hn (.cells 1 ([a].map f) 0))
 simpa [flat,C7] using this
end
section
variable {α : Type} {f : α→AV} [One f] {H0 H : AA} {l : List (Nat × AG)}
theorem Am {t id n fr : Nat} {out : List α} {F : Env→AA→Prop} {σ : Env} (h : A9 H0 H ((id,.cells 1 (out.map f) fr)::l)) (hn : n=out.length)
  (hk : ∀ H',A9 H0 H' l→F ((t,some (mL f out))::σ) H') : Vq t id n F σ H (H.get id):=by
 subst hn
 have h0:=h.h0;simp only at h0;rw [h0,dG];refine ⟨⟨by simp,fun c hc=>?_⟩,hk _ (h.put _).tl⟩
 obtain ⟨a,_,rfl⟩:=List.mem_map.mp hc;exact One.one a
end
theorem Oi {k : Nat} (h : k<1125899906842624) : IntKind.i64.wrap ((k : Int)+1)=((k+1 : Nat) : Int):=by
 rw [wrap_i64 (by omega) (by omega)]; omega
theorem A6 {p : Prop} [Decidable p] (h : decide p=true) : p:=by simpa using h
theorem A7 {p : Prop} [Decidable p] (h : decide p=false) : ¬ p:=by simpa using h
end Go.AW
namespace Go.AW
structure RC (P : Program) (B : Nat) (f : FuncId) (args : List AV) (r : AV) : Prop where
 run : HG P B f args r
theorem RC.go {P : Program} {B : Nat} {f : FuncId} {args : List AV} {r : AV} {H : AA} {K : Ak} (h : RC P B f args r) (hk : r.Dn→K r H) : B9 P B f args H K :=
 h.run.go hk
end Go.AW
namespace Go.AW
noncomputable def dec (p : Prop) : Bool:=@decide p (Classical.propDecidable p)
theorem Av {p : Prop} (h : p) : dec p=true:=by simp [dec,h]
theorem Ad {p : Prop} (h : ¬ p) : dec p=false:=by simp [dec,h]
theorem Gz {p : Prop} : dec p=true↔p:=by simp [dec]
theorem Sz {p : Prop} : dec p=false↔¬ p:=by simp [dec]
theorem BJ {p q : Prop} (h : p↔q) : dec p=dec q:=by rw [show p=q from propext h]
theorem BK (p : Prop) [Decidable p] : decide p=dec p:=by
 by_cases h : p
 ·rw [Av h]; simpa using h
 ·rw [Ad h]; simpa using h
theorem AM {k : Nat} {p : Nat→Prop} (h : ∀ i,i<k→p i) (hk : p k) : ∀ i,i<k+1→p i:=fun i hi=>by
 by_cases e : i=k
 ·subst e; exact hk
 ·exact h i (by omega)
theorem AE {α : Type} [Inhabited α] {l : List α} {a : α} : a∈l↔∃ i,i<l.length∧l.getD i default=a:=by
 rw [List.mem_iff_getElem]
 constructor
 ·rintro ⟨i,h,e⟩; exact ⟨i,h,by simpa [Go.AW.gE,h] using e⟩
 ·rintro ⟨i,h,e⟩; exact ⟨i,h,by simpa [Go.AW.gE,h] using e⟩
theorem IB {α : Type} [Inhabited α] {l : List α} {p : α→Prop} : (∀ a,a∈l→p a)↔∀ i,i<l.length→p (l.getD i default):=by
 constructor
 ·intro h i hi; exact h _ (AE.mpr ⟨i,hi,rfl⟩)
 ·rintro h a ha; obtain ⟨i,hi,rfl⟩:=AE.mp ha; exact h i hi
@[go_sem] theorem dh {α : Type} [Inhabited α] (l : List α) (k : Nat) : ix l (k : Int)=l.getD k default:=AR l k
@[go_sem] theorem X9 (k : Nat) : ((k : Int)).toNat=k:=Int.toNat_natCast k
@[go_sem] theorem iT (k : Nat) : (0≤(k : Int))=True:=by simp
@[go_sem] theorem sq (a b : Nat) : decide ((a : Int)<(b : Int))=decide (a<b):=by simp
theorem W0 {k : Nat} (h : 0<k) (h' : k<1125899906842624) : IntKind.i64.wrap ((k : Int) - 1)=((k - 1 : Nat) : Int):=by
 rw [wrap_i64 (by omega) (by omega)]; omega
def indexOf {α : Type} [DecidableEq α] (l : List α) (n : α) : Int:=match l.idxOf? n with
 | some i=>i
 | none=>-1
theorem Db {α : Type} [DecidableEq α] [Inhabited α] {l : List α} {n : α} {k : Nat} (hk : k<l.length) (Au : ∀ i,i<k→l.getD i default≠n) (he : l.getD k default=n) : indexOf l n=k:=by
 have : l.idxOf? n=some k:=by
  rw [List.idxOf?_eq_some_iff];refine ⟨hk,by simpa [Go.AW.gE,hk] using he,fun j hj=>?_⟩
  have:=Au j hj
  simpa [Go.AW.gE,show j<l.length by omega] using this
 simp [indexOf,this]
theorem Dk {α : Type} [DecidableEq α] [Inhabited α] {l : List α} {n : α} (Au : ∀ i,i<l.length→l.getD i default≠n) : indexOf l n=-1:=by
 have : l.idxOf? n=none:=by
  rw [List.idxOf?_eq_none_iff]
  intro h; obtain ⟨i,hi,e⟩:=AE.mp h; exact Au i hi e
 simp [indexOf,this]
end Go.AW
namespace Go.AW
theorem FI {α : Type} [DecidableEq α] (l : List α) (n : α) : -1≤indexOf l n∧indexOf l n<l.length:=by
 unfold indexOf
 split
 ·rename_i i h
  rw [List.idxOf?_eq_some_iff] at h
  obtain ⟨hi,_⟩:=h;omega
 ·omega
end Go.AW
namespace Go.AW
theorem bnt (b : Bool) : ((!b)=true)=(b=false):=by simp
theorem bnf (b : Bool) : ((!b)=false)=(b=true):=by simp
theorem ni (p : Prop) : (dec p=true)=p:=propext Gz
theorem lg (p : Prop) : (dec p=false)=¬ p:=propext Sz
end Go.AW
namespace Go.AW
@[go_sem] theorem mn (a b : Nat) : decide ((a : Int)=(b : Int))=decide (a=b):=by simp [Int.ofNat_inj]
@[go_sem] theorem um (a b : Nat) : decide ((a : Int)≤(b : Int))=decide (a≤b):=by simp
def qX (n : Option Nat) (off : Nat) : Option AG→Option AV
 | some (.cells _ cs _)=>match n with
  | none=>if off<cs.length then some (cs.getD off nv) else none
  | some n=>if off+n≤cs.length then some (.agg ((cs.drop off).take n)) else none
 | _=>none
@[go_sem] theorem fw (n : Option Nat) (id off : Nat) (H : AA) : aJ n (some (.ref id off)) H=qX n off (H.get id):=by
 unfold aJ qX
 cases n <;> (dsimp only; split <;> simp_all)
@[go_sem] theorem rc1_1 (off sz f : Nat) (cs : List AV) : qX none off (some (.cells sz cs f))=if off<cs.length then some (cs.getD off nv) else none:=rfl
@[go_sem] theorem tQ (n off sz f : Nat) (cs : List AV) : qX (some n) off (some (.cells sz cs f))=if off+n≤cs.length then some (.agg ((cs.drop off).take n)) else none:=rfl
theorem drop_cons {α : Type} [Inhabited α] (l : List α) {k : Nat} (h : k<l.length) : l.drop k=l.getD k default::l.drop (k+1):=by
 rw [List.drop_eq_getElem_cons h]; simp [Go.AW.gE,h]
attribute [go_sem] List.drop_succ_cons List.drop_zero List.take_succ_cons List.take_zero List.getD_cons_zero List.getD_cons_succ List.length_cons List.length_nil List.set_cons_succ List.set_cons_zero
end Go.AW
namespace Go.AW
theorem IX (z : AV) : ∀ n,rep n [z]=List.replicate n z
 | 0=>rfl
 | n+1=>by simp [rep,IX z n,List.replicate_succ]
section
variable {α : Type} {f : α→AV} [One f] {H0 H : AA} {l : List (Nat × AG)} {K : Ak}
theorem bU {n : Nat} {z : AV} (f : α→AV) (h : A9 H0 H l) (hk : ∀ id H',A9 H0 H' ((id,.cells 1 (([] : List α).map f++List.replicate n z) 0)::l)→K (.buf id n) H') :
  DX n 1 (rep n [z]) K H:=by
 rw [IX]; exact AP h hk
theorem kF {id off m : Nat} {z : AV} {A : List α} (a : α) {v : AV} (h : A9 H0 H ((id,.cells 1 (A.map f++List.replicate (m+1) z) 0)::l)) (hv : v=f a) (ho : off=A.length)
  (hk : ∀ H',A9 H0 H' ((id,.cells 1 ((A++[a]).map f++List.replicate m z) 0)::l)→K nv H') :
  Ka (H.get id) id off 1 [v] K H:=by
 subst hv ho
 have h0:=h.h0;simp only at h0;rw [h0,VV];refine ⟨⟨by omega,by simp,rfl,fun c hc=>?_⟩, ?_⟩
 ·rw [List.mem_singleton] at hc; subst hc; exact One.one a
 ·have e : wr (A.map f++List.replicate (m+1) z) A.length [f a]=(A++[a]).map f++List.replicate m z:=by
   simp only [wr,List.replicate_succ,List.map_append,List.map_cons,List.map_nil,List.append_assoc];rw [List.set_append_right _ _ (by simp)]
   simp
  rw [e];exact hk _ (h.put _)
theorem bN {t id n : Nat} {z : AV} {A : List α} {F : Env→AA→Prop} {σ : Env} (h : A9 H0 H ((id,.cells 1 (A.map f++List.replicate 0 z) 0)::l)) (hn : n=A.length)
  (hk : ∀ H',A9 H0 H' l→F ((t,some (mL f A))::σ) H') : Vq t id n F σ H (H.get id):=by
 rw [List.replicate_zero,List.append_nil] at h;exact Am h hn hk
end
theorem J3 {α β : Type} [Inhabited α] (l : List α) (g : α→β) {k : Nat} (h : k<l.length) : (l.take (k+1)).map g=(l.take k).map g++[g (l.getD k default)]:=by
 rw [Ar l h]; simp
theorem Bw (p : Nat→Bool) (k : Nat) : (List.range (k+1)).filter p=(List.range k).filter p++if p k then [k] else []:=by
 rw [List.range_succ,List.filter_append]; simp [List.filter_cons]
end Go.AW
namespace Go.AW
theorem CV {H0 H : AA} {i : Nat} {o : AG} (h : H0.sub H) (n : H0.get i=none) : H0.sub (H.set i o):=by
 intro j x hx;rw [AA.Aw]
 ·exact h j x hx
 ·rintro rfl; rw [n] at hx; cases hx
attribute [go_sem] AA.Pw
end Go.AW
namespace Go.AW
@[go_sem] theorem nz (b : Bool) : (true ^^ b)=!b:=by simp
@[go_sem] theorem pz (b : Bool) : (false ^^ b)=b:=by simp
@[go_sem] theorem zX (p q : Prop) [Decidable p] [Decidable q] : (decide p && decide q)=dec (p∧q):=by rw [← BK]; simp
end Go.AW
namespace Go.AW
def MN (P : Prop) (H0 : AA) : Ak:=fun r H'=>H'=H0∧∃ k a b d : Int,r=.CQ [.int .i64 k,.int .i64 a,.int .i64 b,.int .i64 d]∧(k=0↔P)
theorem Bx {P : Prop} {H0 H : AA} {k a b d : Int} (h : k=0↔P) (hs : H0.sub H) : Lc (MN P H0) (.CQ [.int .i64 k,.int .i64 a,.int .i64 b,.int .i64 d]) H :=
 ⟨H0,hs,rfl,k,a,b,d,rfl,h⟩
end Go.AW
namespace Go.Shf
open Go.AW
structure Ax where
 AF : Int
 AB : List Int
 to : List Int
 Ac : List Int
 comp : List (List Int)
 deriving Inhabited
structure SF where
 shape : Ax
 AK : List Int
 AJ : List (List Int)
 deriving Inhabited
structure Top where
 shape : Ax
 lN : List (List (List Int))
 deriving Inhabited
structure SM where
 src : SF
 AL : SF
 parts : List (List Int)
 deriving Inhabited
@[go_sem] def Ax.cells (c : Ax) : List AV:=[iI c.AF,iL c.AB,iL c.to,iL c.Ac,B5 c.comp]
@[go_sem] def SF.cells (f : SF) : List AV:=[iI f.shape.AF,iL f.shape.AB,iL f.shape.to,iL f.shape.Ac,B5 f.shape.comp,iL f.AK,B5 f.AJ]
@[go_sem] def Top.cells (j : Top) : List AV:=[iI j.shape.AF,iL j.shape.AB,iL j.shape.to,iL j.shape.Ac,B5 j.shape.comp,BE j.lN]
@[go_sem] def SM.cells (m : SM) : List AV:=[iI m.src.shape.AF,iL m.src.shape.AB,iL m.src.shape.to,iL m.src.shape.Ac,B5 m.src.shape.comp,iL m.src.AK,B5 m.src.AJ,
 iI m.AL.shape.AF,iL m.AL.shape.AB,iL m.AL.shape.to,iL m.AL.shape.Ac,B5 m.AL.shape.comp,iL m.AL.AK,B5 m.AL.AJ,B5 m.parts]
def cmp : List Int→List Int→Int
 | [],[]=>0
 | [],_::_=>-1
 | _::_,[]=>1
 | a::r,b::s=>if a=b then cmp r s else if a<b then -1 else 1
theorem Hg : ∀ {a b : List Int},cmp a b=0↔a=b
 | [],[]=>by simp [cmp]
 | [],_::_=>by simp [cmp]
 | _::_,[]=>by simp [cmp]
 | a::r,b::s=>by
  unfold cmp
  split
  ·rename_i h; rw [Hg]; simp [h]
  ·rename_i h; split <;> simp [h]
theorem Vc : ∀ (a b : List Int),cmp a b=- cmp b a
 | [],[]=>by simp [cmp]
 | [],_::_=>by simp [cmp]
 | _::_,[]=>by simp [cmp]
 | a::r,b::s=>by
  unfold cmp
  by_cases h : a=b
  ·simp only [h,if_true]; exact Vc r s
  ·have h3 : ¬ b=a:=fun e=>h e.symm;simp only [h,h3,if_false]
   by_cases h2 : a<b
   ·have h4 : ¬ b<a:=by omega
    simp [h2,h4]
   ·have h4 : b<a:=by omega
    simp [h2,h4]
def YY (l : List Int) : Prop:=∀ i,0<i→i<l.length→l.getD (i - 1) default<l.getD i default
def outs (c : Ax) (x : Int) : List Int:=((List.range c.AB.length).filter fun i=>c.AB.getD i default=x).map Int.ofNat
end Go.Shf
namespace Go.Shf
open Go.AW
structure Ax.Shape (c : Ax) : Prop where
 o : 0≤c.AF∧c.AF≤8
 m : c.AB.length≤40
 AB : ∀ y,y∈c.AB→0≤y∧y<c.AF
 L5 : c.to.length=c.AB.length
 to : ∀ y,y∈c.to→0≤y∧y<c.AF
 cl : c.comp.length=c.AB.length
 il : (c.Ac.length : Int)=c.AF
 Ac : ∀ y,y∈c.Ac→0≤y∧y<(c.AB.length : Int)
 O0 : ∀ x : Nat,x<c.Ac.length→ix c.AB (c.Ac.getD x default)=x∧ix c.to (c.Ac.getD x default)=x
 row : ∀ f : Nat,f<c.AB.length→(c.comp.getD f default).length=c.AB.length
 R6 : ∀ f g : Nat,f<c.AB.length→g<c.AB.length→c.to.getD f default≠c.AB.getD g default→(c.comp.getD f default).getD g default=-1
 yes : ∀ f g : Nat,f<c.AB.length→g<c.AB.length→c.to.getD f default=c.AB.getD g default →
  (0≤(c.comp.getD f default).getD g default∧(c.comp.getD f default).getD g default<c.AB.length) ∧
  ix c.AB ((c.comp.getD f default).getD g default)=c.AB.getD f default∧ix c.to ((c.comp.getD f default).getD g default)=c.to.getD g default
structure Ax.Laws (c : Ax) : Prop where
 XE : ∀ f : Nat,f<c.AB.length→ix (ix c.comp (ix c.Ac (c.AB.getD f default))) f=f∧ix (c.comp.getD f default) (ix c.Ac (c.to.getD f default))=f
 assoc : ∀ f g h : Nat,f<c.AB.length→g<c.AB.length→h<c.AB.length→c.to.getD f default=c.AB.getD g default→c.to.getD g default=c.AB.getD h default →
  ix (ix c.comp ((c.comp.getD f default).getD g default)) h=ix (c.comp.getD f default) ((c.comp.getD g default).getD h default)
def Ax.Is (c : Ax) : Prop:=c.Shape∧c.Laws
end Go.Shf
namespace Go.Shf
open Go.AW
theorem Ax.Shape.OH {c : Ax} (s : c.Shape) {f : Nat} (h : f<c.AB.length) : 0≤c.AB.getD f default∧(c.AB.getD f default).toNat<c.Ac.length:=by
 have:=s.AB _ (AE.mpr ⟨f,h,rfl⟩); have:=s.il; omega
theorem Ax.Shape.mH {c : Ax} (s : c.Shape) {f : Nat} (h : f<c.AB.length) : 0≤c.to.getD f default∧(c.to.getD f default).toNat<c.Ac.length:=by
 have:=s.to _ (AE.mpr ⟨f,by have:=s.L5; omega,rfl⟩); have:=s.il; omega
theorem Ax.Shape.Bz {c : Ax} (s : c.Shape) {x : Int} (h : x.toNat<c.Ac.length) : 0≤ix c.Ac x∧(ix c.Ac x).toNat<c.AB.length:=by
 have:=s.Ac _ (BL h); omega
theorem Ax.Shape.Wr {c : Ax} (s : c.Shape) {a : Int} (h : a.toNat<c.AB.length) : (ix c.comp a).length=c.AB.length:=s.row _ h
theorem Ax.Shape.pos {c : Ax} (s : c.Shape) {f g : Nat} (hf : f<c.AB.length) (hg : g<c.AB.length) : (0≤(c.comp.getD f default).getD g default)↔c.to.getD f default=c.AB.getD g default:=by
 constructor
 ·intro h; apply Classical.byContradiction; intro e; have:=s.R6 f g hf hg e; omega
 ·intro e; exact (s.yes f g hf hg e).1.1
theorem Ax.Shape.lt {c : Ax} (s : c.Shape) {f g : Nat} (hf : f<c.AB.length) (hg : g<c.AB.length) : ((c.comp.getD f default).getD g default).toNat<c.AB.length:=by
 by_cases e : c.to.getD f default=c.AB.getD g default
 ·have:=(s.yes f g hf hg e).1; omega
 ·have:=s.R6 f g hf hg e; omega
def Ax.r9 (c : Ax) (f : Nat) : Prop:=ix (ix c.comp (ix c.Ac (c.AB.getD f default))) f=f∧ix (c.comp.getD f default) (ix c.Ac (c.to.getD f default))=f
def Ax.Ii (c : Ax) (f g h : Nat) : Prop:=c.to.getD f default=c.AB.getD g default→c.to.getD g default=c.AB.getD h default →
  ix (ix c.comp ((c.comp.getD f default).getD g default)) h=ix (c.comp.getD f default) ((c.comp.getD g default).getD h default)
end Go.Shf
namespace Go.Shf
open Go.AW
theorem Dl {c : Ax} {x y : Int} : y∈outs c x↔0≤y∧y.toNat<c.AB.length∧ix c.AB y=x:=by
 simp only [outs,List.mem_map,List.mem_filter,List.mem_range,decide_eq_true_eq]
 constructor
 ·rintro ⟨b,⟨h1,h2⟩,rfl⟩; exact ⟨Int.natCast_nonneg b,by simpa using h1,by simpa [ix] using h2⟩
 ·rintro ⟨h1,h2,h3⟩; exact ⟨y.toNat,⟨h2,h3⟩,Int.toNat_of_nonneg h1⟩
end Go.Shf
namespace Go.Shf
open Go.AW
structure SF.Shape (f : SF) : Prop where
 is : f.shape.Is
 sl : (f.AK.length : Int)=f.shape.AF
 al : f.AJ.length=f.shape.AB.length
 sz : ∀ y,y∈f.AK→0≤y∧y<17
 act : ∀ a : Nat,a<f.AJ.length→((f.AJ.getD a default).length : Int)=ix f.AK (f.shape.AB.getD a default) ∧
  ∀ y,y∈f.AJ.getD a default→0≤y∧y<ix f.AK (f.shape.to.getD a default)
end Go.Shf
namespace Go.Shf
open Go.AW
structure SF.Laws (f : SF) : Prop where
 XE : ∀ x : Nat,x<f.shape.Ac.length→∀ e : Nat,e<(ix f.AJ (f.shape.Ac.getD x default)).length→(ix f.AJ (f.shape.Ac.getD x default)).getD e default=e
 comp : ∀ a b : Nat,a<f.shape.AB.length→b<f.shape.AB.length→f.shape.to.getD a default=f.shape.AB.getD b default→∀ e : Nat,e<(f.AJ.getD a default).length →
  (ix f.AJ ((f.shape.comp.getD a default).getD b default)).getD e default=ix (f.AJ.getD b default) ((f.AJ.getD a default).getD e default)
def SF.Qs (f : SF) (a b : Nat) : Prop:=f.shape.to.getD a default=f.shape.AB.getD b default→∀ e : Nat,e<(f.AJ.getD a default).length →
  (ix f.AJ ((f.shape.comp.getD a default).getD b default)).getD e default=ix (f.AJ.getD b default) ((f.AJ.getD a default).getD e default)
def SF.Is (f : SF) : Prop:=f.Shape∧f.Laws
theorem SF.Shape.FN {f : SF} (s : f.Shape) {a : Int} (h : a.toNat<f.shape.AB.length) : ((ix f.AJ a).length : Int)=ix f.AK (ix f.shape.AB a):=(s.act a.toNat (by rw [s.al]; exact h)).1
theorem SF.Shape.YV {f : SF} (s : f.Shape) {x : Nat} (h : x<f.shape.Ac.length) : ((ix f.AJ (f.shape.Ac.getD x default)).length : Int)=f.AK.getD x default:=by
 have h1:=s.is.1.Ac _ (AE.mpr ⟨x,h,rfl⟩);rw [s.FN (by omega),(s.is.1.O0 x h).1,AR]
end Go.Shf
namespace Go.Shf
open Go.AW
def GI (p : Nat→Bool) (n : Nat) : List Int:=((List.range n).filter p).map Int.ofNat
theorem SQ {p : Nat→Bool} {n : Nat} {y : Int} : y∈GI p n↔0≤y∧y.toNat<n∧p y.toNat=true:=by
 simp only [GI,List.mem_map,List.mem_filter,List.mem_range]
 constructor
 ·rintro ⟨b,⟨h1,h2⟩,rfl⟩; exact ⟨Int.natCast_nonneg b,by simpa using h1,by simpa using h2⟩
 ·rintro ⟨h1,h2,h3⟩; exact ⟨y.toNat,⟨h2,h3⟩,Int.toNat_of_nonneg h1⟩
theorem Oq (p : Nat→Bool) (n : Nat) : GI p (n+1)=GI p n++if p n then [(n : Int)] else []:=by
 rw [GI,Bw,List.map_append]; congr 1; split <;> rfl
theorem YP {p : Nat→Bool} {n : Nat} (h : p n=true) : GI p (n+1)=GI p n++[(n : Int)]:=by rw [Oq,if_pos h]
theorem UI {p : Nat→Bool} {n : Nat} (h : p n=false) : GI p (n+1)=GI p n:=by rw [Oq,if_neg (by simp [h]),List.append_nil]
@[simp] theorem mw (p : Nat→Bool) : GI p 0=[]:=rfl
theorem IA (p : Nat→Bool) (n : Nat) : (GI p n).length≤n:=by
 rw [GI,List.length_map]; exact Nat.le_trans (List.length_filter_le _ _) (by simp)
theorem L4 {l : List Int} : YY l↔l.Pairwise (·<·):=by
 constructor
 ·intro h;rw [List.pairwise_iff_getElem]
  intro i j hi hj xo
  have key : ∀ d i,i+d<l.length→0<d→l.getD i default<l.getD (i+d) default:=by
   intro d
   induction d with
   | zero=>intro i _ h; omega
   | succ d ih =>
    intro i hi _
    have h1:=h (i+d+1) (by omega) hi;simp only [Nat.add_sub_cancel] at h1
    by_cases hd : d=0
    ·subst hd; exact h1
    ·have:=ih i (by omega) (by omega); exact Int.lt_trans this h1
  have:=key (j - i) i (by omega) (by omega);rw [show i+(j - i)=j by omega] at this
  simpa [Go.AW.gE,hi,hj] using this
 ·intro h i h0 hi;rw [List.pairwise_iff_getElem] at h
  have:=h (i - 1) i (by omega) hi (by omega)
  simpa [Go.AW.gE,hi,show i - 1<l.length by omega] using this
theorem LJ (p : Nat→Bool) (n : Nat) : YY (GI p n):=by
 rw [L4,GI,List.pairwise_map];exact (List.pairwise_lt_range.filter _).imp fun {a b} h=>by simpa using h
def tF (c : Ax) (a : Int) (s : List Int) (b : Nat) : Bool:=decide (ix c.to a=c.AB.getD b default) && decide ((ix c.comp a).getD b default∈s)
def tE (c : Ax) (a : Int) (s : List Int) : List Int:=GI (tF c a s) c.AB.length
section
variable {c : Ax}
theorem Ax.Shape.comp (s : c.Shape) {a b : Int} (ha : 0≤a∧a.toNat<c.AB.length) (hb : 0≤b∧b.toNat<c.AB.length) (e : ix c.to a=ix c.AB b) :
  (0≤ix (ix c.comp a) b∧(ix (ix c.comp a) b).toNat<c.AB.length)∧ix c.AB (ix (ix c.comp a) b)=ix c.AB a∧ix c.to (ix (ix c.comp a) b)=ix c.to b:=by
 have:=s.yes a.toNat b.toNat ha.2 hb.2 e;refine ⟨⟨this.1.1, ?_⟩,this.2⟩
 have:=this.1; simp only [ix]; omega
theorem Ax.Shape.DJ (s : c.Shape) {f : Int} (hf : f.toNat<c.AB.length) : 0≤ix c.to f∧ix c.to f<c.AF:=s.to _ (BL (by rw [s.L5]; exact hf))
theorem Ax.Shape.C3 (s : c.Shape) {f : Int} (hf : f.toNat<c.AB.length) : 0≤ix c.AB f∧ix c.AB f<c.AF:=s.AB _ (BL hf)
theorem Ax.Shape.HJ (s : c.Shape) {x : Int} (hx : 0≤x∧x<c.AF) : (0≤ix c.Ac x∧(ix c.Ac x).toNat<c.AB.length)∧ix c.AB (ix c.Ac x)=x∧ix c.to (ix c.Ac x)=x:=by
 have hl:=s.il
 have h1:=s.Bz (x:=x) (by omega)
 have h2:=s.O0 x.toNat (by omega);rw [Int.toNat_of_nonneg hx.1] at h2;exact ⟨h1,h2⟩
end
end Go.Shf
namespace Go.Shf
open Go.AW
theorem B8 {α : Type} (l : List α) (i j : Nat) (a d : α) : (l.set i a).getD j d=if i=j∧j<l.length then a else l.getD j d:=by
 rw [Go.AW.gE,List.getElem?_set,Go.AW.gE]
 by_cases h : i=j
 ·subst h
  by_cases h2 : i<l.length
  ·simp [h2]
  ·simp [h2,List.getElem?_eq_none (show l.length≤i by omega)]
 ·simp [h]
end Go.Shf
namespace Go.Shf
open Go.AW
def tq (c : Ax) (L : List (List (List Int))) (a : Nat) : List Int:=(L.getD (c.AB.getD a default).toNat default).map fun s=>indexOf (L.getD (c.to.getD a default).toNat default) (tE c a s)
def cV (c : Ax) (L : List (List (List Int))) : List (List Int):=(List.range c.AB.length).map (tq c L)
def sM (c : Ax) (L : List (List (List Int))) (x : Nat) : Int:=indexOf (L.getD x default) (outs c x)
def jO (c : Ax) (L : List (List (List Int))) : List Int:=(List.range L.length).map (sM c L)
theorem FT {α : Type} (f : Nat→α) (k : Nat) : (List.range (k+1)).map f=(List.range k).map f++[f k]:=by rw [List.range_succ]; simp
theorem Ab {α : Type} (f : Nat→α) (d : α) {n k : Nat} (h : k<n) : ((List.range n).map f).getD k d=f k:=by
 simp [Go.AW.gE,h]
@[go_sem] def uK (c : Ax) (L : List (List (List Int))) : List AV:=[iI c.AF,iL c.AB,iL c.to,iL c.Ac,B5 c.comp,BE L,B5 (cV c L),iL (jO c L)]
@[go_sem] def tabZ : List AV:=[.int .i64 0,.A0,.A0,.A0,.A0,.A0,.A0,.A0]
theorem BO {α : Type} [DecidableEq α] [Inhabited α] {l : List α} {a : α} (h : a∈l) : 0≤indexOf l a∧(indexOf l a).toNat<l.length∧ix l (indexOf l a)=a:=by
 unfold indexOf
 split
 ·rename_i i e
  rw [List.idxOf?_eq_some_iff] at e
  obtain ⟨hi,e,_⟩:=e;refine ⟨by omega,by simpa using hi, ?_⟩
  simpa [ix,Go.AW.gE,hi] using e
 ·rename_i e; rw [List.idxOf?_eq_none_iff] at e; exact absurd h e
theorem C4 {α : Type} [DecidableEq α] [Inhabited α] {l : List α} (h : l.Nodup) {k : Nat} (hk : k<l.length) : indexOf l (l.getD k default)=k:=by
 refine Db hk (fun i hi e=>?_) rfl
 have h1 : i<l.length:=by omega
 have:=(List.getElem_inj h (h₀:=h1) (h₁:=hk)).mp (by simpa [Go.AW.gE,h1,hk] using e);omega
end Go.Shf
namespace Go.Shf
open Go.AW
theorem BC {α β : Type} [Inhabited α] (f : α→β) {l : List α} {k : Nat} {d : β} (h : k<l.length) : (l.map f).getD k d=f (l.getD k default):=by simp [Go.AW.gE,h]
end Go.Shf
namespace Go.Shf
open Go.AW
structure Lk where
 i : Int
 j : Int
 left : List Int
 right : List Int
 deriving Inhabited
def Fits (p : List Int) (l : Lk) : Prop:=0≤ix p l.i→0≤ix p l.j→ix l.left (ix p l.i)=ix l.right (ix p l.j)
def Cons (ls : List Lk) (p : List Int) : Prop:=∀ l,l∈ls→Fits p l
structure Ft (AK : List Int) (ls : List Lk) : Prop where
 i : ∀ l,l∈ls→0≤l.i∧l.i.toNat<AK.length
 j : ∀ l,l∈ls→0≤l.j∧l.j.toNat<AK.length
 left : ∀ l,l∈ls→(l.left.length : Int)=ix AK l.i
 right : ∀ l,l∈ls→(l.right.length : Int)=ix AK l.j
 sz : ∀ y,y∈AK→0≤y∧y≤4096
structure Ext (AK : List Int) (ls : List Lk) (p t : List Int) : Prop where
 len : t.length=p.length
 new : ∀ n,n<p.length→p.getD n default=-1→0≤t.getD n default∧t.getD n default<AK.getD n default
 JK : ∀ n,n<p.length→p.getD n default≠-1→t.getD n default=p.getD n default
 cons : Cons ls t
def u5 (ls : List Lk) (p : List Int) (n : Nat) (e : Int) : Prop:=∀ l,l∈ls→l.i=n∨l.j=n→Fits (p.set n e) l
noncomputable def Y2 (ls : List Lk) (p : List Int) (n e : Nat) : Bool:=dec (u5 ls p n e)
noncomputable def BQ (AK : List Int) (ls : List Lk) (p : List Int) (n : Nat) : List Int:=GI (Y2 ls p n) (AK.getD n default).toNat
def Ht (AK : List Int) (p : List Int) : Prop:=p.length=AK.length∧∀ n,n<p.length→p.getD n default<0∨(0≤p.getD n default∧p.getD n default<AK.getD n default)
structure DK (S : List Int→Prop) (L : List (List Int)) : Prop where
 Ph : L.Pairwise fun s t=>cmp s t<0
 mem : ∀ t,t∈L↔S t
theorem DK.uniq {S : List Int→Prop} {L M : List (List Int)} (h : DK S L) (k : DK S M) : L=M:=by
 refine List.Perm.eq_of_pairwise (le:=fun s t=>cmp s t<0) (fun a b _ _ h1 h2=>?_) h.Ph k.Ph ?_
 ·have:=Vc a b; omega
 ·refine (List.perm_ext_iff_of_nodup ?_ ?_).mpr fun s=>(h.mem s).trans (k.mem s).symm
  ·exact h.Ph.imp fun {a b} h e=>by rw [Hg.mpr e] at h; omega
  ·exact k.Ph.imp fun {a b} h e=>by rw [Hg.mpr e] at h; omega
theorem Ox : ∀ {s t : List Int} {n : Nat},n<s.length→n<t.length→(∀ i,i<n→s.getD i default=t.getD i default)→s.getD n default<t.getD n default→cmp s t<0
 | [],_,n,h,_,_,_=>by simp at h
 | _::_,[],n,_,h,_,_=>by simp at h
 | a::s,b::t,0,_,_,_,h=>by
  simp only [List.getD_cons_zero] at h;unfold cmp;rw [if_neg (by omega),if_pos h]; decide
 | a::s,b::t,n+1,h1,h2,h3,h4=>by
  have h0:=h3 0 (by omega);simp only [List.getD_cons_zero] at h0;simp only [List.getD_cons_succ] at h4;unfold cmp;rw [if_pos h0];exact Ox (by simpa using h1) (by simpa using h2) (fun i hi=>by have:=h3 (i+1) (by omega); simpa using this) h4
section
variable {AK : List Int} {ls : List Lk} {p t : List Int}
theorem FQ (p : List Int) (n : Nat) (e i : Int) (h0 : 0≤i) : ix (p.set n e) i=if i=n∧n<p.length then e else ix p i:=by
 simp only [ix,B8]
 by_cases h : n=i.toNat∧i.toNat<p.length
 ·rw [if_pos h,if_pos ⟨by omega,by omega⟩]
 ·rw [if_neg h,if_neg fun h2=>h ⟨by omega,by omega⟩]
theorem Ext.choice (ok : Ft AK ls) (hp : p.length=AK.length) (h : Ext AK ls p t) {n : Nat} (hn : n<p.length) (h1 : p.getD n default=-1) :
  (0≤t.getD n default∧t.getD n default<AK.getD n default)∧u5 ls p n (t.getD n default)∧Ext AK ls (p.set n (t.getD n default)) t:=by
 have hr:=h.new n hn h1
 have key : ∀ i : Int,0≤i→i.toNat<p.length→0≤ix (p.set n (t.getD n default)) i→ix (p.set n (t.getD n default)) i=ix t i:=by
  intro i h0 hi h2;rw [FQ _ _ _ _ h0] at h2 ⊢
  split
  ·rename_i e; simp only [ix]; rw [e.1,Int.toNat_natCast]
  ·rename_i e
   rw [if_neg e] at h2;simp only [ix] at h2 ⊢;exact (h.JK _ hi (by omega)).symm
 refine ⟨hr,fun l hl _ h2 h3=>?_, ?_⟩
 ·have a:=ok.i l hl
  have b:=ok.j l hl;rw [key _ a.1 (by omega) h2] at *;rw [key _ b.1 (by omega) h3] at *;exact h.cons l hl h2 h3
 ·refine ⟨by rw [List.length_set]; exact h.len,fun m hm e=>?_,fun m hm e=>?_,h.cons⟩
  ·rw [List.length_set] at hm;rw [B8] at e
   split at e
   ·omega
   ·exact h.new m hm e
  ·rw [List.length_set] at hm;rw [B8] at e ⊢
   split
   ·rename_i e2; rw [e2.1]
   ·rename_i e2; rw [if_neg e2] at e; exact h.JK m hm e
theorem Ext.Mc {n : Nat} (h1 : p.getD n default=-1) {e : Int} (he : 0≤e∧e<AK.getD n default) (hn : n<p.length) (h : Ext AK ls (p.set n e) t) : Ext AK ls p t∧t.getD n default=e:=by
 have XZ : t.getD n default=e:=by
  have:=h.JK n (by rw [List.length_set]; exact hn);rw [B8,if_pos ⟨rfl,hn⟩] at this;exact this (by omega)
 refine ⟨⟨by rw [h.len,List.length_set],fun m hm e2=>?_,fun m hm e2=>?_,h.cons⟩,XZ⟩
 ·by_cases e3 : n=m
  ·subst e3; rw [XZ]; exact he
  ·have:=h.new m (by rw [List.length_set]; exact hm);rw [B8,if_neg fun h=>e3 h.1] at this;exact this e2
 ·have e3 : n≠m:=by rintro rfl; exact e2 h1
  have:=h.JK m (by rw [List.length_set]; exact hm);rw [B8,if_neg fun h=>e3 h.1] at this;exact this e2
theorem MV (ok : Ft AK ls) {n : Nat} {e : Int} (hc : Cons ls p) (h : u5 ls p n e) : Cons ls (p.set n e):=by
 intro l hl
 by_cases ht : l.i=n∨l.j=n
 ·exact h l hl ht
 ·have a:=ok.i l hl
  have b:=ok.j l hl
  have:=hc l hl;simp only [Fits] at this ⊢;rw [FQ _ _ _ _ a.1,FQ _ _ _ _ b.1,if_neg fun h=>ht (.inl h.1),if_neg fun h=>ht (.inr h.1)];exact this
theorem Jl (h : ∀ t,¬ Ext AK ls p t) : DK (Ext AK ls p) []:=⟨.nil,fun t=>by simp [h t]⟩
theorem WS (ok : Ft AK ls) (hp : p.length=AK.length) {n : Nat} (hn : n<p.length) (h1 : p.getD n default=-1) (h : BQ AK ls p n=[]) : DK (Ext AK ls p) []:=by
 refine Jl fun t ht=>?_
 have:=ht.choice ok hp hn h1
 have hm : t.getD n default∈BQ AK ls p n:=by
  rw [BQ,SQ];refine ⟨this.1.1,by omega, ?_⟩;rw [Y2,Gz,Int.toNat_of_nonneg this.1.1]; exact this.2.1
 rw [h] at hm; simp at hm
theorem Mx (hc : Cons ls p) (h : ∀ n,n<p.length→p.getD n default≠-1) : DK (Ext AK ls p) [p]:=by
 refine ⟨by simp,fun t=>?_⟩;rw [List.mem_singleton]
 constructor
 ·rintro rfl; exact ⟨rfl,fun n hn e=>absurd e (h n hn),fun n hn e=>rfl,hc⟩
 ·intro ht;refine List.ext_getElem ht.len fun i h1 h2=>?_
  have:=ht.JK i h2 (h i h2)
  simpa [Go.AW.gE,h1,h2] using this
theorem EO {n : Nat} {e : Int} : e∈BQ AK ls p n↔(0≤e∧e<AK.getD n default)∧u5 ls p n e:=by
 rw [BQ,SQ,Y2,Gz]
 constructor
 ·rintro ⟨h1,h2,h3⟩; rw [Int.toNat_of_nonneg h1] at h3; exact ⟨⟨h1,by omega⟩,h3⟩
 ·rintro ⟨⟨h1,h2⟩,h3⟩; exact ⟨h1,by omega,by rw [Int.toNat_of_nonneg h1]; exact h3⟩
theorem RO (ok : Ft AK ls) (hp : p.length=AK.length) {n : Nat} (hn : n<p.length) (h1 : p.getD n default=-1) (hf : ∀ m,m<n→p.getD m default≠-1)
  (LL : Int→List (List Int)) (hL : ∀ e,e∈BQ AK ls p n→DK (Ext AK ls (p.set n e)) (LL e)) : DK (Ext AK ls p) ((BQ AK ls p n).flatMap LL):=by
 have Dw : ∀ e,e∈BQ AK ls p n→∀ t,t∈LL e→Ext AK ls p t∧t.getD n default=e:=by
  intro e he t ht
  have h:=((hL e he).mem t).mp ht;exact h.Mc h1 (EO.mp he).1 hn
 refine ⟨?_,fun t=>?_⟩
 ·have hr : (BQ AK ls p n).Pairwise (·<·):=L4.mp (LJ _ _);rw [List.pairwise_flatMap];refine ⟨fun e he=>(hL e he).Ph, ?_⟩
  have GZ : ∀ (l : List Int),l.Pairwise (·<·)→(∀ e,e∈l→e∈BQ AK ls p n)→l.Pairwise fun a b=>∀ x,x∈LL a→∀ y,y∈LL b→cmp x y<0:=by
   intro l hl
   induction hl with
   | nil=>intro _; exact .nil
   | cons h _ ih =>
    intro hs;refine .cons (fun b hb x hx y hy=>?_) (ih fun e he=>hs e (by simp [he]))
    have a1:=Dw _ (hs _ (by simp)) x hx
    have a2:=Dw _ (hs b (by simp [hb])) y hy;refine Ox (n:=n) (by rw [a1.1.len]; exact hn) (by rw [a2.1.len]; exact hn) (fun i hi=>?_) (by rw [a1.2,a2.2]; exact h b hb);rw [a1.1.JK i (by omega) (hf i hi),a2.1.JK i (by omega) (hf i hi)]
  exact GZ _ hr fun _ h=>h
 ·rw [List.mem_flatMap]
  constructor
  ·rintro ⟨e,he,ht⟩; exact (Dw e he t ht).1
  ·intro ht
   have:=ht.choice ok hp hn h1
   have hm:=EO.mpr ⟨this.1,this.2.1⟩;exact ⟨_,hm,((hL _ hm).mem t).mpr this.2.2⟩
theorem Ext.part {q : List Int} (hq : q.length=AK.length) (h : Ext AK ls (List.replicate AK.length (-1)) t) (hv : ∀ n,n<q.length→q.getD n default=-1∨q.getD n default=-2) (ok : Ft AK ls) :
  ∃ u,Ext AK ls q u:=by
 have Jc : t.length=AK.length:=by rw [h.len]; simp
 refine ⟨(List.range q.length).map fun n=>if q.getD n default=-1 then t.getD n default else -2,by simp,fun n hn e=>?_,fun n hn e=>?_,fun l hl=>?_⟩
 ·rw [Ab _ _ hn,if_pos e];exact h.new n (by simp; omega) (by simp [Go.AW.gE,show n<AK.length by omega])
 ·rw [Ab _ _ hn,if_neg e];exact ((hv n hn).resolve_left e).symm
 ·have a:=ok.i l hl
  have b:=ok.j l hl
  have key : ∀ i : Int,0≤i→i.toNat<AK.length→0≤ix ((List.range q.length).map fun n=>if q.getD n default=-1 then t.getD n default else -2) i →
    ix ((List.range q.length).map fun n=>if q.getD n default=-1 then t.getD n default else -2) i=ix t i:=by
   intro i h0 hi h2;simp only [ix] at h2 ⊢;rw [Ab _ _ (by omega)] at h2 ⊢
   split
   ·rfl
   ·rename_i e; rw [if_neg e] at h2; omega
  intro h2 h3;rw [key _ a.1 a.2 h2] at *;rw [key _ b.1 b.2 h3] at *;exact h.cons l hl h2 h3
end
end Go.Shf
namespace Go.Shf
open Go.AW
section
variable {l : Lk} {p : List Int} {n : Nat} {e : Int}
theorem j8 (hi : l.i=n) (hj : l.j=n) (hn : n<p.length) (he : 0≤e) : Fits (p.set n e) l↔ix l.left e=ix l.right e:=by
 have h1 : ix (p.set n e) l.i=e:=by rw [FQ _ _ _ _ (by omega),if_pos ⟨hi,hn⟩]
 have h2 : ix (p.set n e) l.j=e:=by rw [FQ _ _ _ _ (by omega),if_pos ⟨hj,hn⟩]
 rw [Fits,h1,h2]; exact ⟨fun h=>h he he,fun h _ _=>h⟩
theorem jT (hi : l.i=n) (hj : l.j≠n) (y4 : 0≤l.j) (hn : n<p.length) (he : 0≤e) (hp : 0≤ix p l.j) : Fits (p.set n e) l↔ix l.left e=ix l.right (ix p l.j):=by
 have h1 : ix (p.set n e) l.i=e:=by rw [FQ _ _ _ _ (by omega),if_pos ⟨hi,hn⟩]
 have h2 : ix (p.set n e) l.j=ix p l.j:=by rw [FQ _ _ _ _ y4,if_neg fun h=>hj h.1]
 rw [Fits,h1,h2]; exact ⟨fun h=>h he hp,fun h _ _=>h⟩
theorem bE (hj : l.j≠n) (y4 : 0≤l.j) (hp : ¬ 0≤ix p l.j) : Fits (p.set n e) l:=by
 have h2 : ix (p.set n e) l.j=ix p l.j:=by rw [FQ _ _ _ _ y4,if_neg fun h=>hj h.1]
 intro _ h; rw [h2] at h; exact absurd h hp
theorem jS (hj : l.j=n) (hi : l.i≠n) (xI : 0≤l.i) (hn : n<p.length) (he : 0≤e) (hp : 0≤ix p l.i) : Fits (p.set n e) l↔ix l.left (ix p l.i)=ix l.right e:=by
 have h1 : ix (p.set n e) l.j=e:=by rw [FQ _ _ _ _ (by omega),if_pos ⟨hj,hn⟩]
 have h2 : ix (p.set n e) l.i=ix p l.i:=by rw [FQ _ _ _ _ xI,if_neg fun h=>hi h.1]
 rw [Fits,h1,h2]; exact ⟨fun h=>h hp he,fun h _ _=>h⟩
theorem bD (hi : l.i≠n) (xI : 0≤l.i) (hp : ¬ 0≤ix p l.i) : Fits (p.set n e) l:=by
 have h2 : ix (p.set n e) l.i=ix p l.i:=by rw [FQ _ _ _ _ xI,if_neg fun h=>hi h.1]
 intro h; rw [h2] at h; exact absurd h hp
end
structure aY (AK : List Int) (ls : List Lk) (at' : List (List Int)) : Prop where
 len : at'.length=AK.length
 mem : ∀ n : Nat,n<AK.length→∀ y,y∈at'.getD n default↔0≤y∧y.toNat<ls.length∧((ls.getD y.toNat default).i=n∨(ls.getD y.toNat default).j=n)
theorem kK {AK : List Int} {ls : List Lk} {at' : List (List Int)} (h : aY AK ls at') {p : List Int} {n : Nat} {e : Int} (hn : n<AK.length) :
  u5 ls p n e↔∀ k,k<(at'.getD n default).length→Fits (p.set n e) (ix ls ((at'.getD n default).getD k default)):=by
 constructor
 ·intro hc k hk
  have:=(h.mem n hn _).mp (AE.mpr ⟨k,hk,rfl⟩);exact hc _ (BL this.2.1) this.2.2
 ·intro hc l hl ht
  obtain ⟨i,hi,rfl⟩:=AE.mp hl
  have:=(h.mem n hn i).mpr ⟨by omega,by simpa using hi,by simpa using ht⟩
  obtain ⟨k,hk,e⟩:=AE.mp this
  have:=hc k hk;rw [e,AR] at this; exact this
end Go.Shf
namespace Go.Shf
open Go.AW
def Cn (p : List Int) : Nat:=p.countP fun y=>decide (y=-1)
section
variable {AK : List Int} {ls : List Lk} {p : List Int}
theorem Ku {n : Nat} {e : Int} (hn : n<p.length) (h1 : p.getD n default=-1) (he : 0≤e) : Cn (p.set n e)<Cn p:=by
 have hg : p[n]=-1:=by simpa [Go.AW.gE,hn] using h1
 have hO : 0<Cn p:=by
  rw [Cn,List.countP_pos_iff]; exact ⟨p[n],List.getElem_mem hn,by simp [hg]⟩
 rw [Cn,List.countP_set hn]
 have h2 : ¬ e=-1:=by omega
 simp only [hg,decide_true,if_true,h2,decide_false,Bool.false_eq_true,if_false];unfold Cn at hO ⊢; omega
theorem Ht.set {n : Nat} {e : Int} (h : Ht AK p) (he : 0≤e∧e<AK.getD n default) : Ht AK (p.set n e):=by
 refine ⟨by rw [List.length_set]; exact h.1,fun m hm=>?_⟩;rw [List.length_set] at hm;rw [B8]
 split
 ·rename_i e2; rw [← e2.1]; exact .inr he
 ·exact h.2 m hm
theorem jU (ok : Ft AK ls) : ∀ (n : Nat) (p : List Int),Cn p=n→Ht AK p→Cons ls p→∃ L,DK (Ext AK ls p) L:=by
 intro n
 induction n using Nat.strongRecOn with
 | _ n ih =>
  intro p hn hp hc
  by_cases hf : ∃ m,m<p.length∧p.getD m default=-1
  ·have : ∃ f,(f<p.length∧p.getD f default=-1)∧∀ m,m<f→¬ (m<p.length∧p.getD m default=-1):=by
    have key : ∀ k,(∃ m,m≤k∧m<p.length∧p.getD m default=-1)→∃ f,(f<p.length∧p.getD f default=-1)∧∀ m,m<f→¬ (m<p.length∧p.getD m default=-1):=by
     intro k
     induction k with
     | zero=>rintro ⟨m,h0,h⟩; exact ⟨m,h,fun i hi=>by omega⟩
     | succ k ihk =>
      rintro ⟨m,h0,h⟩
      by_cases h2 : ∃ m,m≤k∧m<p.length∧p.getD m default=-1
      ·exact ihk h2
      ·exact ⟨m,h,fun i hi hh=>h2 ⟨i,by omega,hh⟩⟩
    obtain ⟨m,hm⟩:=hf;exact key m ⟨m,Nat.le_refl _,hm⟩
   obtain ⟨f,⟨HB,h1⟩,kY⟩:=this
   have hL : ∀ e,e∈BQ AK ls p f→∃ L,DK (Ext AK ls (p.set f e)) L:=by
    intro e he
    have hm:=EO.mp he;exact ih _ (hn ▸ Ku HB h1 hm.1.1) _ rfl (hp.set hm.1) (MV ok hc hm.2)
   have : ∃ LL : Int→List (List Int),∀ e,e∈BQ AK ls p f→DK (Ext AK ls (p.set f e)) (LL e):=by
    refine ⟨fun e=>@dite _ (e∈BQ AK ls p f) (Classical.propDecidable _) (fun h=>Classical.choose (hL e h)) fun _=>[],fun e he=>?_⟩
    show DK _ (@dite _ (e∈BQ AK ls p f) (Classical.propDecidable _) (fun h=>Classical.choose (hL e h)) fun _=>[])
    rw [dif_pos he]; exact Classical.choose_spec (hL e he)
   obtain ⟨LL,xl⟩:=this;exact ⟨_,RO ok hp.1 HB h1 (fun m hm e=>kY m hm ⟨by omega,e⟩) LL xl⟩
  ·exact ⟨[p],Mx hc fun m hm e=>hf ⟨m,hm,e⟩⟩
open Classical in
noncomputable def Fv (AK : List Int) (ls : List Lk) (p : List Int) : List (List Int):=if h : ∃ L,DK (Ext AK ls p) L then Classical.choose h else []
theorem FA {L : List (List Int)} (h : DK (Ext AK ls p) L) : Fv AK ls p=L:=by
 have he : ∃ L,DK (Ext AK ls p) L:=⟨L,h⟩;rw [Fv,dif_pos he];exact (Classical.choose_spec he).uniq h
theorem Qf (ok : Ft AK ls) (hp : Ht AK p) (hc : Cons ls p) : DK (Ext AK ls p) (Fv AK ls p):=by
 have he:=jU ok _ p rfl hp hc;rw [Fv,dif_pos he]; exact Classical.choose_spec he
theorem Qi (ok : Ft AK ls) (hp : Ht AK p) (hc : Cons ls p) {n : Nat} (hn : n<p.length) (h1 : p.getD n default=-1) (hf : ∀ m,m<n→p.getD m default≠-1) :
  Fv AK ls p=(BQ AK ls p n).flatMap fun e=>Fv AK ls (p.set n e) :=
 FA (RO ok hp.1 hn h1 hf _ fun e he=>by
  have hm:=EO.mp he;exact Qf ok (hp.set hm.1) (MV ok hc hm.2))
end
def kQ (AK : List Int) (ls : List Lk) (p : List Int) (k : Nat) (first : Int) (ch : List Int) : Prop :=
 (first=-1∧ch=[]∧∀ m,k≤m→m<p.length→p.getD m default≠-1) ∨
 ∃ f : Nat,first=f∧k≤f∧f<p.length∧p.getD f default=-1∧(∀ m,k≤m→m<f→p.getD m default≠-1)∧ch=BQ AK ls p f∧ch≠[]
theorem kQ.skip {AK : List Int} {ls : List Lk} {p : List Int} {k : Nat} {first : Int} {ch : List Int} (h : kQ AK ls p (k+1) first ch) (hk : p.getD k default≠-1) : kQ AK ls p k first ch:=by
 rcases h with ⟨h1,h2,h3⟩ | ⟨f,h1,h2,h3,h4,h5,h6⟩
 ·exact .inl ⟨h1,h2,fun m hm hl=>by
   by_cases e : m=k
   ·subst e; exact hk
   ·exact h3 m (by omega) hl⟩
 ·exact .inr ⟨f,h1,by omega,h3,h4,fun m hm hl=>by
   by_cases e : m=k
   ·subst e; exact hk
   ·exact h5 m (by omega) hl,h6⟩
theorem kQ.Sc {AK : List Int} {ls : List Lk} {p : List Int} {k : Nat} (hl : k<p.length) (hk : p.getD k default=-1) (hc : BQ AK ls p k≠[]) : kQ AK ls p k k (BQ AK ls p k) :=
 .inr ⟨k,rfl,Nat.le_refl _,hl,hk,fun m h1 h2=>by omega,rfl,hc⟩
end Go.Shf
namespace Go.Shf
open Go.AW
structure cU (n : Nat) (ls : List Lk) (k : Nat) (As : List (List Int)) : Prop where
 len : As.length=n
 mem : ∀ m : Nat,m<n→∀ y,y∈As.getD m []↔0≤y∧y.toNat<k∧((ls.getD y.toNat default).i=m∨(ls.getD y.toNat default).j=m)
 lens : ∀ m : Nat,m<n→(As.getD m []).length≤k
theorem cU.zero (n : Nat) (ls : List Lk) : cU n ls 0 (List.replicate n []):=by
 refine ⟨by simp,fun m hm y=>?_,fun m hm=>?_⟩
 ·simp [Go.AW.gE,hm]
 ·simp [Go.AW.gE,hm]
theorem cU.step {n : Nat} {ls : List Lk} {k : Nat} {As : List (List Int)} (h : cU n ls k As) {i j : Nat} (hi : i<n) (hj : j<n) (ei : (ls.getD k default).i=i) (ej : (ls.getD k default).j=j) :
  cU n ls (k+1) (if i=j then As.set i (As.getD i []++[(k : Int)]) else (As.set i (As.getD i []++[(k : Int)])).set j ((As.set i (As.getD i []++[(k : Int)])).getD j []++[(k : Int)])):=by
 have hl:=h.len
 have gm : ∀ m : Nat,m<n→(if i=j then As.set i (As.getD i []++[(k : Int)]) else (As.set i (As.getD i []++[(k : Int)])).set j ((As.set i (As.getD i []++[(k : Int)])).getD j []++[(k : Int)])).getD m [] =
   if m=i∨m=j then As.getD m []++[(k : Int)] else As.getD m []:=by
  intro m hm
  by_cases e : i=j
  ·subst e;rw [if_pos rfl,B8]
   by_cases e2 : i=m
   ·subst e2; rw [if_pos ⟨rfl,by omega⟩,if_pos (.inl rfl)]
   ·rw [if_neg fun h=>e2 h.1,if_neg]; rintro (h | h) <;> exact e2 h.symm
  ·rw [if_neg e,B8,List.length_set]
   by_cases e2 : j=m
   ·subst e2;rw [if_pos ⟨rfl,by omega⟩,if_pos (.inr rfl),B8,if_neg fun h=>e h.1]
   ·rw [if_neg fun h=>e2 h.1,B8]
    by_cases e3 : i=m
    ·subst e3; rw [if_pos ⟨rfl,by omega⟩,if_pos (.inl rfl)]
    ·rw [if_neg fun h=>e3 h.1,if_neg]; rintro (h | h)
     ·exact e3 h.symm
     ·exact e2 h.symm
 refine ⟨?_,fun m hm y=>?_,fun m hm=>?_⟩
 ·split <;> simp [hl]
 ·rw [gm m hm]
  have:=h.mem m hm y
  split
  ·rename_i e
   rw [List.mem_append,List.mem_singleton,this]
   constructor
   ·rintro (⟨h1,h2,h3⟩ | rfl)
    ·exact ⟨h1,by omega,h3⟩
    ·refine ⟨by omega,by simp, ?_⟩;rw [Int.toNat_natCast,ei,ej]
     rcases e with e | e
     ·exact .inl (by rw [e])
     ·exact .inr (by rw [e])
   ·rintro ⟨h1,h2,h3⟩
    by_cases e2 : y.toNat=k
    ·exact .inr (by omega)
    ·exact .inl ⟨h1,by omega,h3⟩
  ·rename_i e
   rw [this]
   constructor
   ·rintro ⟨h1,h2,h3⟩; exact ⟨h1,by omega,h3⟩
   ·rintro ⟨h1,h2,h3⟩;refine ⟨h1, ?_,h3⟩
    by_cases e2 : y.toNat=k
    ·exfalso; apply e
     rw [e2,ei,ej] at h3
     rcases h3 with h3 | h3
     ·exact .inl (by omega)
     ·exact .inr (by omega)
    ·omega
 ·rw [gm m hm]
  have:=h.lens m hm
  split
  ·rw [List.length_append,List.length_singleton]; omega
  ·omega
theorem cU.ok {AK : List Int} {ls : List Lk} {As : List (List Int)} (h : cU AK.length ls ls.length As) : aY AK ls As:=⟨h.len,fun n hn y=>by
 have:=h.mem n hn y;exact this⟩
theorem SK {ls : List Lk} {AK p : List Int} (ok : Ft AK ls) (hl : p.length=AK.length) (h : ∀ n,n<p.length→p.getD n default<0) : Cons ls p:=by
 intro l hm h1 _
 have:=ok.i l hm
 have:=h l.i.toNat (by omega);simp only [ix] at h1; omega
end Go.Shf
namespace Go.Shf
open Go.AW
def w6 (c : Ax) (s : List Int) (i b : Nat) : List Int:=[(i : Int),(b : Int),indexOf s (ix (ix c.comp (s.getD i default)) b)]
def qy (c : Ax) (s : List Int) (i b : Nat) : Bool:=decide (c.AB.getD b default=ix c.to (s.getD i default))
def jV (c : Ax) (s : List Int) (i n : Nat) : List (List Int):=((List.range n).filter (qy c s i)).map (w6 c s i)
def iO (c : Ax) (s : List Int) (k : Nat) : List (List Int):=(List.range k).flatMap fun i=>jV c s i c.AB.length
def rowsOf (c : Ax) (s : List Int) : List (List Int):=iO c s s.length
def Rh (f : SF) (s : List Int) : List Int:=s.map fun a=>ix f.AK (ix f.shape.to a)
def BG (n : Int) : List Int:=(List.range n.toNat).map Int.ofNat
theorem EN {n y : Int} (h : 0≤y∧y<n) : ix (BG n) y=y:=by
 rw [ix,BG,Ab _ _ (by omega)]; exact Int.toNat_of_nonneg h.1
def vq (f : SF) (s r : List Int) : Lk:=⟨r.getD 0 default,r.getD 2 default,ix f.AJ (r.getD 1 default),BG (ix (Rh f s) (r.getD 2 default))⟩
def ZQ (f : SF) (s : List Int) : List Lk:=(rowsOf f.shape s).map (vq f s)
noncomputable def OB (AK : List Int) (ls : List Lk) : List (List Int):=Fv AK ls (List.replicate AK.length (-1))
noncomputable def oe (f : SF) (s : List Int) : List (List Int):=OB (Rh f s) (ZQ f s)
section
variable {f : SF} {x : Int} {s : List Int}
theorem SF.Shape.HA (h : f.Shape) {y : Int} (hy : 0≤y∧y<f.shape.AF) : 0≤ix f.AK y∧ix f.AK y≤16:=by
 have:=h.sl
 have:=h.sz _ (BL (l:=f.AK) (i:=y) (by omega)); omega
end
end Go.Shf
namespace Go.Shf
open Go.AW
def rC (c : Ax) (V : List (List Int)) (a : Int) (t : List Int) : List Int:=(ix V (ix c.to a)).map fun b=>ix t (indexOf (ix V (ix c.AB a)) (ix (ix c.comp a) b))
noncomputable def VQ (f : SF) (V : List (List Int)) (x : Nat) : List (List Int):=oe f (V.getD x default)
noncomputable def UK (f : SF) (V : List (List Int)) : List (List (List Int)):=(List.range V.length).map (VQ f V)
noncomputable def HA (f : SF) (V : List (List Int)) (x : Nat) : Int:=((VQ f V x).length : Int)
noncomputable def P4 (f : SF) (V : List (List Int)) : List Int:=(List.range V.length).map (HA f V)
noncomputable def pY (f : SF) (V : List (List Int)) (a : Nat) : List Int :=
 (VQ f V (f.shape.AB.getD a default).toNat).map fun t=>indexOf (VQ f V (f.shape.to.getD a default).toNat) (rC f.shape V a t)
noncomputable def Sr (f : SF) (V : List (List Int)) : List (List Int):=(List.range f.shape.AB.length).map (pY f V)
end Go.Shf
namespace Go.Shf
open Go.AW
def NY (c : Ax) (x y : Int) (i : Nat) : Bool:=decide (c.AB.getD i default=x) && decide (c.to.getD i default=y)
def sC (c : Ax) (x y : Int) : List Int:=GI (NY c x y) c.AB.length
theorem Vy {c : Ax} {x y a : Int} : a∈sC c x y↔(0≤a∧a.toNat<c.AB.length)∧ix c.AB a=x∧ix c.to a=y:=by
 simp only [sC,NY,SQ,Bool.and_eq_true,decide_eq_true_eq,and_assoc]; exact Iff.rfl
end Go.Shf
namespace Go.Shf
open Go.AW
section
variable {f g : SF}
variable {p p' : List (List Int)} {x e d : Int} {k : Nat} {N : List (Int × Int)}
theorem take_one {α : Type} [Inhabited α] (l : List α) {k : Nat} (hk : k<l.length) : l.take (k+1)=l.take k++[l.getD k default]:=by
 have hN : l[k]=l.getD k default:=by simp [Go.AW.gE,hk]
 rw [← hN]; exact (List.take_append_getElem hk).symm
theorem Hi {α : Type} {P Q : α→Bool} {b : α} : ∀ {l : List α},(∀ a,a∈l→P a=true→Q a=true)→b∈l→P b=false→Q b=true→l.countP P<l.countP Q
 | [],_,hb,_,_=>by simp at hb
 | a::r,h,hb,hp,hq=>by
  have hle : r.countP P≤r.countP Q:=List.countP_mono_left fun a ha=>h a (List.mem_cons_of_mem _ ha);rw [List.countP_cons,List.countP_cons]
  by_cases e : b∈r
  ·have:=Hi (fun a ha=>h a (List.mem_cons_of_mem _ ha)) e hp hq
   have ha:=h a List.mem_cons_self
   cases jn : P a with
   | true=>rw [ha jn]; simpa using this
   | false=>cases Q a <;> simp <;> omega
  ·rcases List.mem_cons.mp hb with rfl | hb
   ·rw [hp,hq]; simp; omega
   ·exact absurd hb e
end
end Go.Shf
namespace Go.Shf
open Go.AW
def Bb : List Int→Int
 | []=>1
 | a::l=>a*Bb l
theorem I9 : ∀ {s : List Int},(∀ a,a∈s→0<a)→0<Bb s
 | [],_=>by simp [Bb]
 | a::l,h=>by
  rw [Bb];exact Int.mul_pos (h a (by simp)) (I9 fun b hb=>h b (by simp [hb]))
theorem JQ : ∀ {s : List Int},0∈s→Bb s=0
 | a::l,h=>by
  rw [Bb]
  rcases List.mem_cons.mp h with e | e
  ·rw [← e,Int.zero_mul]
  ·rw [JQ e,Int.mul_zero]
theorem JW {s : List Int} (h : ∀ a,a∈s→0≤a) : 0≤Bb s:=by
 by_cases h0 : 0∈s
 ·rw [JQ h0]; exact Int.le_refl _
 ·exact Int.le_of_lt (I9 fun a ha=>by
   have:=h a ha
   have : a≠0:=fun e=>h0 (e ▸ ha);omega)
def Xm (s : List Int) (n : Int) (i : Nat) : Int:=(n / Bb (s.drop (i+1))) % s.getD i default
def T8 (s : List Int) (n : Int) : List Int:=(List.range s.length).map (Xm s n)
theorem bA (a : Int) (s : List Int) (n : Int) : T8 (a::s) n=((n / Bb s) % a)::T8 s n:=by
 rw [T8,List.length_cons,List.range_succ_eq_map,List.map_cons,List.map_map]
 rfl
def Vo : List Int→List Int→Prop
 | [],[]=>True
 | a::s,b::t=>(0≤b∧b<a)∧Vo s t
 | _,_=>False
def Hk : List Int→List Int→Int
 | _::s,b::t=>b*Bb s+Hk s t
 | _,_=>0
theorem Vo.len : ∀ {s t : List Int},Vo s t→t.length=s.length
 | [],[],_=>rfl
 | a::s,b::t,h=>by rw [List.length_cons,List.length_cons,Vo.len h.2]
theorem Vo.pos : ∀ {s t : List Int},Vo s t→∀ a,a∈s→0<a
 | [],[],_,a,ha=>by simp at ha
 | a::s,b::t,h,c,hc=>by
  rcases List.mem_cons.mp hc with rfl | hc
  ·have:=h.1; omega
  ·exact Vo.pos h.2 c hc
theorem Vo.at : ∀ {s t : List Int},Vo s t→∀ i,i<s.length→0≤t.getD i default∧t.getD i default<s.getD i default
 | [],[],_,i,hi=>by simp at hi
 | a::s,b::t,h,0,_=>by simpa using h.1
 | a::s,b::t,h,i+1,hi=>by
  have:=Vo.at h.2 i (by simpa using hi)
  simpa using this
theorem Vo.of : ∀ {s t : List Int},t.length=s.length→(∀ i,i<s.length→0≤t.getD i default∧t.getD i default<s.getD i default)→Vo s t
 | [],[],_,_=>trivial
 | a::s,b::t,hl,h=>⟨by simpa using h 0 (by simp),Vo.of (by simpa using hl) fun i hi=>by simpa using h (i+1) (by simpa using hi)⟩
 | [],b::t,hl,_=>by simp at hl
 | a::s,[],hl,_=>by simp at hl
theorem WD : ∀ {s t : List Int},Vo s t→0≤Hk s t∧Hk s t<Bb s
 | [],[],_=>by simp [Hk,Bb]
 | a::s,b::t,h=>by
  have ih:=WD h.2
  have hp:=I9 h.2.pos
  have hb:=h.1;rw [Hk,Bb]
  have h1 : 0≤b*Bb s:=Int.mul_nonneg h.1.1 (Int.le_of_lt hp)
  have h2 : (b+1)*Bb s≤a*Bb s:=Int.mul_le_mul_of_nonneg_right (by omega) (Int.le_of_lt hp);rw [Int.add_mul,Int.one_mul] at h2;omega
theorem ZB : ∀ {s : List Int},(∀ a,a∈s→0<a)→∀ n : Int,Vo s (T8 s n)
 | [],_,n=>trivial
 | a::s,h,n=>by
  rw [bA]
  have ha:=h a (by simp);exact ⟨⟨Int.emod_nonneg _ (by omega),Int.emod_lt_of_pos _ ha⟩,ZB (fun b hb=>h b (by simp [hb])) n⟩
structure QS where
 v : List Int
 l : List (Int × Int)
 r : List (Int × Int)
 o : List Int
end Go.Shf
namespace Go.Shf
open Go.AW
theorem E5 {α : Type} [Inhabited α] (l : List α) {i : Nat} (a : α) (hi : i<l.length) {y : Nat} : (l.set i a).getD y default=if y=i then a else l.getD y default:=by
 simp only [Go.AW.gE,List.getElem?_set]
 by_cases h : i=y
 ·subst h; simp [hi]
 ·rw [if_neg h,if_neg (Ne.symm h)]
structure SF.gi (f : SF) (c : Ax) (N : Nat) : Prop where
 sh : f.shape=c
 sl : (f.AK.length : Int)=c.AF
 al : f.AJ.length=c.AB.length
 sz : ∀ y,y∈f.AK→0≤y∧y≤N
 act : ∀ a : Nat,a<c.AB.length→((f.AJ.getD a default).length : Int)=ix f.AK (c.AB.getD a default)∧∀ y,y∈f.AJ.getD a default→0≤y∧y<ix f.AK (c.to.getD a default)
structure FreeI (c : Ax) (os : List Int) (k h : Nat) (LL : List (List (List Int))) : Prop where
 len : (LL.length : Int)=c.AF
 of : ∀ y : Nat,y<LL.length→∀ q,q∈LL.getD y default→∃ i j : Nat,q=[(i : Int),(j : Int)]∧i<os.length∧j<c.AB.length∧c.AB.getD j default=os.getD i default∧c.to.getD j default=y
 all : ∀ i j : Nat,(i<k∨(i=k∧j<h))→i<os.length→j<c.AB.length→c.AB.getD j default=os.getD i default→([(i : Int),(j : Int)] : List Int)∈LL.getD (c.to.getD j default).toNat default
 bd : ∀ y : Nat,(LL.getD y default).length≤k*c.AB.length+h
section
variable {c : Ax} {os : List Int} {k h : Nat} {LL : List (List (List Int))}
theorem FreeI.zero (hc : 0≤c.AF) : FreeI c os 0 0 (List.replicate c.AF.toNat []) where
 len:=by simp; omega
 of y hy q hq:=by
  rw [List.length_replicate] at hy
  simp [Go.AW.gE,hy] at hq
 all i j h:=by omega
 bd y:=by
  by_cases hy : y<c.AF.toNat
  ·simp [Go.AW.gE,hy]
  ·rw [Go.AW.gE,List.getElem?_eq_none (by simp; omega)]
   simp
   rfl
theorem FreeI.skip (s : FreeI c os k h LL) (hn : c.AB.getD h default≠os.getD k default) : FreeI c os k (h+1) LL:=⟨s.len,s.of,fun i j xo hi hj e=>by
 by_cases e1 : i=k∧j=h
 ·rw [e1.1,e1.2] at e; exact absurd e hn
 ·exact s.all i j (by omega) hi hj e,fun y=>by have:=s.bd y; omega⟩
theorem FreeI.Sc (s : FreeI c os k h LL) (hc : c.Shape) (hk : k<os.length) (hh : h<c.AB.length) (e : c.AB.getD h default=os.getD k default) :
  FreeI c os k (h+1) (LL.set (c.to.getD h default).toNat (LL.getD (c.to.getD h default).toNat default++[[(k : Int),(h : Int)]])):=by
 have ht:=hc.DJ (f:=(h : Int)) (by simpa using hh);rw [AR] at ht
 have hl:=s.len
 have Iy : (c.to.getD h default).toNat<LL.length:=by omega
 have CU : ∀ y : Nat,(LL.set (c.to.getD h default).toNat (LL.getD (c.to.getD h default).toNat default++[[(k : Int),(h : Int)]])).getD y default =
   if y=(c.to.getD h default).toNat then LL.getD y default++[[(k : Int),(h : Int)]] else LL.getD y default:=by
  intro y;rw [E5 _ _ Iy]
  by_cases hy : y=(c.to.getD h default).toNat
  ·rw [if_pos hy,if_pos hy,hy]
  ·rw [if_neg hy,if_neg hy]
 refine ⟨by rw [List.length_set]; exact hl,fun y hy q hq=>?_,fun i j xo hi hj e1=>?_,fun y=>?_⟩
 ·rw [List.length_set] at hy;rw [CU] at hq
  split at hq
  ·rename_i gy
   rcases List.mem_append.mp hq with hq | hq
   ·exact s.of y hy q hq
   ·rw [List.mem_singleton] at hq;exact ⟨k,h,hq,hk,hh,e,by rw [gy]; omega⟩
  ·exact s.of y hy q hq
 ·rw [CU]
  by_cases e2 : i=k∧j=h
  ·rw [e2.1,e2.2,if_pos rfl]; simp
  ·have:=s.all i j (by omega) hi hj e1
   split
   ·exact List.mem_append_left _ this
   ·exact this
 ·rw [CU]
  have:=s.bd y
  split
  ·rw [List.length_append,List.length_singleton]; omega
  ·omega
theorem FreeI.next (s : FreeI c os k c.AB.length LL) : FreeI c os (k+1) 0 LL:=⟨s.len,s.of,fun i j xo hi hj e=>s.all i j (by omega) hi hj e,fun y=>by
 have:=s.bd y;rw [Nat.succ_mul]; omega⟩
def Ct (c : Ax) (LL : List (List (List Int))) (a : Nat) : List Int:=(LL.getD (c.AB.getD a default).toNat default).map fun q=>indexOf (LL.getD (c.to.getD a default).toNat default) [ix q 0,(ix c.comp (ix q 1)).getD a default]
def HK (c : Ax) (LL : List (List (List Int))) : SF:=⟨c,LL.map fun l=>(l.length : Int),(List.range c.AB.length).map (Ct c LL)⟩
end
def OD (l : List Int) : Nat:=((List.range l.length).flatMap fun d=>(List.range l.length).map fun e=>(d,e)).countP fun q : Nat × Nat=>decide (l.getD q.1 default≠l.getD q.2 default)
theorem Wx {l m : List Int} (hl : m.length=l.length) (h : ∀ i j : Nat,i<l.length→j<l.length→l.getD i default=l.getD j default→m.getD i default=m.getD j default)
  {u v : Nat} (hu : u<l.length) (hv : v<l.length) (h1 : l.getD u default≠l.getD v default) (h2 : m.getD u default=m.getD v default) : OD m<OD l:=by
 unfold OD;rw [hl];refine Hi (b:=(u,v)) (fun q hq Oo=>?_) (by simp; exact ⟨hu,hv⟩) (decide_eq_false (by simpa using h2)) (decide_eq_true h1);simp only [List.mem_flatMap,List.mem_range,List.mem_map] at hq
 obtain ⟨i,hi,j,hj,rfl⟩:=hq
 have Oo:=of_decide_eq_true Oo;exact decide_eq_true fun e=>Oo (h i j hi hj e)
def Ns (C : List (List Int)) : Nat:=(C.map OD).sum
theorem VS : ∀ (C : List (List Int)) (y : Nat) (m : List Int),y<C.length→OD m<OD (C.getD y default)→Ns (C.set y m)<Ns C
 | [],_,_,h,_=>by simp at h
 | a::C,0,m,_,h=>by
  simp only [Ns,List.set_cons_zero,List.map_cons,List.sum_cons]
  have : OD m<OD a:=h;omega
 | a::C,y+1,m,hy,h=>by
  have:=VS C y m (by simpa using hy) (by simpa using h);simp only [Ns,List.set_cons_succ,List.map_cons,List.sum_cons] at this ⊢;omega
def El (p : List Int) : List (List Int):=(List.range p.length).map fun i=>[indexOf p (p.getD i default),(i : Int)]
def Fm (ps : List (List Int)) (m : List Int) : Prop:=∀ q,q∈ps→ix m (ix q 0)=ix m (ix q 1)
theorem Ul {l m : List Int} (hl : m.length=l.length) {u v : Int} (hu : 0≤u∧u.toNat<l.length) (hv : 0≤v∧v.toNat<l.length) (h1 : ix l u≠ix l v) (hg : Fm (El l++[[u,v]]) m) : OD m<OD l:=by
 refine Wx hl (fun i j hi hj e=>?_) hu.2 hv.2 h1 ?_
 ·have hp : ∀ i : Nat,i<l.length→m.getD (indexOf l (l.getD i default)).toNat default=m.getD i default:=fun i hi=>by
   have:=hg [indexOf l (l.getD i default),(i : Int)] (List.mem_append_left _ (List.mem_map.mpr ⟨i,List.mem_range.mpr hi,rfl⟩))
   have e : ix m (ix [indexOf l (l.getD i default),(i : Int)] 1)=m.getD i default:=AR m i;rw [e] at this;exact this
  rw [← hp i hi,← hp j hj,e]
 ·exact hg [u,v] (List.mem_append_right _ (by simp))
theorem UR {l : List Int} {u v : Int} (hu : 0≤u∧u.toNat<l.length) (hv : 0≤v∧v.toNat<l.length) : ∀ q,q∈El l++[[u,v]]→2≤q.length∧(0≤q.getD 0 default∧(q.getD 0 default).toNat<l.length)∧(0≤q.getD 1 default∧(q.getD 1 default).toNat<l.length):=by
 intro q hq
 rcases List.mem_append.mp hq with hq | hq
 ·obtain ⟨i,hi,rfl⟩:=List.mem_map.mp hq;rw [List.mem_range] at hi
  have h:=BO (l:=l) (a:=l.getD i default) (AE.mpr ⟨i,hi,rfl⟩);exact ⟨by simp,⟨h.1,h.2.1⟩,by simp,by simpa using hi⟩
 ·rw [List.mem_singleton] at hq;subst hq;exact ⟨by simp,hu,hv⟩
def Cu (A : List Int) (a b : Int) : List Int:=A.map fun v=>if v=b then a else v
theorem E2 (A : List Int) (a b : Int) : (Cu A a b).length=A.length:=by simp [Cu]
theorem K2 {A : List Int} {a b i : Int} (h : i.toNat<A.length) : ix (Cu A a b) i=if ix A i=b then a else ix A i:=by
 rw [ix,Cu,BC _ h]; rfl
theorem Fm.Cu {ps : List (List Int)} {A : List Int} (hp : ∀ q,q∈ps→(ix q 0).toNat<A.length∧(ix q 1).toNat<A.length) (h : Fm ps A) (a b : Int) : Fm ps (Cu A a b):=fun q hq=>by
 have h1:=hp q hq;rw [K2 h1.1,K2 h1.2,h q hq]
theorem Fm.step {ps : List (List Int)} {A : List Int} (hp : ∀ q,q∈ps→(ix q 0).toNat<A.length∧(ix q 1).toNat<A.length) {q : List Int} (hq : (ix q 0).toNat<A.length∧(ix q 1).toNat<A.length) (h : Fm ps A) :
  Fm (ps++[q]) (Go.Shf.Cu A (ix A (ix q 0)) (ix A (ix q 1))):=fun r hr=>by
 rcases List.mem_append.mp hr with hr | hr
 ·exact h.Cu hp _ _ r hr
 ·rw [List.mem_singleton] at hr;subst hr;rw [K2 hq.1,K2 hq.2,if_pos rfl]
  split <;> rfl
end Go.Shf
namespace Go.Shf
open Go.AW
theorem Qu {s : List Int} {u v : Int} (h : u∈s) : indexOf (s++[v]) u=indexOf s u:=by
 obtain ⟨h1,h2,h3⟩:=BO h;unfold indexOf
 have : (s++[v]).idxOf? u=s.idxOf? u:=by
  have hs : ∃ i,s.idxOf? u=some i:=by
   cases e : s.idxOf? u with
   | some i=>exact ⟨i,rfl⟩
   | none=>rw [List.idxOf?_eq_none_iff] at e; exact absurd h e
  obtain ⟨i,hi⟩:=hs;rw [hi];rw [List.idxOf?_eq_some_iff] at hi ⊢
  obtain ⟨k1,k2,k3⟩:=hi;refine ⟨by simp; omega,by rw [List.getElem_append_left k1]; exact k2,fun j hj=>?_⟩;rw [List.getElem_append_left (by omega)]; exact k3 j hj
 rw [this]
theorem Pn {s : List Int} {v : Int} (h : v ∉ s) : indexOf (s++[v]) v=s.length:=by
 refine Db (k:=s.length) (by simp) (fun i hi e=>h ?_) (by simp [Go.AW.gE]);rw [Go.AW.gE,List.getElem?_append_left hi,← Go.AW.gE] at e;exact AE.mpr ⟨i,hi,e⟩
def DO (l : List Int) : List Int:=l.foldl (fun s v=>if v∈s then s else s++[v]) []
theorem F7 (l : List Int) (v : Int) : DO (l++[v])=if v∈DO l then DO l else DO l++[v]:=by rw [DO,List.foldl_append]; rfl
theorem GJ : ∀ (k : Nat) (l : List Int),l.length=k→∀ v,v∈DO l↔v∈l
 | 0,l,h,v=>by rw [List.length_eq_zero_iff] at h; subst h; simp [DO]
 | k+1,l,h,v=>by
  have Bg : l≠[]:=fun e=>by rw [e] at h; simp at h
  obtain ⟨r,x,rfl⟩ : ∃ r x,l=r++[x]:=⟨l.dropLast,l.getLast Bg,(List.dropLast_concat_getLast Bg).symm⟩
  have ih:=GJ k r (by simpa using h);rw [F7]
  by_cases hx : x∈DO r
  ·rw [if_pos hx,ih];simp only [List.mem_append,List.mem_singleton];exact ⟨.inl,fun h=>h.elim id fun e=>e ▸ (ih x).mp hx⟩
  ·rw [if_neg hx];simp only [List.mem_append,List.mem_singleton,ih]
theorem Kq : ∀ (k : Nat) (l : List Int),l.length=k→(DO l).length≤k
 | 0,l,h=>by rw [List.length_eq_zero_iff] at h; subst h; simp [DO]
 | k+1,l,h=>by
  have Bg : l≠[]:=fun e=>by rw [e] at h; simp at h
  obtain ⟨r,x,rfl⟩ : ∃ r x,l=r++[x]:=⟨l.dropLast,l.getLast Bg,(List.dropLast_concat_getLast Bg).symm⟩
  have ih:=Kq k r (by simpa using h);rw [F7]
  split
  ·omega
  ·simp; omega
def Dr (l : List Int) : List Int:=l.map fun v=>indexOf (DO l) v
theorem Nc (l : List Int) : (Dr l).length=l.length:=by simp [Dr]
theorem SV (l : List Int) (v : Int) : Dr (l++[v])=Dr l++[indexOf (DO (l++[v])) v]:=by
 rw [Dr,List.map_append,List.map_cons,List.map_nil]
 congr 1
 refine List.map_congr_left fun u hu=>?_
 have:=(GJ _ l rfl u).mpr hu;rw [F7]
 split
 ·rfl
 ·exact Qu this
theorem Tf {l : List Int} {v : Int} (h : v∈Dr l) : 0≤v∧v<l.length:=by
 obtain ⟨u,hu,rfl⟩:=List.mem_map.mp h
 have:=BO ((GJ _ l rfl u).mpr hu)
 have:=Kq _ l rfl;omega
theorem Fm.class {ps : List (List Int)} {l : List Int} (hp : ∀ q,q∈ps→(ix q 0).toNat<l.length∧(ix q 1).toNat<l.length) (h : Fm ps l) : Fm ps (Dr l):=fun q hq=>by
 have h1:=hp q hq
 have key : ∀ i : Int,i.toNat<l.length→ix (Dr l) i=indexOf (DO l) (ix l i):=fun i hi=>by rw [ix,Dr,BC _ hi]; rfl
 rw [key _ h1.1,key _ h1.2,h q hq]
def Jm (n : Nat) (ps : List (List Int)) : List Int:=ps.foldl (fun A q=>Cu A (ix A (ix q 0)) (ix A (ix q 1))) ((List.range n).map Int.ofNat)
theorem Wm (n : Nat) (ps : List (List Int)) (q : List Int) : Jm n (ps++[q])=Cu (Jm n ps) (ix (Jm n ps) (ix q 0)) (ix (Jm n ps) (ix q 1)):=by simp [Jm,List.foldl_append]
theorem WO (n : Nat) (ps : List (List Int)) {k : Nat} (hk : k<ps.length) : Jm n (ps.take (k+1))=Cu (Jm n (ps.take k)) (ix (Jm n (ps.take k)) (ix (ps.getD k default) 0)) (ix (Jm n (ps.take k)) (ix (ps.getD k default) 1)):=by
 rw [take_one ps hk,Wm]
theorem Wi (ps : List (List Int)) : ∀ (done : List (List Int)) (A : List Int),(∀ q,q∈done++ps→(ix q 0).toNat<A.length∧(ix q 1).toNat<A.length)→Fm done A →
  (ps.foldl (fun A q=>Cu A (ix A (ix q 0)) (ix A (ix q 1))) A).length=A.length∧Fm (done++ps) (ps.foldl (fun A q=>Cu A (ix A (ix q 0)) (ix A (ix q 1))) A):=by
 induction ps with
 | nil=>intro done A _ h; exact ⟨rfl,by simpa using h⟩
 | cons q r ih =>
  intro done A hr h
  have hq:=hr q (by simp)
  have h2:=h.step (fun q hq=>hr q (by simp [hq])) hq
  have:=ih (done++[q]) (Cu A (ix A (ix q 0)) (ix A (ix q 1))) (fun p hp=>by
   rw [E2]; exact hr p (by simpa using hp)) h2
  rw [List.foldl_cons];rw [E2] at this;exact ⟨this.1,by simpa using this.2⟩
theorem KK (n : Nat) (ps : List (List Int)) : (Jm n ps).length=n:=by
 have : ∀ (ps : List (List Int)) (A : List Int),(ps.foldl (fun A q=>Cu A (ix A (ix q 0)) (ix A (ix q 1))) A).length=A.length:=by
  intro ps
  induction ps with
  | nil=>intro A; rfl
  | cons q r ih=>intro A; rw [List.foldl_cons,ih,E2]
 rw [Jm,this]; simp
def HI (n : Nat) (ps : List (List Int)) : List Int:=Dr (Jm n ps)
theorem Kx (n : Nat) (ps : List (List Int)) : (HI n ps).length=n:=by rw [HI,Nc,KK]
theorem P5 {n : Nat} {ps : List (List Int)} {v : Int} (h : v∈HI n ps) : 0≤v∧v<n:=by
 have:=Tf h
 rwa [KK] at this
theorem SX {n : Nat} {ps : List (List Int)} (hp : ∀ q,q∈ps→(ix q 0).toNat<n∧(ix q 1).toNat<n) : Fm ps (HI n ps):=by
 have hr : ∀ q,q∈ps→(ix q 0).toNat<((List.range n).map Int.ofNat).length∧(ix q 1).toNat<((List.range n).map Int.ofNat).length:=fun q hq=>by simpa using hp q hq
 have:=(Wi ps [] ((List.range n).map Int.ofNat) (by simpa using hr) (fun q hq=>by simp at hq)).2;refine Fm.class (fun q hq=>by rw [KK]; exact hp q hq) ?_
 simpa [Jm] using this
def Ck (A : List Int) (a b : Int) (i : Nat) : List Int:=Cu (A.take i) a b++A.drop i
theorem Rg (A : List Int) (a b : Int) {i : Nat} (hi : i≤A.length) : (Ck A a b i).length=A.length:=by simp [Ck,E2]; omega
theorem Ql (A : List Int) (a b : Int) : Ck A a b 0=A:=by simp [Ck,Cu]
theorem RJ (A : List Int) (a b : Int) : Ck A a b A.length=Cu A a b:=by simp [Ck]
theorem Mi (A : List Int) (a : Int) : Cu A a a=A:=by
 rw [Cu]
 have : ∀ v,v∈A→(if v=a then a else v)=v:=fun v _=>by split <;> simp_all
 rw [List.map_congr_left this,List.map_id']
theorem TC (A : List Int) (a b : Int) {i : Nat} (hi : i<A.length) : (Ck A a b i).getD i default=A.getD i default:=by
 rw [Ck,Go.AW.gE,List.getElem?_append_right (by rw [E2,List.length_take]; omega),E2,List.length_take];rw [show i - min i A.length=0 by omega,List.getElem?_drop,Go.AW.gE]; simp
theorem Qn (A : List Int) (a b : Int) {i : Nat} (hi : i<A.length) : Ck A a b (i+1)=(Ck A a b i).set i (if A.getD i default=b then a else A.getD i default):=by
 have hl : (Cu (A.take i) a b).length=i:=by rw [E2,List.length_take]; omega
 rw [Ck,Ck,take_one A hi]
 have e1 : Cu (A.take i++[A.getD i default]) a b=Cu (A.take i) a b++[if A.getD i default=b then a else A.getD i default]:=by simp [Cu]
 have e2 : A.drop i=A.getD i default::A.drop (i+1):=by
  rw [List.drop_eq_getElem_cons hi]; simp [Go.AW.gE,hi]
 rw [e1,e2,List.set_append_right _ _ (by omega),hl,Nat.sub_self,List.set_cons_zero,List.append_assoc]; rfl
end Go.Shf
namespace Go.Shf
open Go.AW
structure ClsOk (sz : List Int) (CC : List (List Int)) : Prop where
 len : CC.length=sz.length
 row : ∀ x : Nat,x<sz.length→((CC.getD x default).length : Int)=sz.getD x default
 Nt : ∀ x : Nat,x<sz.length→∀ v,v∈CC.getD x default→0≤v∧v<sz.getD x default
def Jj (sz : List Int) (PP : List (List (List Int))) (x : Nat) : List Int:=HI (sz.getD x default).toNat (PP.getD x default)
theorem Yu {sz : List Int} (h : ∀ y,y∈sz→0≤y) (PP : List (List (List Int))) : ClsOk sz ((List.range sz.length).map (Jj sz PP)) where
 len:=by simp
 row x hx:=by
  have:=h _ (AE.mpr ⟨x,hx,rfl⟩);rw [Ab _ _ hx,Jj,Kx]; omega
 Nt x hx v hv:=by
  have:=h _ (AE.mpr ⟨x,hx,rfl⟩);rw [Ab _ _ hx,Jj] at hv
  have:=P5 hv; omega
theorem ClsOk.set {sz : List Int} {CC : List (List Int)} (s : ClsOk sz CC) {y : Nat} (hy : y<sz.length) {m : List Int} (hm : (m.length : Int)=sz.getD y default) (hr : ∀ v,v∈m→0≤v∧v<sz.getD y default) : ClsOk sz (CC.set y m):=by
 have hg : ∀ x,(CC.set y m).getD x default=if x=y then m else CC.getD x default:=fun x=>E5 CC m (by rw [s.len]; exact hy)
 refine ⟨by rw [List.length_set]; exact s.len,fun x hx=>?_,fun x hx v hv=>?_⟩
 ·rw [hg]
  by_cases e : x=y
  ·rw [if_pos e,e]; exact hm
  ·rw [if_neg e]; exact s.row x hx
 ·rw [hg] at hv
  by_cases e : x=y
  ·rw [if_pos e] at hv; rw [e]; exact hr v hv
  ·rw [if_neg e] at hv; exact s.Nt x hx v hv
def Ib (l : List Int) : Int:=l.foldl (fun n v=>if v+1 > n then v+1 else n) 0
theorem YC (l : List Int) (v : Int) : Ib (l++[v])=if v+1 > Ib l then v+1 else Ib l:=by rw [Ib,List.foldl_append]; rfl
theorem Sm (l : List Int) {k : Nat} (hk : k<l.length) : Ib (l.take (k+1))=if l.getD k default+1 > Ib (l.take k) then l.getD k default+1 else Ib (l.take k):=by rw [take_one l hk,YC]
theorem VT {l : List Int} {N : Int} (h0 : 0≤N) (h : ∀ v,v∈l→0≤v∧v<N) : ∀ k,k≤l.length→(0≤Ib (l.take k)∧Ib (l.take k)≤N)∧∀ i,i<k→l.getD i default<Ib (l.take k)
 | 0,_=>⟨by simpa [Ib] using h0,fun i hi=>by omega⟩
 | k+1,hk=>by
  have ih:=VT h0 h k (by omega)
  have hv:=h _ (AE.mpr ⟨k,hk,rfl⟩);rw [Sm l hk];refine ⟨by split <;> omega,fun i hi=>?_⟩
  by_cases e : i=k
  ·subst e; split <;> omega
  ·have:=ih.2 i (by omega)
   split <;> omega
theorem Pm {l : List Int} {N : Int} (h0 : 0≤N) (h : ∀ v,v∈l→0≤v∧v<N) : (0≤Ib l∧Ib l≤N)∧∀ v,v∈l→v<Ib l:=by
 have:=VT h0 h l.length (Nat.le_refl _);rw [List.take_length] at this;exact ⟨this.1,fun v hv=>by obtain ⟨i,hi,rfl⟩:=AE.mp hv; exact this.2 i hi⟩
end Go.Shf
namespace Go.Shf
open Go.AW
section
variable {c : Ax} {q : QS}
theorem SP {P : List Int→Prop} (h0 : P []) (h1 : ∀ l v,P l→P (l++[v])) : ∀ (k : Nat) (l : List Int),l.length=k→P l
 | 0,l,h=>by rw [List.length_eq_zero_iff] at h; subst h; exact h0
 | k+1,l,h=>by
  have Bg : l≠[]:=fun e=>by rw [e] at h; simp at h
  obtain ⟨r,x,rfl⟩ : ∃ r x,l=r++[x]:=⟨l.dropLast,l.getLast Bg,(List.dropLast_concat_getLast Bg).symm⟩;exact h1 r x (SP h0 h1 k r (by simpa using h))
theorem RQ (l : List Int) : (DO l).Nodup:=by
 refine SP (P:=fun l=>(DO l).Nodup) (by simp [DO]) (fun l v ih=>?_) _ l rfl;rw [F7]
 split
 ·exact ih
 ·rename_i h
  refine List.nodup_append.mpr ⟨ih,by simp,fun a ha b hb e=>?_⟩;simp only [List.mem_singleton] at hb;subst hb; subst e; exact h ha
def Mt (c : Ax) (v : List Int) : List (Int × Int):=(List.range v.length).flatMap fun i : Nat=>(outs c (v.getD i default)).map fun h=>((i : Int),h)
def CY (c : Ax) (v : List Int) (y : Int) : List (Int × Int):=(Mt c v).filter fun p=>decide (ix c.to p.2=y)
end
end Go.Shf
namespace Go.Shf
open Go.AW
section
variable {c : Ax} {q : QS}
def Ir (c : Ax) (x y : Int) : List Int:=(outs c x).filter fun h=>decide (ix c.to h=y)
def HU (c : Ax) (x y : Int) (k : Nat) : List Int:=((List.range k).filter fun i=>decide (c.AB.getD i default=x) && decide (c.to.getD i default=y)).map Int.ofNat
theorem GW (c : Ax) (x y : Int) : HU c x y c.AB.length=Ir c x y:=by
 rw [HU,Ir,outs,List.filter_map,List.filter_filter]
 congr 1
 refine List.filter_congr fun i _=>?_;simp only [Function.comp_def];rw [Bool.and_comm]
 congr 1
theorem To {x y : Int} {k : Nat} (h1 : c.AB.getD k default=x) (h2 : c.to.getD k default=y) : HU c x y (k+1)=HU c x y k++[(k : Int)]:=by
 rw [HU,Bw,if_pos (by rw [decide_eq_true h1,decide_eq_true h2]; rfl),List.map_append]; rfl
theorem Kk {x y : Int} {k : Nat} (h : ¬ (c.AB.getD k default=x∧c.to.getD k default=y)) : HU c x y (k+1)=HU c x y k:=by
 have e : (decide (c.AB.getD k default=x) && decide (c.to.getD k default=y))=false:=by
  rw [Bool.and_eq_false_iff,decide_eq_false_iff_not,decide_eq_false_iff_not]
  by_cases h1 : c.AB.getD k default=x
  ·exact .inr fun h2=>h ⟨h1,h2⟩
  ·exact .inl h1
 rw [HU,Bw,if_neg (by rw [e]; simp),List.append_nil]; rfl
theorem K9 (x y : Int) (k : Nat) : (HU c x y k).length≤k:=by
 rw [HU,List.length_map]; exact Nat.le_trans (List.length_filter_le _ _) (by simp)
def Rf (c : Ax) (v : List Int) (y : Int) (n : Nat) : List (Int × Int):=(List.range n).flatMap fun i : Nat=>(Ir c (v.getD i default) y).map fun h=>((i : Int),h)
theorem HH {α β : Type} (p : β→Bool) (g : α→List β) : ∀ l : List α,(l.flatMap g).filter p=l.flatMap fun a=>(g a).filter p
 | []=>rfl
 | a::l=>by rw [List.flatMap_cons,List.filter_append,HH p g l,List.flatMap_cons]
theorem XH (v : List Int) (y : Int) : Rf c v y v.length=CY c v y:=by
 rw [Rf,CY,Mt,HH]
 congr 1
 funext i
 rw [List.filter_map,Ir]
 rfl
theorem Wz (v : List Int) (y : Int) (n : Nat) : Rf c v y (n+1)=Rf c v y n++(Ir c (v.getD n default) y).map fun h=>((n : Int),h):=by
 rw [Rf,List.range_succ,List.flatMap_append]; simp [Rf]
end
end Go.Shf
namespace Go.Shf
open Go.AW
structure Hd (AK : List Int) (ls : List Lk) (p : List Int) (i : Nat) (e : Int) (p' : List Int) (N : List Int) (ok : Bool) : Prop where
 len : p'.length=p.length
 ext : ∀ q,q<p.length→p.getD q default≠-1→p'.getD q default=p.getD q default
 part : ∀ q,q<p.length→p'.getD q default=-1∨(0≤p'.getD q default∧p'.getD q default<AK.getD q default)
 new : ∀ y,y∈N↔0≤y∧y.toNat<p.length∧p.getD y.toNat default=-1∧p'.getD y.toNat default≠-1
 yes : ok=true→p'.getD i default=e∧(∀ y,y∈N→∀ l,l∈ls→l.i=y→ix p' l.j=ix l.left (ix p' y))∧∀ t,Ext AK ls p t→t.getD i default=e→Ext AK ls p' t
 no : ok=false→∀ t,Ext AK ls p t→t.getD i default≠e
def FW (AK : List Int) (p : List Int) : Prop:=p.length=AK.length∧∀ q,q<p.length→p.getD q default=-1∨(0≤p.getD q default∧p.getD q default<AK.getD q default)
theorem FW.part {AK p : List Int} (h : FW AK p) : Ht AK p:=⟨h.1,fun n hn=>(h.2 n hn).imp (fun e=>by omega) id⟩
def JF (ls : List Lk) (p : List Int) : Prop:=∀ l,l∈ls→0≤ix p l.i→ix p l.j=ix l.left (ix p l.i)
structure J2 (AK : List Int) (ls : List Lk) : Prop where
 ok : Ft AK ls
 rt : ∀ l,l∈ls→l.right=BG (ix AK l.j)
 lf : ∀ l,l∈ls→∀ y,y∈l.left→0≤y∧y<ix AK l.j
section
variable {AK : List Int} {ls : List Lk} {p : List Int}
theorem JF.cons (h : J2 AK ls) (hp : FW AK p) (hc : JF ls p) : Cons ls p:=by
 intro l hl h1 h2
 have a:=h.ok.i l hl
 have b:=h.ok.j l hl;rw [h.rt l hl]
 have:=hp.2 l.j.toNat (by rw [hp.1]; exact b.2);rw [EN ⟨h2,by rcases this with e | e <;> simp only [ix] at h2 ⊢ <;> omega⟩]
 exact (hc l hl h1).symm
theorem Ext.link (h : J2 AK ls) {t : List Int} (hp : FW AK p) (ht : Ext AK ls p t) {l : Lk} (hl : l∈ls) : ix t l.j=ix l.left (ix t l.i):=by
 have a:=h.ok.i l hl
 have b:=h.ok.j l hl
 have full : ∀ q,q<p.length→0≤t.getD q default∧t.getD q default<AK.getD q default:=by
  intro q hq
  rcases hp.2 q hq with e | e
  ·exact ht.new q hq e
  ·rw [ht.JK q hq (by omega)]; exact e
 have h1:=full l.i.toNat (by rw [hp.1]; exact a.2)
 have h2:=full l.j.toNat (by rw [hp.1]; exact b.2)
 have:=ht.cons l hl h1.1 h2.1;rw [h.rt l hl,EN (n:=ix AK l.j) (y:=ix t l.j) h2] at this;exact this.symm
theorem Hd.JK (hp : FW AK p) {i : Nat} {e : Int} (hi : i<p.length) (h : p.getD i default≠-1) : Hd AK ls p i e p [] (decide (p.getD i default=e)):=by
 refine ⟨rfl,fun _ _ _=>rfl,hp.2,fun y=>?_,fun ho=>⟨of_decide_eq_true ho,by simp,fun t ht _=>ht⟩,fun ho t ht XZ=>?_⟩
 ·simp only [List.not_mem_nil,false_iff,not_and]; intro _ _ h1 h2; exact h2 h1
 ·rw [ht.JK i hi h] at XZ; exact of_decide_eq_false ho XZ
structure Ld (AK : List Int) (ls : List Lk) (p : List Int) (i : Nat) (e : Int) (rs : List Lk) (k : Nat) (p' : List Int) (N : List Int) : Prop where
 len : p'.length=p.length
 ext : ∀ q,q<p.length→p.getD q default≠-1→p'.getD q default=p.getD q default
 part : ∀ q,q<p.length→p'.getD q default=-1∨(0≤p'.getD q default∧p'.getD q default<AK.getD q default)
 new : ∀ y,y∈N↔0≤y∧y.toNat<p.length∧p.getD y.toNat default=-1∧p'.getD y.toNat default≠-1
 own : p'.getD i default=e
 cl : ∀ y,y∈N→y≠i→∀ l,l∈ls→l.i=y→ix p' l.j=ix l.left (ix p' y)
 x9 : ∀ j,j<k→j<rs.length→ix p' (rs.getD j default).j=ix (rs.getD j default).left e
 ex : ∀ t,Ext AK ls p t→t.getD i default=e→Ext AK ls p' t
theorem Ld.zero {rs : List Lk} (hp : FW AK p) {i : Nat} {e : Int} (hi : i<p.length) (h : p.getD i default=-1) (he : 0≤e∧e<AK.getD i default) : Ld AK ls p i e rs 0 (p.set i e) [(i : Int)]:=by
 refine ⟨by simp,fun q hq Bg=>?_,fun q hq=>?_,fun y=>?_, ?_,fun y hy Bg=>?_,fun j hj=>by omega,fun t ht XZ=>?_⟩
 ·rw [B8,if_neg]; rintro ⟨rfl,_⟩; exact Bg h
 ·rw [B8]
  split
  ·rename_i e2; rw [← e2.1]; exact .inr he
  ·exact hp.2 q hq
 ·rw [List.mem_singleton]
  constructor
  ·rintro rfl;refine ⟨by omega,by simpa using hi,by simpa using h, ?_⟩;rw [Int.toNat_natCast,B8,if_pos ⟨rfl,hi⟩]; omega
  ·rintro ⟨h1,h2,h3,h4⟩;rw [B8] at h4
   split at h4
   ·rename_i e2; omega
   ·exact absurd h3 h4
 ·rw [B8,if_pos ⟨rfl,hi⟩]
 ·rw [List.mem_singleton] at hy; exact absurd hy Bg
 ·refine ⟨by rw [ht.len]; simp,fun q hq e2=>?_,fun q hq e2=>?_,ht.cons⟩
  ·rw [List.length_set] at hq;rw [B8] at e2
   split at e2
   ·omega
   ·exact ht.new q hq e2
  ·rw [List.length_set] at hq;rw [B8] at e2 ⊢
   split
   ·rename_i e3; rw [← e3.1]; exact XZ
   ·rename_i e3; rw [if_neg e3] at e2; exact ht.JK q hq e2
theorem Ld.uN {rs : List Lk} {i k : Nat} {e : Int} {p' N : List Int} (hp : FW AK p) (h : Ld AK ls p i e rs k p' N) : FW AK p':=⟨by rw [h.len]; exact hp.1,fun q hq=>h.part q (by rw [← h.len]; exact hq)⟩
theorem Ld.step {rs : List Lk} {i k : Nat} {e : Int} {p' N p2 N2 : List Int} (hp : FW AK p) (hi : i<p.length) (h : Ld AK ls p i e rs k p' N) (hk : k<rs.length) (hr : (rs.getD k default).j.toNat<p.length) (he : e≠-1) (hjn : 0≤(rs.getD k default).j)
  (q : Hd AK ls p' (rs.getD k default).j.toNat (ix (rs.getD k default).left e) p2 N2 true) (hjs : ∀ j,j<rs.length→0≤(rs.getD j default).j∧(rs.getD j default).j.toNat<p.length∧0≤ix (rs.getD j default).left e)
  (hm : ∀ j,j<rs.length→rs.getD j default∈ls∧(rs.getD j default).i=i) (Iz : J2 AK ls) : Ld AK ls p i e rs (k+1) p2 (N++N2):=by
 obtain ⟨y1,y2,y3⟩:=q.yes rfl
 have Nn : p2.length=p.length:=by rw [q.len,h.len]
 have BF : ∀ r,r<p.length→p'.getD r default≠-1→p2.getD r default=p'.getD r default:=fun r hr Bg=>q.ext r (by rw [h.len]; exact hr) Bg;refine ⟨Nn,fun r hr Bg=>?_,fun r hr=>q.part r (by rw [h.len]; exact hr),fun y=>?_, ?_,fun y hy Bg l hl e2=>?_,fun j hj Fb=>?_,fun t ht XZ=>?_⟩
 ·have:=h.ext r hr Bg; rw [BF r hr (by rw [this]; exact Bg),this]
 ·rw [List.mem_append,h.new,q.new,h.len]
  constructor
  ·rintro (⟨h1,h2,h3,h4⟩ | ⟨h1,h2,h3,h4⟩)
   ·exact ⟨h1,h2,h3,by rw [BF _ h2 h4]; exact h4⟩
   ·refine ⟨h1,h2, ?_,h4⟩;apply Classical.byContradiction; intro hn;rw [h.ext _ h2 hn] at h3; exact hn h3
  ·rintro ⟨h1,h2,h3,h4⟩
   by_cases e2 : p'.getD y.toNat default=-1
   ·exact .inr ⟨h1,h2,e2,h4⟩
   ·exact .inl ⟨h1,h2,h3,e2⟩
 ·rw [BF i hi (by rw [h.own]; exact he),h.own]
 ·rcases List.mem_append.mp hy with hy | hy
  ·have hn:=(h.new y).mp hy
   have h1:=h.cl y hy Bg l hl e2
   have V3 : ix p2 y=ix p' y:=BF _ hn.2.1 hn.2.2.2
   have b:=Iz.ok.j l hl
   have cc : ix p2 l.j=ix p' l.j:=by
    refine BF _ (by rw [hp.1]; exact b.2) ?_
    have a:=Iz.ok.left l hl
    have Iy : ix p' y<ix AK l.i:=by
     rcases h.part _ hn.2.1 with e3 | e3
     ·exact absurd e3 hn.2.2.2
     ·rw [e2]; exact e3.2
    have h0 : 0≤ix p' y:=by
     rcases h.part _ hn.2.1 with e3 | e3
     ·exact absurd e3 hn.2.2.2
     ·exact e3.1
    have:=Iz.lf l hl _ (BL (i:=ix p' y) (l:=l.left) (by omega));rw [← h1] at this;simp only [ix] at this; omega
   rw [cc,V3]; exact h1
  ·exact y2 y hy l hl e2
 ·by_cases e2 : j=k
  ·subst e2; exact y1
  ·have h1:=h.x9 j (by omega) Fb
   have hb:=hjs j Fb
   have : p'.getD (rs.getD j default).j.toNat default≠-1:=by
    simp only [ix] at h1; rw [h1]
    have:=hb.2.2;simp only [ix] at this; omega
   have TS:=BF _ hb.2.1 this;simp only [ix] at h1 ⊢;rw [TS]; exact h1
 ·refine y3 t (h.ex t ht XZ) ?_
  have h1:=ht.link Iz hp (hm k hk).1;rw [(hm k hk).2,AR,XZ] at h1;exact h1
theorem Ld.fail {rs : List Lk} {i k : Nat} {e : Int} {p' N p2 N2 : List Int} (hp : FW AK p) (hi : i<p.length) (h0 : p.getD i default=-1) (h : Ld AK ls p i e rs k p' N) (hk : k<rs.length)
  (q : Hd AK ls p' (rs.getD k default).j.toNat (ix (rs.getD k default).left e) p2 N2 false) (he : e≠-1)
  (hm : ∀ j,j<rs.length→rs.getD j default∈ls∧(rs.getD j default).i=i) (Iz : J2 AK ls) : Hd AK ls p i e p2 (N++N2) false:=by
 have BF : ∀ r,r<p.length→p'.getD r default≠-1→p2.getD r default=p'.getD r default:=fun r hr Bg=>q.ext r (by rw [h.len]; exact hr) Bg;refine ⟨by rw [q.len,h.len],fun r hr Bg=>?_,fun r hr=>q.part r (by rw [h.len]; exact hr),fun y=>?_,fun e=>(by cases e),fun _ t ht XZ=>?_⟩
 ·have:=h.ext r hr Bg; rw [BF r hr (by rw [this]; exact Bg),this]
 ·rw [List.mem_append,h.new,q.new,h.len]
  constructor
  ·rintro (⟨h1,h2,h3,h4⟩ | ⟨h1,h2,h3,h4⟩)
   ·exact ⟨h1,h2,h3,by rw [BF _ h2 h4]; exact h4⟩
   ·refine ⟨h1,h2, ?_,h4⟩;apply Classical.byContradiction; intro hn;rw [h.ext _ h2 hn] at h3; exact hn h3
  ·rintro ⟨h1,h2,h3,h4⟩
   by_cases e2 : p'.getD y.toNat default=-1
   ·exact .inr ⟨h1,h2,e2,h4⟩
   ·exact .inl ⟨h1,h2,h3,e2⟩
 ·refine q.no rfl t (h.ex t ht XZ) ?_
  have h1:=ht.link Iz hp (hm k hk).1;rw [(hm k hk).2,AR,XZ] at h1;exact h1
theorem Ld.done {rs : List Lk} {i k : Nat} {e : Int} {p' N : List Int} (h : Ld AK ls p i e rs k p' N) (hk : rs.length≤k)
  (Au : ∀ l,l∈ls→l.i=i→l∈rs) : Hd AK ls p i e p' N true:=by
 refine ⟨h.len,h.ext,h.part,h.new,fun _=>⟨h.own,fun y hy l hl e2=>?_,h.ex⟩,fun e=>(by cases e)⟩
 by_cases V3 : y=i
 ·subst V3
  obtain ⟨j,hj,rfl⟩:=AE.mp (Au l hl e2);rw [h.x9 j (by omega) hj,AR,h.own]
 ·exact h.cl y hy V3 l hl e2
theorem JF.set (Iz : J2 AK ls) (hp : FW AK p) (hc : JF ls p) {i : Nat} {e : Int} {p' N : List Int} (q : Hd AK ls p i e p' N true) : JF ls p':=by
 intro l hl h0
 have a:=Iz.ok.i l hl
 have b:=Iz.ok.j l hl
 by_cases e2 : p.getD l.i.toNat default=-1
 ·exact (q.yes rfl).2.1 l.i ((q.new _).mpr ⟨a.1,by rw [hp.1]; exact a.2,e2,by simp only [ix] at h0; omega⟩) l hl rfl
 ·have h1 : ix p' l.i=ix p l.i:=q.ext _ (by rw [hp.1]; exact a.2) e2
  have h2:=hc l hl (by rw [← h1]; exact h0)
  have h3 : ix p' l.j=ix p l.j:=by
   refine q.ext _ (by rw [hp.1]; exact b.2) ?_
   have Ce:=Iz.ok.left l hl
   have hr : ix p l.i<ix AK l.i:=by
    rcases hp.2 l.i.toNat (by rw [hp.1]; exact a.2) with e3 | e3
    ·exact absurd e3 e2
    ·exact e3.2
   rw [h1] at h0
   have:=Iz.lf l hl _ (BL (i:=ix p l.i) (l:=l.left) (by omega));rw [← h2] at this;simp only [ix] at this; omega
  rw [h1,h3]; exact h2
theorem Hd.ext_iff {i : Nat} {e : Int} {p' N : List Int} (hi : i<p.length) (h0 : p.getD i default=-1) (he : 0≤e∧e<AK.getD i default) (q : Hd AK ls p i e p' N true) (t : List Int) : Ext AK ls (p.set i e) t↔Ext AK ls p' t:=by
 constructor
 ·intro h
  have:=h.Mc h0 he hi;exact (q.yes rfl).2.2 t this.1 this.2
 ·intro h;refine ⟨by rw [h.len,q.len]; simp,fun r hr e2=>?_,fun r hr e2=>?_,h.cons⟩
  ·rw [List.length_set] at hr;rw [B8] at e2
   split at e2
   ·omega
   ·by_cases e3 : p'.getD r default=-1
    ·exact h.new r (by rw [q.len]; exact hr) e3
    ·rw [h.JK r (by rw [q.len]; exact hr) e3]
     rcases q.part r hr with e4 | e4
     ·exact absurd e4 e3
     ·exact e4
  ·rw [List.length_set] at hr;rw [B8] at e2 ⊢
   split
   ·rename_i e3
    rw [← e3.1,h.JK i (by rw [q.len]; exact hi) (by rw [(q.yes rfl).1]; omega),(q.yes rfl).1]
   ·rename_i e3
    rw [if_neg e3] at e2;rw [h.JK r (by rw [q.len]; exact hr) (by rw [q.ext r hr e2]; exact e2),q.ext r hr e2]
theorem Hd.none {i : Nat} {e : Int} {p' N : List Int} (hi : i<p.length) (h0 : p.getD i default=-1) (he : 0≤e∧e<AK.getD i default) (q : Hd AK ls p i e p' N false) : Fv AK ls (p.set i e)=[] :=
 FA (Jl fun t h=>by
  have:=h.Mc h0 he hi;exact q.no rfl t this.1 this.2)
theorem XF {q : List Int} (h : ∀ t,Ext AK ls p t↔Ext AK ls q t) : Fv AK ls p=Fv AK ls q:=by
 have : Ext AK ls p=Ext AK ls q:=funext fun t=>propext (h t)
 by_cases he : ∃ L,DK (Ext AK ls p) L
 ·obtain ⟨L,hL⟩:=he;rw [FA hL,FA (this ▸ hL)]
 ·rw [Fv,dif_neg he,Fv,dif_neg (by rw [← this]; exact he)]
theorem U4 {S T : List Int→Prop} {L : List (List Int)} (h : DK S L) (hs : ∀ t,T t→S t) : ∃ M,DK T M:=by
 classical
 refine ⟨L.filter fun t=>decide (T t),h.Ph.filter _,fun t=>?_⟩;rw [List.mem_filter,decide_eq_true_eq,h.mem];exact ⟨fun e=>e.2,fun e=>⟨hs t e,e⟩⟩
theorem aZ (Iz : J2 AK ls) (hp : FW AK p) (hc : JF ls p) {n : Nat} (hn : n<p.length) (h1 : p.getD n default=-1) (hf : ∀ m,m<n→p.getD m default≠-1) :
  Fv AK ls p=((List.range (AK.getD n default).toNat).map Int.ofNat).flatMap fun e=>Fv AK ls (p.set n e):=by
 have gQ:=hc.cons Iz hp
 have jq:=Qf Iz.ok hp.part gQ
 have hex : ∀ e : Int,0≤e∧e<AK.getD n default→DK (Ext AK ls (p.set n e)) (Fv AK ls (p.set n e)):=by
  intro e he
  obtain ⟨M,hM⟩:=U4 jq (T:=Ext AK ls (p.set n e)) fun t ht=>(ht.Mc h1 he hn).1;rw [FA hM]; exact hM
 rw [Qi Iz.ok hp.part gQ hn h1 hf,BQ,GI]
 generalize hN : (AK.getD n default).toNat=N at *
 have key : ∀ k,k≤N→(((List.range k).filter (Y2 ls p n)).map Int.ofNat).flatMap (fun e=>Fv AK ls (p.set n e))=((List.range k).map Int.ofNat).flatMap fun e=>Fv AK ls (p.set n e):=by
  intro k
  induction k with
  | zero=>intro _; rfl
  | succ k ih =>
   intro hk;rw [Bw,List.map_append,List.flatMap_append,ih (by omega),List.range_succ,List.map_append,List.flatMap_append]
   congr 1
   by_cases tA : Y2 ls p n k=true
   ·rw [if_pos tA]
   ·rw [if_neg tA];simp only [List.map_nil,List.flatMap_nil,List.map_cons,List.flatMap_cons,List.append_nil]
    have he : (0 : Int)≤(k : Int)∧(k : Int)<AK.getD n default:=by omega
    symm
    refine FA (Jl fun t ht=>tA ?_)
    have h2:=ht.Mc h1 he hn
    have h3:=h2.1.choice Iz.ok hp.1 hn h1;rw [h2.2] at h3;rw [Y2,Gz]; exact h3.2.1
 exact key N (Nat.le_refl _)
end
end Go.Shf
namespace Go.Shf
open Go.AW
def GG (p N : List Int) (k : Nat) : List Int:=(List.range p.length).map fun r : Nat=>if (r : Int)∈N.take k then -1 else p.getD r default
theorem TG (p N : List Int) (k : Nat) : (GG p N k).length=p.length:=by simp [GG]
theorem WE (p N : List Int) : GG p N 0=p:=by
 apply List.ext_getElem (by simp [GG])
 intro i h1 h2
 simp [GG,Go.AW.gE,h2]
theorem Wu (p N : List Int) {k : Nat} (hk : k<N.length) (h0 : 0≤N.getD k default) : GG p N (k+1)=(GG p N k).set (N.getD k default).toNat (-1):=by
 apply List.ext_getElem (by simp [GG])
 intro i h1 h2
 have hN : N[k]=N.getD k default:=by simp [Go.AW.gE,hk]
 have ht : N.take (k+1)=N.take k++[N.getD k default]:=by rw [← hN]; exact (List.take_append_getElem hk).symm
 simp only [GG,List.getElem_map,List.getElem_range,List.getElem_set,ht,List.mem_append,List.mem_singleton]
 by_cases e : (N.getD k default).toNat=i
 ·rw [if_pos (by right; omega),if_pos e]
 ·rw [if_neg e]
  have : ¬ (i : Int)=N.getD k default:=by omega
  simp only [this,or_false]
theorem Hd.jC {AK : List Int} {ls : List Lk} {p p' N : List Int} {i : Nat} {e : Int} {ok : Bool} (q : Hd AK ls p i e p' N ok) : GG p' N N.length=p:=by
 apply List.ext_getElem (by rw [TG,q.len])
 intro r h1 h2;simp only [GG,List.getElem_map,List.getElem_range,List.take_length]
 have hr : p[r]=p.getD r default:=by simp [Go.AW.gE,h2]
 rw [hr]
 have:=q.new r;simp only [Int.toNat_natCast] at this
 split
 ·rename_i h
  exact (this.mp h).2.2.1.symm
 ·rename_i h
  by_cases e2 : p.getD r default=-1
  ·rw [e2];apply Classical.byContradiction; intro hn;exact h (this.mpr ⟨by omega,h2,e2,hn⟩)
  ·exact q.ext r h2 e2
theorem Yh {AK : List Int} {ls : List Lk} {p p' N : List Int} {i : Nat} {e : Int} (q : Hd AK ls p i e p' N true) (hi : i<p.length) (h0 : p.getD i default=-1) (he : 0≤e) (h : N.length+Cn p'≤Cn p) : Cn p'<Cn p:=by
 have : (i : Int)∈N:=(q.new i).mpr ⟨by omega,by simpa using hi,by simpa using h0,by rw [Int.toNat_natCast,(q.yes rfl).1]; omega⟩
 have:=List.length_pos_of_mem this;omega
noncomputable def Bo (AK : List Int) (ls : List Lk) (p : List Int) (n k : Nat) : List (List Int):=((List.range k).map Int.ofNat).flatMap fun e=>Fv AK ls (p.set n e)
theorem Ls (AK : List Int) (ls : List Lk) (p : List Int) (n : Nat) : Bo AK ls p n 0=[]:=rfl
theorem LU (AK : List Int) (ls : List Lk) (p : List Int) (n k : Nat) : Bo AK ls p n (k+1)=Bo AK ls p n k++Fv AK ls (p.set n k):=by
 rw [Bo,List.range_succ,List.map_append,List.flatMap_append,Bo]
 simp
theorem UQ (AK : List Int) (ls : List Lk) (p : List Int) (n : Nat) {k m : Nat} (h : k≤m) : ∃ r,Bo AK ls p n m=Bo AK ls p n k++r:=by
 induction m with
 | zero =>
      obtain rfl : k=0:=by omega
      exact ⟨[],by simp⟩
 | succ m ih =>
  by_cases e : k=m+1
  ·subst e; exact ⟨[],by simp⟩
  ·obtain ⟨r,hr⟩:=ih (by omega);exact ⟨r++Fv AK ls (p.set n m),by rw [LU,hr,List.append_assoc]⟩
end Go.Shf
namespace Go.Shf
open Go.AW
structure Ax.Sh (N : Nat) (c : Ax) : Prop where
 ob : 0≤c.AF∧c.AF≤N
 il : (c.Ac.length : Int)=c.AF
 ml : c.AB.length≤N
 tl : c.to.length=c.AB.length
 cl : c.comp.length=c.AB.length
 row : ∀ f : Nat,f<c.AB.length→(c.comp.getD f default).length=c.AB.length
theorem Ax.Sh.mono {N M : Nat} {c : Ax} (h : c.Sh N) (hm : N≤M) : c.Sh M:=⟨by have:=h.ob; omega,h.il,by have:=h.ml; omega,h.tl,h.cl,h.row⟩
structure Ax.Ty (c : Ax) : Prop where
 AB : ∀ f : Nat,f<c.AB.length→0≤c.AB.getD f default∧c.AB.getD f default<c.AF
 to : ∀ f : Nat,f<c.AB.length→0≤c.to.getD f default∧c.to.getD f default<c.AF
 Ac : ∀ x : Nat,x<c.Ac.length→(0≤c.Ac.getD x default∧c.Ac.getD x default<(c.AB.length : Int))∧ix c.AB (c.Ac.getD x default)=x∧ix c.to (c.Ac.getD x default)=x
 R6 : ∀ f g : Nat,f<c.AB.length→g<c.AB.length→c.to.getD f default≠c.AB.getD g default→(c.comp.getD f default).getD g default=-1
 yes : ∀ f g : Nat,f<c.AB.length→g<c.AB.length→c.to.getD f default=c.AB.getD g default →
  (0≤(c.comp.getD f default).getD g default∧(c.comp.getD f default).getD g default<(c.AB.length : Int)) ∧
  ix c.AB ((c.comp.getD f default).getD g default)=c.AB.getD f default∧ix c.to ((c.comp.getD f default).getD g default)=c.to.getD g default
theorem Ax.Ty.shape {N : Nat} {c : Ax} (t : c.Ty) (s : c.Sh N) (h8 : c.AF≤8) (xg : c.AB.length≤40) : c.Shape where
 o:=⟨s.ob.1,h8⟩
 m:=xg
 AB y hy:=by obtain ⟨i,hi,rfl⟩:=AE.mp hy; exact t.AB i hi
 L5:=s.tl
 to y hy:=by obtain ⟨i,hi,rfl⟩:=AE.mp hy; exact t.to i (by rw [← s.tl]; exact hi)
 cl:=s.cl
 il:=s.il
 Ac y hy:=by obtain ⟨i,hi,rfl⟩:=AE.mp hy; exact (t.Ac i hi).1
 O0 x hx:=(t.Ac x hx).2
 row:=s.row
 R6:=t.R6
 yes:=t.yes
def Ax.Good (N : Nat) (c : Ax) : Prop:=c.Sh N∧c.Ty
theorem Ax.Good.mono {N M : Nat} {c : Ax} (h : c.Good N) (hm : N≤M) : c.Good M:=⟨h.1.mono hm,h.2⟩
theorem Ax.Ty.of {c : Ax} (AB : ∀ f : Nat,f<c.AB.length→0≤c.AB.getD f default∧c.AB.getD f default<c.AF) (to : ∀ f : Nat,f<c.AB.length→0≤c.to.getD f default∧c.to.getD f default<c.AF)
  (Ac : ∀ x : Nat,x<c.Ac.length→(0≤c.Ac.getD x default∧c.Ac.getD x default<(c.AB.length : Int))∧ix c.AB (c.Ac.getD x default)=x∧ix c.to (c.Ac.getD x default)=x)
  (h : ∀ f : Nat,f<c.AB.length→∀ g : Nat,g<c.AB.length→if c.to.getD f default=c.AB.getD g default then
   (0≤(c.comp.getD f default).getD g default∧(c.comp.getD f default).getD g default<(c.AB.length : Int))∧ix c.AB ((c.comp.getD f default).getD g default)=c.AB.getD f default∧ix c.to ((c.comp.getD f default).getD g default)=c.to.getD g default
   else (c.comp.getD f default).getD g default=-1) : c.Ty :=
 ⟨AB,to,Ac,fun f g hf hg e=>by have:=h f hf g hg; rwa [if_neg e] at this,fun f g hf hg e=>by have:=h f hf g hg; rwa [if_pos e] at this⟩
def HX (m : Nat) (φ : Nat→Nat→Int) : List (List Int):=(List.range m).map fun f=>(List.range m).map (φ f)
theorem Vx {m : Nat} {φ : Nat→Nat→Int} {f g : Nat} (hf : f<m) (hg : g<m) : ((HX m φ).getD f default).getD g default=φ f g:=by
 rw [HX,Ab _ _ hf,Ab _ _ hg]
theorem GL (m : Nat) (φ : Nat→Nat→Int) : (HX m φ).length=m:=by simp [HX]
theorem Hq {m : Nat} {φ : Nat→Nat→Int} {f : Nat} (hf : f<m) : ((HX m φ).getD f default).length=m:=by
 rw [HX,Ab _ _ hf]; simp
theorem EU {α : Type} {a b : List α} {i : Nat} {d : α} (h : i<a.length) : (a++b).getD i d=a.getD i d:=by
 rw [Go.AW.gE,List.getElem?_append_left h,← Go.AW.gE]
theorem G7 {α : Type} {a b : List α} {i : Nat} {d : α} (h : a.length≤i) : (a++b).getD i d=b.getD (i - a.length) d:=by
 rw [Go.AW.gE,List.getElem?_append_right h,← Go.AW.gE]
theorem Ty.mk' {c : Ax} {m : Nat} {φ : Nat→Nat→Int} (hm : c.AB.length=m) (hc : c.comp=HX m φ)
  (AB : ∀ f : Nat,f<m→0≤c.AB.getD f default∧c.AB.getD f default<c.AF) (to : ∀ f : Nat,f<m→0≤c.to.getD f default∧c.to.getD f default<c.AF)
  (Ac : ∀ x : Nat,x<c.Ac.length→(0≤c.Ac.getD x default∧c.Ac.getD x default<(m : Int))∧ix c.AB (c.Ac.getD x default)=x∧ix c.to (c.Ac.getD x default)=x)
  (R6 : ∀ f g : Nat,f<m→g<m→c.to.getD f default≠c.AB.getD g default→φ f g=-1)
  (yes : ∀ f g : Nat,f<m→g<m→c.to.getD f default=c.AB.getD g default→(0≤φ f g∧φ f g<(m : Int))∧ix c.AB (φ f g)=c.AB.getD f default∧ix c.to (φ f g)=c.to.getD g default) : c.Ty:=by
 subst hm;refine ⟨AB,to,Ac,fun f g hf hg e=>?_,fun f g hf hg e=>?_⟩
 ·rw [hc,Vx hf hg]; exact R6 f g hf hg e
 ·rw [hc,Vx hf hg]; exact yes f g hf hg e
def bt (c : Ax) : Ax:=⟨c.AF,c.to,c.AB,c.Ac,HX c.AB.length fun f g=>(c.comp.getD g default).getD f default⟩
theorem YE {N : Nat} {c : Ax} (h : c.Good N) : (bt c).Good N:=by
 obtain ⟨s,t⟩:=h
 have Jc:=s.tl;refine ⟨⟨s.ob,s.il,by show c.to.length≤N; have:=s.ml; omega,by show c.AB.length=c.to.length; omega,by rw [show (bt c).comp=HX _ _ from rfl,GL]; exact Jc.symm,fun f hf=>?_⟩, ?_⟩
 ·have OU : f<c.AB.length:=by have : f<c.to.length:=hf; omega
  rw [show (bt c).comp=HX _ _ from rfl,Hq OU]; exact Jc.symm
 ·exact Ty.mk' (m:=c.AB.length) Jc rfl t.to t.AB (fun x hx=>⟨(t.Ac x hx).1,(t.Ac x hx).2.2,(t.Ac x hx).2.1⟩) (fun f g hf hg e=>t.R6 g f hg hf fun q=>e q.symm)
   (fun f g hf hg e=>by have:=t.yes g f hg hf e.symm; exact ⟨this.1,this.2.2,this.2.1⟩)
def La (T : List (List Int)) : Ax:=⟨1,List.replicate T.length 0,List.replicate T.length 0,[0],T⟩
structure iQ (T : List (List Int)) : Prop where
 pos : 0<T.length
 l4 : T.length≤4
 row : ∀ i,i<T.length→(T.getD i default).length=T.length
 Nt : ∀ i,i<T.length→∀ j,j<T.length→0≤(T.getD i default).getD j default∧(T.getD i default).getD j default<T.length
theorem qY {n : Nat} {i : Nat} : (List.replicate n (0 : Int)).getD i default=0:=by
 rw [Go.AW.gE,List.getElem?_replicate]; split <;> rfl
theorem Oz {T : List (List Int)} (h : iQ T) : (La T).Good 4:=by
 have hl:=h.l4
 have hp:=h.pos
 have e0 : ∀ i : Nat,(La T).AB.getD i default=0:=fun i=>qY
 have e1 : ∀ i : Nat,(La T).to.getD i default=0:=fun i=>qY
 have em : (La T).AB.length=T.length:=by simp [La]
 refine ⟨⟨by simp [La],by simp [La],by rw [em]; exact hl,by simp [La],em.symm,fun f hf=>by rw [em] at hf ⊢; exact h.row f hf⟩,⟨fun f hf=>?_,fun f hf=>?_,fun x hx=>?_,fun f g hf hg e=>?_,fun f g hf hg e=>?_⟩⟩
 ·rw [e0]; exact ⟨by omega,by show (0 : Int)<1; omega⟩
 ·rw [e1]; exact ⟨by omega,by show (0 : Int)<1; omega⟩
 ·have : x=0:=by simp [La] at hx; exact hx
  subst this
  have : (La T).Ac.getD 0 default=0:=rfl;rw [this,em,ix,ix,e0,e1];exact ⟨⟨by omega,by omega⟩,rfl,rfl⟩
 ·rw [e0,e1] at e; exact absurd rfl e
 ·rw [em] at hf hg ⊢;rw [ix,ix,e0,e1,e0,e1];exact ⟨h.Nt f hf g hg,rfl,rfl⟩
def Gm (R : List (List Int)) (i j : Nat) : Int:=(R.getD i default).getD j default
def Nr (R : List (List Int)) (i : Nat) : Nat→List (Nat × Nat)
 | 0=>[]
 | j+1=>Nr R i j++if Gm R i j=1 then [(i,j)] else []
def Di (R : List (List Int)) : Nat→List (Nat × Nat)
 | 0=>[]
 | i+1=>Di R i++Nr R i R.length
def HQ (R : List (List Int)) (i j : Nat) : Nat:=(Di R i++Nr R i j).length
def Fg (P : List (Nat × Nat)) : List Int:=P.map fun p=>(p.1 : Int)
def HV (P : List (Nat × Nat)) : List Int:=P.map fun p=>(p.2 : Int)
section
variable {R : List (List Int)}
theorem Vt {i : Nat} : ∀ {j n : Nat},j≤n→Nr R i j <+: Nr R i n
 | j,0,h=>by
  obtain rfl : j=0:=by omega
  exact List.prefix_refl _
 | j,n+1,h=>by
  by_cases e : j=n+1
  ·subst e; exact List.prefix_refl _
  ·exact (Vt (by omega)).trans (List.prefix_append _ _)
theorem VK : ∀ {i n : Nat},i≤n→Di R i <+: Di R n
 | i,0,h=>by
  obtain rfl : i=0:=by omega
  exact List.prefix_refl _
 | i,n+1,h=>by
  by_cases e : i=n+1
  ·subst e; exact List.prefix_refl _
  ·exact (VK (by omega)).trans (List.prefix_append _ _)
theorem VJ {i a b : Nat} : ∀ {n : Nat},(a,b)∈Nr R i n↔a=i∧b<n∧Gm R i b=1
 | 0=>by simp [Nr]
 | n+1=>by
  rw [Nr,List.mem_append,VJ (n:=n)]
  constructor
  ·rintro (⟨h1,h2,h3⟩ | h)
   ·exact ⟨h1,by omega,h3⟩
   ·split at h
    ·rename_i hr
     simp only [List.mem_singleton,Prod.mk.injEq] at h
     obtain ⟨rfl,rfl⟩:=h;exact ⟨rfl,by omega,hr⟩
    ·cases h
  ·rintro ⟨rfl,h2,h3⟩
   by_cases e : b=n
   ·subst e; right; rw [if_pos h3]; exact List.mem_singleton_self _
   ·exact .inl ⟨rfl,by omega,h3⟩
theorem MC {a b : Nat} : ∀ {n : Nat},(a,b)∈Di R n↔a<n∧b<R.length∧Gm R a b=1
 | 0=>by simp [Di]
 | n+1=>by
  rw [Di,List.mem_append,MC (n:=n),VJ]
  constructor
  ·rintro (⟨h1,h2,h3⟩ | ⟨rfl,h2,h3⟩)
   ·exact ⟨by omega,h2,h3⟩
   ·exact ⟨by omega,h2,h3⟩
  ·rintro ⟨h1,h2,h3⟩
   by_cases e : a=n
   ·subst e; exact .inr ⟨rfl,h2,h3⟩
   ·exact .inl ⟨by omega,h2,h3⟩
theorem QT (i : Nat) : ∀ n,(Nr R i n).length≤n
 | 0=>by simp [Nr]
 | n+1=>by
  rw [Nr,List.length_append]
  have:=QT i n
  split <;> simp <;> omega
theorem MA : ∀ n,(Di R n).length≤n*R.length
 | 0=>by simp [Di]
 | n+1=>by
  rw [Di,List.length_append,Nat.succ_mul]
  have:=MA n
  have:=QT (R:=R) n R.length;omega
theorem VX {i j : Nat} (hi : i<R.length) (hj : j<R.length) (h : Gm R i j=1) : HQ R i j<(Di R R.length).length∧(Di R R.length).getD (HQ R i j) default=(i,j):=by
 have h1 : (Di R i++Nr R i j)++[(i,j)] <+: Di R R.length:=by
  refine List.IsPrefix.trans ?_ (VK (show i+1≤R.length by omega));rw [Di,List.append_assoc];refine (List.prefix_append_right_inj _).mpr ?_
  have:=Vt (R:=R) (i:=i) (show j+1≤R.length by omega);rw [Nr,if_pos h] at this;exact this
 obtain ⟨r,hr⟩:=h1
 have hl : HQ R i j<(Di R i++Nr R i j++[(i,j)]).length:=by simp [HQ]
 rw [← hr];refine ⟨by rw [List.length_append]; omega, ?_⟩;rw [EU hl,G7 (by simp [HQ])]
 simp [HQ]
end
structure fC (R : List (List Int)) : Prop where
 l4 : R.length≤4
 row : ∀ i,i<R.length→(R.getD i default).length=R.length
 refl : ∀ i,i<R.length→Gm R i i=1
 trans : ∀ i j k,i<R.length→j<R.length→k<R.length→Gm R i j=1→Gm R j k=1→Gm R i k=1
theorem fC.of {R : List (List Int)} (l4 : R.length≤4) (row : ∀ i,i<R.length→(R.getD i default).length=R.length) (refl : ∀ i,i<R.length→Gm R i i=1)
  (tr : ∀ i,i<R.length→∀ j,j<R.length→∀ k,k<R.length→Gm R i j=1→Gm R j k=1→Gm R i k=1) : fC R:=⟨l4,row,refl,fun i j k hi hj hk=>tr i hi j hj k hk⟩
def eK (R : List (List Int)) (f g : Nat) : Int :=
 if (HV (Di R R.length)).getD f default=(Fg (Di R R.length)).getD g default then (HQ R ((Fg (Di R R.length)).getD f default).toNat ((HV (Di R R.length)).getD g default).toNat : Int) else -1
def Xh (R : List (List Int)) : Ax:=⟨R.length,Fg (Di R R.length),HV (Di R R.length),(List.range R.length).map fun i=>(HQ R i i : Int),HX (Di R R.length).length (eK R)⟩
theorem SA {R : List (List Int)} (h : fC R) : (Xh R).Good 16:=by
 have hl:=h.l4
 have hm : (Di R R.length).length≤16:=Nat.le_trans (MA _) (Nat.mul_le_mul hl hl)
 have e0 : (Xh R).AB.length=(Di R R.length).length:=by simp [Xh,Fg]
 have at1 : ∀ f,f<(Di R R.length).length→∃ i j,i<R.length∧j<R.length∧Gm R i j=1∧(Di R R.length).getD f default=(i,j):=fun f hf=>by
  obtain ⟨i,j,e⟩ : ∃ i j,(Di R R.length).getD f default=(i,j):=⟨_,_,rfl⟩
  have:=MC.mp (e ▸ (AE.mpr ⟨f,hf,rfl⟩ : (Di R R.length).getD f default∈Di R R.length));exact ⟨i,j,this.1,this.2.1,this.2.2,e⟩
 have fe : ∀ f,f<(Di R R.length).length→(Fg (Di R R.length)).getD f default=(((Di R R.length).getD f default).1 : Int):=fun f hf=>BC _ hf
 have se : ∀ f,f<(Di R R.length).length→(HV (Di R R.length)).getD f default=(((Di R R.length).getD f default).2 : Int):=fun f hf=>BC _ hf;refine ⟨⟨by simp [Xh]; omega,by simp [Xh],by omega,by simp [Xh,Fg,HV],by rw [e0]; exact GL _ _,fun f hf=>by rw [e0] at hf ⊢; exact Hq hf⟩,Ty.mk' (m:=(Di R R.length).length) e0 rfl (fun f hf=>?_) (fun f hf=>?_) (fun x hx=>?_) (fun f g hf hg e=>?_) (fun f g hf hg e=>?_)⟩
 ·obtain ⟨i,j,hi,hj,_,e⟩:=at1 f hf
  show 0≤(Fg (Di R R.length)).getD f default∧(Fg (Di R R.length)).getD f default<(R.length : Int)
  rw [fe f hf,e]; simp only; omega
 ·obtain ⟨i,j,hi,hj,_,e⟩:=at1 f hf
  show 0≤(HV (Di R R.length)).getD f default∧(HV (Di R R.length)).getD f default<(R.length : Int)
  rw [se f hf,e]; simp only; omega
 ·have Lv : x<R.length:=by simpa [Xh] using hx
  have e1 : (Xh R).Ac.getD x default=(HQ R x x : Int):=Ab _ _ Lv
  obtain ⟨n1,n2⟩:=VX Lv Lv (h.refl x Lv);rw [e1];refine ⟨by omega, ?_, ?_⟩
  ·show ix (Fg (Di R R.length)) _=_
   rw [AR,fe _ n1,n2]
  ·show ix (HV (Di R R.length)) _=_
   rw [AR,se _ n1,n2]
 ·exact if_neg e
 ·obtain ⟨i,j,hi,hj,r1,e1⟩:=at1 f hf
  obtain ⟨j',k,RF,hk,r2,e2⟩:=at1 g hg
  have ef : (Fg (Di R R.length)).getD f default=(i : Int):=by rw [fe f hf,e1]
  have sf : (HV (Di R R.length)).getD f default=(j : Int):=by rw [se f hf,e1]
  have eg : (Fg (Di R R.length)).getD g default=(j' : Int):=by rw [fe g hg,e2]
  have sg : (HV (Di R R.length)).getD g default=(k : Int):=by rw [se g hg,e2]
  have ej : j=j':=by
   have : (HV (Di R R.length)).getD f default=(Fg (Di R R.length)).getD g default:=e;rw [sf,eg] at this; omega
  subst ej
  have r3:=h.trans i j k hi hj hk r1 r2
  obtain ⟨n1,n2⟩:=VX hi hk r3
  have ep : eK R f g=(HQ R i k : Int):=by
   refine (if_pos e).trans ?_;rw [ef,sg]; simp
  rw [ep];refine ⟨by omega, ?_, ?_⟩
  ·show ix (Fg (Di R R.length)) _=(Fg (Di R R.length)).getD f default
   rw [AR,fe _ n1,n2,ef]
  ·show ix (HV (Di R R.length)) _=(HV (Di R R.length)).getD g default
   rw [AR,se _ n1,n2,sg]
end Go.Shf
namespace Go.Shf
open Go.AW
def Oh (n : Int) (l : List Int) : List Int:=l.map fun y=>y+n
theorem Qh (n : Int) (l : List Int) : (Oh n l).length=l.length:=List.length_map _
theorem Tt {n : Int} {l : List Int} {i : Nat} (h : i<l.length) : (Oh n l).getD i default=l.getD i default+n:=BC _ h
def B7 (c : Ax) (f g : Nat) : Int:=(c.comp.getD f default).getD g default
def KD (c e : Ax) (f g : Nat) : Int :=
 if f<c.AB.length then (if g<c.AB.length then B7 c f g else -1)
 else if g<c.AB.length then -1 else if 0≤B7 e (f - c.AB.length) (g - c.AB.length) then B7 e (f - c.AB.length) (g - c.AB.length)+c.AB.length else B7 e (f - c.AB.length) (g - c.AB.length)
def BW (c e : Ax) : Ax:=⟨c.AF+e.AF,c.AB++Oh c.AF e.AB,c.to++Oh c.AF e.to,c.Ac++Oh c.AB.length e.Ac,HX (c.AB.length+e.AB.length) (KD c e)⟩
section
variable {c e : Ax} {N M : Nat}
theorem KM : (BW c e).AB.length=c.AB.length+e.AB.length:=by simp [BW,Oh]
theorem EL {f : Nat} (h : f<c.AB.length) : (BW c e).AB.getD f default=c.AB.getD f default:=EU h
theorem EF {f : Nat} (h : c.AB.length≤f) (h2 : f - c.AB.length<e.AB.length) : (BW c e).AB.getD f default=e.AB.getD (f - c.AB.length) default+c.AF:=(G7 h).trans (Tt h2)
theorem Fz (s : c.Sh N) {f : Nat} (h : f<c.AB.length) : (BW c e).to.getD f default=c.to.getD f default:=EU (by rw [s.tl]; exact h)
theorem Fq (s : c.Sh N) (s2 : e.Sh M) {f : Nat} (h : c.AB.length≤f) (h2 : f - c.AB.length<e.AB.length) : (BW c e).to.getD f default=e.to.getD (f - c.AB.length) default+c.AF :=
 (G7 (by rw [s.tl]; exact h)).trans (by rw [s.tl]; exact Tt (by rw [s2.tl]; exact h2))
theorem Ko (hc : c.Good N) (he : e.Good M) : (BW c e).Good (N+M):=by
 obtain ⟨s,t⟩:=hc
 obtain ⟨s2,t2⟩:=he
 have cob:=s.ob
 have eob:=s2.ob
 have cml:=s.ml
 have eml:=s2.ml
 have cil:=s.il
 have eil:=s2.il
 have ctl:=s.tl
 have etl:=s2.tl
 have sub : ∀ {f : Nat},¬ f<c.AB.length→f<c.AB.length+e.AB.length→f - c.AB.length<e.AB.length:=fun h1 h2=>by omega
 have ixf : ∀ {h : Int} {g : Nat},0≤h→h<(e.AB.length : Int)→(h+c.AB.length).toNat=h.toNat+c.AB.length:=fun h1 h2=>by omega
 refine ⟨⟨by simp only [BW]; omega,by simp [BW,Oh]; omega,by rw [KM]; omega,by simp [BW,Oh]; omega,by rw [KM]; exact GL _ _,fun f hf=>by rw [KM] at hf ⊢; exact Hq hf⟩,
  Ty.mk' (m:=c.AB.length+e.AB.length) KM rfl (fun f hf=>?_) (fun f hf=>?_) (fun x hx=>?_) (fun f g hf hg en=>?_) (fun f g hf hg en=>?_)⟩
 ·by_cases h : f<c.AB.length
  ·rw [EL h]; have:=t.AB f h; simp only [BW]; omega
  ·rw [EF (by omega) (sub h hf)]; have:=t2.AB _ (sub h hf); simp only [BW]; omega
 ·by_cases h : f<c.AB.length
  ·rw [Fz s h]; have:=t.to f h; simp only [BW]; omega
  ·rw [Fq s s2 (by omega) (sub h hf)]; have:=t2.to _ (sub h hf); simp only [BW]; omega
 ·have Lv : x<c.Ac.length+e.Ac.length:=by simpa [BW,Oh] using hx
  by_cases h : x<c.Ac.length
  ·have e1 : (BW c e).Ac.getD x default=c.Ac.getD x default:=EU h
   have h1:=t.Ac x h;rw [e1];refine ⟨by omega, ?_, ?_⟩
   ·rw [ix,EL (by omega)]; exact h1.2.1
   ·rw [ix,Fz s (by omega)]; exact h1.2.2
  ·have xA : x - c.Ac.length<e.Ac.length:=by omega
   have e1 : (BW c e).Ac.getD x default=e.Ac.getD (x - c.Ac.length) default+c.AB.length:=(G7 (by omega)).trans (Tt xA)
   have h1:=t2.Ac _ xA;rw [e1]
   have en : (e.Ac.getD (x - c.Ac.length) default+c.AB.length).toNat - c.AB.length=(e.Ac.getD (x - c.Ac.length) default).toNat:=by omega
   refine ⟨by omega, ?_, ?_⟩
   ·rw [ix,EF (by omega) (by omega),en,show e.AB.getD (e.Ac.getD (x - c.Ac.length) default).toNat default=_ from h1.2.1]; omega
   ·rw [ix,Fq s s2 (by omega) (by omega),en,show e.to.getD (e.Ac.getD (x - c.Ac.length) default).toNat default=_ from h1.2.2]; omega
 ·by_cases h : f<c.AB.length
  ·by_cases h2 : g<c.AB.length
   ·rw [KD,if_pos h,if_pos h2];exact t.R6 f g h h2 (by rwa [EL h2,Fz s h] at en)
   ·rw [KD,if_pos h,if_neg h2]
  ·by_cases h2 : g<c.AB.length
   ·rw [KD,if_neg h,if_pos h2]
   ·rw [KD,if_neg h,if_neg h2]
    have:=t2.R6 _ _ (sub h hf) (sub h2 hg) (fun q=>en (by rw [EF (by omega) (sub h2 hg),Fq s s2 (by omega) (sub h hf),q]));rw [B7,this,if_neg (by omega)]
 ·by_cases h : f<c.AB.length
  ·have tf:=t.to f h
   by_cases h2 : g<c.AB.length
   ·rw [KD,if_pos h,if_pos h2]
    have y:=t.yes f g h h2 (by rwa [EL h2,Fz s h] at en)
    have y1:=y.1;refine ⟨by rw [B7]; omega, ?_, ?_⟩
    ·rw [ix,B7,EL (by omega),EL h]; exact y.2.1
    ·rw [ix,B7,Fz s (by omega),Fz s h2]; exact y.2.2
   ·have fg:=t2.AB _ (sub h2 hg);rw [EF (by omega) (sub h2 hg),Fz s h] at en; omega
  ·have tf:=t2.to _ (sub h hf)
   by_cases h2 : g<c.AB.length
   ·have fg:=t.AB _ h2;rw [Fq s s2 (by omega) (sub h hf),EL h2] at en; omega
   ·rw [Fq s s2 (by omega) (sub h hf),EF (by omega) (sub h2 hg)] at en
    have y:=t2.yes _ _ (sub h hf) (sub h2 hg) (by omega)
    have y1:=y.1
    have ev : KD c e f g=B7 e (f - c.AB.length) (g - c.AB.length)+c.AB.length:=by
     rw [KD,if_neg h,if_neg h2,if_pos (by rw [B7]; omega)]
    rw [ev]
    have en2 : (B7 e (f - c.AB.length) (g - c.AB.length)+c.AB.length).toNat - c.AB.length=(B7 e (f - c.AB.length) (g - c.AB.length)).toNat:=by rw [B7]; omega
    have b1 : c.AB.length≤(B7 e (f - c.AB.length) (g - c.AB.length)+c.AB.length).toNat:=by rw [B7]; omega
    have b2 : (B7 e (f - c.AB.length) (g - c.AB.length)).toNat<e.AB.length:=by rw [B7]; omega
    refine ⟨by rw [B7]; omega, ?_, ?_⟩
    ·rw [ix,EF b1 (by omega),en2,EF (by omega) (sub h hf)]
     have:=y.2.1; rw [ix] at this; rw [B7,this]
    ·rw [ix,Fq s s2 b1 (by omega),en2,Fq s s2 (by omega) (sub h2 hg)]
     have:=y.2.2; rw [ix] at this; rw [B7,this]
end
theorem G6 {k m j : Nat} (h : j<m) : (k*m+j) / m=k∧(k*m+j) % m=j:=by
 have hm : 0<m:=by omega
 constructor
 ·rw [Nat.mul_comm,Nat.mul_add_div hm,Nat.div_eq_of_lt h]; omega
 ·rw [Nat.mul_comm,Nat.mul_add_mod,Nat.mod_eq_of_lt h]
theorem Hu {i n m : Nat} (h : i<n*m) : i / m<n∧i % m<m∧i=i / m*m+i % m:=by
 have hm : 0<m:=by
  rcases Nat.eq_zero_or_pos m with e | e
  ·subst e; omega
  ·exact e
 refine ⟨Nat.div_lt_of_lt_mul (by rw [Nat.mul_comm]; exact h),Nat.mod_lt _ hm, ?_⟩
 have:=Nat.div_add_mod i m;rw [Nat.mul_comm] at this; omega
theorem LV {k m j n : Nat} (hk : k<n) (hj : j<m) : k*m+j<n*m:=by
 have : (k+1)*m≤n*m:=Nat.mul_le_mul_right m hk;rw [Nat.succ_mul] at this; omega
def eW (n m : Nat) : List Int:=(List.range (n*m)).map fun i=>((i / m : Nat) : Int)
def fP (n m : Nat) : List Int:=(List.range (n*m)).map fun i=>((n+i % m : Nat) : Int)
def LC (c e : Ax) : List Int:=(BW c e).AB++eW c.AF.toNat e.AF.toNat
def Dc (c e : Ax) : List Int:=(BW c e).to++fP c.AF.toNat e.AF.toNat
def HE (c e : Ax) (f g : Nat) : Int :=
 if (Dc c e).getD f default≠(LC c e).getD g default then -1
 else if f<(BW c e).AB.length∧g<(BW c e).AB.length then B7 (BW c e) f g
 else ((BW c e).AB.length : Int)+(LC c e).getD f default*e.AF+(Dc c e).getD g default - c.AF
def M4 (c e : Ax) : Ax:=⟨c.AF+e.AF,LC c e,Dc c e,(BW c e).Ac,HX ((BW c e).AB.length+c.AF.toNat*e.AF.toNat) (HE c e)⟩
section
variable {c e : Ax} {N M : Nat}
theorem Uf (hc : c.Good N) (he : e.Good M) : (M4 c e).Good (N+M+N*M):=by
 have hg:=Ko hc he
 obtain ⟨s,t⟩:=hc
 obtain ⟨s2,t2⟩:=he
 obtain ⟨qs,qt⟩:=hg
 have cob:=s.ob
 have eob:=s2.ob
 obtain ⟨n,hn⟩ : ∃ n : Nat,c.AF=n:=⟨_,(Int.toNat_of_nonneg cob.1).symm⟩
 obtain ⟨k,hk⟩ : ∃ k : Nat,e.AF=k:=⟨_,(Int.toNat_of_nonneg eob.1).symm⟩
 obtain ⟨m,hm⟩ : ∃ m : Nat,(BW c e).AB.length=m:=⟨_,rfl⟩
 have Zz:=KM (c:=c) (e:=e)
 have Jc:=qs.tl
 have ET:=qs.ml
 have qo : (BW c e).AF=c.AF+e.AF:=rfl;rw [hm] at Jc Zz ET
 have hnk : n*k≤N*M:=Nat.mul_le_mul (by omega) (by omega)
 have fY : ∀ f,f<m→(LC c e).getD f default=(BW c e).AB.getD f default:=fun f hf=>EU (by omega)
 have fW : ∀ f,f<m→(Dc c e).getD f default=(BW c e).to.getD f default:=fun f hf=>EU (by omega)
 have pG : ∀ x y,x<n→y<k→(LC c e).getD (m+(x*k+y)) default=(x : Int):=fun x y hx hy=>by
  rw [LC,G7 (by omega),hm,hn,hk,Int.toNat_natCast,Int.toNat_natCast,show m+(x*k+y) - m=x*k+y by omega,eW,Ab _ _ (LV hx hy),(G6 hy).1]
 have pF : ∀ x y,x<n→y<k→(Dc c e).getD (m+(x*k+y)) default=(n : Int)+y:=fun x y hx hy=>by
  rw [Dc,G7 (by omega),Jc,hn,hk,Int.toNat_natCast,Int.toNat_natCast,show m+(x*k+y) - m=x*k+y by omega,fP,Ab _ _ (LV hx hy),(G6 hy).2]; simp
 have Xc : ∀ f,m≤f→f<m+n*k→∃ x y,x<n∧y<k∧f=m+(x*k+y):=fun f h1 h2=>by
  obtain ⟨a,b,d⟩:=Hu (i:=f - m) (n:=n) (m:=k) (by omega);exact ⟨_,_,a,b,by omega⟩
 have jo : (LC c e).length=m+n*k:=by simp [LC,eW,hm,hn,hk]
 have Ce : (Dc c e).length=m+n*k:=by simp [Dc,fP,Jc,hn,hk]
 have side : ∀ f,f<m→((0≤(BW c e).AB.getD f default∧(BW c e).AB.getD f default<n)∧0≤(BW c e).to.getD f default∧(BW c e).to.getD f default<n) ∨
   ((n≤(BW c e).AB.getD f default∧(BW c e).AB.getD f default<n+k)∧n≤(BW c e).to.getD f default∧(BW c e).to.getD f default<n+k):=fun f hf=>by
  by_cases h : f<c.AB.length
  ·left; rw [EL h,Fz s h]; have:=t.AB f h; have:=t.to f h; omega
  ·right
   have h2 : f - c.AB.length<e.AB.length:=by omega
   rw [EF (by omega) h2,Fq s s2 (by omega) h2]
   have:=t2.AB _ h2; have:=t2.to _ h2; omega
 refine ⟨⟨by simp only [M4]; have : ((N+M+N*M : Nat) : Int)=N+M+(N*M : Nat):=(by simp); omega,qs.il,by show (LC c e).length≤_; omega,by show (Dc c e).length=(LC c e).length; omega, ?_,fun f hf=>?_⟩, ?_⟩
 ·show (HX _ _).length=(LC c e).length
  rw [GL,hm,hn,hk,jo]; rfl
 ·have OU : f<m+n*k:=by rw [← jo]; exact hf
  show ((HX _ _).getD f default).length=(LC c e).length
  rw [Hq (by rw [hm,hn,hk]; exact OU),hm,hn,hk,jo]; rfl
 have HB : (M4 c e).AB.length=(BW c e).AB.length+c.AF.toNat*e.AF.toNat:=by
  show (LC c e).length=_
  rw [jo,hm,hn,hk]; rfl
 refine Ty.mk' (m:=(BW c e).AB.length+c.AF.toNat*e.AF.toNat) HB rfl (fun f hf=>?_) (fun f hf=>?_) (fun x hx=>?_) (fun f g hf hg en=>?_) (fun f g hf hg en=>?_)
 ·rw [hm,hn,hk,Int.toNat_natCast,Int.toNat_natCast] at hf
  show 0≤(LC c e).getD f default∧(LC c e).getD f default<c.AF+e.AF
  by_cases h : f<m
  ·rw [fY f h]; rcases side f h with h1 | h1 <;> omega
  ·obtain ⟨x,y,hx,hy,rfl⟩:=Xc f (by omega) hf;rw [pG x y hx hy]; omega
 ·rw [hm,hn,hk,Int.toNat_natCast,Int.toNat_natCast] at hf
  show 0≤(Dc c e).getD f default∧(Dc c e).getD f default<c.AF+e.AF
  by_cases h : f<m
  ·rw [fW f h]; rcases side f h with h1 | h1 <;> omega
  ·obtain ⟨x,y,hx,hy,rfl⟩:=Xc f (by omega) hf;rw [pF x y hx hy]; omega
 ·have h1:=qt.Ac x hx;rw [hm,hn,hk,Int.toNat_natCast,Int.toNat_natCast];rw [hm] at h1;refine ⟨by have : (M4 c e).Ac=(BW c e).Ac:=rfl; rw [this]; omega, ?_, ?_⟩
  ·show (LC c e).getD _ default=_
   rw [show (M4 c e).Ac=(BW c e).Ac from rfl,fY _ (by omega)]; exact h1.2.1
  ·show (Dc c e).getD _ default=_
   rw [show (M4 c e).Ac=(BW c e).Ac from rfl,fW _ (by omega)]; exact h1.2.2
 ·exact if_pos en
 ·rw [hm,hn,hk,Int.toNat_natCast,Int.toNat_natCast] at hf hg ⊢
  have en2 : (Dc c e).getD f default=(LC c e).getD g default:=en
  have zA : HE c e f g=if f<m∧g<m then B7 (BW c e) f g else (m : Int)+(LC c e).getD f default*k+(Dc c e).getD g default - n:=by
   rw [HE,if_neg (fun q=>q en2),hm,hn,hk]
  show (0≤HE c e f g∧HE c e f g<((m+n*k : Nat) : Int))∧(LC c e).getD (HE c e f g).toNat default=(LC c e).getD f default∧(Dc c e).getD (HE c e f g).toNat default=(Dc c e).getD g default
  by_cases hb : f<m∧g<m
  ·rw [zA,if_pos hb]
   have y:=qt.yes f g (by omega) (by omega) (by rw [← fW f hb.1,← fY g hb.2]; exact en2)
   have y1:=y.1;rw [hm] at y1
   have CF : (B7 (BW c e) f g).toNat<m:=by rw [B7]; omega
   refine ⟨by rw [B7]; omega, ?_, ?_⟩
   ·rw [fY _ CF,fY f hb.1]; exact y.2.1
   ·rw [fW _ CF,fW g hb.2]; exact y.2.2
  ·rw [zA,if_neg hb]
   obtain ⟨x,y,hx,hy,ex,ey⟩ : ∃ x y,x<n∧y<k∧(LC c e).getD f default=(x : Int)∧(Dc c e).getD g default=(n : Int)+y:=by
    by_cases h : f<m
    ·have h2 : ¬ g<m:=fun q=>hb ⟨h,q⟩
     obtain ⟨x,y,hx,hy,rfl⟩:=Xc g (by omega) hg;rw [pG x y hx hy,fW f h] at en2
     rcases side f h with h1 | h1
     ·exact ⟨((LC c e).getD f default).toNat,y,by rw [fY f h]; omega,hy,by rw [fY f h]; omega,pF x y hx hy⟩
     ·omega
    ·obtain ⟨x,y,hx,hy,rfl⟩:=Xc f (by omega) hf;rw [pF x y hx hy] at en2
     by_cases h2 : g<m
     ·rw [fY g h2] at en2
      rcases side g h2 with h1 | h1
      ·omega
      ·exact ⟨x,((Dc c e).getD g default - n).toNat,hx,by rw [fW g h2]; omega,pG x y hx hy,by rw [fW g h2]; omega⟩
     ·obtain ⟨x',y',TM,yH,rfl⟩:=Xc g (by omega) hg;rw [pG x' y' TM yH] at en2; omega
   have ev : (m : Int)+(x : Int)*k+((n : Int)+y) - n=((m+(x*k+y) : Nat) : Int):=by
    simp only [Int.natCast_add,Int.natCast_mul]; omega
   have CF:=LV hx hy;rw [ex,ey,ev];refine ⟨by omega, ?_, ?_⟩
   ·rw [Int.toNat_natCast,pG x y hx hy]
   ·rw [Int.toNat_natCast,pF x y hx hy]
end
end Go.Shf
namespace Go.Shf
open Go.AW
theorem Yq {a b a' b' n : Int} (hb : 0≤b∧b<n) (LX : 0≤b'∧b'<n) (h : a*n+b=a'*n+b') : a=a'∧b=b':=by
 have hn : n≠0:=by omega
 have e1 : (a*n+b) / n=a:=by rw [Int.add_comm,Int.add_mul_ediv_right _ _ hn,Int.ediv_eq_zero_of_lt hb.1 hb.2]; omega
 have e2 : (a'*n+b') / n=a':=by rw [Int.add_comm,Int.add_mul_ediv_right _ _ hn,Int.ediv_eq_zero_of_lt LX.1 LX.2]; omega
 have e : a=a':=by rw [← e1,h,e2]
 subst e;exact ⟨rfl,by omega⟩
theorem Ju {a b p n : Int} (ha : 0≤a∧a<p) (hb : 0≤b∧b<n) : 0≤a*n+b∧a*n+b<p*n∧(a*n+b).toNat=a.toNat*n.toNat+b.toNat:=by
 obtain ⟨x,rfl⟩:=Int.eq_ofNat_of_zero_le ha.1
 obtain ⟨y,rfl⟩:=Int.eq_ofNat_of_zero_le hb.1
 obtain ⟨m,rfl⟩:=Int.eq_ofNat_of_zero_le (show 0≤n by omega)
 obtain ⟨q,rfl⟩:=Int.eq_ofNat_of_zero_le (show 0≤p by omega)
 have:=LV (k:=x) (j:=y) (n:=q) (m:=m) (by omega) (by omega);rw [Int.toNat_natCast,Int.toNat_natCast,Int.toNat_natCast,← Int.natCast_mul,← Int.natCast_mul];omega
def QG (a b : List Int) (n : Int) : List Int:=(List.range (a.length*b.length)).map fun i=>a.getD (i / b.length) default*n+b.getD (i % b.length) default
theorem H7 (a b : List Int) (n : Int) : (QG a b n).length=a.length*b.length:=by simp [QG]
theorem QE {a b : List Int} {n : Int} {i j : Nat} (hi : i<a.length) (hj : j<b.length) : (QG a b n).getD (i*b.length+j) default=a.getD i default*n+b.getD j default:=by
 rw [QG,Ab _ _ (LV hi hj),(G6 hj).1,(G6 hj).2]
def LR (c e : Ax) (f g : Nat) : Int :=
 if 0≤B7 c (f / e.AB.length) (g / e.AB.length)∧0≤B7 e (f % e.AB.length) (g % e.AB.length) then
  B7 c (f / e.AB.length) (g / e.AB.length)*e.AB.length+B7 e (f % e.AB.length) (g % e.AB.length) else -1
def GR (c e : Ax) : Ax:=⟨c.AF*e.AF,QG c.AB e.AB e.AF,QG c.to e.to e.AF,QG c.Ac e.Ac e.AB.length,HX (c.AB.length*e.AB.length) (LR c e)⟩
section
variable {c e : Ax} {N M : Nat}
theorem Ax.Ty.Ry {c : Ax} (t : c.Ty) {f g : Nat} (hf : f<c.AB.length) (hg : g<c.AB.length) : 0≤B7 c f g↔c.to.getD f default=c.AB.getD g default:=by
 constructor
 ·intro h;apply Classical.byContradiction
  intro n
  have:=t.R6 f g hf hg n;rw [B7] at h; omega
 ·intro h; exact (t.yes f g hf hg h).1.1
theorem UX (hc : c.Good N) (he : e.Good M) : (GR c e).Good (N*M):=by
 obtain ⟨s,t⟩:=hc
 obtain ⟨s2,t2⟩:=he
 have cob:=s.ob
 have eob:=s2.ob
 have ctl:=s.tl
 have etl:=s2.tl
 have cil:=s.il
 have eil:=s2.il
 have HB : (GR c e).AB.length=c.AB.length*e.AB.length:=H7 _ _ _
 have Jc : (GR c e).to.length=c.AB.length*e.AB.length:=by rw [show (GR c e).to=QG c.to e.to e.AF from rfl,H7,ctl,etl]
 have TJ : (GR c e).Ac.length=c.Ac.length*e.Ac.length:=H7 _ _ _
 have hF : ∀ i j,i<c.AB.length→j<e.AB.length→(GR c e).AB.getD (i*e.AB.length+j) default=c.AB.getD i default*e.AF+e.AB.getD j default:=fun i j hi hj=>QE hi hj
 have hT : ∀ i j,i<c.AB.length→j<e.AB.length→(GR c e).to.getD (i*e.AB.length+j) default=c.to.getD i default*e.AF+e.to.getD j default:=fun i j hi hj=>by
  have:=QE (a:=c.to) (b:=e.to) (n:=e.AF) (i:=i) (j:=j) (by omega) (by omega);rw [etl] at this; exact this
 have ET : c.AB.length*e.AB.length≤N*M:=Nat.mul_le_mul s.ml s2.ml
 have Ee : 0≤c.AF*e.AF∧c.AF*e.AF≤((N*M : Nat) : Int):=by
  refine ⟨Int.mul_nonneg cob.1 eob.1, ?_⟩;rw [Int.natCast_mul];exact Int.mul_le_mul cob.2 eob.2 eob.1 (by omega)
 refine ⟨⟨Ee, ?_,by rw [HB]; exact ET,by rw [HB,Jc],by rw [HB]; exact GL _ _,fun f hf=>by rw [HB] at hf ⊢; exact Hq hf⟩,
  Ty.mk' (m:=c.AB.length*e.AB.length) HB rfl (fun f hf=>?_) (fun f hf=>?_) (fun x hx=>?_) (fun f g hf hg en=>?_) (fun f g hf hg en=>?_)⟩
 ·rw [TJ,Int.natCast_mul,cil,eil]; rfl
 ·obtain ⟨h1,h2,h3⟩:=Hu hf;rw [h3,hF _ _ h1 h2]
  have:=Ju (t.AB _ h1) (t2.AB _ h2);exact ⟨this.1,this.2.1⟩
 ·obtain ⟨h1,h2,h3⟩:=Hu hf;rw [h3,hT _ _ h1 h2]
  have:=Ju (t.to _ h1) (t2.to _ h2);exact ⟨this.1,this.2.1⟩
 ·rw [TJ] at hx
  obtain ⟨h1,h2,h3⟩:=Hu hx
  have a1:=t.Ac _ h1
  have a2:=t2.Ac _ h2
  have e1 : (GR c e).Ac.getD x default=c.Ac.getD (x / e.Ac.length) default*e.AB.length+e.Ac.getD (x % e.Ac.length) default:=by
   have:=QE (a:=c.Ac) (b:=e.Ac) (n:=e.AB.length) h1 h2;rw [← h3] at this; exact this
  have pl:=Ju a1.1 a2.1;rw [Int.toNat_natCast] at pl
  have ex : (x : Int)=((x / e.Ac.length : Nat) : Int)*e.AF+((x % e.Ac.length : Nat) : Int):=by
   rw [← eil,← Int.natCast_mul]; omega
  rw [e1];refine ⟨⟨pl.1,by rw [Int.natCast_mul]; exact pl.2.1⟩, ?_, ?_⟩
  ·rw [ix,pl.2.2,hF _ _ (by omega) (by omega)];rw [show c.AB.getD (c.Ac.getD (x / e.Ac.length) default).toNat default=_ from a1.2.1,show e.AB.getD (e.Ac.getD (x % e.Ac.length) default).toNat default=_ from a2.2.1];exact ex.symm
  ·rw [ix,pl.2.2,hT _ _ (by omega) (by omega)];rw [show c.to.getD (c.Ac.getD (x / e.Ac.length) default).toNat default=_ from a1.2.2,show e.to.getD (e.Ac.getD (x % e.Ac.length) default).toNat default=_ from a2.2.2];exact ex.symm
 ·obtain ⟨h1,h2,h3⟩:=Hu hf
  obtain ⟨g1,g2,g3⟩:=Hu hg;refine if_neg fun hp=>en ?_;rw [t.Ry h1 g1,t2.Ry h2 g2] at hp;rw [h3,g3,hT _ _ h1 h2,hF _ _ g1 g2,hp.1,hp.2]
 ·obtain ⟨h1,h2,h3⟩:=Hu hf
  obtain ⟨g1,g2,g3⟩:=Hu hg
  have en2 : c.to.getD (f / e.AB.length) default*e.AF+e.to.getD (f % e.AB.length) default=c.AB.getD (g / e.AB.length) default*e.AF+e.AB.getD (g % e.AB.length) default:=by
   rw [← hT _ _ h1 h2,← hF _ _ g1 g2,← h3,← g3]; exact en
  obtain ⟨q1,q2⟩:=Yq (t2.to _ h2) (t2.AB _ g2) en2
  have y1:=t.yes _ _ h1 g1 q1
  have y2:=t2.yes _ _ h2 g2 q2
  have ev : LR c e f g=B7 c (f / e.AB.length) (g / e.AB.length)*e.AB.length+B7 e (f % e.AB.length) (g % e.AB.length):=if_pos ⟨y1.1.1,y2.1.1⟩
  have pl:=Ju y1.1 y2.1;rw [Int.toNat_natCast] at pl
  have b1 : (B7 c (f / e.AB.length) (g / e.AB.length)).toNat<c.AB.length:=by have:=y1.1; rw [B7]; omega
  have b2 : (B7 e (f % e.AB.length) (g % e.AB.length)).toNat<e.AB.length:=by have:=y2.1; rw [B7]; omega
  rw [ev];refine ⟨⟨pl.1,by rw [Int.natCast_mul]; exact pl.2.1⟩, ?_, ?_⟩
  ·rw [ix,show (B7 c (f / e.AB.length) (g / e.AB.length)*(e.AB.length : Int)+B7 e (f % e.AB.length) (g % e.AB.length)).toNat=_ from pl.2.2];refine (hF _ _ b1 b2).trans ?_
   have z1:=y1.2.1
   have z2:=y2.2.1;rw [ix] at z1 z2;rw [B7,B7,z1,z2,← hF _ _ h1 h2,← h3]
  ·rw [ix,show (B7 c (f / e.AB.length) (g / e.AB.length)*(e.AB.length : Int)+B7 e (f % e.AB.length) (g % e.AB.length)).toNat=_ from pl.2.2];refine (hT _ _ b1 b2).trans ?_
   have z1:=y1.2.2
   have z2:=y2.2.2;rw [ix] at z1 z2;rw [B7,B7,z1,z2,← hT _ _ g1 g2,← g3]
end
end Go.Shf
namespace Go.AW
structure Pt where
 AB : Int
 to : Int
 BD : List Int
 deriving Inhabited
end Go.AW
namespace Go.Shf
open Go.AW
structure uW (n k : Nat) (r : Nat→Nat→Prop) : Prop where
 refl : ∀ a,a<n→r a a
 tr : ∀ m a b,m<k→a<n→b<n→r a m→r m b→r a b
theorem uW.step {n k : Nat} {r : Nat→Nat→Prop} (h : uW n k r) (hk : k<n) : uW n (k+1) fun a b=>r a b∨r a k∧r k b:=by
 refine ⟨fun a ha=>.inl (h.refl a ha),fun m a b hm ha hb h1 h2=>?_⟩
 by_cases e : m=k
 ·subst e
  have x1 : r a m:=h1.elim id fun q=>q.1
  have x2 : r m b:=h2.elim id fun q=>q.2;exact .inr ⟨x1,x2⟩
 ·have x3 : m<k:=by omega
  rcases h1 with h1 | ⟨h1,h1'⟩ <;> rcases h2 with h2 | ⟨h2,h2'⟩
  ·exact .inl (h.tr m a b x3 ha hb h1 h2)
  ·exact .inr ⟨h.tr m a k x3 ha hk h1 h2,h2'⟩
  ·exact .inr ⟨h1,h.tr m k b x3 hk hb h1' h2⟩
  ·exact .inr ⟨h1,h2'⟩
def Wk (F T : List Int) (x : Int) : List Int→Int→Prop
 | [],y=>x=y
 | e::r,y=>((0≤e∧e.toNat<F.length)∧ix F e=x)∧Wk F T (ix T e) r y
section
variable {F T : List Int}
theorem Wk.app : ∀ {es : List Int} {x y z : Int} {r : List Int},Wk F T x es y→Wk F T y r z→Wk F T x (es++r) z
 | [],x,y,z,r,h,k=>by
  have : x=y:=h;subst this; exact k
 | e::es,x,y,z,r,h,k=>⟨h.1,Wk.app h.2 k⟩
theorem Wk.qV : ∀ {es : List Int} {x y z : Int},Wk F T x es y→Wk F T x es z→y=z
 | [],x,y,z,h,k=>(show x=y from h).symm.trans k
 | e::es,x,y,z,h,k=>Wk.qV h.2 k.2
theorem Wk.one {x : Int} {e : Nat} (he : e<F.length) (h : F.getD e default=x) : Wk F T x [(e : Int)] (T.getD e default) :=
 ⟨⟨⟨by omega,by omega⟩,by rw [AR]; exact h⟩,by show ix T _=_; rw [AR]⟩
structure Kj (n : Nat) (F T : List Int) (P : List Pt) : Prop where
 ok : ∀ p,p∈P→(0≤p.AB∧p.AB<n)∧(0≤p.to∧p.to<n)∧Wk F T p.AB p.BD p.to
 tr : ∀ x : Nat,x<n→(⟨x,x,[]⟩ : Pt)∈P
 cl : ∀ p,p∈P→∀ e,e<F.length→F.getD e default=p.to→(⟨p.AB,T.getD e default,p.BD++[(e : Int)]⟩ : Pt)∈P
variable {n : Nat} {P : List Pt}
theorem Kj.mem {Q : List Pt} (h : Kj n F T P) (hp : ∀ q,q∈Q↔q∈P) : Kj n F T Q :=
 ⟨fun p q=>h.ok p ((hp p).mp q),fun x hx=>(hp _).mpr (h.tr x hx),fun p q e he hf=>(hp _).mpr (h.cl p ((hp p).mp q) e he hf)⟩
theorem Kj.ext (h : Kj n F T P) : ∀ {es : List Int} {p : Pt} {z : Int},p∈P→Wk F T p.to es z→(⟨p.AB,z,p.BD++es⟩ : Pt)∈P
 | [],p,z,hp,w=>by
  have : p.to=z:=w;subst this; rw [List.append_nil]; exact hp
 | e::es,p,z,hp,w=>by
  have h1:=w.1
  have h2:=h.cl p hp e.toNat h1.1.2 h1.2
  have:=h.ext (p:=⟨p.AB,T.getD e.toNat default,p.BD++[(e.toNat : Int)]⟩) h2 (z:=z) (es:=es) w.2;rw [Int.toNat_of_nonneg h1.1.1] at this
  simpa using this
def XJ (P : List Pt) (f g : Nat) (h : Int) : Prop :=
 ((P.getD f default).to≠(P.getD g default).AB→h=-1)∧((P.getD f default).to=(P.getD g default).AB →
  (h=-1∧∀ k,k<P.length→¬ ((P.getD k default).AB=(P.getD f default).AB∧(P.getD k default).BD=(P.getD f default).BD++(P.getD g default).BD)) ∨
  ((0≤h∧h<(P.length : Int))∧(ix P h).AB=(P.getD f default).AB∧(ix P h).BD=(P.getD f default).BD++(P.getD g default).BD))
theorem Kj.qn (h : Kj n F T P) (hn : n≤18) (hl : P.length≤18) {I : List Int} {D : List (List Int)} (hI : I.length=n)
  (hi : ∀ x : Nat,x<n→(0≤I.getD x default∧I.getD x default<(P.length : Int))∧(ix P (I.getD x default)).AB=x∧(ix P (I.getD x default)).BD=[])
  (hD : D.length=P.length) (hr : ∀ f,f<P.length→(D.getD f default).length=P.length) (he : ∀ f g,f<P.length→g<P.length→XJ P f g ((D.getD f default).getD g default)) :
  Ax.Good 18 ⟨n,P.map Pt.AB,P.map Pt.to,I,D⟩:=by
 have eF : ∀ f,f<P.length→(P.map Pt.AB).getD f default=(P.getD f default).AB:=fun f hf=>BC _ hf
 have eT : ∀ f,f<P.length→(P.map Pt.to).getD f default=(P.getD f default).to:=fun f hf=>BC _ hf
 have mem : ∀ f,f<P.length→P.getD f default∈P:=fun f hf=>AE.mpr ⟨f,hf,rfl⟩
 have HB : (P.map Pt.AB).length=P.length:=by simp
 refine ⟨⟨⟨by show (0 : Int)≤n; omega,by show (n : Int)≤((18 : Nat) : Int); omega⟩,by show (I.length : Int)=n; omega,by show (P.map Pt.AB).length≤18; omega,by simp,by simpa using hD,fun f hf=>?_⟩,⟨fun f hf=>?_,fun f hf=>?_,fun x hx=>?_,fun f g hf hg en=>?_,fun f g hf hg en=>?_⟩⟩
 ·have OU : f<P.length:=by simpa using hf
  show (D.getD f default).length=(P.map Pt.AB).length
  rw [hr f OU,HB]
 ·have OU : f<P.length:=by simpa using hf
  show 0≤(P.map Pt.AB).getD f default∧(P.map Pt.AB).getD f default<(n : Int)
  rw [eF f OU]; exact (h.ok _ (mem f OU)).1
 ·have OU : f<P.length:=by simpa using hf
  show 0≤(P.map Pt.to).getD f default∧(P.map Pt.to).getD f default<(n : Int)
  rw [eT f OU]; exact (h.ok _ (mem f OU)).2.1
 ·have Lv : x<n:=by rw [← hI]; exact hx
  obtain ⟨h1,h2,h3⟩:=hi x Lv
  have CF : (I.getD x default).toNat<P.length:=by omega
  have DW:=(h.ok _ (mem _ CF)).2.2
  have e2 : (P.getD (I.getD x default).toNat default).AB=x:=h2
  have e3 : (P.getD (I.getD x default).toNat default).BD=[]:=h3;rw [e2,e3] at DW;refine ⟨⟨h1.1,by rw [HB]; exact h1.2⟩, ?_, ?_⟩
  ·show (P.map Pt.AB).getD _ default=_
   rw [eF _ CF]; exact h2
  ·show (P.map Pt.to).getD _ default=_
   rw [eT _ CF]; exact (show (x : Int)=_ from DW).symm
 ·have OU : f<P.length:=by simpa using hf
  have Zm : g<P.length:=by simpa using hg
  refine (he f g OU Zm).1 ?_;rw [← eT f OU,← eF g Zm]; exact en
 ·have OU : f<P.length:=by simpa using hf
  have Zm : g<P.length:=by simpa using hg
  have en2 : (P.getD f default).to=(P.getD g default).AB:=by rw [← eT f OU,← eF g Zm]; exact en
  have wg:=(h.ok _ (mem g Zm)).2.2
  have hx:=h.ext (mem f OU) (es:=(P.getD g default).BD) (z:=(P.getD g default).to) (by rw [en2]; exact wg)
  rcases (he f g OU Zm).2 en2 with ⟨_,Ea⟩ | ⟨h1,h2,h3⟩
  ·obtain ⟨k,hk,ek⟩:=AE.mp hx;exact absurd ⟨by rw [ek],by rw [ek]⟩ (Ea k hk)
  ·have CF : ((D.getD f default).getD g default).toNat<P.length:=by omega
   have DW:=(h.ok _ (mem _ CF)).2.2
   have e2 : (P.getD ((D.getD f default).getD g default).toNat default).AB=(P.getD f default).AB:=h2
   have e3 : (P.getD ((D.getD f default).getD g default).toNat default).BD=(P.getD f default).BD++(P.getD g default).BD:=h3
   have wf:=(h.ok _ (mem f OU)).2.2
   have wall:=wf.app (by rw [en2]; exact wg);rw [e2,e3] at DW;refine ⟨⟨h1.1,by show _<((P.map Pt.AB).length : Int); rw [HB]; exact h1.2⟩, ?_, ?_⟩
   ·show (P.map Pt.AB).getD _ default=(P.map Pt.AB).getD f default
    rw [eF _ CF,eF f OU]; exact h2
   ·show (P.map Pt.to).getD _ default=(P.map Pt.to).getD g default
    rw [eT _ CF,eT g Zm]; exact DW.qV wall
end
end Go.Shf
namespace Go.Shf
open Go.AW
theorem Ax.Ty.bound {c : Ax} (t : c.Ty) {f g : Nat} (hf : f<c.AB.length) (hg : g<c.AB.length) : -1≤B7 c f g∧B7 c f g<c.AB.length:=by
 by_cases h : c.to.getD f default=c.AB.getD g default
 ·have:=(t.yes f g hf hg h).1; rw [B7]; omega
 ·have:=t.R6 f g hf hg h; rw [B7]; omega
theorem ZZ {As : List (List Int)} {m : Nat} {φ : Nat→Nat→Int} (hl : As.length=m) (hr : ∀ f,f<m→As.getD f default=(List.range m).map (φ f)) : As=HX m φ:=by
 refine List.ext_getElem (by rw [hl,GL]) fun i h1 h2=>?_
 have:=hr i (by omega);rw [Go.AW.gE,List.getElem?_eq_getElem h1] at this
 simpa [HX] using this
section
variable {c e : Ax}
theorem Ya {f : Nat} (hf : f<c.AB.length) (hr : (c.comp.getD f default).length=c.AB.length) :
  c.comp.getD f default++List.replicate e.AB.length (-1)=(List.range (c.AB.length+e.AB.length)).map (KD c e f):=by
 refine List.ext_getElem (by rw [List.length_append,hr]; simp) fun i h1 h2=>?_;simp only [List.getElem_map,List.getElem_range]
 by_cases h : i<c.AB.length
 ·rw [List.getElem_append_left (by omega),KD,if_pos hf,if_pos h,B7,Go.AW.gE (l:=c.comp.getD f default),List.getElem?_eq_getElem (by omega)]; rfl
 ·rw [List.getElem_append_right (by omega),List.getElem_replicate,KD,if_pos hf,if_neg h]
def Ue (c e : Ax) (x g : Nat) : Int:=if 0≤B7 e x g then B7 e x g+c.AB.length else B7 e x g
theorem Yk (x : Nat) : List.replicate c.AB.length (-1)++(List.range e.AB.length).map (Ue c e x)=(List.range (c.AB.length+e.AB.length)).map (KD c e (c.AB.length+x)):=by
 refine List.ext_getElem (by simp) fun i h1 h2=>?_;simp only [List.getElem_map,List.getElem_range]
 by_cases h : i<c.AB.length
 ·rw [List.getElem_append_left (by simpa using h),List.getElem_replicate,KD,if_neg (by omega),if_pos h]
 ·rw [List.getElem_append_right (by simpa using h),KD,if_neg (by omega),if_neg h];simp only [List.getElem_map,List.getElem_range,List.length_replicate,Ue];rw [show c.AB.length+x - c.AB.length=x by omega]
theorem NB {n : Int} {l : List Int} {k : Nat} (hk : k<l.length) : Oh n (l.take k)++[l.getD k default+n]=Oh n (l.take (k+1)):=by
 rw [Ar _ hk,Oh,Oh,List.map_append]; rfl
theorem ZH {As : List (List Int)} (hl : As.length=c.AB.length+e.AB.length) (hr : ∀ f : Nat,f<c.AB.length→(c.comp.getD f default).length=c.AB.length)
  (h1 : ∀ f,f<c.AB.length→As.getD f []=c.comp.getD f default++List.replicate e.AB.length (-1)) (h2 : ∀ x,x<e.AB.length→As.getD (c.AB.length+x) []=List.replicate c.AB.length (-1)++(List.range e.AB.length).map (Ue c e x)) :
  As=(BW c e).comp:=by
 refine ZZ hl fun f hf=>?_
 by_cases h : f<c.AB.length
 ·rw [show As.getD f default=_ from h1 f h,Ya h (hr f h)]
 ·have:=h2 (f - c.AB.length) (by omega);rw [show c.AB.length+(f - c.AB.length)=f by omega] at this;rw [show As.getD f default=_ from this,Yk,show c.AB.length+(f - c.AB.length)=f by omega]
end
end Go.Shf
namespace Go.Shf
open Go.AW
theorem NG {a b : List Int} {n : Int} {i j m : Nat} (hm : b.length=m) (hi : i<a.length) (hj : j<m) : (QG a b n).take (i*m+j)++[a.getD i default*n+b.getD j default]=(QG a b n).take (i*m+j+1):=by
 subst hm;rw [Ar _ (by rw [H7]; exact LV hi hj),QE hi hj]
theorem Yg {c e : Ax} {k j f g : Nat} (hj : j<e.AB.length) (hg : g<e.AB.length) : LR c e (k*e.AB.length+j) (f*e.AB.length+g) =
  if 0≤B7 c k f∧0≤B7 e j g then B7 c k f*e.AB.length+B7 e j g else -1:=by
 rw [LR,(G6 hj).1,(G6 hj).2,(G6 hg).1,(G6 hg).2]
end Go.Shf
namespace Go.Shf
open Go.AW
structure FU where
 src : Ax
 AL : Ax
 ob : List Int
 ar : List Int
 deriving Inhabited
@[go_sem] def FU.cells (k : FU) : List AV:=[iI k.src.AF,iL k.src.AB,iL k.src.to,iL k.src.Ac,B5 k.src.comp,iI k.AL.AF,iL k.AL.AB,iL k.AL.to,iL k.AL.Ac,B5 k.AL.comp,iL k.ob,iL k.ar]
end Go.Shf
namespace Go.Shf
open Go.AW
structure PF where
 src : Ax
 AL : Ax
 AK : List (List Int)
 before : List (List (List Int))
 behind : List (List (List Int))
 deriving Inhabited
@[go_sem] def PF.cells (p : PF) : List AV:=[iI p.src.AF,iL p.src.AB,iL p.src.to,iL p.src.Ac,B5 p.src.comp,iI p.AL.AF,iL p.AL.AB,iL p.AL.to,iL p.AL.Ac,B5 p.AL.comp,B5 p.AK,BE p.before,BE p.behind]
def PF.sz (p : PF) (x y : Int) : Int:=ix (ix p.AK x) y
def PF.bf (p : PF) (a y : Int) : List Int:=ix (ix p.before a) y
def PF.bh (p : PF) (b x : Int) : List Int:=ix (ix p.behind b) x
def Ax.ES (c : Ax) (x : Int) : Prop:=0≤x∧x<c.AF
def Ax.DB (c : Ax) (a : Int) : Prop:=0≤a∧a.toNat<c.AB.length
def rp (m n : Int) : List Int:=List.replicate m.toNat n
def pw (m n : Int) : Int:=Bb (rp m n)
abbrev N1 (m n : Int) (t : List Int) : Prop:=Vo (rp m n) t
def iC (s t : List Int) : List Int:=s.map fun y=>ix t y
structure PF.Shape (p : PF) : Prop where
 sI : p.src.Is
 tI : p.AL.Is
 sl : (p.AK.length : Int)=p.src.AF
 rl : ∀ x,p.src.ES x→((ix p.AK x).length : Int)=p.AL.AF∧∀ y,p.AL.ES y→0≤p.sz x y∧p.sz x y≤64
 bl : p.before.length=p.src.AB.length
 hl : p.behind.length=p.AL.AB.length
 bm : ∀ a,p.src.DB a→((ix p.before a).length : Int)=p.AL.AF∧∀ y,p.AL.ES y→N1 (p.sz (ix p.src.to a) y) (p.sz (ix p.src.AB a) y) (p.bf a y)
 hm : ∀ b,p.AL.DB b→((ix p.behind b).length : Int)=p.src.AF∧∀ x,p.src.ES x→N1 (p.sz x (ix p.AL.AB b)) (p.sz x (ix p.AL.to b)) (p.bh b x)
structure PF.Laws (p : PF) : Prop where
 bi : ∀ x y,p.src.ES x→p.AL.ES y→p.bf (ix p.src.Ac x) y=BG (p.sz x y)
 hi : ∀ x y,p.src.ES x→p.AL.ES y→p.bh (ix p.AL.Ac y) x=BG (p.sz x y)
 bc : ∀ a b y,p.src.DB a→p.src.DB b→ix p.src.to a=ix p.src.AB b→p.AL.ES y→p.bf (ix (ix p.src.comp a) b) y=iC (p.bf b y) (p.bf a y)
 hc : ∀ a b x,p.AL.DB a→p.AL.DB b→ix p.AL.to a=ix p.AL.AB b→p.src.ES x→p.bh (ix (ix p.AL.comp a) b) x=iC (p.bh a x) (p.bh b x)
 bb : ∀ a b,p.src.DB a→p.AL.DB b→iC (p.bf a (ix p.AL.AB b)) (p.bh b (ix p.src.AB a))=iC (p.bh b (ix p.src.to a)) (p.bf a (ix p.AL.to b))
structure PF.Is (p : PF) : Prop where
 SZ : p.Shape
 laws : p.Laws
section
variable {m n k : Int} {s t u : List Int}
theorem QV (m n : Int) : (rp m n).length=m.toNat:=by simp [rp]
theorem fK {i : Nat} (h : i<m.toNat) : (rp m n).getD i default=n:=by simp [rp,Go.AW.gE,List.getElem?_replicate,h]
theorem N1.len (h : N1 m n t) : t.length=m.toNat:=by have:=Vo.len h; rwa [QV] at this
theorem N1.at (h : N1 m n t) {i : Int} (hi : 0≤i∧i<m) : 0≤ix t i∧ix t i<n:=by
 have EP : i.toNat<m.toNat:=by omega
 have:=Vo.at h i.toNat (by rw [QV]; exact EP);rw [fK EP] at this; exact this
theorem N1.of (hl : t.length=m.toNat) (h : ∀ i : Int,0≤i∧i<m→0≤ix t i∧ix t i<n) : N1 m n t :=
 Vo.of (by rw [QV]; exact hl) fun i hi=>by
  rw [QV] at hi
  have:=h i (by omega);rw [AR] at this;rw [fK hi]; exact this
theorem N1.mem (h : N1 m n t) {y : Int} (hy : y∈t) : 0≤y∧y<n:=by
 obtain ⟨i,hi,rfl⟩:=AE.mp hy
 have:=h.at (i:=i) (by have:=h.len; omega);rw [AR] at this; exact this
theorem cW (s t : List Int) : (iC s t).length=s.length:=by simp [iC]
theorem Ye {i : Int} (hi : 0≤i∧i.toNat<s.length) : ix (iC s t) i=ix t (ix s i):=by
 rw [ix,iC,BC _ hi.2]; rfl
theorem N1.comp (h : N1 m n s) (g : N1 n k t) : N1 m k (iC s t) :=
 .of (by rw [cW,h.len]) fun i hi=>by
  rw [Ye ⟨hi.1,by rw [h.len]; omega⟩];exact g.at (h.at hi)
theorem Et (n : Int) : (BG n).length=n.toNat:=by simp [BG]
theorem Ts (hn : 0≤n) (h : 0<pw m n) : ∀ a,a∈rp m n→0<a:=by
 intro a ha
 have h0 : a≠0:=fun e=>by rw [e] at ha; rw [pw,JQ ha] at h; omega
 rw [rp] at ha
 obtain ⟨_,rfl⟩:=List.mem_replicate.mp ha;omega
theorem O9 (hn : 0≤n) : 0≤pw m n:=JW fun a ha=>by
 obtain ⟨_,rfl⟩:=List.mem_replicate.mp ha;exact hn
theorem Oy (hn : 0≤n) (h : 0≤k∧k<pw m n) : N1 m n (T8 (rp m n) k):=ZB (Ts hn (by omega)) k
theorem rA (h : N1 m n t) : 0≤Hk (rp m n) t∧Hk (rp m n) t<pw m n:=WD h
end
section
variable {f g : SF} {x y a b k : Int}
def XC (f g : SF) (a y k : Int) : Int:=Hk (rp (ix f.AK (ix f.shape.AB a)) (ix g.AK y)) (iC (ix f.AJ a) (T8 (rp (ix f.AK (ix f.shape.to a)) (ix g.AK y)) k))
def Y5 (f g : SF) (b x k : Int) : Int:=Hk (rp (ix f.AK x) (ix g.AK (ix g.shape.to b))) (iC (T8 (rp (ix f.AK x) (ix g.AK (ix g.shape.AB b))) k) (ix g.AJ b))
def Kv (f g : SF) (a y : Int) : List Int:=(List.range (pw (ix f.AK (ix f.shape.to a)) (ix g.AK y)).toNat).map fun k : Nat=>XC f g a y k
def L2 (f g : SF) (b x : Int) : List Int:=(List.range (pw (ix f.AK x) (ix g.AK (ix g.shape.AB b))).toNat).map fun k : Nat=>Y5 f g b x k
def C6 (f g : SF) : PF:=⟨f.shape,g.shape,(List.range f.shape.AF.toNat).map fun x : Nat=>(List.range g.shape.AF.toNat).map fun y : Nat=>pw (ix f.AK x) (ix g.AK y),
 (List.range f.shape.AB.length).map fun a : Nat=>(List.range g.shape.AF.toNat).map fun y : Nat=>Kv f g a y,
 (List.range g.shape.AB.length).map fun b : Nat=>(List.range f.shape.AF.toNat).map fun x : Nat=>L2 f g b x⟩
def xS (f g : SF) : Prop:=∀ x y,f.shape.ES x→g.shape.ES y→pw (ix f.AK x) (ix g.AK y)≤64
theorem oY {α : Type} [Inhabited α] (F : Int→α) {n : Nat} {i : Int} (h : 0≤i∧i.toNat<n) : ix ((List.range n).map fun j : Nat=>F j) i=F i:=by
 rw [ix,Ab _ _ h.2,Int.toNat_of_nonneg h.1]
theorem iD (h : f.Shape) (hx : f.shape.ES x) : 0≤ix f.AK x∧ix f.AK x≤16:=h.HA hx
theorem Il (h : f.Shape) (ha : f.shape.DB a) : N1 (ix f.AK (ix f.shape.AB a)) (ix f.AK (ix f.shape.to a)) (ix f.AJ a):=by
 have Tc:=h.al
 have h1:=h.act a.toNat (by rw [Tc]; exact ha.2);rw [show f.shape.AB.getD a.toNat default=ix f.shape.AB a from rfl,show f.shape.to.getD a.toNat default=ix f.shape.to a from rfl,show f.AJ.getD a.toNat default=ix f.AJ a from rfl] at h1;refine .of (by omega) fun i hi=>h1.2 _ (BL (by omega))
theorem cQ (h : f.Shape) (ha : f.shape.DB a) : f.shape.ES (ix f.shape.AB a)∧f.shape.ES (ix f.shape.to a):=⟨h.is.1.C3 ha.2,h.is.1.DJ ha.2⟩
theorem nL (hf : f.Shape) (hg : g.Shape) (ha : f.shape.DB a) (hy : g.shape.ES y) (hk : 0≤k∧k<pw (ix f.AK (ix f.shape.to a)) (ix g.AK y)) :
  N1 (ix f.AK (ix f.shape.AB a)) (ix g.AK y) (iC (ix f.AJ a) (T8 (rp (ix f.AK (ix f.shape.to a)) (ix g.AK y)) k)):=(Il hf ha).comp (Oy (iD hg hy).1 hk)
theorem kP (hf : f.Shape) (hg : g.Shape) (hb : g.shape.DB b) (hx : f.shape.ES x) (hk : 0≤k∧k<pw (ix f.AK x) (ix g.AK (ix g.shape.AB b))) :
  N1 (ix f.AK x) (ix g.AK (ix g.shape.to b)) (iC (T8 (rp (ix f.AK x) (ix g.AK (ix g.shape.AB b))) k) (ix g.AJ b)):=N1.comp (Oy (iD hg (cQ hg hb).1).1 hk) (Il hg hb)
theorem kB (hk : 0≤k∧k<pw (ix f.AK (ix f.shape.to a)) (ix g.AK y)) : ix (Kv f g a y) k=XC f g a y k:=oY (fun k=>XC f g a y k) ⟨hk.1,by omega⟩
theorem iV (hk : 0≤k∧k<pw (ix f.AK x) (ix g.AK (ix g.shape.AB b))) : ix (L2 f g b x) k=Y5 f g b x k:=oY (fun k=>Y5 f g b x k) ⟨hk.1,by omega⟩
end
end Go.Shf
namespace Go.Shf
open Go.AW
section
variable {c d : Ax} {ob ar : List Int} {a b h : Int}
def TV (c d : Ax) (ob : List Int) (a v : Int) : Prop:=d.DB v∧ix d.AB v=ix ob (ix c.AB a)∧ix d.to v=ix ob (ix c.to a)
structure Wl (c d : Ax) (ob ar : List Int) : Prop where
 len : ar.length=c.AB.length
 ty : ∀ a : Int,c.DB a→ix ar a<0∨TV c d ob a (ix ar a)
structure iG (c d : Ax) (ob : List Int) : Prop where
 len : (ob.length : Int)=c.AF
 ob : ∀ x,c.ES x→d.ES (ix ob x)
def aM (A : List Int) : Nat:=A.countP fun x=>decide (x<0)
theorem VI : ∀ {A : List Int} {i : Nat} {v : Int},i<A.length→A.getD i default<0→0≤v→aM (A.set i v)+1=aM A
 | [],i,v,h,_,_=>by simp at h
 | x::r,0,v,h,hx,hv=>by
  have TM : decide (x<0)=true:=by simpa using hx
  have RH : decide (v<0)=false:=by simpa using hv
  simp [aM,List.countP_cons,TM,RH]
 | x::r,i+1,v,h,hx,hv=>by
  have ih:=VI (A:=r) (i:=i) (v:=v) (by simpa using h) (by simpa using hx) hv;simp only [aM,List.set_cons_succ,List.countP_cons] at ih ⊢;omega
theorem Ax.Shape.FR (hc : c.Shape) (ha : c.DB a) (hb : c.DB b) (e : ix c.to a=ix c.AB b) :
  c.DB (ix (ix c.comp a) b)∧ix c.AB (ix (ix c.comp a) b)=ix c.AB a∧ix c.to (ix (ix c.comp a) b)=ix c.to b:=by
 have q:=hc.yes a.toNat b.toNat ha.2 hb.2 e
 have q : (0≤ix (ix c.comp a) b∧ix (ix c.comp a) b<c.AB.length)∧ix c.AB (ix (ix c.comp a) b)=ix c.AB a∧ix c.to (ix (ix c.comp a) b)=ix c.to b:=q;exact ⟨⟨q.1.1,by have:=q.1; omega⟩,q.2⟩
theorem TV.comp (hc : c.Shape) (hd : d.Shape) (ha : c.DB a) (hb : c.DB b) (e : ix c.to a=ix c.AB b) {u v : Int} (hu : TV c d ob a u) (hv : TV c d ob b v) :
  TV c d ob (ix (ix c.comp a) b) (ix (ix d.comp u) v):=by
 have q:=hc.FR ha hb e
 have k:=hd.FR hu.1 hv.1 (by rw [hu.2.2,hv.2.1,e]);exact ⟨k.1,by rw [k.2.1,hu.2.1,q.2.1],by rw [k.2.2,hv.2.2,q.2.2]⟩
theorem Wl.set (t : Wl c d ob ar) (hh : c.DB h) {v : Int} (hv : TV c d ob h v) : Wl c d ob (ar.set h.toNat v):=by
 refine ⟨by rw [List.length_set]; exact t.len,fun x hx=>?_⟩
 by_cases e : x=h
 ·right
  subst e
  have : ix (ar.set x.toNat v) x=v:=by
   have hl : x.toNat<ar.length:=by rw [t.len]; exact hx.2
   simp [ix,Go.AW.gE,hl]
  rw [this]; exact hv
 ·have : ix (ar.set h.toNat v) x=ix ar x:=by
   have h1:=hx.1
   have h2:=hh.1
   have : h.toNat≠x.toNat:=by omega
   simp [ix,Go.AW.gE,List.getElem?_set_ne this]
  rw [this]; exact t.ty x hx
theorem TV.Ac (hc : c.Shape) (hd : d.Shape) (hx : c.ES h) (ho : d.ES (ix ob h)) : TV c d ob (ix c.Ac h) (ix d.Ac (ix ob h)):=by
 have q:=hc.HJ hx
 have k:=hd.HJ ho;exact ⟨k.1,by rw [k.2.1,q.2.1],by rw [k.2.2,q.2.2]⟩
theorem TV.sC {v : Int} (hm : v∈Ir d (ix ob (ix c.AB a)) (ix ob (ix c.to a))) : TV c d ob a v:=by
 rw [Ir,List.mem_filter,decide_eq_true_eq] at hm
 have:=Dl.mp hm.1;exact ⟨⟨this.1,this.2.1⟩,this.2.2,hm.2⟩
theorem Wl.blank : Wl c d ob (List.replicate c.AB.length (-1)):=by
 refine ⟨by simp,fun x hx=>.inl ?_⟩
 have : x.toNat<c.AB.length:=hx.2
 simp [ix,Go.AW.gE,List.getElem?_replicate,this]
end
end Go.Shf
namespace Go.Shf
open Go.AW
theorem I7 (n : Int) (k : Nat) : Bb (List.replicate (k+1) n)=n*Bb (List.replicate k n):=rfl
theorem Ml {n : Int} (h : 0≤n) (k : Nat) : 0≤Bb (List.replicate k n):=JW fun a ha=>by
 obtain ⟨_,rfl⟩:=List.mem_replicate.mp ha;exact h
def Gd (n : Int) : List Int→Int→Int
 | [],a=>a
 | y::r,a=>Gd n r (a*n+y)
theorem MX (n : Int) : ∀ (t : List Int) (a : Int),Gd n t a=a*Bb (List.replicate t.length n)+Hk (List.replicate t.length n) t
 | [],a=>by simp [Gd,Bb,Hk]
 | y::r,a=>by
  rw [Gd,MX n r,List.length_cons,I7]
  show (a*n+y)*Bb (List.replicate r.length n)+Hk (List.replicate r.length n) r=a*(n*Bb (List.replicate r.length n))+(y*Bb (List.replicate r.length n)+Hk (List.replicate r.length n) r)
  rw [Int.add_mul,Int.mul_assoc,Int.add_assoc]
theorem Oj (n : Int) : ∀ (t : List Int) (a y : Int),Gd n (t++[y]) a=Gd n t a*n+y
 | [],a,y=>rfl
 | z::r,a,y=>by rw [List.cons_append,Gd,Oj n r,Gd]
theorem Rz {n : Int} (hn : 1≤n) : ∀ (k m : Nat),k≤m→Bb (List.replicate k n)≤Bb (List.replicate m n)
 | k,0,h=>by rw [show k=0 by omega]; exact Int.le_refl _
 | k,m+1,h=>by
  by_cases e : k=m+1
  ·rw [e]; exact Int.le_refl _
  ·have ih:=Rz hn k m (by omega)
   have h0:=Ml (n:=n) (by omega) m;rw [I7 n m]
   have : 1*Bb (List.replicate m n)≤n*Bb (List.replicate m n):=Int.mul_le_mul_of_nonneg_right hn h0;omega
end Go.Shf
namespace Go.Shf
open Go.AW
section
variable {k : FU} {f : SF} {y : Int}
structure wR (AK : List Int) (ls : List Lk) (t : List Int) : Prop where
 len : t.length=AK.length
 Nt : ∀ n : Nat,n<AK.length→0≤t.getD n default∧t.getD n default<AK.getD n default
 link : ∀ l,l∈ls→ix l.left (ix t l.i)=ix l.right (ix t l.j)
theorem cG {AK : List Int} {ls : List Lk} (ok : Ft AK ls) : DK (wR AK ls) (OB AK ls):=by
 have hr : ∀ n,n<(List.replicate AK.length (-1 : Int)).length→(List.replicate AK.length (-1 : Int)).getD n default=-1:=fun n hn=>by
  rw [List.length_replicate] at hn
  simp [Go.AW.gE,List.getElem?_replicate,hn]
 have key:=Qf ok (p:=List.replicate AK.length (-1)) ⟨by simp,fun n hn=>.inl (by rw [hr n hn]; omega)⟩ fun l hl h1 h2=>by
  have:=hr l.i.toNat (by rw [List.length_replicate]; exact (ok.i l hl).2);rw [ix,this] at h1; omega
 refine ⟨key.Ph,fun t=>(key.mem t).trans ⟨fun q=>?_,fun q=>?_⟩⟩
 ·have ql:=q.len;rw [List.length_replicate] at ql
  have Zf : ∀ n : Nat,n<AK.length→0≤t.getD n default∧t.getD n default<AK.getD n default:=fun n hn=>q.new n (by rw [List.length_replicate]; exact hn) (hr n (by rw [List.length_replicate]; exact hn));exact ⟨ql,Zf,fun l hl=>q.cons l hl (Zf _ (ok.i l hl).2).1 (Zf _ (ok.j l hl).2).1⟩
 ·refine ⟨by rw [List.length_replicate]; exact q.len,fun n hn _=>?_,fun n hn h1=>(h1 (hr n hn)).elim,fun l hl _ _=>q.link l hl⟩;rw [List.length_replicate] at hn;exact q.Nt n hn
end
end Go.Shf
namespace Go.Shf
open Go.AW
def K5 (p : Int × Int) : List Int:=[p.1,p.2]
structure F6 (c : Ax) (os : List Int) (k h : Nat) (LL : List (List (List Int))) : Prop extends FreeI c os k h LL where
 ex : ∀ y : Nat,y<LL.length→LL.getD y default=(Rf c os y k).map K5++(HU c (os.getD k default) y h).map fun j=>[(k : Int),j]
section
variable {c : Ax} {os : List Int} {k h : Nat} {LL : List (List (List Int))}
theorem F6.zero (hc : 0≤c.AF) : F6 c os 0 0 (List.replicate c.AF.toNat []) where
 toFreeI:=FreeI.zero hc
 ex y hy:=by
  rw [List.length_replicate] at hy
  simp [Go.AW.gE,hy,Rf,HU]
theorem F6.skip (s : F6 c os k h LL) (hn : c.AB.getD h default≠os.getD k default) : F6 c os k (h+1) LL where
 toFreeI:=s.toFreeI.skip hn
 ex y hy:=by rw [s.ex y hy,Kk fun e=>hn e.1]
theorem F6.Sc (s : F6 c os k h LL) (hc : c.Shape) (hk : k<os.length) (hh : h<c.AB.length) (e : c.AB.getD h default=os.getD k default) :
  F6 c os k (h+1) (LL.set (c.to.getD h default).toNat (LL.getD (c.to.getD h default).toNat default++[[(k : Int),(h : Int)]])) where
 toFreeI:=s.toFreeI.Sc hc hk hh e
 ex y hy:=by
  rw [List.length_set] at hy
  have ht:=hc.DJ (f:=(h : Int)) (by simpa using hh);rw [AR] at ht
  have hl:=s.len;rw [E5 _ _ (by omega)]
  by_cases ey : y=(c.to.getD h default).toNat
  ·rw [if_pos ey,← ey,s.ex y hy,To e (by omega),List.map_append,List.append_assoc]; rfl
  ·rw [if_neg ey,s.ex y hy,Kk fun h2=>ey (by have:=h2.2; omega)]
theorem F6.next (s : F6 c os k c.AB.length LL) : F6 c os (k+1) 0 LL where
 toFreeI:=s.toFreeI.next
 ex y hy:=by
  rw [s.ex y hy,GW,Wz,List.map_append,List.map_map];simp only [HU,List.range_zero,List.filter_nil,List.map_nil,List.append_nil]
  rfl
def VR (c : Ax) (os : List Int) : List (List (List Int)):=(List.range c.AF.toNat).map fun y : Nat=>(CY c os y).map K5
theorem F6.full (s : F6 c os os.length 0 LL) : LL=VR c os:=by
 have hl:=s.len;refine List.ext_getElem (by simp [VR]; omega) fun y h1 h2=>?_
 have:=s.ex y h1;rw [XH] at this;simp only [HU,List.range_zero,List.filter_nil,List.map_nil,List.append_nil] at this;simp only [VR,List.getElem_map,List.getElem_range]
 simpa [Go.AW.gE,h1] using this
def Dy (c : Ax) (os : List Int) : SF:=HK c (VR c os)
end
end Go.Shf
namespace Go.Shf
open Go.AW
def Yp (l : List Int) : Prop:=∀ k : Int,0≤k→k<Ib l→k∈l
theorem Sa (l : List Int) : Yp (Dr l):=fun k h0 hk=>by
 have hN : ∀ v,v∈Dr l→0≤v∧v<((DO l).length : Int):=fun v hv=>by
  obtain ⟨u,hu,rfl⟩:=List.mem_map.mp hv
  have:=BO ((GJ _ l rfl u).mpr hu);omega
 have hb:=(Pm (N:=((DO l).length : Int)) (by omega) hN).1
 have hl : k.toNat<(DO l).length:=by omega
 have hi:=C4 (RQ l) hl;refine List.mem_map.mpr ⟨(DO l).getD k.toNat default,(GJ _ l rfl _).mp (AE.mpr ⟨_,hl,rfl⟩), ?_⟩;rw [hi]; omega
theorem MY (n : Nat) (ps : List (List Int)) : Yp (HI n ps):=Sa _
def c8 (f : SF) (CC : List (List Int)) (a d e : Nat) : Prop :=
 (ix CC (f.shape.AB.getD a default)).getD d default=(ix CC (f.shape.AB.getD a default)).getD e default →
 ix (ix CC (f.shape.to.getD a default)) ((f.AJ.getD a default).getD d default)=ix (ix CC (f.shape.to.getD a default)) ((f.AJ.getD a default).getD e default)
def pg (f : SF) (CC : List (List Int)) (a d k : Nat) : Prop:=∀ e : Nat,e<k→c8 f CC a d e
def o6 (f : SF) (CC : List (List Int)) (a k : Nat) : Prop:=∀ d : Nat,d<k→pg f CC a d d
def Cg (f : SF) (CC : List (List Int)) (k : Nat) : Prop:=∀ a : Nat,a<k→o6 f CC a (f.AJ.getD a default).length
theorem o6.at {f : SF} {CC : List (List Int)} {a k : Nat} (h : o6 f CC a k) {d e : Nat} (hd : d<k) (he : e<k) : c8 f CC a d e:=fun q=>by
 rcases Nat.lt_trichotomy d e with l | l | l
 ·exact (h e he d l q.symm).symm
 ·rw [l]
 ·exact h d hd e l q
def KR (f : SF) (CC : List (List Int)) (a : Nat) (A : List Int) (k : Nat) : Prop:=(A.length : Int)=Ib (ix CC (f.shape.AB.getD a default)) ∧
 ∀ e : Nat,e<k→ix A ((ix CC (f.shape.AB.getD a default)).getD e default)=ix (ix CC (f.shape.to.getD a default)) ((f.AJ.getD a default).getD e default)
theorem KR.set {f : SF} {CC : List (List Int)} {a k : Nat} {A : List Int} (h : KR f CC a A k) (hC : o6 f CC a (f.AJ.getD a default).length) (hk : k<(f.AJ.getD a default).length)
  (h0 : ∀ e : Nat,e≤k→0≤(ix CC (f.shape.AB.getD a default)).getD e default) (h1 : ((ix CC (f.shape.AB.getD a default)).getD k default).toNat<A.length) :
  KR f CC a (A.set ((ix CC (f.shape.AB.getD a default)).getD k default).toNat (ix (ix CC (f.shape.to.getD a default)) ((f.AJ.getD a default).getD k default))) (k+1):=by
 refine ⟨by rw [List.length_set]; exact h.1,fun e he=>?_⟩;rw [ix,E5 _ _ h1]
 split
 ·rename_i q
  have e0:=h0 e (by omega)
  have ek:=h0 k (by omega);exact hC.at hk (by omega) (by omega)
 ·rename_i q
  have Bg : e≠k:=fun h=>q (by rw [h]);exact h.2 e (by omega)
structure Vp (f : SF) (CC : List (List Int)) (g : SF) : Prop where
 sh : g.shape=f.shape
 sz : g.AK=CC.map Ib
 al : g.AJ.length=f.AJ.length
 row : ∀ a : Nat,a<f.AJ.length→KR f CC a (g.AJ.getD a default) (f.AJ.getD a default).length
structure Jx (sz : List Int) (CC : List (List Int)) : Prop extends ClsOk sz CC where
 ct : ∀ x : Nat,x<sz.length→Yp (CC.getD x default)
theorem XL {sz : List Int} (h : ∀ y,y∈sz→0≤y) (PP : List (List (List Int))) : Jx sz ((List.range sz.length).map (Jj sz PP)) where
 toClsOk:=Yu h PP
 ct x hx:=by rw [Ab _ _ hx,Jj]; exact MY _ _
theorem Jx.set {sz : List Int} {CC : List (List Int)} (s : Jx sz CC) {y : Nat} (hy : y<sz.length) {m : List Int} (hm : (m.length : Int)=sz.getD y default) (hr : ∀ v,v∈m→0≤v∧v<sz.getD y default) (hc : Yp m) : Jx sz (CC.set y m) where
 toClsOk:=s.toClsOk.set hy hm hr
 ct x hx:=by
  rw [E5 CC m (by rw [s.len]; exact hy)]
  split
  ·exact hc
  ·exact s.ct x hx
theorem XB {P : Nat→List Int→Prop} {RR : List (List Int)} {A : List Int} {a : Nat} (hl : RR.length=a) (h : ∀ i : Nat,i<a→P i (RR.getD i default)) (hA : P a A) : ∀ i : Nat,i<a+1→P i ((RR++[A]).getD i default):=fun i hi=>by
 by_cases e : i=a
 ·subst e;rw [show (RR++[A]).getD i default=A by simp [Go.AW.gE,← hl]]; exact hA
 ·rw [show (RR++[A]).getD i default=RR.getD i default by simp [Go.AW.gE,List.getElem?_append_left (show i<RR.length by omega)]];exact h i (by omega)
end Go.Shf
namespace Go.AW
def DM (a : AV) : Prop:=∀ (g g' : Gh) (v : Value),(∀ i p,g.io i=some p→g'.io i=some p)→Aa g a v→Aa g' a v
theorem DM.int (k : IntKind) (n : Int) : DM (.int k n):=fun g g' v _ h=>by cases h; exact .int k n
theorem DM.bool (b : Bool) : DM (.bool b):=fun g g' v _ h=>by cases h; exact .bool b
theorem DM.buf (i n : Nat) : DM (.buf i n):=fun g g' v hg h=>by
 cases h with
 | CN _ h=>exact .CN _ (hg _ _ h)
 | buf _ _ b cap h=>exact .buf _ _ b cap (hg _ _ h)
def AG.plain : AG→Prop
 | .cells _ cs _=>∀ c,c∈cs→DM c
 | .map _ _=>False
def AG.NJ : AG→AG
 | .cells sz cs _=>.cells sz cs cs.length
 | o=>o
def AG.Z0 : AG→Bool
 | .map _ _=>true
 | _=>false
def Wp : Option AG→Option AG
 | some (.cells sz cs _)=>some (.cells sz cs cs.length)
 | _=>none
def AA.NJ (H : AA) : AA:=(H.filter fun x=>!((H.get x.1).elim false AG.Z0)).map fun x=>(x.1,x.2.NJ)
theorem AA.get_filter (H : AA) (p : Nat→Bool) (i : Nat) : AA.get (H.filter fun x=>p x.1) i=if p i then H.get i else none:=by
 induction H with
 | nil=>simp [AA.get]
 | cons x r ih =>
  obtain ⟨j,o⟩:=x;simp only [AA.get,List.filter_cons,List.lookup] at ih ⊢
  by_cases hp : p j
  ·simp only [hp,if_true,List.lookup]
   by_cases e : i=j
   ·subst e; simp [hp]
   ·have : (i == j)=false:=by simpa using e
    simp [this,ih]
  ·simp only [hp,Bool.false_eq_true,if_false]
   by_cases e : i=j
   ·subst e; rw [ih]; simp [hp]
   ·have : (i == j)=false:=by simpa using e
    simp [this,ih]
theorem AA.get_map (H : AA) (f : AG→AG) (i : Nat) : AA.get (H.map fun x=>(x.1,f x.2)) i=(H.get i).map f:=by
 induction H with
 | nil=>rfl
 | cons x r ih =>
  obtain ⟨j,o⟩:=x;simp only [AA.get,List.map_cons,List.lookup] at ih ⊢
  by_cases e : i=j
  ·subst e; simp
  ·have : (i == j)=false:=by simpa using e
   simp [this,ih]
theorem AA.K7 (H : AA) (i : Nat) : H.NJ.get i=Wp (H.get i):=by
 unfold AA.NJ;rw [AA.get_map,AA.get_filter H fun j=>!((H.get j).elim false AG.Z0)]
 cases h : H.get i with
 | none=>simp [Wp]
 | some o=>cases o <;> simp [AG.Z0,Wp,AG.NJ]
theorem OY {o : Option AG} {x : AG} (h : Wp o=some x) : ∃ sz cs f,o=some (.cells sz cs f)∧x=.cells sz cs cs.length:=by
 unfold Wp at h
 split at h
 ·cases h; exact ⟨_,_,_,rfl,rfl⟩
 ·cases h
inductive Tr (H : AA) : AV→AV→Prop
 | val (a : AV) : Tr H a a
 | buf (id f : Nat) (cs es : List AV) (h : H.get id=some (.cells 1 cs f)) (hl : es.length=cs.length) (h1 : ∀ i,i<cs.length→(es.getD i nv).cells=[es.getD i nv])
   (ht : ∀ i,i<cs.length→Tr H (cs.getD i nv) (es.getD i nv)) : Tr H (.buf id cs.length) (.sl es)
 | agg (cs es : List AV) (hl : es.length=cs.length) (ht : ∀ i,i<cs.length→Tr H (cs.getD i nv) (es.getD i nv)) : Tr H (.agg cs) (.agg es)
 | ref (id sz f : Nat) (cs es : List AV) (h : H.get id=some (.cells sz cs f)) (hl : es.length=cs.length) (ht : ∀ i,i<cs.length→Tr H (cs.getD i nv) (es.getD i nv)) : Tr H (.ref id 0) (.ptr es)
def eZ : Option Obj→Option (Array MapEntry)
 | some (.map es _)=>some es
 | _=>none
noncomputable def Gh.Df (g : Gh) (H : AA) (w : World) : Gh :=
 {
  fz:=fun b o=>@ite _ (∃ id cap sz cs f,H.get id=some (.cells sz cs f)∧g.io id=some (.GA b cap)∧o<cs.length) (Classical.propDecidable _) (w.cell? ⟨b,o,none⟩) (g.fz b o)
  fm:=fun b=>@ite _ (∃ id ks vs,H.get id=some (.map ks vs)∧g.io id=some (.mp b)) (Classical.propDecidable _) (eZ w.heap[b]?) (g.fm b)
  io:=g.io }
theorem Gh.IP {g : Gh} {B : Nat} {H : AA} {w : World} (h : Ao g B H w) : g.le (g.Df H w):=by
 refine ⟨fun b o v e=>?_,fun b es e=>?_,fun _ _ h=>h⟩
 ·simp only [Gh.Df]
  split
  ·exact h.fz b o v e
  ·exact e
 ·simp only [Gh.Df]
  split
  ·obtain ⟨clk,hc⟩:=h.fm b es e;rw [hc]; rfl
  ·exact e
theorem Ao.Df {g : Gh} {B : Nat} {H : AA} {w : World} (h : Ao g B H w) : Ao (g.Df H w) B H.NJ w:=by
 have hle:=Gh.IP h
 have W4 : ∀ i,(H.NJ.get i).isSome→(H.get i).isSome:=by
  intro i e
  obtain ⟨o,e⟩:=Option.isSome_iff_exists.1 e;rw [AA.K7] at e
  obtain ⟨sz,cs,f,e,_⟩:=OY e
  simp [e]
 constructor
 ·intro b o v e;simp only [Gh.Df] at e
  split at e
  ·exact e
  ·exact h.fz b o v e
 ·intro b es e;simp only [Gh.Df] at e
  split at e
  ·unfold eZ at e
   split at e
   ·rename_i es' clk hc; cases e; exact ⟨clk,hc⟩
   ·cases e
  ·exact h.fm b es e
 ·intro i o e;rw [AA.K7] at e
  obtain ⟨sz,cs,f,e1,rfl⟩:=OY e;clear e
  obtain ⟨p,hp,hr⟩:=h.ob i _ e1;refine ⟨p,hp, ?_⟩
  cases p with
  | nil=>simp only [Ah] at hr ⊢; simp [hr.1]
  | GA b cap =>
   simp only [Ah] at hr ⊢
   obtain ⟨h1,h2,h3,h4,c,el,h5,h6,h7,h8⟩:=hr;refine ⟨h1,Nat.le_refl _,h3,fun x hx=>?_,c,el,h5,h6,h7,fun i hi=>(h8 i hi).mono hle⟩;simp only [Gh.Df];rw [if_neg,h4 x (by omega)]
   rintro ⟨id,cap',sz',cs',f',a1,a2,a3⟩
   by_cases GC : id=i
   ·subst GC; rw [e1] at a1; cases a1; omega
   ·exact h.inj id i b cap' cap GC (by simp [a1]) (by simp [e1]) a2 hp
  | mp b=>simp [Ah] at hr
 ·intro i j b c c' n e1 e2;exact h.inj i j b c c' n (W4 i e1) (W4 j e2)
 ·intro i j b n e1 e2;exact h.G9 i j b n (W4 i e1) (W4 j e2)
 ·exact h.base
 ·exact h.fin
theorem Tr.mr {g : Gh} {B : Nat} {H : AA} {w : World} (hW : Ao g B H w) {a e : AV} (t : Tr H a e) : ∀ v,Aa g a v→Aa (g.Df H w) e v:=by
 induction t with
 | val a=>intro v h; exact h.mono (Gh.IP hW)
 | buf id f cs es h hl h1 ht ih =>
  intro v hv
  obtain ⟨p,hp,hr⟩:=hW.ob id _ h
  generalize hn : cs.length=n at *
  cases hv with
  | CN _ hq =>
   have : es=[]:=List.eq_nil_of_length_eq_zero hl;subst this;exact .slnil none 0
  | buf _ _ b cap hq =>
   rw [hp] at hq; cases hq;simp only [Ah] at hr
   obtain ⟨r1,r2,r3,r4,c,el,r5,r6,r7,r8⟩:=hr
   have o0 : es.length=cs.length:=by omega
   have key : ∀ i j,i<es.length→j<1→i*1+j=i:=by intro i j _ hj; omega
   refine hl ▸ Aa.sl es b 0 1 cap (fun i=>c.getD i undef) (by omega) (by omega) (fun i hi=>?_) (fun i j hi hj=>?_) (fun i j hi hj=>?_)
   ·rw [h1 i (by omega)]; rfl
   ·rw [key i j hi hj,Nat.zero_add];simp only [Gh.Df];rw [if_pos ⟨id,cap,1,cs,f,h,hp,by omega⟩];rw [cell_of_row w b i c el (0,0) r5]
    have : i<c.size:=by omega
    simp [Array.getD,this]
   ·rw [key i j hi hj,h1 i (by omega)]
    obtain rfl : j=0:=by omega
    exact ih i (by omega) _ (r8 i (by omega))
 | agg cs es hl ht ih =>
  intro v hv
  cases hv with
  | agg _ vs hs hv=>exact .agg es vs (by omega) fun i hi=>ih i (by omega) _ (hv i (by omega))
 | ref id sz f cs es h hl ht ih =>
  intro v hv
  obtain ⟨p,hp,hr⟩:=hW.ob id _ h
  cases hv with
  | ref _ _ b cap hq =>
   rw [hp] at hq; cases hq;simp only [Ah] at hr
   obtain ⟨r1,r2,r3,r4,c,el,r5,r6,r7,r8⟩:=hr;refine .ptr es b 0 (fun i=>c.getD i undef) (fun i hi=>?_) (fun i hi=>ih i (by omega) _ (r8 i (by omega)));rw [Nat.zero_add];simp only [Gh.Df];rw [if_pos ⟨id,cap,sz,cs,f,h,hp,by omega⟩];rw [cell_of_row w b i c el (0,0) r5]
   have : i<c.size:=by omega
   simp [Array.getD,this]
theorem AA.get_append (l H : AA) (i : Nat) : AA.get (l++H) i=(AA.get l i).or (H.get i):=by
 induction l with
 | nil=>simp [AA.get]
 | cons x r ih =>
  obtain ⟨j,o⟩:=x;simp only [AA.get,List.cons_append,List.lookup] at ih ⊢
  by_cases e : i=j
  ·subst e; simp
  ·have : (i == j)=false:=by simpa using e
   simp [this,ih]
theorem AA.get_mem {l : AA} {i : Nat} {o : AG} (h : AA.get l i=some o) : (i,o)∈l:=by
 induction l with
 | nil=>simp [AA.get] at h
 | cons x r ih =>
  obtain ⟨j,o'⟩:=x;simp only [AA.get,List.lookup] at ih h
  by_cases e : i=j
  ·subst e; simp at h; simp [h]
  ·have : (i == j)=false:=by simpa using e
   simp only [this] at h;exact List.mem_cons_of_mem _ (ih h)
theorem AA.bJ {l : AA} (nd : (l.map Prod.fst).Nodup) {x : Nat × AG} (h : x∈l) : AA.get l x.1=some x.2:=by
 induction l with
 | nil=>simp at h
 | cons y r ih =>
  obtain ⟨j,o'⟩:=y;simp only [List.map_cons,List.nodup_cons] at nd;simp only [AA.get,List.lookup]
  rcases List.mem_cons.mp h with rfl | hm
  ·simp
  ·have : (x.1 == j)=false:=by
    simp only [beq_eq_false_iff_ne,ne_eq]
    intro e; exact nd.1 (e ▸ List.mem_map_of_mem hm)
   simp only [this];exact ih nd.2 hm
theorem Ao.Yw {g g' : Gh} {B : Nat} {H H' l : AA} {w w' : World} (h : Ao g B H w) (hg : (g.Df H w).le g')
  (h' : Ao g' B H' w') (ho : A9 H.NJ H' l) (hl : ∀ x,x∈l→x.2.plain∧H.get x.1=none) : g.le { g with io:=g'.io }∧Ao { g with io:=g'.io } B (l++H) w':=by
 have Zc:=(Gh.IP h).trans hg
 have hle : g.le { g with io:=g'.io }:=⟨fun _ _ _ h=>h,fun _ _ h=>h,Zc.io⟩
 have fzn : ∀ b o,g'.fz b o=none→g.fz b o=none:=by
  intro b o e
  cases e2 : g.fz b o with
  | none=>rfl
  | some v=>rw [Zc.fz _ _ _ e2] at e; cases e
 have CA : ∀ i o,H.get i=some o→∃ p,g.io i=some p∧g'.io i=some p∧Ah g B w p o:=by
  intro i o e
  obtain ⟨p,hp,hr⟩:=h.ob i o e;exact ⟨p,hp,Zc.io _ _ hp,hr⟩
 have cases : ∀ i,(AA.get (l++H) i).isSome→(∃ sz cs f,H'.get i=some (.cells sz cs f))∨∃ ks vs,H.get i=some (.map ks vs):=by
  intro i e;rw [AA.get_append] at e
  cases e1 : AA.get l i with
  | some o =>
   have hm:=AA.get_mem e1
   have h1:=ho.get _ hm
   have h2:=(hl _ hm).1;simp only at h1 h2
   cases o with
   | cells sz cs f=>exact .inl ⟨_,_,_,h1⟩
   | map ks vs=>exact absurd h2 (by simp [AG.plain])
  | none =>
   rw [e1,Option.none_or] at e
   obtain ⟨o,e⟩:=Option.isSome_iff_exists.1 e
   cases o with
   | cells sz cs f =>
    have : H.NJ.get i=some (.cells sz cs cs.length):=by rw [AA.K7,e]; rfl
    exact .inl ⟨_,_,_,ho.sub _ _ this⟩
   | map ks vs=>exact .inr ⟨_,_,e⟩
 refine ⟨hle, ?_⟩
 constructor
 ·intro b o v e; exact h'.fz _ _ _ (Zc.fz _ _ _ e)
 ·intro b es e; exact h'.fm _ _ (Zc.fm _ _ e)
 ·intro i o e;rw [AA.get_append] at e
  cases e1 : AA.get l i with
  | some o1 =>
   rw [e1,Option.some_or] at e; cases e
   have hm:=AA.get_mem e1
   obtain ⟨p,KY,hr⟩:=h'.ob i o (ho.get _ hm)
   have Nw:=(hl _ hm).1;refine ⟨p,KY, ?_⟩
   cases o with
   | map ks vs=>exact absurd Nw (by simp [AG.plain])
   | cells sz cs f =>
    cases p with
    | nil=>exact hr
    | mp b=>simp [Ah] at hr
    | GA b cap =>
     simp only [Ah] at hr ⊢
     obtain ⟨r1,r2,r3,r4,c,el,r5,r6,r7,r8⟩:=hr;refine ⟨r1,r2,r3,fun o ho=>fzn _ _ (r4 o ho),c,el,r5,r6,r7,fun i hi=>Nw _ ?_ g' _ _ (fun _ _ h=>h) (r8 i hi)⟩;rw [Go.AW.gE,List.getElem?_eq_getElem hi]; simp
  | none =>
   rw [e1,Option.none_or] at e
   obtain ⟨p,aW,II,V4⟩:=CA i o e;refine ⟨p,II, ?_⟩
   cases o with
   | map ks vs =>
    cases p with
    | nil=>simp [Ah] at V4
    | GA b cap=>simp [Ah] at V4
    | mp b =>
     simp only [Ah] at V4 ⊢
     obtain ⟨q1,q2,es,clk,q3,q4,q5,q6,q7⟩:=V4
     have TP : (g.Df H w).fm b=some es:=by
      simp only [Gh.Df];rw [if_pos ⟨i,ks,vs,e,aW⟩,q3]; rfl
     obtain ⟨clk',hc⟩:=h'.fm _ _ (hg.fm _ _ TP);exact ⟨q1,q2,es,clk',hc,q4,q5,fun i hi=>(q6 i hi).mono hle,fun i hi=>(q7 i hi).mono hle⟩
   | cells sz cs f =>
    have e2 : H.NJ.get i=some (.cells sz cs cs.length):=by rw [AA.K7,e]; rfl
    obtain ⟨p',KY,hr⟩:=h'.ob i _ (ho.sub _ _ e2);rw [II] at KY; cases KY
    cases p with
    | nil=>exact V4
    | mp b=>simp [Ah] at V4
    | GA b cap =>
     simp only [Ah] at hr V4 ⊢
     obtain ⟨q1,q2,q3,q4,c0,el0,q5,q6,q7,q8⟩:=V4
     obtain ⟨r1,r2,r3,r4,c,el,r5,r6,r7,r8⟩:=hr;refine ⟨r1,q2,r3,q4,c,el,r5,r6,r7,fun j hj=>?_⟩
     have h1 : w.cell? ⟨b,j,none⟩=some (c0.getD j undef):=by
      rw [cell_of_row w b j c0 el0 (0,0) q5]
      have : j<c0.size:=by omega
      simp [Array.getD,this]
     have h2 : w'.cell? ⟨b,j,none⟩=some (c0.getD j undef):=by
      refine h'.fz _ _ _ (hg.fz _ _ _ ?_);simp only [Gh.Df];rw [if_pos ⟨i,cap,sz,cs,f,e,aW,hj⟩]; exact h1
     rw [cell_of_row w' b j c el (0,0) r5] at h2
     have h3 : c.getD j undef=c0.getD j undef:=by
      have RF : j<c.size:=by omega
      rw [Array.getElem?_eq_getElem RF] at h2;rw [← Option.some.inj h2]; simp [Array.getD,RF]
     rw [h3]; exact (q8 j hj).mono hle
 ·intro i j b c c' n e1 e2 e3 e4
  rcases cases i e1 with ⟨sz,cs,f,k1⟩ | ⟨ks,vs,k1⟩
  ·rcases cases j e2 with ⟨sz',cs',f',k2⟩ | ⟨ks,vs,k2⟩
   ·exact h'.inj i j b c c' n (by simp [k1]) (by simp [k2]) e3 e4
   ·obtain ⟨p,aW,II,V4⟩:=CA j _ k2;simp only at e4; rw [II] at e4; cases e4; simp [Ah] at V4
  ·obtain ⟨p,aW,II,V4⟩:=CA i _ k1;simp only at e3; rw [II] at e3; cases e3; simp [Ah] at V4
 ·intro i j b n e1 e2 e3 e4
  rcases cases i e1 with ⟨sz,cs,f,k1⟩ | ⟨ks,vs,k1⟩
  ·obtain ⟨p,hp,hr⟩:=h'.ob i _ k1;simp only at e3; rw [hp] at e3; cases e3; simp [Ah] at hr
  ·rcases cases j e2 with ⟨sz',cs',f',k2⟩ | ⟨ks',vs',k2⟩
   ·obtain ⟨p,hp,hr⟩:=h'.ob j _ k2;simp only at e4; rw [hp] at e4; cases e4; simp [Ah] at hr
   ·obtain ⟨p,aW,II,_⟩:=CA i _ k1
    obtain ⟨q,pD,Pa,_⟩:=CA j _ k2;simp only at e3 e4;rw [II] at e3; cases e3;rw [Pa] at e4; cases e4;exact h.G9 i j b n (by simp [k1]) (by simp [k2]) aW pD
 ·exact h'.base
 ·exact h'.fin
theorem Ao.bG {g g' : Gh} {B : Nat} {H H' l : AA} {w w' : World} (h : Ao g B H w) (hg : (g.Df H w).le g') (h' : Ao g' B H' w') (ho : A9 H.NJ H' l) (hl : ∀ x,x∈l→x.2.plain) :
  ∀ x,x∈l→H.get x.1=none:=by
 intro x hx
 have h1:=ho.out x hx
 have h2:=ho.get x hx
 have h3:=hl x hx;rw [AA.K7] at h1
 cases e : H.get x.1 with
 | none=>rfl
 | some o =>
  rw [e] at h1
  cases o with
  | cells sz cs f=>simp [Wp] at h1
  | map ks vs =>
   obtain ⟨p,hp,hr⟩:=h.ob _ _ e
   cases p with
   | nil=>simp [Ah] at hr
   | GA b cap=>simp [Ah] at hr
   | mp b =>
    have Nv:=((Gh.IP h).trans hg).io _ _ hp
    obtain ⟨q,hq,CG⟩:=h'.ob _ _ h2;rw [Nv] at hq; cases hq
    cases ib : x.2 with
    | cells sz cs f=>rw [ib] at CG; simp [Ah] at CG
    | map ks vs=>rw [ib] at h3; simp [AG.plain] at h3
theorem B9.borrow {P : Program} {B : Nat} {f : FuncId} {args es : List AV} {H : AA} {K0 K : Ak} (hl : es.length=args.length)
  (ht : ∀ i,i<args.length→∀ g w v,Ao g B H w→Aa g (args.getD i nv) v→Aa (g.Df H w) (es.getD i nv) v)
  (h : B9 P B f es H.NJ K0) (hk : ∀ r H',K0 r H'→∃ l,A9 H.NJ H' l∧(∀ x,x∈l→x.2.plain)∧DM r∧((∀ x,x∈l→H.get x.1=none)→K r (l++H))) : B9 P B f args H K:=by
 refine ⟨h.1,fun g w vs hW hv=>?_⟩;refine (h.2 _ w vs hW.Df ⟨by rw [hv.1,hl],fun i hi=>ht i (by omega) g w _ hW (hv.2 i (by omega))⟩).mono fun e w' ⟨v,he,g',r,H',a,b,c,d,k⟩=>?_
 obtain ⟨l,ho,Nw,CA,hK⟩:=hk r H' b
 have hn:=hW.bG a d ho Nw
 obtain ⟨q1,q2⟩:=hW.Yw a d ho fun x hx=>⟨Nw x hx,hn x hx⟩;exact ⟨v,he,_,r,_,q1,hK hn,CA g' _ _ (fun _ _ h=>h) c,q2,k⟩
theorem B9.KP {P : Program} {B : Nat} {f : FuncId} {args es : List AV} {H : AA} {K : Ak} {r : AV} (hr : DM r) (hl : es.length=args.length)
  (ht : ∀ i,i<args.length→∀ g w v,Ao g B H w→Aa g (args.getD i nv) v→Aa (g.Df H w) (es.getD i nv) v)
  (h : HG P B f es r) (hk : K r H) : B9 P B f args H K :=
 B9.borrow hl ht (h _) fun r' H' ⟨e1,e2⟩=>⟨[],e2 ▸ .nil _,by simp,e1 ▸ hr,fun _=>by rw [e1]; exact hk⟩
theorem Tr.arg {B : Nat} {H : AA} {a e : AV} (t : Tr H a e) : ∀ g w v,Ao g B H w→Aa g a v→Aa (g.Df H w) e v:=fun g w v hW hv=>t.mr hW v hv
theorem KC {B : Nat} {H : AA} (a : AV) : ∀ g w v,Ao g B H w→Aa g a v→Aa (g.Df H w) a v:=fun g w v hW hv=>hv.mono (Gh.IP hW)
theorem A9.NJ {H H' l : AA} (h : A9 H.NJ H' l) (hn : ∀ x,x∈l→H.get x.1=none) : A9 H (l++H) l:=by
 refine ⟨fun i o e=>?_,fun x hx=>?_,h.nd,hn⟩
 ·rw [AA.get_append]
  cases e1 : AA.get l i with
  | some o1=>have:=hn _ (AA.get_mem e1); simp only at this; rw [this] at e; cases e
  | none=>simpa using e
 ·rw [AA.get_append,AA.bJ h.nd hx]; rfl
theorem ZF {α : Type} [Inhabited α] {f : α→AV} [One f] {B : Nat} {H0 H : AA} {l : List (Nat × AG)} {id n fr : Nat} {A : List α} (o : A9 H0 H ((id,.cells 1 (A.map f) fr)::l)) (hn : n=A.length) :
  ∀ g w v,Ao g B H w→Aa g (.buf id n) v→Aa (g.Df H w) (mL f A) v:=by
 subst hn
 have h0:=o.h0;simp only at h0
 have:=Tr.buf (H:=H) id fr (A.map f) (A.map f) h0 rfl (fun i hi=>by rw [List.length_map] at hi; rw [getD_map A hi]; exact C7 _) (fun i _=>.val _);rw [List.length_map] at this;exact this.arg
theorem PA {α : Type} [Inhabited α] {f : α→AV} [One f] {P : Program} {B : Nat} {fn : FuncId} {args : List AV} {H0 H : AA} {l : List (Nat × AG)} {K : Ak} {id n fr : Nat} {A : List α} {r : AV} (t : Nat)
  (ha : args[t]? = some (.buf id n)) (o : A9 H0 H ((id,.cells 1 (A.map f) fr)::l)) (hn : n=A.length) (hr : DM r) (h : HG P B fn (args.set t (mL f A)) r) (hk : K r H) : B9 P B fn args H K:=by
 refine B9.KP hr (by simp) (fun i hi=>?_) h hk
 by_cases e : i=t
 ·subst e
  have e1 : args.getD i nv=.buf id n:=by rw [Go.AW.gE,ha]; rfl
  have e2 : (args.set i (mL f A)).getD i nv=mL f A:=by simp [Go.AW.gE,hi]
  rw [e1,e2];exact ZF o hn
 ·have e2 : (args.set t (mL f A)).getD i nv=args.getD i nv:=by
   rw [Go.AW.gE,List.getElem?_set_ne (by omega),← Go.AW.gE]
  rw [e2]; exact KC _
theorem A9.trans {H0 H H' base l : AA} (h : A9 H0 H base) (k : A9 H H' l) : A9 H0 H' (l++base):=by
 refine ⟨h.sub.trans k.sub,fun x hx=>?_, ?_,fun x hx=>?_⟩
 ·rcases List.mem_append.mp hx with hx | hx
  ·exact k.get x hx
  ·exact k.sub _ _ (h.get x hx)
 ·rw [List.map_append,List.nodup_append];refine ⟨k.nd,h.nd,fun a ha b hb=>?_⟩
  obtain ⟨x,hx,rfl⟩:=List.mem_map.mp ha
  obtain ⟨y,hy,rfl⟩:=List.mem_map.mp hb
  intro e
  have h1:=k.out x hx
  have h2:=h.get y hy;rw [← e,h1] at h2; cases h2
 ·rcases List.mem_append.mp hx with hx | hx
  ·cases e : H0.get x.1 with
   | none=>rfl
   | some o=>have:=h.sub _ _ e; rw [k.out x hx] at this; cases this
  ·exact h.out x hx
end Go.AW
namespace Go.AW
attribute [go_sem] Nat.mul_one Bool.not_true Bool.not_false
section
variable {α : Type} [Inhabited α] {f : α→AV} [One f] {H0 H : AA} {l : List (Nat × AG)} {K : Ak}
omit [Inhabited α] in
theorem EI {n : Nat} {z : AV} (f : α→AV) (a : α) (hz : z=f a) (h : A9 H0 H l) (hk : ∀ id H',A9 H0 H' ((id,.cells 1 ((List.replicate n a).map f) 0)::l)→K (.buf id n) H') :
  DX n 1 (rep n [z]) K H:=by
 rw [IX]; subst hz;refine AP h fun id H' o=>hk id H' ?_;rw [List.map_replicate]; exact o
omit [One f] in
theorem CI {id off fr sz : Nat} {A : List α} (h : A9 H0 H ((id,.cells sz (A.map f) fr)::l)) (ho : off<A.length) (hk : K (f (A.getD off default)) H) :
  Jd (H.get id) none off K H:=by
 have h0:=h.h0;simp only at h0;rw [h0,Ve];refine ⟨by simpa using ho, ?_⟩;rw [getD_map A ho]; exact hk
omit [Inhabited α] in
theorem BT {id off : Nat} {A : List α} (a : α) {v : AV} (h : A9 H0 H ((id,.cells 1 (A.map f) 0)::l)) (hv : v=f a) (ho : off<A.length)
  (hk : ∀ H',A9 H0 H' ((id,.cells 1 ((A.set off a).map f) 0)::l)→K nv H') : Ka (H.get id) id off 1 [v] K H:=by
 subst hv
 have h0:=h.h0;simp only at h0;rw [h0,VV];refine ⟨⟨by omega,by rw [List.length_map]; omega,rfl,fun c hc=>?_⟩, ?_⟩
 ·rw [List.mem_singleton] at hc; subst hc; exact One.one a
 ·have e : wr (A.map f) off [f a]=(A.set off a).map f:=by
   simp only [wr,List.map_set]
  rw [e];exact hk _ (h.put _)
end
theorem Wk.call {P : Program} {B : Nat} {fn : FuncId} {args args' : List AV} {H H' : AA} {K : Ak} (hl : args'.length=args.length)
  (hw : ∀ g w vs,Ao g B H w→HD g args vs→∃ g',g.le g'∧Ao g' B H' w∧HD g' args' vs) (h : B9 P B fn args' H' K) : B9 P B fn args H K:=by
 refine ⟨h.1,fun g w vs hW hv=>?_⟩
 obtain ⟨g',q1,q2,q3⟩:=hw g w vs hW hv;exact (h.2 g' w vs q2 q3).mono fun e w' ⟨v,he,g2,r,H2,a,b⟩=>⟨v,he,g2,r,H2,q1.trans a,b⟩
theorem Pu {α : Type} [Inhabited α] {f : α→AV} [One f] {P : Program} {B : Nat} {fn : FuncId} {args : List AV} {H0 H : AA} {l : List (Nat × AG)} {K : Ak} {id n fr : Nat} {A : List α} (t : Nat)
  (ha : args[t]? = some (.buf id n)) (o : A9 H0 H ((id,.cells 1 (A.map f) fr)::l)) (hn : n=A.length)
  (hk : ∀ H',A9 H0 H' l→B9 P B fn (args.set t (mL f A)) H' K) : B9 P B fn args H K:=by
 subst hn
 have h0:=o.h0;simp only at h0
 have ht : t<args.length:=by
  rcases Nat.lt_or_ge t args.length with h | h
  ·exact h
  ·rw [List.getElem?_eq_none h] at ha; cases ha
 have HY : ∀ c,c∈A.map f→c.one=true:=by
  intro c hc; obtain ⟨a,_,rfl⟩:=List.mem_map.mp hc; exact One.one a
 refine Wk.call (by simp) (fun g w vs hW hv=>?_) (hk _ (o.put (.cells 1 (A.map f) (A.map f).length)).tl)
 obtain ⟨σ',H',XR,rfl,rfl⟩:=YK (t:=t) (σ:=[(t,some (.buf id A.length))]) (H:=H) (F:=fun σ' H'=>σ'=Env.put [(t,some (.buf id A.length))] t (.sl (A.map f))∧H'=H.set id (.cells 1 (A.map f) (A.map f).length)) (by
  have : Env.get [(t,some (AV.buf id A.length))] t=some (.buf id A.length):=by simp [Env.get]
  rw [this];simp only [YI,h0,Vq];refine ⟨⟨by simp,by omega,HY⟩, ?_,trivial⟩;rw [Ez _ _ (by simp)])
 obtain ⟨g',q1,q2,q3⟩:=XR g B w vs hW (fun s v e=>by
  simp only [Env.get] at e
  split at e
  ·rename_i e2; subst e2; cases e
   have:=hv.2 s ht;rw [Go.AW.gE,ha] at this;exact ⟨by rw [hv.1]; exact ht,this⟩
  ·cases e)
 refine ⟨g',q1,q2,by rw [hv.1]; simp,fun i hi=>?_⟩;rw [List.length_set] at hi
 by_cases e : i=t
 ·subst e
  have:=(q3 i (.sl (A.map f)) (by simp [Env.put,Env.get])).2
  have e2 : (args.set i (mL f A)).getD i nv=.sl (A.map f):=by simp [Go.AW.gE,hi,mL]
  rw [e2]; exact this
 ·have e2 : (args.set t (mL f A)).getD i nv=args.getD i nv:=by
   rw [Go.AW.gE,List.getElem?_set_ne (by omega),← Go.AW.gE]
  rw [e2]; exact (hv.2 i hi).mono q1
end Go.AW
