/- Plain data, plain laws. -/
import Derived.Test.YtphikjciekmijaaGreatA2
set_option linter.unusedVariables false
set_option linter.unusedSimpArgs false
set_option linter.unusedSectionVars false
namespace Go.AW
class One {α : Type} (f : α→AV) : Prop where
 cells : ∀ a,(f a).cells=[f a]
 one : ∀ a,(f a).one=true
def mL {α : Type} (f : α→AV) (l : List α) : AV:=.sl (l.map f)
abbrev iI : Int→AV:=AV.int .i64
abbrev iL : List Int→AV:=mL iI
abbrev iLL : List (List Int)→AV:=mL iL
abbrev iLLL : List (List (List Int))→AV:=mL iLL
instance : One iI:=⟨fun _=>rfl,fun _=>rfl⟩
instance : One AV.bool:=⟨fun _=>rfl,fun _=>rfl⟩
instance : One AV.str:=⟨fun _=>rfl,fun _=>rfl⟩
instance {α : Type} (f : α→AV) : One (mL f):=⟨fun _=>rfl,fun _=>rfl⟩
def ix {α : Type} [Inhabited α] (l : List α) (i : Int) : α:=l.getD i.toNat default
theorem ix_nat {α : Type} [Inhabited α] (l : List α) (k : Nat) : ix l (k : Int)=l.getD k default:=by simp [ix]
section
variable {P : Program} {B : Nat} {F : Env→Heap→Prop} {σ : Env} {H : Heap} {d : Option Nat} {α : Type} [Inhabited α] {f : α→AV}
theorem getD_map (l : List α) {i : Nat} (h : i<l.length) : (l.map f).getD i nv=f (l.getD i default):=by
 simp [List.getD_eq_getElem?_getD,h]
theorem one_cells [One f] (a : α) : (f a).cells=[f a]:=One.cells a
@[go_sem] theorem cells_mL (l : List α) : (mL f l).cells=[mL f l]:=rfl
@[go_sem] theorem lenE_mL (l : List α) : lenE (some (mL f l))=some (True,.int .i64 l.length):=by simp [mL,lenE]
@[go_sem] theorem idxE_mL [One f] (l : List α) (k : IntKind) (i : Int) :
  pE d F σ H (idxE 1 (some (mL f l)) (some (.int k i)))=((0≤i∧i.toNat<l.length)∧putK d F σ (.ptr [f (ix l i)]) H):=by
 simp only [mL,idxE,pE,pW,List.length_map,eq_iff_iff]
 constructor
 ·rintro ⟨⟨h1,h2,h3⟩,h4⟩;rw [getD_map l h2,one_cells] at h4;exact ⟨⟨h1,h2⟩,h4⟩
 ·rintro ⟨⟨h1,h2⟩,h4⟩;rw [getD_map l h2,one_cells];exact ⟨⟨h1,h2,rfl⟩,h4⟩
theorem flat_map [One f] (l : List α) : flat (l.map f)=l.map f:=by
 induction l with
 | nil=>rfl
 | cons a r ih=>simp [flat,one_cells,ih]
theorem okEls_map [One f] (l : List α) : okEls 1 (l.map f):=by
 intro e he
 obtain ⟨a,_,rfl⟩:=List.mem_map.mp he;rw [one_cells];refine ⟨rfl,fun c hc=>?_⟩;rw [List.mem_singleton] at hc; subst hc; exact One.one a
@[go_sem] theorem srcOf_mL [One f] (l : List α) : srcOf 1 (some (mL f l)) H=some (True,l.length,l.map f):=by
 simp [mL,srcOf,okEls_map,flat_map]
@[go_sem] theorem slcE_lo [One f] (l : List α) (k : IntKind) (a : Int) : slcE 1 (some (mL f l)) (some (some (.int k a))) none=some (0≤a∧a≤l.length,mL f (l.drop a.toNat)):=by
 have : List.take l.length (l.map f)=l.map f:=List.take_of_length_le (by simp)
 simp [mL,slcE,slcA,slcB,slcL,okEls_map,this]
@[go_sem] theorem slcE_hi [One f] (l : List α) (k : IntKind) (b : Int) : slcE 1 (some (mL f l)) none (some (some (.int k b)))=some (0≤b∧b≤l.length,mL f (l.take b.toNat)):=by
 simp [mL,slcE,slcA,slcB,slcL,okEls_map,← List.map_take]
@[go_sem] theorem slcE_both [One f] (l : List α) (k k' : IntKind) (a b : Int) : slcE 1 (some (mL f l)) (some (some (.int k a))) (some (some (.int k' b)))=some (0≤a∧a≤b∧b≤l.length,mL f ((l.take b.toNat).drop a.toNat)):=by
 simp [mL,slcE,slcA,slcB,slcL,okEls_map,← List.map_take,← List.map_drop]
@[go_sem] theorem okEls_nil (n : Nat) : okEls n []=True:=by simp [okEls]
@[go_sem] theorem okEls_cons (n : Nat) (a : AV) (r : List AV) : okEls n (a::r)=((a.cells.length=n∧∀ c,c∈a.cells→c.one=true)∧okEls n r):=by
 simp [okEls]
theorem okEls_one [One f] (a : α) : okEls 1 [f a]:=by
 intro e he;rw [List.mem_singleton] at he; subst he;rw [one_cells];refine ⟨rfl,fun c hc=>?_⟩;rw [List.mem_singleton] at hc; subst hc; exact One.one a
theorem fine_mL_le {l : List α} (h : AV.fine (mL f l)) : l.length≤maxL:=by simpa using h.sl_le
theorem fine_mL_mem [One f] {l : List α} (h : AV.fine (mL f l)) {a : α} (ha : a∈l) : AV.fine (f a) :=
 h.sl_mem (List.mem_map_of_mem ha) (one_cells a)
theorem ix_mem {l : List α} {i : Int} (h : i.toNat<l.length) : ix l i∈l:=by
 rw [ix,List.getD_eq_getElem?_getD]; simp [h]
theorem fine_mL_ix [One f] {l : List α} (h : AV.fine (mL f l)) {i : Int} (hi : i.toNat<l.length) : AV.fine (f (ix l i)):=fine_mL_mem h (ix_mem hi)
theorem take_succ' (l : List α) {k : Nat} (h : k<l.length) : l.take (k+1)=l.take k++[l.getD k default]:=by
 rw [List.take_add_one]; simp [List.getD_eq_getElem?_getD,h]
end
@[go_sem] theorem and_true_r (p : Prop) : (p∧True)=p:=and_true p
@[go_sem] theorem true_and_r (p : Prop) : (True∧p)=p:=true_and p
@[go_sem] theorem zle (n : Nat) : (0≤n)=True:=by simp
@[go_sem] theorem le_maxL1 : (1≤maxL)=True:=by simp [maxL]
@[go_sem] theorem le_maxL2 : (2≤maxL)=True:=by simp [maxL]
@[go_sem] theorem one_int (k : IntKind) (n : Int) : (AV.int k n).one=true:=rfl
@[go_sem] theorem one_mL {α : Type} (f : α→AV) (l : List α) : (mL f l).one=true:=rfl
@[go_sem] theorem one_bool (b : Bool) : (AV.bool b).one=true:=rfl
@[go_sem] theorem one_str (b : List UInt8) : (AV.str b).one=true:=rfl
@[go_sem] theorem one_sl (b : List AV) : (AV.sl b).one=true:=rfl
@[go_sem] theorem one_buf (i n : Nat) : (AV.buf i n).one=true:=rfl
@[go_sem] theorem one_ptr (b : List AV) : (AV.ptr b).one=true:=rfl
@[go_sem] theorem memnil (p : AV→Prop) : (∀ c,c∈([] : List AV)→p c)=True:=by simp
@[go_sem] theorem memcons (p : AV→Prop) (a : AV) (r : List AV) : (∀ c,c∈a::r→p c)=(p a∧∀ c,c∈r→p c):=by simp
@[go_sem] theorem len1 (a : AV) : [a].length=1:=rfl
@[go_sem] theorem len0 : ([] : List AV).length=0:=rfl
theorem awp_for {P : Program} {B : Nat} {l : List Nat} {c : SC} {Q : AQ} {σ : Env} {H : Heap} (lf : List Nat) {G : Type} (E : Nat→G→Env) (J : Nat→G→Heap→Prop) (n : Nat) (g : G)
  (h0 : J 0 g H) (he : Env.keep l σ=E 0 g++Env.keep lf σ)
  (h : ∀ k g H,k≤n→J k g H→awp P B c (lpQ l (fun m σ' H=>∃ k g,k≤n∧m=n - k∧J k g H∧σ'=E k g++Env.keep lf σ) (n - k) Q) (E k g++Env.keep lf σ) H) :
  awp P B (.loop l c) Q σ H :=
 awp_loop (fun m σ' H=>∃ k g,k≤n∧m=n - k∧J k g H∧σ'=E k g++Env.keep lf σ) n ⟨0,g,by omega,rfl,h0,he⟩
  fun m σ H ⟨k,g,h1,h2,h3,h4⟩=>h2 ▸ h4 ▸ h k g H h1 h3
theorem for_next {G : Type} {S : Nat→G→Env} {J : Nat→G→Heap→Prop} {n k : Nat} {σ : Env} {H : Heap} (g : G) (h : k<n) (hj : J (k+1) g H) (he : σ=S (k+1) g) :
  ∃ m σ' H',m<n - k∧(∃ k g,k≤n∧m=n - k∧J k g H'∧σ'=S k g)∧Wk σ H σ' H' :=
 ⟨n - (k+1),σ,H,by omega,⟨k+1,g,h,rfl,hj,he⟩,.refl _ _⟩
theorem awp_while {P : Program} {B : Nat} {l : List Nat} {c : SC} {Q : AQ} {σ : Env} {H : Heap} (lf : List Nat) {G : Type} (E : G→Env) (J : Nat→G→Heap→Prop) (n : Nat) (g : G)
  (h0 : J n g H) (he : Env.keep l σ=E g++Env.keep lf σ)
  (h : ∀ m g H,J m g H→awp P B c (lpQ l (fun m σ' H=>∃ g,J m g H∧σ'=E g++Env.keep lf σ) m Q) (E g++Env.keep lf σ) H) :
  awp P B (.loop l c) Q σ H :=
 awp_loop (fun m σ' H=>∃ g,J m g H∧σ'=E g++Env.keep lf σ) n ⟨g,h0,he⟩
  fun m σ H ⟨g,h3,h4⟩=>h4 ▸ h m g H h3
theorem while_next {G : Type} {S : G→Env} {J : Nat→G→Heap→Prop} {m : Nat} {σ : Env} {H : Heap} (m' : Nat) (g : G) (h : m'<m) (hj : J m' g H) (he : σ=S g) :
  ∃ m' σ' H',m'<m∧(∃ g,J m' g H'∧σ'=S g)∧Wk σ H σ' H' :=
 ⟨m',σ,H,h,⟨g,hj,he⟩,.refl _ _⟩
@[go_sem] theorem env_app_cons (a : Nat × Option AV) (l r : Env) : (a::l)++r=a::(l++r):=rfl
@[go_sem] theorem env_app_nil (r : Env) : ([] : Env)++r=r:=rfl
structure Owns (H0 H : Heap) (l : List (Nat × MObj)) : Prop where
 sub : H0.sub H
 get : ∀ x,x∈l→H.get x.1=some x.2
 nd : (l.map Prod.fst).Nodup
 out : ∀ x,x∈l→H0.get x.1=none
theorem Owns.nil (H : Heap) : Owns H H []:=⟨.refl H,by simp,by simp,by simp⟩
theorem Owns.h0 {H0 H : Heap} {a : Nat × MObj} {l : List (Nat × MObj)} (h : Owns H0 H (a::l)) : H.get a.1=some a.2:=h.get a (by simp)
theorem Owns.tl {H0 H : Heap} {a : Nat × MObj} {l : List (Nat × MObj)} (h : Owns H0 H (a::l)) : Owns H0 H l :=
 ⟨h.sub,fun x hx=>h.get x (by simp [hx]),(by simpa using h.nd : _∧_).2,fun x hx=>h.out x (by simp [hx])⟩
theorem Owns.perm {H0 H : Heap} {l r : List (Nat × MObj)} (h : Owns H0 H l) (hp : l.Perm r) : Owns H0 H r :=
 ⟨h.sub,fun x hx=>h.get x (hp.mem_iff.mpr hx),((hp.map _).nodup_iff.mp h.nd),fun x hx=>h.out x (hp.mem_iff.mpr hx)⟩
theorem Owns.swap {H0 H : Heap} {a b : Nat × MObj} {l : List (Nat × MObj)} (h : Owns H0 H (a::b::l)) : Owns H0 H (b::a::l):=h.perm (List.Perm.swap b a l)
theorem Owns.new {H0 H : Heap} {l : List (Nat × MObj)} (h : Owns H0 H l) {id : Nat} (hn : H.get id=none) (o : MObj) : Owns H0 (H.set id o) ((id,o)::l):=by
 refine ⟨fun i x hx=>?_,fun x hx=>?_, ?_,fun x hx=>?_⟩
 ·have:=h.sub i x hx;rw [Heap.get_set_ne]; exact this
  rintro rfl; rw [hn] at this; cases this
 ·simp only [List.mem_cons] at hx
  rcases hx with rfl | hx
  ·simp
  ·rw [Heap.get_set_ne]; exact h.get x hx
   intro e; have:=h.get x hx; rw [e,hn] at this; cases this
 ·simp only [List.map_cons,List.nodup_cons];refine ⟨fun hm=>?_,h.nd⟩
  obtain ⟨x,hx,e⟩:=List.mem_map.mp hm
  have:=h.get x hx; rw [e,hn] at this; cases this
 ·simp only [List.mem_cons] at hx
  rcases hx with rfl | hx
  ·cases hh : H0.get id with
   | none=>rfl
   | some o'=>have:=h.sub _ _ hh; rw [hn] at this; cases this
  ·exact h.out x hx
theorem Owns.put {H0 H : Heap} {l : List (Nat × MObj)} {id : Nat} {o : MObj} (h : Owns H0 H ((id,o)::l)) (o' : MObj) : Owns H0 (H.set id o') ((id,o')::l):=by
 have hnd:=h.nd;simp only [List.map_cons,List.nodup_cons] at hnd
 have hne : ∀ x,x∈l→x.1≠id:=fun x hx e=>hnd.1 (e ▸ List.mem_map_of_mem hx)
 have ho:=h.out (id,o) (by simp);refine ⟨fun i x hx=>?_,fun x hx=>?_,by simpa using hnd,fun x hx=>?_⟩
 ·rw [Heap.get_set_ne]; exact h.sub i x hx
  rintro rfl; simp only at ho; rw [ho] at hx; cases hx
 ·simp only [List.mem_cons] at hx
  rcases hx with rfl | hx
  ·simp
  ·rw [Heap.get_set_ne _ _ (hne x hx)]; exact h.get x (by simp [hx])
 ·simp only [List.mem_cons] at hx
  rcases hx with rfl | hx
  ·exact ho
  ·exact h.out x (by simp [hx])
theorem Owns.mv {H0 H : Heap} {l : List (Nat × MObj)} {id id' : Nat} {o : MObj} (h : Owns H0 H ((id,o)::l)) (hn : H.get id'=none) (o' : MObj) : Owns H0 ((H.del id).set id' o') ((id',o')::l):=by
 have hnd:=h.nd;simp only [List.map_cons,List.nodup_cons] at hnd
 have hne : ∀ x,x∈l→x.1≠id:=fun x hx e=>hnd.1 (e ▸ List.mem_map_of_mem hx)
 have ho:=h.out (id,o) (by simp)
 have hd : Owns H0 (H.del id) l:=by
  refine ⟨fun i x hx=>?_,fun x hx=>?_,hnd.2,fun x hx=>h.out x (by simp [hx])⟩
  ·rw [Heap.get_del_ne]; exact h.sub i x hx
   rintro rfl; simp only at ho; rw [ho] at hx; cases hx
  ·rw [Heap.get_del_ne _ (hne x hx)]; exact h.get x (by simp [hx])
 refine hd.new ?_ o'
 by_cases e : id'=id
 ·subst e; exact Heap.get_del_same _ _
 ·rw [Heap.get_del_ne _ e]; exact hn
section
variable {α : Type} [Inhabited α] {f : α→AV} [One f] {H0 H : Heap} {l : List (Nat × MObj)} {K : Kont}
theorem newBuf_own {n sz : Nat} {cs : List AV} (h : Owns H0 H l) (hk : ∀ id H',Owns H0 H' ((id,.cells sz cs 0)::l)→K (.buf id n) H') : newBuf n sz cs K H :=
 fun id hn=>hk id _ (h.new hn _)
theorem newRef_own {sz : Nat} {cs : List AV} (h : Owns H0 H l) (hk : ∀ id H',Owns H0 H' ((id,.cells sz cs 0)::l)→K (.ref id 0) H') : newRef sz cs K H :=
 fun id hn=>hk id _ (h.new hn _)
omit [Inhabited α] in
/-- An empty list of ours. -/
theorem new_list (f : α→AV) (h : Owns H0 H l) (hk : ∀ id H',Owns H0 H' ((id,.cells 1 (([] : List α).map f) 0)::l)→K (.buf id ([] : List α).length) H') : newBuf 0 1 [] K H :=
 newBuf_own h hk
theorem app_own {id fr n : Nat} {out : List α} (a : α) {v : AV} (h : Owns H0 H ((id,.cells 1 (out.map f) fr)::l)) (hv : v=f a) (hn : n=out.length) (hm : out.length+1≤maxL)
  (hk : ∀ id' H',Owns H0 H' ((id',.cells 1 ((out++[a]).map f) fr)::l)→K (.buf id' (out++[a]).length) H') :
  appW 1 (some (.buf id n)) (some (.sl [v])) K H:=by
 subst hv hn
 have h0:=h.h0;simp only at h0;simp only [appW,h0,srcOf,app2];refine ⟨⟨trivial,by simp,by simpa using hm,by simpa using hm,okEls_one a⟩,fun id' hn=>?_⟩
 have:=h.mv hn (.cells 1 ((out++[a]).map f) fr)
 have e : out.map f++flat [f a]=(out++[a]).map f:=by simp [flat,one_cells]
 rw [e]
 have:=hk id' _ this
 simpa using this
theorem app_list {id fr n : Nat} {out r : List α} (h : Owns H0 H ((id,.cells 1 (out.map f) fr)::l)) (hn : n=out.length) (hm : out.length+r.length≤maxL)
  (hk : ∀ id' H',Owns H0 H' ((id',.cells 1 ((out++r).map f) fr)::l)→K (.buf id' (out++r).length) H') :
  appW 1 (some (.buf id n)) (some (mL f r)) K H:=by
 subst hn
 have h0:=h.h0;simp only at h0;simp only [appW,h0,app2,srcOf_mL];refine ⟨⟨trivial,by simp,hm,by simpa using hm⟩,fun id' hn=>?_⟩
 have:=h.mv hn (.cells 1 ((out++r).map f) fr)
 have e : out.map f++r.map f=(out++r).map f:=by simp
 rw [e]
 have:=hk id' _ this
 simpa using this
theorem nil_own (a : α) {v : AV} (h : Owns H0 H l) (hv : v=f a)
  (hk : ∀ id' H',Owns H0 H' ((id',.cells 1 ([a].map f) 0)::l)→K (.buf id' [a].length) H') :
  appW 1 (some .nilsl) (some (.sl [v])) K H:=by
 subst hv;simp only [appW,srcOf,app1];refine ⟨⟨by simp [maxL],by simp [maxL],okEls_one a⟩,fun id hn=>?_⟩
 have:=hk id _ (h.new hn (.cells 1 ([a].map f) 0))
 simpa [flat,one_cells] using this
end
section
variable {α : Type} {f : α→AV} [One f] {H0 H : Heap} {l : List (Nat × MObj)}
theorem fz_own {t id n fr : Nat} {out : List α} {F : Env→Heap→Prop} {σ : Env} (h : Owns H0 H ((id,.cells 1 (out.map f) fr)::l)) (hn : n=out.length)
  (hk : ∀ H',Owns H0 H' l→F ((t,some (mL f out))::σ) H') : fz1 t id n F σ H (H.get id):=by
 subst hn
 have h0:=h.h0;simp only at h0;rw [h0,fz1_one];refine ⟨⟨by simp,fun c hc=>?_⟩,hk _ (h.put _).tl⟩
 obtain ⟨a,_,rfl⟩:=List.mem_map.mp hc;exact One.one a
end
theorem wsucc {k : Nat} (h : k<1125899906842624) : IntKind.i64.wrap ((k : Int)+1)=((k+1 : Nat) : Int):=by
 rw [wrap_i64 (by omega) (by omega)]; omega
theorem of_decide {p : Prop} [Decidable p] (h : decide p=true) : p:=by simpa using h
theorem of_ndecide {p : Prop} [Decidable p] (h : decide p=false) : ¬ p:=by simpa using h
end Go.AW
namespace Go.AW
structure Pur (P : Program) (B : Nat) (f : FuncId) (args : List AV) (r : AV) : Prop where
 run : PureF P B f args r
theorem Pur.go {P : Program} {B : Nat} {f : FuncId} {args : List AV} {r : AV} {H : Heap} {K : Kont} (h : Pur P B f args r) (hk : r.fine→K r H) : CallH P B f args H K :=
 h.run.go hk
end Go.AW
namespace Go.AW
noncomputable def dec (p : Prop) : Bool:=@decide p (Classical.propDecidable p)
theorem dec_t {p : Prop} (h : p) : dec p=true:=by simp [dec,h]
theorem dec_f {p : Prop} (h : ¬ p) : dec p=false:=by simp [dec,h]
theorem dec_iff {p : Prop} : dec p=true↔p:=by simp [dec]
theorem dec_niff {p : Prop} : dec p=false↔¬ p:=by simp [dec]
theorem dec_congr {p q : Prop} (h : p↔q) : dec p=dec q:=by rw [show p=q from propext h]
theorem decide_dec (p : Prop) [Decidable p] : decide p=dec p:=by
 by_cases h : p
 ·rw [dec_t h]; simpa using h
 ·rw [dec_f h]; simpa using h
theorem lt_succ_all {k : Nat} {p : Nat→Prop} (h : ∀ i,i<k→p i) (hk : p k) : ∀ i,i<k+1→p i:=fun i hi=>by
 by_cases e : i=k
 ·subst e; exact hk
 ·exact h i (by omega)
theorem mem_getD {α : Type} [Inhabited α] {l : List α} {a : α} : a∈l↔∃ i,i<l.length∧l.getD i default=a:=by
 rw [List.mem_iff_getElem]
 constructor
 ·rintro ⟨i,h,e⟩; exact ⟨i,h,by simpa [List.getD_eq_getElem?_getD,h] using e⟩
 ·rintro ⟨i,h,e⟩; exact ⟨i,h,by simpa [List.getD_eq_getElem?_getD,h] using e⟩
theorem all_getD {α : Type} [Inhabited α] {l : List α} {p : α→Prop} : (∀ a,a∈l→p a)↔∀ i,i<l.length→p (l.getD i default):=by
 constructor
 ·intro h i hi; exact h _ (mem_getD.mpr ⟨i,hi,rfl⟩)
 ·rintro h a ha; obtain ⟨i,hi,rfl⟩:=mem_getD.mp ha; exact h i hi
@[go_sem] theorem ix_nat' {α : Type} [Inhabited α] (l : List α) (k : Nat) : ix l (k : Int)=l.getD k default:=ix_nat l k
@[go_sem] theorem toNat_nat (k : Nat) : ((k : Int)).toNat=k:=Int.toNat_natCast k
@[go_sem] theorem nat_nonneg (k : Nat) : (0≤(k : Int))=True:=by simp
@[go_sem] theorem lt_nat (a b : Nat) : decide ((a : Int)<(b : Int))=decide (a<b):=by simp
theorem wpred {k : Nat} (h : 0<k) (h' : k<1125899906842624) : IntKind.i64.wrap ((k : Int) - 1)=((k - 1 : Nat) : Int):=by
 rw [wrap_i64 (by omega) (by omega)]; omega
def indexOf {α : Type} [DecidableEq α] (l : List α) (n : α) : Int:=match l.idxOf? n with
 | some i=>i
 | none=>-1
theorem indexOf_hit {α : Type} [DecidableEq α] [Inhabited α] {l : List α} {n : α} {k : Nat} (hk : k<l.length) (hall : ∀ i,i<k→l.getD i default≠n) (he : l.getD k default=n) : indexOf l n=k:=by
 have : l.idxOf? n=some k:=by
  rw [List.idxOf?_eq_some_iff];refine ⟨hk,by simpa [List.getD_eq_getElem?_getD,hk] using he,fun j hj=>?_⟩
  have:=hall j hj
  simpa [List.getD_eq_getElem?_getD,show j<l.length by omega] using this
 simp [indexOf,this]
theorem indexOf_miss {α : Type} [DecidableEq α] [Inhabited α] {l : List α} {n : α} (hall : ∀ i,i<l.length→l.getD i default≠n) : indexOf l n=-1:=by
 have : l.idxOf? n=none:=by
  rw [List.idxOf?_eq_none_iff]
  intro h; obtain ⟨i,hi,e⟩:=mem_getD.mp h; exact hall i hi e
 simp [indexOf,this]
end Go.AW
namespace Go.AW
theorem indexOf_bd {α : Type} [DecidableEq α] (l : List α) (n : α) : -1≤indexOf l n∧indexOf l n<l.length:=by
 unfold indexOf
 split
 ·rename_i i h
  rw [List.idxOf?_eq_some_iff] at h
  obtain ⟨hi,_⟩:=h;omega
 ·omega
end Go.AW
namespace Go.AW
theorem bnt (b : Bool) : ((!b)=true)=(b=false):=by simp
theorem bnf (b : Bool) : ((!b)=false)=(b=true):=by simp
theorem dect (p : Prop) : (dec p=true)=p:=propext dec_iff
theorem decf (p : Prop) : (dec p=false)=¬ p:=propext dec_niff
end Go.AW
namespace Go.AW
@[go_sem] theorem eq_nat (a b : Nat) : decide ((a : Int)=(b : Int))=decide (a=b):=by simp [Int.ofNat_inj]
@[go_sem] theorem le_nat (a b : Nat) : decide ((a : Int)≤(b : Int))=decide (a≤b):=by simp
def rc1 (n : Option Nat) (off : Nat) : Option MObj→Option AV
 | some (.cells _ cs _)=>match n with
  | none=>if off<cs.length then some (cs.getD off nv) else none
  | some n=>if off+n≤cs.length then some (.agg ((cs.drop off).take n)) else none
 | _=>none
@[go_sem] theorem rcV_ref (n : Option Nat) (id off : Nat) (H : Heap) : rcV n (some (.ref id off)) H=rc1 n off (H.get id):=by
 unfold rcV rc1
 cases n <;> (dsimp only; split <;> simp_all)
@[go_sem] theorem rc1_1 (off sz f : Nat) (cs : List AV) : rc1 none off (some (.cells sz cs f))=if off<cs.length then some (cs.getD off nv) else none:=rfl
@[go_sem] theorem rc1_n (n off sz f : Nat) (cs : List AV) : rc1 (some n) off (some (.cells sz cs f))=if off+n≤cs.length then some (.agg ((cs.drop off).take n)) else none:=rfl
theorem drop_cons {α : Type} [Inhabited α] (l : List α) {k : Nat} (h : k<l.length) : l.drop k=l.getD k default::l.drop (k+1):=by
 rw [List.drop_eq_getElem_cons h]; simp [List.getD_eq_getElem?_getD,h]
attribute [go_sem] List.drop_succ_cons List.drop_zero List.take_succ_cons List.take_zero List.getD_cons_zero List.getD_cons_succ List.length_cons List.length_nil List.set_cons_succ List.set_cons_zero
end Go.AW
namespace Go.AW
theorem rep_one (z : AV) : ∀ n,rep n [z]=List.replicate n z
 | 0=>rfl
 | n+1=>by simp [rep,rep_one z n,List.replicate_succ]
section
variable {α : Type} {f : α→AV} [One f] {H0 H : Heap} {l : List (Nat × MObj)} {K : Kont}
theorem mks_own {n : Nat} {z : AV} (f : α→AV) (h : Owns H0 H l) (hk : ∀ id H',Owns H0 H' ((id,.cells 1 (([] : List α).map f++List.replicate n z) 0)::l)→K (.buf id n) H') :
  newBuf n 1 (rep n [z]) K H:=by
 rw [rep_one]; exact newBuf_own h hk
theorem st_own {id off m : Nat} {z : AV} {A : List α} (a : α) {v : AV} (h : Owns H0 H ((id,.cells 1 (A.map f++List.replicate (m+1) z) 0)::l)) (hv : v=f a) (ho : off=A.length)
  (hk : ∀ H',Owns H0 H' ((id,.cells 1 ((A++[a]).map f++List.replicate m z) 0)::l)→K nv H') :
  st1 (H.get id) id off 1 [v] K H:=by
 subst hv ho
 have h0:=h.h0;simp only at h0;rw [h0,st1_c];refine ⟨⟨by omega,by simp,rfl,fun c hc=>?_⟩, ?_⟩
 ·rw [List.mem_singleton] at hc; subst hc; exact One.one a
 ·have e : wr (A.map f++List.replicate (m+1) z) A.length [f a]=(A++[a]).map f++List.replicate m z:=by
   simp only [wr,List.replicate_succ,List.map_append,List.map_cons,List.map_nil,List.append_assoc];rw [List.set_append_right _ _ (by simp)]
   simp
  rw [e];exact hk _ (h.put _)
theorem fz_made {t id n : Nat} {z : AV} {A : List α} {F : Env→Heap→Prop} {σ : Env} (h : Owns H0 H ((id,.cells 1 (A.map f++List.replicate 0 z) 0)::l)) (hn : n=A.length)
  (hk : ∀ H',Owns H0 H' l→F ((t,some (mL f A))::σ) H') : fz1 t id n F σ H (H.get id):=by
 rw [List.replicate_zero,List.append_nil] at h;exact fz_own h hn hk
end
theorem take_map_succ {α β : Type} [Inhabited α] (l : List α) (g : α→β) {k : Nat} (h : k<l.length) : (l.take (k+1)).map g=(l.take k).map g++[g (l.getD k default)]:=by
 rw [take_succ' l h]; simp
theorem range_succ_filter (p : Nat→Bool) (k : Nat) : (List.range (k+1)).filter p=(List.range k).filter p++if p k then [k] else []:=by
 rw [List.range_succ,List.filter_append]; simp [List.filter_cons]
end Go.AW
namespace Go.AW
theorem sub_set {H0 H : Heap} {i : Nat} {o : MObj} (h : H0.sub H) (n : H0.get i=none) : H0.sub (H.set i o):=by
 intro j x hx;rw [Heap.get_set_ne]
 ·exact h j x hx
 ·rintro rfl; rw [n] at hx; cases hx
attribute [go_sem] Heap.get_set_same
end Go.AW
namespace Go.AW
@[go_sem] theorem xor_tl (b : Bool) : (true ^^ b)=!b:=by simp
@[go_sem] theorem xor_fl (b : Bool) : (false ^^ b)=b:=by simp
@[go_sem] theorem and_dec (p q : Prop) [Decidable p] [Decidable q] : (decide p && decide q)=dec (p∧q):=by rw [← decide_dec]; simp
end Go.AW
namespace Go.AW
def faultK (P : Prop) (H0 : Heap) : Kont:=fun r H'=>H'=H0∧∃ k a b d : Int,r=.tup [.int .i64 k,.int .i64 a,.int .i64 b,.int .i64 d]∧(k=0↔P)
theorem fault_ret {P : Prop} {H0 H : Heap} {k a b d : Int} (h : k=0↔P) (hs : H0.sub H) : subW (faultK P H0) (.tup [.int .i64 k,.int .i64 a,.int .i64 b,.int .i64 d]) H :=
 ⟨H0,hs,rfl,k,a,b,d,rfl,h⟩
end Go.AW
namespace Go.Shf
open Go.AW
structure Cat where
 objs : Int
 frm : List Int
 to : List Int
 idn : List Int
 comp : List (List Int)
 deriving Inhabited
structure SF where
 shape : Cat
 sizes : List Int
 acts : List (List Int)
 deriving Inhabited
structure Top where
 shape : Cat
 covers : List (List (List Int))
 deriving Inhabited
structure SM where
 src : SF
 tgt : SF
 parts : List (List Int)
 deriving Inhabited
@[go_sem] def Cat.cells (c : Cat) : List AV:=[iI c.objs,iL c.frm,iL c.to,iL c.idn,iLL c.comp]
@[go_sem] def SF.cells (f : SF) : List AV:=[iI f.shape.objs,iL f.shape.frm,iL f.shape.to,iL f.shape.idn,iLL f.shape.comp,iL f.sizes,iLL f.acts]
@[go_sem] def Top.cells (j : Top) : List AV:=[iI j.shape.objs,iL j.shape.frm,iL j.shape.to,iL j.shape.idn,iLL j.shape.comp,iLLL j.covers]
@[go_sem] def SM.cells (m : SM) : List AV:=[iI m.src.shape.objs,iL m.src.shape.frm,iL m.src.shape.to,iL m.src.shape.idn,iLL m.src.shape.comp,iL m.src.sizes,iLL m.src.acts,
 iI m.tgt.shape.objs,iL m.tgt.shape.frm,iL m.tgt.shape.to,iL m.tgt.shape.idn,iLL m.tgt.shape.comp,iL m.tgt.sizes,iLL m.tgt.acts,iLL m.parts]
def cmp : List Int→List Int→Int
 | [],[]=>0
 | [],_::_=>-1
 | _::_,[]=>1
 | a::r,b::s=>if a=b then cmp r s else if a<b then -1 else 1
theorem cmp_zero : ∀ {a b : List Int},cmp a b=0↔a=b
 | [],[]=>by simp [cmp]
 | [],_::_=>by simp [cmp]
 | _::_,[]=>by simp [cmp]
 | a::r,b::s=>by
  unfold cmp
  split
  ·rename_i h; rw [cmp_zero]; simp [h]
  ·rename_i h; split <;> simp [h]
theorem cmp_neg : ∀ (a b : List Int),cmp a b=- cmp b a
 | [],[]=>by simp [cmp]
 | [],_::_=>by simp [cmp]
 | _::_,[]=>by simp [cmp]
 | a::r,b::s=>by
  unfold cmp
  by_cases h : a=b
  ·simp only [h,if_true]; exact cmp_neg r s
  ·have h3 : ¬ b=a:=fun e=>h e.symm;simp only [h,h3,if_false]
   by_cases h2 : a<b
   ·have h4 : ¬ b<a:=by omega
    simp [h2,h4]
   ·have h4 : b<a:=by omega
    simp [h2,h4]
def Rising (l : List Int) : Prop:=∀ i,0<i→i<l.length→l.getD (i - 1) default<l.getD i default
def outs (c : Cat) (x : Int) : List Int:=((List.range c.frm.length).filter fun i=>c.frm.getD i default=x).map Int.ofNat
end Go.Shf
namespace Go.Shf
open Go.AW
structure Cat.Shape (c : Cat) : Prop where
 o : 0≤c.objs∧c.objs≤8
 m : c.frm.length≤40
 frm : ∀ y,y∈c.frm→0≤y∧y<c.objs
 tol : c.to.length=c.frm.length
 to : ∀ y,y∈c.to→0≤y∧y<c.objs
 cl : c.comp.length=c.frm.length
 il : (c.idn.length : Int)=c.objs
 idn : ∀ y,y∈c.idn→0≤y∧y<(c.frm.length : Int)
 ide : ∀ x : Nat,x<c.idn.length→ix c.frm (c.idn.getD x default)=x∧ix c.to (c.idn.getD x default)=x
 row : ∀ f : Nat,f<c.frm.length→(c.comp.getD f default).length=c.frm.length
 non : ∀ f g : Nat,f<c.frm.length→g<c.frm.length→c.to.getD f default≠c.frm.getD g default→(c.comp.getD f default).getD g default=-1
 yes : ∀ f g : Nat,f<c.frm.length→g<c.frm.length→c.to.getD f default=c.frm.getD g default →
  (0≤(c.comp.getD f default).getD g default∧(c.comp.getD f default).getD g default<c.frm.length) ∧
  ix c.frm ((c.comp.getD f default).getD g default)=c.frm.getD f default∧ix c.to ((c.comp.getD f default).getD g default)=c.to.getD g default
structure Cat.Laws (c : Cat) : Prop where
 idl : ∀ f : Nat,f<c.frm.length→ix (ix c.comp (ix c.idn (c.frm.getD f default))) f=f∧ix (c.comp.getD f default) (ix c.idn (c.to.getD f default))=f
 assoc : ∀ f g h : Nat,f<c.frm.length→g<c.frm.length→h<c.frm.length→c.to.getD f default=c.frm.getD g default→c.to.getD g default=c.frm.getD h default →
  ix (ix c.comp ((c.comp.getD f default).getD g default)) h=ix (c.comp.getD f default) ((c.comp.getD g default).getD h default)
def Cat.Is (c : Cat) : Prop:=c.Shape∧c.Laws
end Go.Shf
namespace Go.Shf
open Go.AW
theorem Cat.Shape.frm' {c : Cat} (s : c.Shape) {f : Nat} (h : f<c.frm.length) : 0≤c.frm.getD f default∧(c.frm.getD f default).toNat<c.idn.length:=by
 have:=s.frm _ (mem_getD.mpr ⟨f,h,rfl⟩); have:=s.il; omega
theorem Cat.Shape.to' {c : Cat} (s : c.Shape) {f : Nat} (h : f<c.frm.length) : 0≤c.to.getD f default∧(c.to.getD f default).toNat<c.idn.length:=by
 have:=s.to _ (mem_getD.mpr ⟨f,by have:=s.tol; omega,rfl⟩); have:=s.il; omega
theorem Cat.Shape.id' {c : Cat} (s : c.Shape) {x : Int} (h : x.toNat<c.idn.length) : 0≤ix c.idn x∧(ix c.idn x).toNat<c.frm.length:=by
 have:=s.idn _ (ix_mem h); omega
theorem Cat.Shape.row' {c : Cat} (s : c.Shape) {a : Int} (h : a.toNat<c.frm.length) : (ix c.comp a).length=c.frm.length:=s.row _ h
theorem Cat.Shape.pos {c : Cat} (s : c.Shape) {f g : Nat} (hf : f<c.frm.length) (hg : g<c.frm.length) : (0≤(c.comp.getD f default).getD g default)↔c.to.getD f default=c.frm.getD g default:=by
 constructor
 ·intro h; apply Classical.byContradiction; intro e; have:=s.non f g hf hg e; omega
 ·intro e; exact (s.yes f g hf hg e).1.1
theorem Cat.Shape.lt {c : Cat} (s : c.Shape) {f g : Nat} (hf : f<c.frm.length) (hg : g<c.frm.length) : ((c.comp.getD f default).getD g default).toNat<c.frm.length:=by
 by_cases e : c.to.getD f default=c.frm.getD g default
 ·have:=(s.yes f g hf hg e).1; omega
 ·have:=s.non f g hf hg e; omega
def Cat.IdAt (c : Cat) (f : Nat) : Prop:=ix (ix c.comp (ix c.idn (c.frm.getD f default))) f=f∧ix (c.comp.getD f default) (ix c.idn (c.to.getD f default))=f
def Cat.AssocAt (c : Cat) (f g h : Nat) : Prop:=c.to.getD f default=c.frm.getD g default→c.to.getD g default=c.frm.getD h default →
  ix (ix c.comp ((c.comp.getD f default).getD g default)) h=ix (c.comp.getD f default) ((c.comp.getD g default).getD h default)
end Go.Shf
namespace Go.Shf
open Go.AW
theorem mem_outs {c : Cat} {x y : Int} : y∈outs c x↔0≤y∧y.toNat<c.frm.length∧ix c.frm y=x:=by
 simp only [outs,List.mem_map,List.mem_filter,List.mem_range,decide_eq_true_eq]
 constructor
 ·rintro ⟨b,⟨h1,h2⟩,rfl⟩; exact ⟨Int.natCast_nonneg b,by simpa using h1,by simpa [ix] using h2⟩
 ·rintro ⟨h1,h2,h3⟩; exact ⟨y.toNat,⟨h2,h3⟩,Int.toNat_of_nonneg h1⟩
end Go.Shf
namespace Go.Shf
open Go.AW
end Go.Shf
namespace Go.Shf
open Go.AW
structure SF.Shape (f : SF) : Prop where
 is : f.shape.Is
 sl : (f.sizes.length : Int)=f.shape.objs
 al : f.acts.length=f.shape.frm.length
 sz : ∀ y,y∈f.sizes→0≤y∧y<17
 act : ∀ a : Nat,a<f.acts.length→((f.acts.getD a default).length : Int)=ix f.sizes (f.shape.frm.getD a default) ∧
  ∀ y,y∈f.acts.getD a default→0≤y∧y<ix f.sizes (f.shape.to.getD a default)
end Go.Shf
namespace Go.Shf
open Go.AW
structure SF.Laws (f : SF) : Prop where
 idl : ∀ x : Nat,x<f.shape.idn.length→∀ e : Nat,e<(ix f.acts (f.shape.idn.getD x default)).length→(ix f.acts (f.shape.idn.getD x default)).getD e default=e
 comp : ∀ a b : Nat,a<f.shape.frm.length→b<f.shape.frm.length→f.shape.to.getD a default=f.shape.frm.getD b default→∀ e : Nat,e<(f.acts.getD a default).length →
  (ix f.acts ((f.shape.comp.getD a default).getD b default)).getD e default=ix (f.acts.getD b default) ((f.acts.getD a default).getD e default)
def SF.CompAt (f : SF) (a b : Nat) : Prop:=f.shape.to.getD a default=f.shape.frm.getD b default→∀ e : Nat,e<(f.acts.getD a default).length →
  (ix f.acts ((f.shape.comp.getD a default).getD b default)).getD e default=ix (f.acts.getD b default) ((f.acts.getD a default).getD e default)
def SF.Is (f : SF) : Prop:=f.Shape∧f.Laws
theorem SF.Shape.actLen {f : SF} (s : f.Shape) {a : Int} (h : a.toNat<f.shape.frm.length) : ((ix f.acts a).length : Int)=ix f.sizes (ix f.shape.frm a):=(s.act a.toNat (by rw [s.al]; exact h)).1
theorem SF.Shape.idLen {f : SF} (s : f.Shape) {x : Nat} (h : x<f.shape.idn.length) : ((ix f.acts (f.shape.idn.getD x default)).length : Int)=f.sizes.getD x default:=by
 have h1:=s.is.1.idn _ (mem_getD.mpr ⟨x,h,rfl⟩);rw [s.actLen (by omega),(s.is.1.ide x h).1,ix_nat]
end Go.Shf
namespace Go.Shf
open Go.AW
def nats (p : Nat→Bool) (n : Nat) : List Int:=((List.range n).filter p).map Int.ofNat
theorem mem_nats {p : Nat→Bool} {n : Nat} {y : Int} : y∈nats p n↔0≤y∧y.toNat<n∧p y.toNat=true:=by
 simp only [nats,List.mem_map,List.mem_filter,List.mem_range]
 constructor
 ·rintro ⟨b,⟨h1,h2⟩,rfl⟩; exact ⟨Int.natCast_nonneg b,by simpa using h1,by simpa using h2⟩
 ·rintro ⟨h1,h2,h3⟩; exact ⟨y.toNat,⟨h2,h3⟩,Int.toNat_of_nonneg h1⟩
theorem nats_succ (p : Nat→Bool) (n : Nat) : nats p (n+1)=nats p n++if p n then [(n : Int)] else []:=by
 rw [nats,range_succ_filter,List.map_append]; congr 1; split <;> rfl
theorem nats_t {p : Nat→Bool} {n : Nat} (h : p n=true) : nats p (n+1)=nats p n++[(n : Int)]:=by rw [nats_succ,if_pos h]
theorem nats_f {p : Nat→Bool} {n : Nat} (h : p n=false) : nats p (n+1)=nats p n:=by rw [nats_succ,if_neg (by simp [h]),List.append_nil]
@[simp] theorem nats_0 (p : Nat→Bool) : nats p 0=[]:=rfl
theorem nats_len (p : Nat→Bool) (n : Nat) : (nats p n).length≤n:=by
 rw [nats,List.length_map]; exact Nat.le_trans (List.length_filter_le _ _) (by simp)
theorem rising_pw {l : List Int} : Rising l↔l.Pairwise (·<·):=by
 constructor
 ·intro h;rw [List.pairwise_iff_getElem]
  intro i j hi hj hij
  have key : ∀ d i,i+d<l.length→0<d→l.getD i default<l.getD (i+d) default:=by
   intro d
   induction d with
   | zero=>intro i _ h; omega
   | succ d ih =>
    intro i hi _
    have h1:=h (i+d+1) (by omega) hi;simp only [Nat.add_sub_cancel] at h1
    by_cases hd : d=0
    ·subst hd; exact h1
    ·have:=ih i (by omega) (by omega); exact Int.lt_trans this h1
  have:=key (j - i) i (by omega) (by omega);rw [show i+(j - i)=j by omega] at this
  simpa [List.getD_eq_getElem?_getD,hi,hj] using this
 ·intro h i h0 hi;rw [List.pairwise_iff_getElem] at h
  have:=h (i - 1) i (by omega) hi (by omega)
  simpa [List.getD_eq_getElem?_getD,hi,show i - 1<l.length by omega] using this
theorem nats_rising (p : Nat→Bool) (n : Nat) : Rising (nats p n):=by
 rw [rising_pw,nats,List.pairwise_map];exact (List.pairwise_lt_range.filter _).imp fun {a b} h=>by simpa using h
def pullP (c : Cat) (a : Int) (s : List Int) (b : Nat) : Bool:=decide (ix c.to a=c.frm.getD b default) && decide ((ix c.comp a).getD b default∈s)
def pullS (c : Cat) (a : Int) (s : List Int) : List Int:=nats (pullP c a s) c.frm.length
section
variable {c : Cat}
theorem Cat.Shape.comp (s : c.Shape) {a b : Int} (ha : 0≤a∧a.toNat<c.frm.length) (hb : 0≤b∧b.toNat<c.frm.length) (e : ix c.to a=ix c.frm b) :
  (0≤ix (ix c.comp a) b∧(ix (ix c.comp a) b).toNat<c.frm.length)∧ix c.frm (ix (ix c.comp a) b)=ix c.frm a∧ix c.to (ix (ix c.comp a) b)=ix c.to b:=by
 have:=s.yes a.toNat b.toNat ha.2 hb.2 e;refine ⟨⟨this.1.1, ?_⟩,this.2⟩
 have:=this.1; simp only [ix]; omega
theorem Cat.Is.assoc (h : c.Is) {f g k : Int} (hf : 0≤f∧f.toNat<c.frm.length) (hg : 0≤g∧g.toNat<c.frm.length) (hk : 0≤k∧k.toNat<c.frm.length)
  (e1 : ix c.to f=ix c.frm g) (e2 : ix c.to g=ix c.frm k) : ix (ix c.comp (ix (ix c.comp f) g)) k=ix (ix c.comp f) (ix (ix c.comp g) k):=by
 have:=h.2.assoc f.toNat g.toNat k.toNat hf.2 hg.2 hk.2 e1 e2
 simpa only [ix,Int.toNat_natCast] using this
theorem Cat.Shape.toObj (s : c.Shape) {f : Int} (hf : f.toNat<c.frm.length) : 0≤ix c.to f∧ix c.to f<c.objs:=s.to _ (ix_mem (by rw [s.tol]; exact hf))
theorem Cat.Shape.frmObj (s : c.Shape) {f : Int} (hf : f.toNat<c.frm.length) : 0≤ix c.frm f∧ix c.frm f<c.objs:=s.frm _ (ix_mem hf)
theorem Cat.Shape.idArr (s : c.Shape) {x : Int} (hx : 0≤x∧x<c.objs) : (0≤ix c.idn x∧(ix c.idn x).toNat<c.frm.length)∧ix c.frm (ix c.idn x)=x∧ix c.to (ix c.idn x)=x:=by
 have hl:=s.il
 have h1:=s.id' (x:=x) (by omega)
 have h2:=s.ide x.toNat (by omega);rw [Int.toNat_of_nonneg hx.1] at h2;exact ⟨h1,h2⟩
theorem Cat.Is.idr (h : c.Is) {f : Int} (hf : 0≤f∧f.toNat<c.frm.length) : ix (ix c.comp f) (ix c.idn (ix c.to f))=f:=by
 have:=(h.2.idl f.toNat hf.2).2;rw [Int.toNat_of_nonneg hf.1] at this; exact this
end
end Go.Shf
namespace Go.Shf
open Go.AW
end Go.Shf
namespace Go.Shf
open Go.AW
theorem getD_set {α : Type} (l : List α) (i j : Nat) (a d : α) : (l.set i a).getD j d=if i=j∧j<l.length then a else l.getD j d:=by
 rw [List.getD_eq_getElem?_getD,List.getElem?_set,List.getD_eq_getElem?_getD]
 by_cases h : i=j
 ·subst h
  by_cases h2 : i<l.length
  ·simp [h2]
  ·simp [h2,List.getElem?_eq_none (show l.length≤i by omega)]
 ·simp [h]
end Go.Shf
namespace Go.Shf
open Go.AW
end Go.Shf
namespace Go.Shf
open Go.AW
def rowP (c : Cat) (L : List (List (List Int))) (a : Nat) : List Int:=(L.getD (c.frm.getD a default).toNat default).map fun s=>indexOf (L.getD (c.to.getD a default).toNat default) (pullS c a s)
def pullsOf (c : Cat) (L : List (List (List Int))) : List (List Int):=(List.range c.frm.length).map (rowP c L)
def topOf (c : Cat) (L : List (List (List Int))) (x : Nat) : Int:=indexOf (L.getD x default) (outs c x)
def topsOf (c : Cat) (L : List (List (List Int))) : List Int:=(List.range L.length).map (topOf c L)
theorem map_range_succ {α : Type} (f : Nat→α) (k : Nat) : (List.range (k+1)).map f=(List.range k).map f++[f k]:=by rw [List.range_succ]; simp
theorem getD_map_range {α : Type} (f : Nat→α) (d : α) {n k : Nat} (h : k<n) : ((List.range n).map f).getD k d=f k:=by
 simp [List.getD_eq_getElem?_getD,h]
@[go_sem] def tabCells (c : Cat) (L : List (List (List Int))) : List AV:=[iI c.objs,iL c.frm,iL c.to,iL c.idn,iLL c.comp,iLLL L,iLL (pullsOf c L),iL (topsOf c L)]
@[go_sem] def tabZ : List AV:=[.int .i64 0,.nilsl,.nilsl,.nilsl,.nilsl,.nilsl,.nilsl,.nilsl]
theorem indexOf_in {α : Type} [DecidableEq α] [Inhabited α] {l : List α} {a : α} (h : a∈l) : 0≤indexOf l a∧(indexOf l a).toNat<l.length∧ix l (indexOf l a)=a:=by
 unfold indexOf
 split
 ·rename_i i e
  rw [List.idxOf?_eq_some_iff] at e
  obtain ⟨hi,e,_⟩:=e;refine ⟨by omega,by simpa using hi, ?_⟩
  simpa [ix,List.getD_eq_getElem?_getD,hi] using e
 ·rename_i e; rw [List.idxOf?_eq_none_iff] at e; exact absurd h e
theorem indexOf_nodup {α : Type} [DecidableEq α] [Inhabited α] {l : List α} (h : l.Nodup) {k : Nat} (hk : k<l.length) : indexOf l (l.getD k default)=k:=by
 refine indexOf_hit hk (fun i hi e=>?_) rfl
 have h1 : i<l.length:=by omega
 have:=(List.getElem_inj h (h₀:=h1) (h₁:=hk)).mp (by simpa [List.getD_eq_getElem?_getD,h1,hk] using e);omega
end Go.Shf
namespace Go.Shf
open Go.AW
theorem map_getD {α β : Type} [Inhabited α] (f : α→β) {l : List α} {k : Nat} {d : β} (h : k<l.length) : (l.map f).getD k d=f (l.getD k default):=by simp [List.getD_eq_getElem?_getD,h]
end Go.Shf
namespace Go.Shf
open Go.AW
end Go.Shf
namespace Go.Shf
open Go.AW
structure Lk where
 i : Int
 j : Int
 left : List Int
 right : List Int
 deriving Inhabited
def Fits (p : List Int) (l : Lk) : Prop:=0≤ix p l.i→0≤ix p l.j→ix l.left (ix p l.i)=ix l.right (ix p l.j)
def Cons (ls : List Lk) (p : List Int) : Prop:=∀ l,l∈ls→Fits p l
structure LksOk (sizes : List Int) (ls : List Lk) : Prop where
 i : ∀ l,l∈ls→0≤l.i∧l.i.toNat<sizes.length
 j : ∀ l,l∈ls→0≤l.j∧l.j.toNat<sizes.length
 left : ∀ l,l∈ls→(l.left.length : Int)=ix sizes l.i
 right : ∀ l,l∈ls→(l.right.length : Int)=ix sizes l.j
 sz : ∀ y,y∈sizes→0≤y∧y≤4096
structure Ext (sizes : List Int) (ls : List Lk) (p t : List Int) : Prop where
 len : t.length=p.length
 new : ∀ n,n<p.length→p.getD n default=-1→0≤t.getD n default∧t.getD n default<sizes.getD n default
 old : ∀ n,n<p.length→p.getD n default≠-1→t.getD n default=p.getD n default
 cons : Cons ls t
def ChP (ls : List Lk) (p : List Int) (n : Nat) (e : Int) : Prop:=∀ l,l∈ls→l.i=n∨l.j=n→Fits (p.set n e) l
noncomputable def chP (ls : List Lk) (p : List Int) (n e : Nat) : Bool:=dec (ChP ls p n e)
noncomputable def choices (sizes : List Int) (ls : List Lk) (p : List Int) (n : Nat) : List Int:=nats (chP ls p n) (sizes.getD n default).toNat
def PartL (sizes : List Int) (p : List Int) : Prop:=p.length=sizes.length∧∀ n,n<p.length→p.getD n default<0∨(0≤p.getD n default∧p.getD n default<sizes.getD n default)
structure IsLex (S : List Int→Prop) (L : List (List Int)) : Prop where
 srt : L.Pairwise fun s t=>cmp s t<0
 mem : ∀ t,t∈L↔S t
theorem IsLex.uniq {S : List Int→Prop} {L M : List (List Int)} (h : IsLex S L) (k : IsLex S M) : L=M:=by
 refine List.Perm.eq_of_pairwise (le:=fun s t=>cmp s t<0) (fun a b _ _ h1 h2=>?_) h.srt k.srt ?_
 ·have:=cmp_neg a b; omega
 ·refine (List.perm_ext_iff_of_nodup ?_ ?_).mpr fun s=>(h.mem s).trans (k.mem s).symm
  ·exact h.srt.imp fun {a b} h e=>by rw [cmp_zero.mpr e] at h; omega
  ·exact k.srt.imp fun {a b} h e=>by rw [cmp_zero.mpr e] at h; omega
theorem cmp_first : ∀ {s t : List Int} {n : Nat},n<s.length→n<t.length→(∀ i,i<n→s.getD i default=t.getD i default)→s.getD n default<t.getD n default→cmp s t<0
 | [],_,n,h,_,_,_=>by simp at h
 | _::_,[],n,_,h,_,_=>by simp at h
 | a::s,b::t,0,_,_,_,h=>by
  simp only [List.getD_cons_zero] at h;unfold cmp;rw [if_neg (by omega),if_pos h]; decide
 | a::s,b::t,n+1,h1,h2,h3,h4=>by
  have h0:=h3 0 (by omega);simp only [List.getD_cons_zero] at h0;simp only [List.getD_cons_succ] at h4;unfold cmp;rw [if_pos h0];exact cmp_first (by simpa using h1) (by simpa using h2) (fun i hi=>by have:=h3 (i+1) (by omega); simpa using this) h4
section
variable {sizes : List Int} {ls : List Lk} {p t : List Int}
theorem ix_set (p : List Int) (n : Nat) (e i : Int) (h0 : 0≤i) : ix (p.set n e) i=if i=n∧n<p.length then e else ix p i:=by
 simp only [ix,getD_set]
 by_cases h : n=i.toNat∧i.toNat<p.length
 ·rw [if_pos h,if_pos ⟨by omega,by omega⟩]
 ·rw [if_neg h,if_neg fun h2=>h ⟨by omega,by omega⟩]
theorem Ext.choice (ok : LksOk sizes ls) (hp : p.length=sizes.length) (h : Ext sizes ls p t) {n : Nat} (hn : n<p.length) (h1 : p.getD n default=-1) :
  (0≤t.getD n default∧t.getD n default<sizes.getD n default)∧ChP ls p n (t.getD n default)∧Ext sizes ls (p.set n (t.getD n default)) t:=by
 have hr:=h.new n hn h1
 have key : ∀ i : Int,0≤i→i.toNat<p.length→0≤ix (p.set n (t.getD n default)) i→ix (p.set n (t.getD n default)) i=ix t i:=by
  intro i h0 hi h2;rw [ix_set _ _ _ _ h0] at h2 ⊢
  split
  ·rename_i e; simp only [ix]; rw [e.1,Int.toNat_natCast]
  ·rename_i e
   rw [if_neg e] at h2;simp only [ix] at h2 ⊢;exact (h.old _ hi (by omega)).symm
 refine ⟨hr,fun l hl _ h2 h3=>?_, ?_⟩
 ·have a:=ok.i l hl
  have b:=ok.j l hl;rw [key _ a.1 (by omega) h2] at *;rw [key _ b.1 (by omega) h3] at *;exact h.cons l hl h2 h3
 ·refine ⟨by rw [List.length_set]; exact h.len,fun m hm e=>?_,fun m hm e=>?_,h.cons⟩
  ·rw [List.length_set] at hm;rw [getD_set] at e
   split at e
   ·omega
   ·exact h.new m hm e
  ·rw [List.length_set] at hm;rw [getD_set] at e ⊢
   split
   ·rename_i e2; rw [e2.1]
   ·rename_i e2; rw [if_neg e2] at e; exact h.old m hm e
theorem Ext.of_set {n : Nat} (h1 : p.getD n default=-1) {e : Int} (he : 0≤e∧e<sizes.getD n default) (hn : n<p.length) (h : Ext sizes ls (p.set n e) t) : Ext sizes ls p t∧t.getD n default=e:=by
 have hte : t.getD n default=e:=by
  have:=h.old n (by rw [List.length_set]; exact hn);rw [getD_set,if_pos ⟨rfl,hn⟩] at this;exact this (by omega)
 refine ⟨⟨by rw [h.len,List.length_set],fun m hm e2=>?_,fun m hm e2=>?_,h.cons⟩,hte⟩
 ·by_cases e3 : n=m
  ·subst e3; rw [hte]; exact he
  ·have:=h.new m (by rw [List.length_set]; exact hm);rw [getD_set,if_neg fun h=>e3 h.1] at this;exact this e2
 ·have e3 : n≠m:=by rintro rfl; exact e2 h1
  have:=h.old m (by rw [List.length_set]; exact hm);rw [getD_set,if_neg fun h=>e3 h.1] at this;exact this e2
theorem cons_set (ok : LksOk sizes ls) {n : Nat} {e : Int} (hc : Cons ls p) (h : ChP ls p n e) : Cons ls (p.set n e):=by
 intro l hl
 by_cases ht : l.i=n∨l.j=n
 ·exact h l hl ht
 ·have a:=ok.i l hl
  have b:=ok.j l hl
  have:=hc l hl;simp only [Fits] at this ⊢;rw [ix_set _ _ _ _ a.1,ix_set _ _ _ _ b.1,if_neg fun h=>ht (.inl h.1),if_neg fun h=>ht (.inr h.1)];exact this
theorem lex_none (h : ∀ t,¬ Ext sizes ls p t) : IsLex (Ext sizes ls p) []:=⟨.nil,fun t=>by simp [h t]⟩
theorem lex_prune (ok : LksOk sizes ls) (hp : p.length=sizes.length) {n : Nat} (hn : n<p.length) (h1 : p.getD n default=-1) (h : choices sizes ls p n=[]) : IsLex (Ext sizes ls p) []:=by
 refine lex_none fun t ht=>?_
 have:=ht.choice ok hp hn h1
 have hm : t.getD n default∈choices sizes ls p n:=by
  rw [choices,mem_nats];refine ⟨this.1.1,by omega, ?_⟩;rw [chP,dec_iff,Int.toNat_of_nonneg this.1.1]; exact this.2.1
 rw [h] at hm; simp at hm
theorem lex_full (hc : Cons ls p) (h : ∀ n,n<p.length→p.getD n default≠-1) : IsLex (Ext sizes ls p) [p]:=by
 refine ⟨by simp,fun t=>?_⟩;rw [List.mem_singleton]
 constructor
 ·rintro rfl; exact ⟨rfl,fun n hn e=>absurd e (h n hn),fun n hn e=>rfl,hc⟩
 ·intro ht;refine List.ext_getElem ht.len fun i h1 h2=>?_
  have:=ht.old i h2 (h i h2)
  simpa [List.getD_eq_getElem?_getD,h1,h2] using this
theorem mem_choices {n : Nat} {e : Int} : e∈choices sizes ls p n↔(0≤e∧e<sizes.getD n default)∧ChP ls p n e:=by
 rw [choices,mem_nats,chP,dec_iff]
 constructor
 ·rintro ⟨h1,h2,h3⟩; rw [Int.toNat_of_nonneg h1] at h3; exact ⟨⟨h1,by omega⟩,h3⟩
 ·rintro ⟨⟨h1,h2⟩,h3⟩; exact ⟨h1,by omega,by rw [Int.toNat_of_nonneg h1]; exact h3⟩
theorem lex_step (ok : LksOk sizes ls) (hp : p.length=sizes.length) {n : Nat} (hn : n<p.length) (h1 : p.getD n default=-1) (hf : ∀ m,m<n→p.getD m default≠-1)
  (LL : Int→List (List Int)) (hL : ∀ e,e∈choices sizes ls p n→IsLex (Ext sizes ls (p.set n e)) (LL e)) : IsLex (Ext sizes ls p) ((choices sizes ls p n).flatMap LL):=by
 have hsub : ∀ e,e∈choices sizes ls p n→∀ t,t∈LL e→Ext sizes ls p t∧t.getD n default=e:=by
  intro e he t ht
  have h:=((hL e he).mem t).mp ht;exact h.of_set h1 (mem_choices.mp he).1 hn
 refine ⟨?_,fun t=>?_⟩
 ·have hr : (choices sizes ls p n).Pairwise (·<·):=rising_pw.mp (nats_rising _ _);rw [List.pairwise_flatMap];refine ⟨fun e he=>(hL e he).srt, ?_⟩
  have hmem : ∀ (l : List Int),l.Pairwise (·<·)→(∀ e,e∈l→e∈choices sizes ls p n)→l.Pairwise fun a b=>∀ x,x∈LL a→∀ y,y∈LL b→cmp x y<0:=by
   intro l hl
   induction hl with
   | nil=>intro _; exact .nil
   | cons h _ ih =>
    intro hs;refine .cons (fun b hb x hx y hy=>?_) (ih fun e he=>hs e (by simp [he]))
    have a1:=hsub _ (hs _ (by simp)) x hx
    have a2:=hsub _ (hs b (by simp [hb])) y hy;refine cmp_first (n:=n) (by rw [a1.1.len]; exact hn) (by rw [a2.1.len]; exact hn) (fun i hi=>?_) (by rw [a1.2,a2.2]; exact h b hb);rw [a1.1.old i (by omega) (hf i hi),a2.1.old i (by omega) (hf i hi)]
  exact hmem _ hr fun _ h=>h
 ·rw [List.mem_flatMap]
  constructor
  ·rintro ⟨e,he,ht⟩; exact (hsub e he t ht).1
  ·intro ht
   have:=ht.choice ok hp hn h1
   have hm:=mem_choices.mpr ⟨this.1,this.2.1⟩;exact ⟨_,hm,((hL _ hm).mem t).mpr this.2.2⟩
theorem Ext.part {q : List Int} (hq : q.length=sizes.length) (h : Ext sizes ls (List.replicate sizes.length (-1)) t) (hv : ∀ n,n<q.length→q.getD n default=-1∨q.getD n default=-2) (ok : LksOk sizes ls) :
  ∃ u,Ext sizes ls q u:=by
 have htl : t.length=sizes.length:=by rw [h.len]; simp
 refine ⟨(List.range q.length).map fun n=>if q.getD n default=-1 then t.getD n default else -2,by simp,fun n hn e=>?_,fun n hn e=>?_,fun l hl=>?_⟩
 ·rw [getD_map_range _ _ hn,if_pos e];exact h.new n (by simp; omega) (by simp [List.getD_eq_getElem?_getD,show n<sizes.length by omega])
 ·rw [getD_map_range _ _ hn,if_neg e];exact ((hv n hn).resolve_left e).symm
 ·have a:=ok.i l hl
  have b:=ok.j l hl
  have key : ∀ i : Int,0≤i→i.toNat<sizes.length→0≤ix ((List.range q.length).map fun n=>if q.getD n default=-1 then t.getD n default else -2) i →
    ix ((List.range q.length).map fun n=>if q.getD n default=-1 then t.getD n default else -2) i=ix t i:=by
   intro i h0 hi h2;simp only [ix] at h2 ⊢;rw [getD_map_range _ _ (by omega)] at h2 ⊢
   split
   ·rfl
   ·rename_i e; rw [if_neg e] at h2; omega
  intro h2 h3;rw [key _ a.1 a.2 h2] at *;rw [key _ b.1 b.2 h3] at *;exact h.cons l hl h2 h3
end
end Go.Shf
namespace Go.Shf
open Go.AW
section
variable {l : Lk} {p : List Int} {n : Nat} {e : Int}
theorem fits_A (hi : l.i=n) (hj : l.j=n) (hn : n<p.length) (he : 0≤e) : Fits (p.set n e) l↔ix l.left e=ix l.right e:=by
 have h1 : ix (p.set n e) l.i=e:=by rw [ix_set _ _ _ _ (by omega),if_pos ⟨hi,hn⟩]
 have h2 : ix (p.set n e) l.j=e:=by rw [ix_set _ _ _ _ (by omega),if_pos ⟨hj,hn⟩]
 rw [Fits,h1,h2]; exact ⟨fun h=>h he he,fun h _ _=>h⟩
theorem fits_B (hi : l.i=n) (hj : l.j≠n) (hj0 : 0≤l.j) (hn : n<p.length) (he : 0≤e) (hp : 0≤ix p l.j) : Fits (p.set n e) l↔ix l.left e=ix l.right (ix p l.j):=by
 have h1 : ix (p.set n e) l.i=e:=by rw [ix_set _ _ _ _ (by omega),if_pos ⟨hi,hn⟩]
 have h2 : ix (p.set n e) l.j=ix p l.j:=by rw [ix_set _ _ _ _ hj0,if_neg fun h=>hj h.1]
 rw [Fits,h1,h2]; exact ⟨fun h=>h he hp,fun h _ _=>h⟩
theorem fits_B' (hj : l.j≠n) (hj0 : 0≤l.j) (hp : ¬ 0≤ix p l.j) : Fits (p.set n e) l:=by
 have h2 : ix (p.set n e) l.j=ix p l.j:=by rw [ix_set _ _ _ _ hj0,if_neg fun h=>hj h.1]
 intro _ h; rw [h2] at h; exact absurd h hp
theorem fits_C (hj : l.j=n) (hi : l.i≠n) (hi0 : 0≤l.i) (hn : n<p.length) (he : 0≤e) (hp : 0≤ix p l.i) : Fits (p.set n e) l↔ix l.left (ix p l.i)=ix l.right e:=by
 have h1 : ix (p.set n e) l.j=e:=by rw [ix_set _ _ _ _ (by omega),if_pos ⟨hj,hn⟩]
 have h2 : ix (p.set n e) l.i=ix p l.i:=by rw [ix_set _ _ _ _ hi0,if_neg fun h=>hi h.1]
 rw [Fits,h1,h2]; exact ⟨fun h=>h hp he,fun h _ _=>h⟩
theorem fits_C' (hi : l.i≠n) (hi0 : 0≤l.i) (hp : ¬ 0≤ix p l.i) : Fits (p.set n e) l:=by
 have h2 : ix (p.set n e) l.i=ix p l.i:=by rw [ix_set _ _ _ _ hi0,if_neg fun h=>hi h.1]
 intro h; rw [h2] at h; exact absurd h hp
end
structure AtOk (sizes : List Int) (ls : List Lk) (at' : List (List Int)) : Prop where
 len : at'.length=sizes.length
 mem : ∀ n : Nat,n<sizes.length→∀ y,y∈at'.getD n default↔0≤y∧y.toNat<ls.length∧((ls.getD y.toNat default).i=n∨(ls.getD y.toNat default).j=n)
theorem chP_at {sizes : List Int} {ls : List Lk} {at' : List (List Int)} (h : AtOk sizes ls at') {p : List Int} {n : Nat} {e : Int} (hn : n<sizes.length) :
  ChP ls p n e↔∀ k,k<(at'.getD n default).length→Fits (p.set n e) (ix ls ((at'.getD n default).getD k default)):=by
 constructor
 ·intro hc k hk
  have:=(h.mem n hn _).mp (mem_getD.mpr ⟨k,hk,rfl⟩);exact hc _ (ix_mem this.2.1) this.2.2
 ·intro hc l hl ht
  obtain ⟨i,hi,rfl⟩:=mem_getD.mp hl
  have:=(h.mem n hn i).mpr ⟨by omega,by simpa using hi,by simpa using ht⟩
  obtain ⟨k,hk,e⟩:=mem_getD.mp this
  have:=hc k hk;rw [e,ix_nat] at this; exact this
end Go.Shf
namespace Go.Shf
open Go.AW
def unset (p : List Int) : Nat:=p.countP fun y=>decide (y=-1)
section
variable {sizes : List Int} {ls : List Lk} {p : List Int}
theorem unset_set {n : Nat} {e : Int} (hn : n<p.length) (h1 : p.getD n default=-1) (he : 0≤e) : unset (p.set n e)<unset p:=by
 have hg : p[n]=-1:=by simpa [List.getD_eq_getElem?_getD,hn] using h1
 have hpos : 0<unset p:=by
  rw [unset,List.countP_pos_iff]; exact ⟨p[n],List.getElem_mem hn,by simp [hg]⟩
 rw [unset,List.countP_set hn]
 have h2 : ¬ e=-1:=by omega
 simp only [hg,decide_true,if_true,h2,decide_false,Bool.false_eq_true,if_false];unfold unset at hpos ⊢; omega
theorem PartL.set {n : Nat} {e : Int} (h : PartL sizes p) (he : 0≤e∧e<sizes.getD n default) : PartL sizes (p.set n e):=by
 refine ⟨by rw [List.length_set]; exact h.1,fun m hm=>?_⟩;rw [List.length_set] at hm;rw [getD_set]
 split
 ·rename_i e2; rw [← e2.1]; exact .inr he
 ·exact h.2 m hm
theorem lex_ex (ok : LksOk sizes ls) : ∀ (n : Nat) (p : List Int),unset p=n→PartL sizes p→Cons ls p→∃ L,IsLex (Ext sizes ls p) L:=by
 intro n
 induction n using Nat.strongRecOn with
 | _ n ih =>
  intro p hn hp hc
  by_cases hf : ∃ m,m<p.length∧p.getD m default=-1
  ·have : ∃ f,(f<p.length∧p.getD f default=-1)∧∀ m,m<f→¬ (m<p.length∧p.getD m default=-1):=by
    have key : ∀ k,(∃ m,m≤k∧m<p.length∧p.getD m default=-1)→∃ f,(f<p.length∧p.getD f default=-1)∧∀ m,m<f→¬ (m<p.length∧p.getD m default=-1):=by
     intro k
     induction k with
     | zero=>rintro ⟨m,h0,h⟩; exact ⟨m,h,fun i hi=>by omega⟩
     | succ k ihk =>
      rintro ⟨m,h0,h⟩
      by_cases h2 : ∃ m,m≤k∧m<p.length∧p.getD m default=-1
      ·exact ihk h2
      ·exact ⟨m,h,fun i hi hh=>h2 ⟨i,by omega,hh⟩⟩
    obtain ⟨m,hm⟩:=hf;exact key m ⟨m,Nat.le_refl _,hm⟩
   obtain ⟨f,⟨hfl,h1⟩,hmin⟩:=this
   have hL : ∀ e,e∈choices sizes ls p f→∃ L,IsLex (Ext sizes ls (p.set f e)) L:=by
    intro e he
    have hm:=mem_choices.mp he;exact ih _ (hn ▸ unset_set hfl h1 hm.1.1) _ rfl (hp.set hm.1) (cons_set ok hc hm.2)
   have : ∃ LL : Int→List (List Int),∀ e,e∈choices sizes ls p f→IsLex (Ext sizes ls (p.set f e)) (LL e):=by
    refine ⟨fun e=>@dite _ (e∈choices sizes ls p f) (Classical.propDecidable _) (fun h=>Classical.choose (hL e h)) fun _=>[],fun e he=>?_⟩
    show IsLex _ (@dite _ (e∈choices sizes ls p f) (Classical.propDecidable _) (fun h=>Classical.choose (hL e h)) fun _=>[])
    rw [dif_pos he]; exact Classical.choose_spec (hL e he)
   obtain ⟨LL,hLL⟩:=this;exact ⟨_,lex_step ok hp.1 hfl h1 (fun m hm e=>hmin m hm ⟨by omega,e⟩) LL hLL⟩
  ·exact ⟨[p],lex_full hc fun m hm e=>hf ⟨m,hm,e⟩⟩
open Classical in
noncomputable def exS (sizes : List Int) (ls : List Lk) (p : List Int) : List (List Int):=if h : ∃ L,IsLex (Ext sizes ls p) L then Classical.choose h else []
theorem exS_eq {L : List (List Int)} (h : IsLex (Ext sizes ls p) L) : exS sizes ls p=L:=by
 have he : ∃ L,IsLex (Ext sizes ls p) L:=⟨L,h⟩;rw [exS,dif_pos he];exact (Classical.choose_spec he).uniq h
theorem exS_is (ok : LksOk sizes ls) (hp : PartL sizes p) (hc : Cons ls p) : IsLex (Ext sizes ls p) (exS sizes ls p):=by
 have he:=lex_ex ok _ p rfl hp hc;rw [exS,dif_pos he]; exact Classical.choose_spec he
theorem exS_step (ok : LksOk sizes ls) (hp : PartL sizes p) (hc : Cons ls p) {n : Nat} (hn : n<p.length) (h1 : p.getD n default=-1) (hf : ∀ m,m<n→p.getD m default≠-1) :
  exS sizes ls p=(choices sizes ls p n).flatMap fun e=>exS sizes ls (p.set n e) :=
 exS_eq (lex_step ok hp.1 hn h1 hf _ fun e he=>by
  have hm:=mem_choices.mp he;exact exS_is ok (hp.set hm.1) (cons_set ok hc hm.2))
end
def GoA (sizes : List Int) (ls : List Lk) (p : List Int) (k : Nat) (first : Int) (ch : List Int) : Prop :=
 (first=-1∧ch=[]∧∀ m,k≤m→m<p.length→p.getD m default≠-1) ∨
 ∃ f : Nat,first=f∧k≤f∧f<p.length∧p.getD f default=-1∧(∀ m,k≤m→m<f→p.getD m default≠-1)∧ch=choices sizes ls p f∧ch≠[]
theorem GoA.skip {sizes : List Int} {ls : List Lk} {p : List Int} {k : Nat} {first : Int} {ch : List Int} (h : GoA sizes ls p (k+1) first ch) (hk : p.getD k default≠-1) : GoA sizes ls p k first ch:=by
 rcases h with ⟨h1,h2,h3⟩ | ⟨f,h1,h2,h3,h4,h5,h6⟩
 ·exact .inl ⟨h1,h2,fun m hm hl=>by
   by_cases e : m=k
   ·subst e; exact hk
   ·exact h3 m (by omega) hl⟩
 ·exact .inr ⟨f,h1,by omega,h3,h4,fun m hm hl=>by
   by_cases e : m=k
   ·subst e; exact hk
   ·exact h5 m (by omega) hl,h6⟩
theorem GoA.hit {sizes : List Int} {ls : List Lk} {p : List Int} {k : Nat} (hl : k<p.length) (hk : p.getD k default=-1) (hc : choices sizes ls p k≠[]) : GoA sizes ls p k k (choices sizes ls p k) :=
 .inr ⟨k,rfl,Nat.le_refl _,hl,hk,fun m h1 h2=>by omega,rfl,hc⟩
end Go.Shf
namespace Go.Shf
open Go.AW
structure AtI (n : Nat) (ls : List Lk) (k : Nat) (As : List (List Int)) : Prop where
 len : As.length=n
 mem : ∀ m : Nat,m<n→∀ y,y∈As.getD m []↔0≤y∧y.toNat<k∧((ls.getD y.toNat default).i=m∨(ls.getD y.toNat default).j=m)
 lens : ∀ m : Nat,m<n→(As.getD m []).length≤k
theorem AtI.zero (n : Nat) (ls : List Lk) : AtI n ls 0 (List.replicate n []):=by
 refine ⟨by simp,fun m hm y=>?_,fun m hm=>?_⟩
 ·simp [List.getD_eq_getElem?_getD,hm]
 ·simp [List.getD_eq_getElem?_getD,hm]
theorem AtI.step {n : Nat} {ls : List Lk} {k : Nat} {As : List (List Int)} (h : AtI n ls k As) {i j : Nat} (hi : i<n) (hj : j<n) (ei : (ls.getD k default).i=i) (ej : (ls.getD k default).j=j) :
  AtI n ls (k+1) (if i=j then As.set i (As.getD i []++[(k : Int)]) else (As.set i (As.getD i []++[(k : Int)])).set j ((As.set i (As.getD i []++[(k : Int)])).getD j []++[(k : Int)])):=by
 have hl:=h.len
 have gm : ∀ m : Nat,m<n→(if i=j then As.set i (As.getD i []++[(k : Int)]) else (As.set i (As.getD i []++[(k : Int)])).set j ((As.set i (As.getD i []++[(k : Int)])).getD j []++[(k : Int)])).getD m [] =
   if m=i∨m=j then As.getD m []++[(k : Int)] else As.getD m []:=by
  intro m hm
  by_cases e : i=j
  ·subst e;rw [if_pos rfl,getD_set]
   by_cases e2 : i=m
   ·subst e2; rw [if_pos ⟨rfl,by omega⟩,if_pos (.inl rfl)]
   ·rw [if_neg fun h=>e2 h.1,if_neg]; rintro (h | h) <;> exact e2 h.symm
  ·rw [if_neg e,getD_set,List.length_set]
   by_cases e2 : j=m
   ·subst e2;rw [if_pos ⟨rfl,by omega⟩,if_pos (.inr rfl),getD_set,if_neg fun h=>e h.1]
   ·rw [if_neg fun h=>e2 h.1,getD_set]
    by_cases e3 : i=m
    ·subst e3; rw [if_pos ⟨rfl,by omega⟩,if_pos (.inl rfl)]
    ·rw [if_neg fun h=>e3 h.1,if_neg]; rintro (h | h)
     ·exact e3 h.symm
     ·exact e2 h.symm
 refine ⟨?_,fun m hm y=>?_,fun m hm=>?_⟩
 ·split <;> simp [hl]
 ·rw [gm m hm]
  have:=h.mem m hm y
  split
  ·rename_i e
   rw [List.mem_append,List.mem_singleton,this]
   constructor
   ·rintro (⟨h1,h2,h3⟩ | rfl)
    ·exact ⟨h1,by omega,h3⟩
    ·refine ⟨by omega,by simp, ?_⟩;rw [Int.toNat_natCast,ei,ej]
     rcases e with e | e
     ·exact .inl (by rw [e])
     ·exact .inr (by rw [e])
   ·rintro ⟨h1,h2,h3⟩
    by_cases e2 : y.toNat=k
    ·exact .inr (by omega)
    ·exact .inl ⟨h1,by omega,h3⟩
  ·rename_i e
   rw [this]
   constructor
   ·rintro ⟨h1,h2,h3⟩; exact ⟨h1,by omega,h3⟩
   ·rintro ⟨h1,h2,h3⟩;refine ⟨h1, ?_,h3⟩
    by_cases e2 : y.toNat=k
    ·exfalso; apply e
     rw [e2,ei,ej] at h3
     rcases h3 with h3 | h3
     ·exact .inl (by omega)
     ·exact .inr (by omega)
    ·omega
 ·rw [gm m hm]
  have:=h.lens m hm
  split
  ·rw [List.length_append,List.length_singleton]; omega
  ·omega
theorem AtI.ok {sizes : List Int} {ls : List Lk} {As : List (List Int)} (h : AtI sizes.length ls ls.length As) : AtOk sizes ls As:=⟨h.len,fun n hn y=>by
 have:=h.mem n hn y;exact this⟩
theorem cons_neg {ls : List Lk} {sizes p : List Int} (ok : LksOk sizes ls) (hl : p.length=sizes.length) (h : ∀ n,n<p.length→p.getD n default<0) : Cons ls p:=by
 intro l hm h1 _
 have:=ok.i l hm
 have:=h l.i.toNat (by omega);simp only [ix] at h1; omega
end Go.Shf
namespace Go.Shf
open Go.AW
def lkRow (c : Cat) (s : List Int) (i b : Nat) : List Int:=[(i : Int),(b : Int),indexOf s (ix (ix c.comp (s.getD i default)) b)]
def hitP (c : Cat) (s : List Int) (i b : Nat) : Bool:=decide (c.frm.getD b default=ix c.to (s.getD i default))
def rowsAt (c : Cat) (s : List Int) (i n : Nat) : List (List Int):=((List.range n).filter (hitP c s i)).map (lkRow c s i)
def rowsTo (c : Cat) (s : List Int) (k : Nat) : List (List Int):=(List.range k).flatMap fun i=>rowsAt c s i c.frm.length
def rowsOf (c : Cat) (s : List Int) : List (List Int):=rowsTo c s s.length
def famSizes (f : SF) (s : List Int) : List Int:=s.map fun a=>ix f.sizes (ix f.shape.to a)
def natsL (n : Int) : List Int:=(List.range n.toNat).map Int.ofNat
theorem natsL_ix {n y : Int} (h : 0≤y∧y<n) : ix (natsL n) y=y:=by
 rw [ix,natsL,getD_map_range _ _ (by omega)]; exact Int.toNat_of_nonneg h.1
def lkOf (f : SF) (s r : List Int) : Lk:=⟨r.getD 0 default,r.getD 2 default,ix f.acts (r.getD 1 default),natsL (ix (famSizes f s) (r.getD 2 default))⟩
def famLinks (f : SF) (s : List Int) : List Lk:=(rowsOf f.shape s).map (lkOf f s)
noncomputable def solS (sizes : List Int) (ls : List Lk) : List (List Int):=exS sizes ls (List.replicate sizes.length (-1))
noncomputable def famS (f : SF) (s : List Int) : List (List Int):=solS (famSizes f s) (famLinks f s)
section
variable {f : SF} {x : Int} {s : List Int}
theorem SF.Shape.sizeAt (h : f.Shape) {y : Int} (hy : 0≤y∧y<f.shape.objs) : 0≤ix f.sizes y∧ix f.sizes y≤16:=by
 have:=h.sl
 have:=h.sz _ (ix_mem (l:=f.sizes) (i:=y) (by omega)); omega
end
end Go.Shf
namespace Go.Shf
open Go.AW
def movedF (c : Cat) (V : List (List Int)) (a : Int) (t : List Int) : List Int:=(ix V (ix c.to a)).map fun b=>ix t (indexOf (ix V (ix c.frm a)) (ix (ix c.comp a) b))
noncomputable def famAt (f : SF) (V : List (List Int)) (x : Nat) : List (List Int):=famS f (V.getD x default)
noncomputable def famsOf (f : SF) (V : List (List Int)) : List (List (List Int)):=(List.range V.length).map (famAt f V)
noncomputable def sizeAt (f : SF) (V : List (List Int)) (x : Nat) : Int:=((famAt f V x).length : Int)
noncomputable def stepSizes (f : SF) (V : List (List Int)) : List Int:=(List.range V.length).map (sizeAt f V)
noncomputable def actAt (f : SF) (V : List (List Int)) (a : Nat) : List Int :=
 (famAt f V (f.shape.frm.getD a default).toNat).map fun t=>indexOf (famAt f V (f.shape.to.getD a default).toNat) (movedF f.shape V a t)
noncomputable def stepActs (f : SF) (V : List (List Int)) : List (List Int):=(List.range f.shape.frm.length).map (actAt f V)
def SF.CompL (f : SF) : Prop:=∀ a b : Int,(0≤a∧a.toNat<f.shape.frm.length)→(0≤b∧b.toNat<f.shape.frm.length)→ix f.shape.to a=ix f.shape.frm b→∀ e : Int,0≤e∧e.toNat<(ix f.acts a).length →
 ix (ix f.acts (ix (ix f.shape.comp a) b)) e=ix (ix f.acts b) (ix (ix f.acts a) e)
theorem SF.Is.compL {f : SF} (h : f.Is) : f.CompL:=fun a b ha hb e x hx=>by
 have:=h.2.comp a.toNat b.toNat ha.2 hb.2 e x.toNat hx.2;exact this
end Go.Shf
namespace Go.Shf
open Go.AW
end Go.Shf
namespace Go.Shf
open Go.AW
end Go.Shf
namespace Go.Shf
open Go.AW
end Go.Shf
namespace Go.Shf
open Go.AW
end Go.Shf
namespace Go.Shf
open Go.AW
end Go.Shf
namespace Go.Shf
open Go.AW
end Go.Shf
namespace Go.Shf
open Go.AW
structure MapL (f g : SF) (p : List (List Int)) : Prop where
 len : (p.length : Int)=f.shape.objs
 pl : ∀ x : Int,0≤x∧x<f.shape.objs→((ix p x).length : Int)=ix f.sizes x∧∀ e : Int,0≤e∧e<ix f.sizes x→0≤ix (ix p x) e∧ix (ix p x) e<ix g.sizes x
 nl : ∀ b : Int,0≤b∧b.toNat<f.shape.frm.length→∀ e : Int,0≤e∧e<ix f.sizes (ix f.shape.frm b)→ix (ix p (ix f.shape.to b)) (ix (ix f.acts b) e)=ix (ix g.acts b) (ix (ix p (ix f.shape.frm b)) e)
end Go.Shf
namespace Go.Shf
open Go.AW
section
variable {f : SF} {L p : List (List (List Int))} {q m : List (List Int)}
theorem SF.Shape.inAct (h : f.Shape) {a e : Int} (ha : 0≤a∧a.toNat<f.shape.frm.length) (he : 0≤e∧e<ix f.sizes (ix f.shape.frm a)) : 0≤e∧e.toNat<(ix f.acts a).length:=by
 have:=h.actLen ha.2; omega
theorem SF.Shape.inX (h : f.Shape) {x : Int} (hx : 0≤x∧x<f.shape.objs) : 0≤x∧x.toNat<f.sizes.length:=by have:=h.sl; omega
theorem SF.Shape.actTo (h : f.Shape) {a e : Int} (ha : 0≤a∧a.toNat<f.shape.frm.length) (he : 0≤e∧e<ix f.sizes (ix f.shape.frm a)) : 0≤ix (ix f.acts a) e∧ix (ix f.acts a) e<ix f.sizes (ix f.shape.to a) :=
 (h.act a.toNat (by rw [h.al]; exact ha.2)).2 _ (ix_mem (h.inAct ha he).2)
theorem MapL.ext {g : SF} {m n : List (List Int)} (hm : MapL f g m) (hn : MapL f g n) (h : ∀ x e : Int,0≤x∧x<f.shape.objs→0≤e∧e<ix f.sizes x→ix (ix m x) e=ix (ix n x) e) : m=n:=by
 have l1:=hm.len
 have l2:=hn.len;refine List.ext_getElem (by omega) fun i h1 h2=>?_
 have hi : 0≤(i : Int)∧(i : Int)<f.shape.objs:=by omega
 have r1:=(hm.pl i hi).1
 have r2:=(hn.pl i hi).1
 have e1 : ix m (i : Int)=m[i]:=by simp [ix_nat,List.getD_eq_getElem?_getD,h1]
 have e2 : ix n (i : Int)=n[i]:=by simp [ix_nat,List.getD_eq_getElem?_getD,h2]
 rw [e1] at r1;rw [e2] at r2;refine List.ext_getElem (by omega) fun j k1 k2=>?_
 have:=h i j hi (by omega);rw [e1,e2] at this
 simpa [ix_nat,List.getD_eq_getElem?_getD,k1,k2] using this
end
end Go.Shf
namespace Go.Shf
open Go.AW
def ltT (s t : List (List Int)) : Prop:=∃ x e : Nat,(∀ y i : Nat,(y<x∨(y=x∧i<e))→(s.getD y default).getD i default=(t.getD y default).getD i default) ∧
 (s.getD x default).getD e default<(t.getD x default).getD e default
theorem ltT_asymm {s t : List (List Int)} (h : ltT s t) (k : ltT t s) : False:=by
 obtain ⟨x,e,h1,h2⟩:=h
 obtain ⟨y,i,k1,k2⟩:=k
 by_cases hlt : y<x∨(y=x∧i<e)
 ·have:=h1 y i hlt; omega
 ·by_cases hgt : x<y∨(x=y∧e<i)
  ·have:=k1 x e hgt; omega
  ·obtain rfl : x=y:=by omega
   obtain rfl : e=i:=by omega
   omega
def setT (p : List (List Int)) (y i k : Int) : List (List Int):=p.set y.toNat ((ix p y).set i.toNat k)
theorem setT_len (p : List (List Int)) (y i k : Int) : (setT p y i k).length=p.length:=by simp [setT]
theorem setT_row (p : List (List Int)) (y i k : Int) (x : Nat) : ((setT p y i k).getD x default).length=(p.getD x default).length:=by
 simp only [setT,List.getD_eq_getElem?_getD,List.getElem?_set]
 by_cases h : y.toNat=x
 ·subst h
  by_cases h2 : y.toNat<p.length
  ·simp [h2,ix,List.getD_eq_getElem?_getD]
  ·simp [h2,List.getElem?_eq_none (Nat.not_lt.mp h2)]
 ·rw [if_neg h]
theorem ix_setT (p : List (List Int)) {y i k : Int} (hy : 0≤y∧y.toNat<p.length) (hi : 0≤i∧i.toNat<(ix p y).length) {x e : Int} (hx : 0≤x) (he : 0≤e) :
  ix (ix (setT p y i k) x) e=if x=y∧e=i then k else ix (ix p x) e:=by
 simp only [setT,ix,List.getD_eq_getElem?_getD,List.getElem?_set]
 by_cases h : y.toNat=x.toNat
 ·have hxy : x=y:=by omega
  subst hxy;simp only [if_true,hy.2,if_true,Option.getD_some]
  have hi2:=hi.2;simp only [ix,List.getD_eq_getElem?_getD] at hi2;rw [List.getElem?_set]
  by_cases h2 : i.toNat=e.toNat
  ·have : e=i:=by omega
   subst this
   simp [hi2]
  ·have : ¬ e=i:=fun h=>h2 (by rw [h])
   simp [h2,this]
 ·have : ¬ x=y:=fun e=>h (by rw [e]);rw [if_neg h]
  simp [this]
section
variable {f g : SF}
structure PT (f g : SF) (p : List (List Int)) : Prop where
 len : p.length=f.sizes.length
 row : ∀ x : Nat,x<f.sizes.length→((p.getD x default).length : Int)=f.sizes.getD x default
 val : ∀ x e : Int,0≤x∧x<f.shape.objs→0≤e∧e<ix f.sizes x→ix (ix p x) e=-1∨(0≤ix (ix p x) e∧ix (ix p x) e<ix g.sizes x)
 cls : ∀ a : Int,(0≤a∧a.toNat<f.shape.frm.length)→∀ e : Int,0≤e∧e<ix f.sizes (ix f.shape.frm a)→0≤ix (ix p (ix f.shape.frm a)) e →
  ix (ix p (ix f.shape.to a)) (ix (ix f.acts a) e)=ix (ix g.acts a) (ix (ix p (ix f.shape.frm a)) e)
theorem PT.inT {p : List (List Int)} (h : f.Shape) (hp : PT f g p) {x e : Int} (hx : 0≤x∧x<f.shape.objs) (he : 0≤e∧e<ix f.sizes x) : (0≤x∧x.toNat<p.length)∧0≤e∧e.toNat<(ix p x).length:=by
 have hX:=h.inX hx
 have:=hp.row x.toNat hX.2
 have e0 : ix f.sizes x=f.sizes.getD x.toNat default:=rfl
 have e1 : (ix p x).length=(p.getD x.toNat default).length:=rfl
 have:=hp.len;exact ⟨⟨hx.1,by omega⟩,he.1,by omega⟩
def ExtT (f g : SF) (p t : List (List Int)) : Prop:=MapL f g t∧∀ x e : Int,0≤x∧x<f.shape.objs→0≤e∧e<ix f.sizes x→0≤ix (ix p x) e→ix (ix t x) e=ix (ix p x) e
structure ListsT (f g : SF) (p : List (List Int)) (M : List (List (List Int))) : Prop where
 srt : M.Pairwise ltT
 mem : ∀ t,t∈M↔ExtT f g p t
theorem ListsT.nodup {p : List (List Int)} {M : List (List (List Int))} (h : ListsT f g p M) : M.Nodup:=h.srt.imp fun {a b} h e=>by subst e; exact ltT_asymm h h
theorem ListsT.uniq {p : List (List Int)} {M N : List (List (List Int))} (h : ListsT f g p M) (k : ListsT f g p N) : M=N :=
 List.Perm.eq_of_pairwise (le:=ltT) (fun a b _ _ h1 h2=>(ltT_asymm h1 h2).elim) h.srt k.srt ((List.perm_ext_iff_of_nodup h.nodup k.nodup).mpr fun t=>(h.mem t).trans (k.mem t).symm)
structure SetM (f g : SF) (p : List (List Int)) (x e d : Int) (k : Nat) (p' : List (List Int)) (N : List (Int × Int)) : Prop where
 len : p'.length=p.length
 row : ∀ y : Nat,(p'.getD y default).length=(p.getD y default).length
 new : ∀ y i : Int,0≤y→0≤i→ix (ix p' y) i=ix (ix p y) i∨((y,i)∈N∧∃ a,a∈(outs f.shape x).take k∧ix f.shape.to a=y∧ix (ix f.acts a) e=i∧ix (ix p' y) i=ix (ix g.acts a) d)
 old : ∀ y i : Int,(y,i)∈N→(0≤y∧y.toNat<p.length)∧(0≤i∧i.toNat<(ix p y).length)∧ix (ix p y) i=-1
 hit : ∀ a,a∈(outs f.shape x).take k→ix (ix p' (ix f.shape.to a)) (ix (ix f.acts a) e)=ix (ix g.acts a) d
 nl : N.length≤k
theorem SetM.zero (f g : SF) (p : List (List Int)) (x e d : Int) : SetM f g p x e d 0 p []:=⟨rfl,fun _=>rfl,fun _ _ _ _=>.inl rfl,fun _ _ h=>by simp at h,fun a h=>by simp at h,by simp⟩
theorem SetM.rowI {p p' : List (List Int)} {x e d : Int} {k : Nat} {N : List (Int × Int)} (s : SetM f g p x e d k p' N) (y : Int) : (ix p' y).length=(ix p y).length:=s.row y.toNat
variable {p p' : List (List Int)} {x e d : Int} {k : Nat} {N : List (Int × Int)}
theorem take_one {α : Type} [Inhabited α] (l : List α) {k : Nat} (hk : k<l.length) : l.take (k+1)=l.take k++[l.getD k default]:=by
 have hN : l[k]=l.getD k default:=by simp [List.getD_eq_getElem?_getD,hk]
 rw [← hN]; exact (List.take_append_getElem hk).symm
theorem mem_take_succ {α : Type} [Inhabited α] {l : List α} {k : Nat} (hk : k<l.length) {a : α} : a∈l.take (k+1)↔a∈l.take k∨a=l.getD k default:=by
 rw [take_one l hk]; simp
theorem SetM.same (s : SetM f g p x e d k p' N) (hk : k<(outs f.shape x).length) {a : Int} (ea : (outs f.shape x).getD k default=a) (h : ix (ix p' (ix f.shape.to a)) (ix (ix f.acts a) e)=ix (ix g.acts a) d) :
  SetM f g p x e d (k+1) p' N where
 len:=s.len
 row:=s.row
 new y i hy hi:=(s.new y i hy hi).imp id fun ⟨h1,b,h2,h3⟩=>⟨h1,b,(mem_take_succ hk).mpr (.inl h2),h3⟩
 old:=s.old
 hit b hb:=by
  rcases (mem_take_succ hk).mp hb with h1 | h1
  ·exact s.hit b h1
  ·rw [h1,ea]; exact h
 nl:=by have:=s.nl; omega
structure At3 (f g : SF) (x e d : Int) : Prop where
 hf : f.Is
 hg : g.Is
 sh : f.shape=g.shape
 hx : 0≤x∧x<f.shape.objs
 he : 0≤e∧e<ix f.sizes x
 hd : 0≤d∧d<ix g.sizes x
theorem At3.arr (w : At3 f g x e d) {b : Int} (hb : b∈outs f.shape x) : (0≤b∧b.toNat<f.shape.frm.length)∧ix f.shape.frm b=x∧(0≤ix f.shape.to b∧ix f.shape.to b<f.shape.objs) ∧
  (0≤ix (ix f.acts b) e∧ix (ix f.acts b) e<ix f.sizes (ix f.shape.to b))∧(0≤ix (ix g.acts b) d∧ix (ix g.acts b) d<ix g.sizes (ix f.shape.to b)):=by
 have h:=mem_outs.mp hb
 have hb' : 0≤b∧b.toNat<f.shape.frm.length:=⟨h.1,h.2.1⟩
 have h3 : ix f.shape.frm b=x:=h.2.2;refine ⟨hb',h3,w.hf.1.is.1.toObj hb'.2,w.hf.1.actTo hb' (by rw [h3]; exact w.he), ?_⟩
 have:=w.hg.1.actTo (a:=b) (e:=d) (by rw [← w.sh]; exact hb') (by rw [← w.sh,h3]; exact w.hd);rw [← w.sh] at this;exact this
theorem SetM.fresh (w : At3 f g x e d) (hP : PT f g p) (s : SetM f g p x e d k p' N) (hk : k<(outs f.shape x).length) {a : Int} (ea : (outs f.shape x).getD k default=a)
  (h : ¬ 0≤ix (ix p' (ix f.shape.to a)) (ix (ix f.acts a) e)) :
  SetM f g p x e d (k+1) (setT p' (ix f.shape.to a) (ix (ix f.acts a) e) (ix (ix g.acts a) d)) (N++[(ix f.shape.to a,ix (ix f.acts a) e)]):=by
 have hA:=w.arr (b:=a) (mem_getD.mpr ⟨k,hk,ea⟩)
 have hin:=hP.inT w.hf.1 hA.2.2.1 hA.2.2.2.1
 have hp:=hP.val _ _ hA.2.2.1 hA.2.2.2.1
 have hy' : 0≤ix f.shape.to a∧(ix f.shape.to a).toNat<p'.length:=by rw [s.len]; exact hin.1
 have hi' : 0≤ix (ix f.acts a) e∧(ix (ix f.acts a) e).toNat<(ix p' (ix f.shape.to a)).length:=by rw [s.rowI]; exact hin.2
 refine ⟨by rw [setT_len,s.len],fun y=>by rw [setT_row,s.row],fun y i h0 h1=>?_,fun y i hm=>?_,fun b hb=>?_,by have:=s.nl; simp; omega⟩
 ·rw [ix_setT p' hy' hi' h0 h1]
  by_cases e1 : y=ix f.shape.to a∧i=ix (ix f.acts a) e
  ·rw [if_pos e1];exact .inr ⟨by rw [e1.1,e1.2]; simp,a,(mem_take_succ hk).mpr (.inr ea.symm),e1.1.symm,e1.2.symm,rfl⟩
  ·rw [if_neg e1];exact (s.new y i h0 h1).imp id fun ⟨q1,b,q2,q3⟩=>⟨by simp [q1],b,(mem_take_succ hk).mpr (.inl q2),q3⟩
 ·rcases List.mem_append.mp hm with hm | hm
  ·exact s.old y i hm
  ·rw [List.mem_singleton] at hm
   injection hm with e1 e2
   subst e1 e2;refine ⟨hin.1,hin.2, ?_⟩
   rcases s.new _ _ hin.1.1 hin.2.1 with q | ⟨_,b,hb,q3,q4,q5⟩
   ·rw [q] at h; exact hp.resolve_right fun h2=>h h2.1
   ·rw [q5] at h;exact absurd (w.arr (List.mem_of_mem_take hb)).2.2.2.2.1 h
 ·by_cases hq : ix f.shape.to b=ix f.shape.to a∧ix (ix f.acts b) e=ix (ix f.acts a) e
  ·rcases (mem_take_succ hk).mp hb with hb | hb
   ·have:=s.hit b hb;rw [hq.1,hq.2] at this;rw [this] at h;exact absurd (w.arr (List.mem_of_mem_take hb)).2.2.2.2.1 h
   ·rw [ea] at hb;subst hb;rw [ix_setT p' hy' hi' hin.1.1 hin.2.1,if_pos ⟨rfl,rfl⟩]
  ·rcases (mem_take_succ hk).mp hb with hb | hb
   ·have hB:=w.arr (List.mem_of_mem_take hb);rw [ix_setT p' hy' hi' hB.2.2.1.1 hB.2.2.2.1.1,if_neg hq];exact s.hit b hb
   ·rw [ea] at hb; subst hb; exact absurd ⟨rfl,rfl⟩ hq
theorem SetM.bad (w : At3 f g x e d) (s : SetM f g p x e d k p' N) (hk : k<(outs f.shape x).length) {a : Int} (ea : (outs f.shape x).getD k default=a)
  (h : 0≤ix (ix p' (ix f.shape.to a)) (ix (ix f.acts a) e)) (hne : ix (ix p' (ix f.shape.to a)) (ix (ix f.acts a) e)≠ix (ix g.acts a) d) (t : List (List Int)) (ht : ExtT f g p t) : ix (ix t x) e≠d:=by
 intro ed
 have key : ∀ b,b∈outs f.shape x→ix (ix t (ix f.shape.to b)) (ix (ix f.acts b) e)=ix (ix g.acts b) d:=fun b hb=>by
  have hB:=w.arr hb;rw [ht.1.nl b hB.1 e (by rw [hB.2.1]; exact w.he),hB.2.1,ed]
 have hA:=w.arr (b:=a) (mem_getD.mpr ⟨k,hk,ea⟩)
 have h1:=key a (mem_getD.mpr ⟨k,hk,ea⟩)
 rcases s.new _ _ hA.2.2.1.1 hA.2.2.2.1.1 with q | ⟨_,b,hb,q3,q4,q5⟩
 ·rw [q] at h hne;exact hne ((ht.2 _ _ hA.2.2.1 hA.2.2.2.1 h).symm.trans h1)
 ·have h2:=key b (List.mem_of_mem_take hb);rw [q3,q4] at h2;exact hne (q5.trans (h2.symm.trans h1))
theorem SF.Is.idAct (h : f.Is) {x e : Int} (hx : 0≤x∧x<f.shape.objs) (he : 0≤e∧e<ix f.sizes x) : ix (ix f.acts (ix f.shape.idn x)) e=e:=by
 have hl:=h.1.is.1.il
 have h2:=h.1.idLen (x:=x.toNat) (by omega)
 have h3:=h.2.idl x.toNat (by omega) e.toNat (by
  have e0 : ix f.sizes x=f.sizes.getD x.toNat default:=rfl;omega)
 rw [Int.toNat_of_nonneg he.1] at h3;exact h3
theorem SetM.keep (s : SetM f g p x e d k p' N) {y i : Int} (h0 : 0≤y) (h1 : 0≤i) (h : ix (ix p y) i≠-1) : ix (ix p' y) i=ix (ix p y) i:=by
 rcases s.new y i h0 h1 with q | ⟨q,_⟩
 ·exact q
 ·exact absurd (s.old y i q).2.2 h
section
variable (w : At3 f g x e d) (hP : PT f g p) (s : SetM f g p x e d (outs f.shape x).length p' N)
include w hP s
theorem SetM.pt : PT f g p' where
 len:=s.len.trans hP.len
 row y hy:=by rw [s.row]; exact hP.row y hy
 val y i hy hi:=by
  rcases s.new y i hy.1 hi.1 with q | ⟨_,b,hb,q3,q4,q5⟩
  ·rw [q]; exact hP.val y i hy hi
  ·have hB:=w.arr (List.mem_of_mem_take hb);rw [q5,← q3]; exact .inr hB.2.2.2.2
 cls a ha i hi h:=by
  have hf:=w.hf.1.is.1.frmObj ha.2
  have ht:=w.hf.1.is.1.toObj ha.2
  have hai:=w.hf.1.actTo ha hi
  rcases s.new _ i hf.1 hi.1 with q | ⟨_,b,hb,q3,q4,q5⟩
  ·rw [q] at h ⊢
   have hc:=hP.cls a ha i hi h
   have hv:=(hP.val _ i hf hi).resolve_left (by omega)
   have hg:=w.hg.1.actTo (a:=a) (e:=ix (ix p (ix f.shape.frm a)) i) (by rw [← w.sh]; exact ha) (by rw [← w.sh]; exact hv);rw [s.keep ht.1 hai.1 (by rw [hc]; omega),hc]
  ·have hb:=List.mem_of_mem_take hb
   have hB:=w.arr hb
   have hc:=w.hf.1.is.1.comp hB.1 ha q3
   have hm : ix (ix f.shape.comp b) a∈outs f.shape x:=mem_outs.mpr ⟨hc.1.1,hc.1.2,hc.2.1.trans hB.2.1⟩
   have hh:=s.hit _ (by rw [List.take_length]; exact hm)
   have hfe:=w.hf.compL b a hB.1 ha q3 e (w.hf.1.inAct hB.1 (by rw [hB.2.1]; exact w.he))
   have hgd:=w.hg.compL b a (by rw [← w.sh]; exact hB.1) (by rw [← w.sh]; exact ha) (by rw [← w.sh]; exact q3) d (w.hg.1.inAct (by rw [← w.sh]; exact hB.1) (by rw [← w.sh,hB.2.1]; exact w.hd));rw [← w.sh] at hgd;rw [hc.2.2,hfe,hgd,q4] at hh;rw [q5]; exact hh
theorem SetM.atE : ix (ix p' x) e=d:=by
 have hid:=w.hf.1.is.1.idArr w.hx
 have:=s.hit (ix f.shape.idn x) (by rw [List.take_length]; exact mem_outs.mpr ⟨hid.1.1,hid.1.2,hid.2.1⟩)
 have h2:=w.hg.idAct (x:=x) (e:=d) (by rw [← w.sh]; exact w.hx) w.hd;rw [← w.sh] at h2;rw [hid.2.2,w.hf.idAct w.hx w.he,h2] at this;exact this
theorem SetM.ext (t : List (List Int)) : ExtT f g p' t↔ExtT f g p t∧ix (ix t x) e=d:=by
 constructor
 ·rintro ⟨h1,h2⟩;refine ⟨⟨h1,fun y i hy hi h=>?_⟩, ?_⟩
  ·have:=s.keep hy.1 hi.1 (by omega);rw [← this] at h ⊢;exact h2 y i hy hi h
  ·have:=s.atE w hP;rw [h2 x e w.hx w.he (by rw [this]; exact w.hd.1),this]
 ·rintro ⟨⟨h1,h2⟩,ed⟩;refine ⟨h1,fun y i hy hi h=>?_⟩
  rcases s.new y i hy.1 hi.1 with q | ⟨_,b,hb,q3,q4,q5⟩
  ·rw [q] at h ⊢; exact h2 y i hy hi h
  ·have hB:=w.arr (List.mem_of_mem_take hb);rw [q5,← q3,← q4,h1.nl b hB.1 e (by rw [hB.2.1]; exact w.he),hB.2.1,ed]
end
def posT (f : SF) : List (Int × Int):=(List.range f.sizes.length).flatMap fun x=>(List.range (f.sizes.getD x default).toNat).map fun e : Nat=>((x : Int),(e : Int))
theorem mem_posT (h : f.Shape) {y i : Int} : (y,i)∈posT f↔(0≤y∧y<f.shape.objs)∧0≤i∧i<ix f.sizes y:=by
 have hs:=h.sl;simp only [posT,List.mem_flatMap,List.mem_range,List.mem_map,Prod.mk.injEq]
 constructor
 ·rintro ⟨a,ha,b,hb,rfl,rfl⟩;rw [ix_nat];omega
 ·rintro ⟨h1,h2,h3⟩
  have e0 : ix f.sizes y=f.sizes.getD y.toNat default:=rfl;exact ⟨y.toNat,by omega,i.toNat,by omega,by omega,by omega⟩
def unsetT (f : SF) (p : List (List Int)) : Nat:=(posT f).countP fun q=>decide (ix (ix p q.1) q.2=-1)
theorem countP_less {α : Type} {P Q : α→Bool} {b : α} : ∀ {l : List α},(∀ a,a∈l→P a=true→Q a=true)→b∈l→P b=false→Q b=true→l.countP P<l.countP Q
 | [],_,hb,_,_=>by simp at hb
 | a::r,h,hb,hp,hq=>by
  have hle : r.countP P≤r.countP Q:=List.countP_mono_left fun a ha=>h a (List.mem_cons_of_mem _ ha);rw [List.countP_cons,List.countP_cons]
  by_cases e : b∈r
  ·have:=countP_less (fun a ha=>h a (List.mem_cons_of_mem _ ha)) e hp hq
   have ha:=h a List.mem_cons_self
   cases hpa : P a with
   | true=>rw [ha hpa]; simpa using this
   | false=>cases Q a <;> simp <;> omega
  ·rcases List.mem_cons.mp hb with rfl | hb
   ·rw [hp,hq]; simp; omega
   ·exact absurd hb e
theorem SetM.less (w : At3 f g x e d) (hP : PT f g p) (s : SetM f g p x e d (outs f.shape x).length p' N) (h : ix (ix p x) e=-1) : unsetT f p'<unsetT f p:=by
 refine countP_less (b:=(x,e)) (fun q hq hq2=>?_) ((mem_posT w.hf.1).mpr ⟨w.hx,w.he⟩) ?_ (decide_eq_true h)
 ·obtain ⟨y,i⟩:=q
  have hr:=(mem_posT w.hf.1).mp hq
  have hq2:=of_decide_eq_true hq2;refine decide_eq_true ?_
  rcases s.new y i hr.1.1 hr.2.1 with q | ⟨_,b,hb,q3,q4,q5⟩
  ·rw [← q]; exact hq2
  ·have hB:=w.arr (List.mem_of_mem_take hb);rw [q5] at hq2
   have:=hB.2.2.2.2;omega
 ·have:=s.atE w hP
  have hd:=w.hd;exact decide_eq_false (by rw [this]; omega)
theorem tab_ext {p q : List (List Int)} (hl : p.length=q.length) (hr : ∀ x : Nat,(p.getD x default).length=(q.getD x default).length) (h : ∀ x e : Int,0≤x∧x.toNat<p.length→0≤e∧e.toNat<(ix p x).length→ix (ix p x) e=ix (ix q x) e) : p=q:=by
 refine List.ext_getElem hl fun i h1 h2=>?_
 have r:=hr i
 have e1 : ix p (i : Int)=p[i]:=by simp [ix_nat,List.getD_eq_getElem?_getD,h1]
 have e2 : ix q (i : Int)=q[i]:=by simp [ix_nat,List.getD_eq_getElem?_getD,h2]
 rw [← ix_nat,← ix_nat,e1,e2] at r;refine List.ext_getElem r fun j k1 k2=>?_
 have:=h i j ⟨by omega,by simpa using h1⟩ ⟨by omega,by rw [e1]; simpa using k1⟩;rw [e1,e2] at this
 simpa [ix_nat,List.getD_eq_getElem?_getD,k1,k2] using this
def undoT (p : List (List Int)) (N : List (Int × Int)) : List (List Int):=N.foldl (fun p q=>setT p q.1 q.2 (-1)) p
theorem undoT_len (N : List (Int × Int)) : ∀ p : List (List Int),(undoT p N).length=p.length:=by
 induction N with
 | nil=>intro p; rfl
 | cons a r ih=>intro p; rw [undoT,List.foldl_cons]; exact (ih _).trans (setT_len _ _ _ _)
theorem undoT_row (N : List (Int × Int)) (y : Nat) : ∀ p : List (List Int),((undoT p N).getD y default).length=(p.getD y default).length:=by
 induction N with
 | nil=>intro p; rfl
 | cons a r ih=>intro p; rw [undoT,List.foldl_cons]; exact (ih _).trans (setT_row _ _ _ _ _)
theorem undoT_ix (N : List (Int × Int)) {y i : Int} (hy : 0≤y) (hi : 0≤i) : ∀ p : List (List Int),(∀ q,q∈N→(0≤q.1∧q.1.toNat<p.length)∧0≤q.2∧q.2.toNat<(ix p q.1).length) →
  ix (ix (undoT p N) y) i=if (y,i)∈N then -1 else ix (ix p y) i:=by
 induction N with
 | nil=>intro p _; simp [undoT]
 | cons a r ih =>
  intro p hr
  have ha:=hr a List.mem_cons_self;rw [undoT,List.foldl_cons]
  have:=ih (setT p a.1 a.2 (-1)) fun q hq=>by
   have:=hr q (List.mem_cons_of_mem _ hq);rw [setT_len];refine ⟨this.1,this.2.1, ?_⟩;rw [ix,setT_row]; exact this.2.2
  refine this.trans ?_;rw [ix_setT p ha.1 ha.2 hy hi]
  by_cases h1 : (y,i)∈r
  ·rw [if_pos h1,if_pos (List.mem_cons_of_mem _ h1)]
  ·rw [if_neg h1]
   by_cases h2 : y=a.1∧i=a.2
   ·rw [if_pos h2,if_pos (by rw [h2.1,h2.2]; exact List.mem_cons_self)]
   ·rw [if_neg h2,if_neg];rw [List.mem_cons]
    rintro (h3 | h3)
    ·exact h2 ⟨by rw [← h3],by rw [← h3]⟩
    ·exact h1 h3
theorem undoT_succ (p : List (List Int)) {N : List (Int × Int)} {j : Nat} (hj : j<N.length) : undoT p (N.take (j+1))=setT (undoT p (N.take j)) (N.getD j default).1 (N.getD j default).2 (-1):=by
 rw [take_one N hj,undoT,List.foldl_append]; rfl
theorem SetM.undo (s : SetM f g p x e d k p' N) : undoT p' N=p:=by
 have hr : ∀ q,q∈N→(0≤q.1∧q.1.toNat<p'.length)∧0≤q.2∧q.2.toNat<(ix p' q.1).length:=fun q hq=>by
  have:=s.old q.1 q.2 hq;rw [s.len,s.rowI]; exact ⟨this.1,this.2.1⟩
 refine tab_ext (by rw [undoT_len,s.len]) (fun y=>by rw [undoT_row,s.row]) fun y i hy hi=>?_;rw [undoT_ix N hy.1 hi.1 p' hr]
 by_cases h : (y,i)∈N
 ·rw [if_pos h,(s.old y i h).2.2]
 ·rw [if_neg h]
  rcases s.new y i hy.1 hi.1 with q | ⟨q,_⟩
  ·exact q
  ·exact absurd q h
structure AccT (f g : SF) (p : List (List Int)) (x e : Int) (k : Int) (M : List (List (List Int))) : Prop where
 srt : M.Pairwise ltT
 mem : ∀ t,t∈M↔ExtT f g p t∧ix (ix t x) e<k
variable {M M' : List (List (List Int))}
theorem AccT.zero (hx : 0≤x∧x<f.shape.objs) (he : 0≤e∧e<ix f.sizes x) : AccT f g p x e 0 []:=⟨.nil,fun t=>by
 simp only [List.not_mem_nil,false_iff]
 rintro ⟨h1,h2⟩
 have:=((h1.1.pl x hx).2 e he).1;omega⟩
theorem AccT.none {j : Int} (h : AccT f g p x e j M) (hn : ∀ t,ExtT f g p t→ix (ix t x) e≠j) : AccT f g p x e (j+1) M:=⟨h.srt,fun t=>by
 rw [h.mem]
 constructor
 ·rintro ⟨h1,h2⟩; exact ⟨h1,by omega⟩
 ·rintro ⟨h1,h2⟩; have:=hn t h1; exact ⟨h1,by omega⟩⟩
theorem AccT.more (hx : 0≤x∧x<f.shape.objs) (he : 0≤e∧e<ix f.sizes x) {j : Int} (h : AccT f g p x e j M) (h2 : ListsT f g p' M') (hs : (f.sizes.length : Int)=f.shape.objs) (hv : ∀ y i : Int,0≤y∧y<f.shape.objs→0≤i∧i<ix f.sizes y→ix (ix p y) i=-1∨0≤ix (ix p y) i)
  (hp : ∀ t,ExtT f g p' t↔ExtT f g p t∧ix (ix t x) e=j) (hf : ∀ y i : Int,0≤y∧y<f.shape.objs→0≤i∧i<ix f.sizes y→(y<x∨(y=x∧i<e))→ix (ix p y) i≠-1) : AccT f g p x e (j+1) (M++M'):=by
 refine ⟨List.pairwise_append.mpr ⟨h.srt,h2.srt,fun s hs' t ht=>?_⟩,fun t=>?_⟩
 ·obtain ⟨s1,s2⟩:=(h.mem s).mp hs'
  obtain ⟨t1,t2⟩:=(hp t).mp ((h2.mem t).mp ht);refine ⟨x.toNat,e.toNat,fun y i hyi=>?_, ?_⟩
  ·have hy : (0 : Int)≤(y : Int)∧(y : Int)<f.shape.objs:=by omega
   have l1:=(s1.1.pl y hy).1
   have l2:=(t1.1.pl y hy).1
   by_cases hi : (i : Int)<ix f.sizes y
   ·have hi' : (0 : Int)≤(i : Int)∧(i : Int)<ix f.sizes y:=⟨by omega,hi⟩
    have hne:=hf y i hy hi' (by omega)
    have hge:=(hv y i hy hi').resolve_left hne
    have a1:=s1.2 y i hy hi' hge
    have a2:=t1.2 y i hy hi' hge
    have:=a1.trans a2.symm
    simpa only [ix_nat] using this
   ·rw [ix_nat] at l1 l2;rw [List.getD_eq_getElem?_getD,List.getD_eq_getElem?_getD (l:=t.getD y default),List.getElem?_eq_none (by omega),List.getElem?_eq_none (by omega)]
  ·have : ix (ix s x) e<ix (ix t x) e:=by rw [t2]; exact s2
   exact this
 ·rw [List.mem_append,h.mem,h2.mem,hp]
  constructor
  ·rintro (⟨h1,h2⟩ | ⟨h1,h2⟩)
   ·exact ⟨h1,by omega⟩
   ·exact ⟨h1,by omega⟩
  ·rintro ⟨h1,h2⟩
   by_cases hj : ix (ix t x) e=j
   ·exact .inr ⟨h1,hj⟩
   ·exact .inl ⟨h1,by omega⟩
theorem AccT.done (hx : 0≤x∧x<f.shape.objs) (he : 0≤e∧e<ix f.sizes x) (h : AccT f g p x e (ix g.sizes x) M) : ListsT f g p M:=⟨h.srt,fun t=>by
 rw [h.mem];exact ⟨fun h=>h.1,fun h=>⟨h,((h.1.pl x hx).2 e he).2⟩⟩⟩
theorem lists_full (h : f.Is) (hP : PT f g p) (hf : ∀ y i : Int,0≤y∧y<f.shape.objs→0≤i∧i<ix f.sizes y→ix (ix p y) i≠-1) : ListsT f g p [p]:=by
 have hm : MapL f g p:=by
  refine ⟨by rw [hP.len]; exact h.1.sl,fun y hy=>⟨?_,fun i hi=>?_⟩,fun b hb i hi=>?_⟩
  ·exact hP.row y.toNat (h.1.inX hy).2
  ·exact (hP.val y i hy hi).resolve_left (hf y i hy hi)
  ·have hfb:=h.1.is.1.frmObj hb.2;exact hP.cls b hb i hi ((hP.val _ i hfb hi).resolve_left (hf _ i hfb hi)).1
 refine ⟨List.pairwise_singleton _ _,fun t=>?_⟩;rw [List.mem_singleton]
 constructor
 ·rintro rfl; exact ⟨hm,fun _ _ _ _ _=>rfl⟩
 ·rintro ⟨h1,h2⟩;refine h1.ext hm fun y i hy hi=>?_;exact h2 y i hy hi ((hP.val y i hy hi).resolve_left (hf y i hy hi)).1
def blankT (f : SF) : List (List Int):=f.sizes.map fun n=>List.replicate n.toNat (-1)
theorem blank_ix (h : f.Shape) {y i : Int} (hy : 0≤y∧y<f.shape.objs) (hi : 0≤i∧i<ix f.sizes y) : ix (ix (blankT f) y) i=-1:=by
 have hX:=h.inX hy
 have e0 : ix f.sizes y=f.sizes.getD y.toNat default:=rfl
 have hi2 : i.toNat<(f.sizes.getD y.toNat default).toNat:=by omega
 rw [ix,ix,blankT,map_getD _ hX.2,List.getD_eq_getElem?_getD,List.getElem?_replicate,if_pos hi2]; rfl
theorem blank_pt (h : f.Shape) : PT f g (blankT f) where
 len:=by simp [blankT]
 row x hx:=by
  have:=h.sz _ (mem_getD.mpr ⟨x,hx,rfl⟩);rw [blankT,map_getD _ hx,List.length_replicate]; omega
 val y i hy hi:=.inl (blank_ix h hy hi)
 cls a ha i hi h0:=by
  rw [blank_ix h (h.is.1.frmObj ha.2) hi] at h0; omega
theorem blank_ext (h : f.Shape) {t : List (List Int)} : ExtT f g (blankT f) t↔MapL f g t:=⟨fun h=>h.1,fun hm=>⟨hm,fun y i hy hi h0=>by rw [blank_ix h hy hi] at h0; omega⟩⟩
end
end Go.Shf
namespace Go.Shf
open Go.AW
def prodT : List Int→Int
 | []=>1
 | a::l=>a*prodT l
theorem prodT_pos : ∀ {s : List Int},(∀ a,a∈s→0<a)→0<prodT s
 | [],_=>by simp [prodT]
 | a::l,h=>by
  rw [prodT];exact Int.mul_pos (h a (by simp)) (prodT_pos fun b hb=>h b (by simp [hb]))
theorem prodT_zero : ∀ {s : List Int},0∈s→prodT s=0
 | a::l,h=>by
  rw [prodT]
  rcases List.mem_cons.mp h with e | e
  ·rw [← e,Int.zero_mul]
  ·rw [prodT_zero e,Int.mul_zero]
theorem prodT_nonneg {s : List Int} (h : ∀ a,a∈s→0≤a) : 0≤prodT s:=by
 by_cases h0 : 0∈s
 ·rw [prodT_zero h0]; exact Int.le_refl _
 ·exact Int.le_of_lt (prodT_pos fun a ha=>by
   have:=h a ha
   have : a≠0:=fun e=>h0 (e ▸ ha);omega)
def digT (s : List Int) (n : Int) (i : Nat) : Int:=(n / prodT (s.drop (i+1))) % s.getD i default
def atT (s : List Int) (n : Int) : List Int:=(List.range s.length).map (digT s n)
theorem atT_cons (a : Int) (s : List Int) (n : Int) : atT (a::s) n=((n / prodT s) % a)::atT s n:=by
 rw [atT,List.length_cons,List.range_succ_eq_map,List.map_cons,List.map_map]
 rfl
def InB : List Int→List Int→Prop
 | [],[]=>True
 | a::s,b::t=>(0≤b∧b<a)∧InB s t
 | _,_=>False
def numT : List Int→List Int→Int
 | _::s,b::t=>b*prodT s+numT s t
 | _,_=>0
theorem InB.len : ∀ {s t : List Int},InB s t→t.length=s.length
 | [],[],_=>rfl
 | a::s,b::t,h=>by rw [List.length_cons,List.length_cons,InB.len h.2]
theorem InB.pos : ∀ {s t : List Int},InB s t→∀ a,a∈s→0<a
 | [],[],_,a,ha=>by simp at ha
 | a::s,b::t,h,c,hc=>by
  rcases List.mem_cons.mp hc with rfl | hc
  ·have:=h.1; omega
  ·exact InB.pos h.2 c hc
theorem InB.at : ∀ {s t : List Int},InB s t→∀ i,i<s.length→0≤t.getD i default∧t.getD i default<s.getD i default
 | [],[],_,i,hi=>by simp at hi
 | a::s,b::t,h,0,_=>by simpa using h.1
 | a::s,b::t,h,i+1,hi=>by
  have:=InB.at h.2 i (by simpa using hi)
  simpa using this
theorem InB.of : ∀ {s t : List Int},t.length=s.length→(∀ i,i<s.length→0≤t.getD i default∧t.getD i default<s.getD i default)→InB s t
 | [],[],_,_=>trivial
 | a::s,b::t,hl,h=>⟨by simpa using h 0 (by simp),InB.of (by simpa using hl) fun i hi=>by simpa using h (i+1) (by simpa using hi)⟩
 | [],b::t,hl,_=>by simp at hl
 | a::s,[],hl,_=>by simp at hl
theorem numT_lt : ∀ {s t : List Int},InB s t→0≤numT s t∧numT s t<prodT s
 | [],[],_=>by simp [numT,prodT]
 | a::s,b::t,h=>by
  have ih:=numT_lt h.2
  have hp:=prodT_pos h.2.pos
  have hb:=h.1;rw [numT,prodT]
  have h1 : 0≤b*prodT s:=Int.mul_nonneg h.1.1 (Int.le_of_lt hp)
  have h2 : (b+1)*prodT s≤a*prodT s:=Int.mul_le_mul_of_nonneg_right (by omega) (Int.le_of_lt hp);rw [Int.add_mul,Int.one_mul] at h2;omega
theorem atT_add : ∀ {s : List Int},(∀ a,a∈s→0<a)→∀ n k : Int,atT s (n+k*prodT s)=atT s n
 | [],_,n,k=>rfl
 | a::s,h,n,k=>by
  have hp:=prodT_pos (s:=s) fun b hb=>h b (by simp [hb])
  have e : n+k*prodT (a::s)=n+(k*a)*prodT s:=by rw [prodT,Int.mul_assoc]
  rw [atT_cons,atT_cons,e,atT_add (fun b hb=>h b (by simp [hb])) n (k*a),Int.add_mul_ediv_right _ _ (by omega),Int.add_mul_emod_self_right]
theorem atT_num : ∀ {s t : List Int},InB s t→atT s (numT s t)=t
 | [],[],_=>rfl
 | a::s,b::t,h=>by
  have ih:=atT_num h.2
  have hl:=numT_lt h.2
  have hp:=prodT_pos h.2.pos;rw [atT_cons,numT,Int.add_comm,atT_add h.2.pos,ih,Int.add_mul_ediv_right _ _ (by omega),Int.ediv_eq_zero_of_lt hl.1 hl.2,Int.zero_add,Int.emod_eq_of_lt h.1.1 h.1.2]
theorem atT_in : ∀ {s : List Int},(∀ a,a∈s→0<a)→∀ n : Int,InB s (atT s n)
 | [],_,n=>trivial
 | a::s,h,n=>by
  rw [atT_cons]
  have ha:=h a (by simp);exact ⟨⟨Int.emod_nonneg _ (by omega),Int.emod_lt_of_pos _ ha⟩,atT_in (fun b hb=>h b (by simp [hb])) n⟩
theorem atT_mod {s : List Int} (h : ∀ a,a∈s→0<a) (n : Int) : atT s n=atT s (n % prodT s):=by
 have:=atT_add h (n % prodT s) (n / prodT s);rw [← this,Int.mul_comm,Int.emod_add_mul_ediv]
theorem at_lt : ∀ {s : List Int},(∀ a,a∈s→0<a)→∀ {m n : Int},0≤m→m<n→n<prodT s→cmp (atT s m) (atT s n)<0
 | [],_,m,n,h0,h1,h2=>by simp only [prodT] at h2; omega
 | a::s,h,m,n,h0,h1,h2=>by
  have hs : ∀ b,b∈s→0<b:=fun b hb=>h b (by simp [hb])
  have hp:=prodT_pos hs;rw [prodT] at h2
  have hn : n / prodT s<a:=Int.ediv_lt_of_lt_mul hp h2
  have hm : m / prodT s≤n / prodT s:=Int.ediv_le_ediv hp (by omega)
  have hm0 : 0≤m / prodT s:=Int.ediv_nonneg h0 (by omega);rw [atT_cons,atT_cons,Int.emod_eq_of_lt hm0 (by omega),Int.emod_eq_of_lt (by omega) hn,cmp]
  by_cases e : m / prodT s=n / prodT s
  ·rw [if_pos e,atT_mod hs m,atT_mod hs n]
   have e1:=Int.emod_add_mul_ediv m (prodT s)
   have e2:=Int.emod_add_mul_ediv n (prodT s);rw [e] at e1;exact at_lt hs (Int.emod_nonneg _ (by omega)) (by omega) (Int.emod_lt_of_pos _ hp)
  ·rw [if_neg e,if_pos (by omega)]; omega
structure QS where
 v : List Int
 l : List (Int × Int)
 r : List (Int × Int)
 o : List Int
def TermOk (c : Cat) (v : List Int) (t : Int × Int) : Prop:=(0≤t.1∧t.1.toNat<v.length)∧(0≤t.2∧t.2.toNat<c.frm.length)∧ix c.frm t.2=ix v t.1
end Go.Shf
namespace Go.Shf
open Go.AW
theorem cmp_irr (a : List Int) : ¬ cmp a a<0:=by
 have:=cmp_zero.mpr (rfl : a=a); omega
end Go.Shf
namespace Go.Shf
open Go.AW
theorem num_at {s : List Int} (hs : ∀ a,a∈s→0<a) {k : Int} (h0 : 0≤k) (h1 : k<prodT s) : numT s (atT s k)=k:=by
 have hi:=atT_in hs k
 have hl:=numT_lt hi
 have e:=atT_num hi
 have h2:=cmp_irr (atT s k)
 by_cases c1 : numT s (atT s k)<k
 ·have:=at_lt hs hl.1 c1 h1;rw [e] at this; exact absurd this h2
 ·by_cases c2 : k<numT s (atT s k)
  ·have:=at_lt hs h0 c2 hl.2;rw [e] at this; exact absurd this h2
  ·omega
end Go.Shf
namespace Go.Shf
open Go.AW
theorem filt_at {P : Nat→Bool} {n a : Nat} (ha : a<n) (h : P a=true) : ((List.range n).filter P).getD ((List.range a).filter P).length default=a∧((List.range a).filter P).length<((List.range n).filter P).length:=by
 obtain ⟨m,rfl⟩ : ∃ m,n=a+1+m:=⟨n - (a+1),by omega⟩
 have e : (List.range (a+1+m)).filter P=(List.range a).filter P++a::((List.range m).map (a+1+·)).filter P:=by
  rw [List.range_add,List.filter_append,List.range_succ,List.filter_append,List.filter_cons,if_pos h]; simp
 rw [e]
 constructor
 ·rw [List.getD_eq_getElem?_getD,List.getElem?_append_right (Nat.le_refl _),Nat.sub_self]; rfl
 ·simp
section
variable {f g : SF} {p p' : List (List Int)} {x e d : Int} {k : Nat} {N : List (Int × Int)} {M M' : List (List (List Int))}
def outK (c : Cat) (x : Int) (a : Nat) : Nat:=((List.range a).filter fun i=>decide (c.frm.getD i default=x)).length
theorem outK_succ (c : Cat) (x : Int) (a : Nat) : outK c x (a+1)=if c.frm.getD a default=x then outK c x a+1 else outK c x a:=by
 rw [outK,outK,List.range_succ,List.filter_append,List.length_append]
 by_cases h : c.frm.getD a default=x
 ·rw [if_pos h,List.filter_cons,if_pos (decide_eq_true h)]; simp
 ·rw [if_neg h,List.filter_cons,if_neg (by simpa using h)]; simp
def okS (f g : SF) (p : List (List Int)) (x e d : Int) : Prop:=∃ p' N,SetM f g p x e d (outs f.shape x).length p' N
theorem SetM.bad2 (w : At3 f g x e d) (s : SetM f g p x e d k p' N) (hk : k<(outs f.shape x).length) {a : Int} (ea : (outs f.shape x).getD k default=a)
  (h : 0≤ix (ix p' (ix f.shape.to a)) (ix (ix f.acts a) e)) (hne : ix (ix p' (ix f.shape.to a)) (ix (ix f.acts a) e)≠ix (ix g.acts a) d) (t : List (List Int))
  (key : ∀ b,b∈outs f.shape x→ix (ix t (ix f.shape.to b)) (ix (ix f.acts b) e)=ix (ix g.acts b) d)
  (ht : ∀ y i : Int,0≤y∧y<f.shape.objs→0≤i∧i<ix f.sizes y→0≤ix (ix p y) i→ix (ix t y) i=ix (ix p y) i) : False:=by
 have hA:=w.arr (b:=a) (mem_getD.mpr ⟨k,hk,ea⟩)
 have h1:=key a (mem_getD.mpr ⟨k,hk,ea⟩)
 rcases s.new _ _ hA.2.2.1.1 hA.2.2.2.1.1 with q | ⟨_,b,hb,q3,q4,q5⟩
 ·rw [q] at h hne;exact hne ((ht _ _ hA.2.2.1 hA.2.2.2.1 h).symm.trans h1)
 ·have h2:=key b (List.mem_of_mem_take hb);rw [q3,q4] at h2;exact hne (q5.trans (h2.symm.trans h1))
theorem SetM.bad3 (w : At3 f g x e d) (s : SetM f g p x e d k p' N) (hk : k<(outs f.shape x).length) {a : Int} (ea : (outs f.shape x).getD k default=a)
  (h : 0≤ix (ix p' (ix f.shape.to a)) (ix (ix f.acts a) e)) (hne : ix (ix p' (ix f.shape.to a)) (ix (ix f.acts a) e)≠ix (ix g.acts a) d) : ¬ okS f g p x e d:=fun ⟨q,N',hq⟩ =>
 s.bad2 w hk ea h hne q (fun b hb=>hq.hit b (by rw [List.take_length]; exact hb)) fun y i hy hi h0=>hq.keep hy.1 hi.1 (by omega)
theorem okS_or (w : At3 f g x e d) (hP : PT f g p) : okS f g p x e d∨∀ t,ExtT f g p t→ix (ix t x) e≠d:=by
 have key : ∀ k,k≤(outs f.shape x).length→(∃ p' N,SetM f g p x e d k p' N)∨∀ t,ExtT f g p t→ix (ix t x) e≠d:=by
  intro k
  induction k with
  | zero=>intro _; exact .inl ⟨p,[],.zero f g p x e d⟩
  | succ k ih =>
   intro hk
   rcases ih (by omega) with ⟨p',N,s⟩ | h
   ·by_cases h0 : 0≤ix (ix p' (ix f.shape.to ((outs f.shape x).getD k default))) (ix (ix f.acts ((outs f.shape x).getD k default)) e)
    ·by_cases h1 : ix (ix p' (ix f.shape.to ((outs f.shape x).getD k default))) (ix (ix f.acts ((outs f.shape x).getD k default)) e)=ix (ix g.acts ((outs f.shape x).getD k default)) d
     ·exact .inl ⟨_,_,s.same (by omega) rfl h1⟩
     ·exact .inr (s.bad w (by omega) rfl h0 h1)
    ·exact .inl ⟨_,_,s.fresh w hP (by omega) rfl h0⟩
   ·exact .inr h
 exact key _ (Nat.le_refl _)
theorem okS_none (w : At3 f g x e d) (hP : PT f g p) (h : ¬ okS f g p x e d) : ∀ t,ExtT f g p t→ix (ix t x) e≠d:=(okS_or w hP).resolve_left h
structure FstT (f : SF) (p : List (List Int)) (x e : Int) : Prop where
 hx : 0≤x∧x<f.shape.objs
 he : 0≤e∧e<ix f.sizes x
 un : ix (ix p x) e=-1
 fst : ∀ y i : Int,0≤y∧y<f.shape.objs→0≤i∧i<ix f.sizes y→(y<x∨(y=x∧i<e))→ix (ix p y) i≠-1
theorem ext_lt (h : FstT f p x e) (hP : PT f g p) (hs : (f.sizes.length : Int)=f.shape.objs) {s t : List (List Int)} (s1 : ExtT f g p s) (t1 : ExtT f g p t) (hlt : ix (ix s x) e<ix (ix t x) e) : ltT s t:=by
 refine ⟨x.toNat,e.toNat,fun y i hyi=>?_,hlt⟩
 have hx:=h.hx
 have he:=h.he
 have hy : (0 : Int)≤(y : Int)∧(y : Int)<f.shape.objs:=by omega
 have l1:=(s1.1.pl y hy).1
 have l2:=(t1.1.pl y hy).1
 by_cases hi : (i : Int)<ix f.sizes y
 ·have hi' : (0 : Int)≤(i : Int)∧(i : Int)<ix f.sizes y:=⟨by omega,hi⟩
  have hne:=h.fst y i hy hi' (by omega)
  have hge:=((hP.val y i hy hi').resolve_left hne).1
  have a1:=s1.2 y i hy hi' hge
  have a2:=t1.2 y i hy hi' hge
  have:=a1.trans a2.symm
  simpa only [ix_nat] using this
 ·rw [ix_nat] at l1 l2;rw [List.getD_eq_getElem?_getD,List.getD_eq_getElem?_getD (l:=t.getD y default),List.getElem?_eq_none (by omega),List.getElem?_eq_none (by omega)]
theorem AccT.skip {j j' : Int} (h : AccT f g p x e j M) (hj : j≤j') (hn : ∀ u,j≤u→u<j'→∀ t,ExtT f g p t→ix (ix t x) e≠u) : AccT f g p x e j' M:=⟨h.srt,fun t=>by
 rw [h.mem]
 constructor
 ·rintro ⟨h1,h2⟩; exact ⟨h1,by omega⟩
 ·rintro ⟨h1,h2⟩;refine ⟨h1, ?_⟩
  by_cases hlt : ix (ix t x) e<j
  ·exact hlt
  ·exact absurd rfl (hn _ (by omega) h2 t h1)⟩
theorem AccT.next (h : FstT f p x e) (hP : PT f g p) (hs : (f.sizes.length : Int)=f.shape.objs) {j : Int} (ha : AccT f g p x e j M) (h2 : ListsT f g p' M') (hp : ∀ t,ExtT f g p' t↔ExtT f g p t∧ix (ix t x) e=j) : AccT f g p x e (j+1) (M++M') :=
 ha.more h.hx h.he h2 hs (fun y i hy hi=>(hP.val y i hy hi).imp id fun h=>h.1) hp h.fst
theorem AccT.pre (h : FstT f p x e) (hP : PT f g p) (hs : (f.sizes.length : Int)=f.shape.objs) {j : Int} (ha : AccT f g p x e j M) {L : List (List (List Int))} (hL : ListsT f g p L) : M <+: L:=by
 have : ListsT f g p (M++L.filter fun t=>decide (j≤ix (ix t x) e)):=by
  refine ⟨List.pairwise_append.mpr ⟨ha.srt,hL.srt.sublist List.filter_sublist,fun s hs' t ht=>?_⟩,fun t=>?_⟩
  ·obtain ⟨s1,s2⟩:=(ha.mem s).mp hs';rw [List.mem_filter,decide_eq_true_eq,hL.mem] at ht;exact ext_lt h hP hs s1 ht.1 (by omega)
  ·rw [List.mem_append,ha.mem,List.mem_filter,decide_eq_true_eq,hL.mem]
   constructor
   ·rintro (h | h) <;> exact h.1
   ·intro h1
    by_cases hlt : ix (ix t x) e<j
    ·exact .inl ⟨h1,hlt⟩
    ·exact .inr ⟨h1,by omega⟩
 rw [hL.uniq this];exact List.prefix_append _ _
theorem leastN {P : Nat→Prop} (h : ∃ n,P n) : ∃ n,P n∧∀ m,m<n→¬ P m:=by
 obtain ⟨n,hn⟩:=h
 induction n using Nat.strongRecOn with
 | _ n ih =>
  by_cases hc : ∃ m,m<n∧P m
  ·obtain ⟨m,h1,h2⟩:=hc;exact ih m h1 h2
  ·exact ⟨n,hn,fun m hm hP=>hc ⟨m,hm,hP⟩⟩
theorem fst_or (hf : f.Is) (hP : PT f g p) : (∃ x e,FstT f p x e)∨∀ y i : Int,0≤y∧y<f.shape.objs→0≤i∧i<ix f.sizes y→ix (ix p y) i≠-1:=by
 cases hq : (posT f).find? fun q=>decide (ix (ix p q.1) q.2=-1) with
 | none =>
  refine .inr fun y i hy hi e=>?_
  have:=List.find?_eq_none.mp hq (y,i) ((mem_posT hf.1).mpr ⟨hy,hi⟩)
  simp [e] at this
 | some q =>
  by_cases hn : ∀ y i : Int,0≤y∧y<f.shape.objs→0≤i∧i<ix f.sizes y→ix (ix p y) i≠-1
  ·exact .inr hn
  ·refine .inl ?_
   have hex : ∃ n : Nat,∃ i : Int,((n : Int)<f.shape.objs)∧(0≤i∧i<ix f.sizes n)∧ix (ix p n) i=-1:=by
    false_or_by_contra
    rename_i hc
    refine hn fun y i hy hi he=>hc ⟨y.toNat,i, ?_, ?_, ?_⟩
    ·omega
    ·rw [Int.toNat_of_nonneg hy.1]; exact hi
    ·rw [Int.toNat_of_nonneg hy.1]; exact he
   obtain ⟨n,⟨i0,hn1,hi0,he0⟩,hmin⟩:=leastN hex
   have hex2 : ∃ m : Nat,((m : Int)<ix f.sizes n)∧ix (ix p n) m=-1:=⟨i0.toNat,by omega,by rw [Int.toNat_of_nonneg hi0.1]; exact he0⟩
   obtain ⟨m,⟨hm1,hm2⟩,hmin2⟩:=leastN hex2;refine ⟨n,m,⟨by omega,hn1⟩,⟨by omega,hm1⟩,hm2,fun y i hy hi hlt he=>?_⟩
   rcases hlt with h | ⟨rfl,h⟩
   ·refine hmin y.toNat (by omega) ⟨i,by omega, ?_, ?_⟩
    ·rw [Int.toNat_of_nonneg hy.1]; exact hi
    ·rw [Int.toNat_of_nonneg hy.1]; exact he
   ·refine hmin2 i.toNat (by omega) ⟨by omega, ?_⟩;rw [Int.toNat_of_nonneg hi.1]; exact he
theorem lists_ex (hf : f.Is) (hg : g.Is) (sh : f.shape=g.shape) : ∀ (n : Nat) (p : List (List Int)),unsetT f p=n→PT f g p→∃ M,ListsT f g p M:=by
 intro n
 induction n using Nat.strongRecOn with
 | _ n ih =>
 intro p hn hP
 rcases fst_or hf hP with ⟨x,e,h⟩ | h
 rotate_left 1
 ·exact ⟨[p],lists_full hf hP h⟩
 have hsl:=hf.1.sl
 have key : ∀ d : Nat,(d : Int)≤ix g.sizes x→∃ M,AccT f g p x e d M:=by
  intro d
  induction d with
  | zero=>intro _; exact ⟨[],.zero h.hx h.he⟩
  | succ d ihd =>
   intro hd
   obtain ⟨M,hM⟩:=ihd (by omega)
   have hat : At3 f g x e d:=⟨hf,hg,sh,h.hx,h.he,by omega⟩
   rcases okS_or hat hP with ⟨p',N,s⟩ | hno
   ·obtain ⟨M',hM'⟩:=ih (unsetT f p') (by rw [← hn]; exact s.less hat hP h.un) p' rfl (s.pt hat hP);exact ⟨M++M',by rw [Int.natCast_succ]; exact hM.next h hP hsl hM' fun t=>s.ext hat hP t⟩
   ·exact ⟨M,by rw [Int.natCast_succ]; exact hM.none hno⟩
 have hX:=hg.1.inX (x:=x) (by rw [← sh]; exact h.hx)
 have h0:=(hg.1.sz _ (ix_mem hX.2)).1
 obtain ⟨M,hM⟩:=key (ix g.sizes x).toNat (by omega);rw [Int.toNat_of_nonneg h0] at hM;exact ⟨M,hM.done h.hx h.he⟩
noncomputable def allMp (f g : SF) (p : List (List Int)) : List (List (List Int)):=open Classical in if h : ∃ M,ListsT f g p M then Classical.choose h else []
theorem allMp_is (hf : f.Is) (hg : g.Is) (sh : f.shape=g.shape) (hP : PT f g p) : ListsT f g p (allMp f g p):=by
 have h:=lists_ex hf hg sh _ p rfl hP;rw [allMp,dif_pos h]; exact Classical.choose_spec h
theorem allMp_eq (hf : f.Is) (hg : g.Is) (sh : f.shape=g.shape) (hP : PT f g p) {M : List (List (List Int))} (h : ListsT f g p M) : M=allMp f g p:=h.uniq (allMp_is hf hg sh hP)
noncomputable def choT (f g : SF) (p : List (List Int)) (x e : Int) (n : Nat) : List Int:=open Classical in ((List.range n).filter fun u : Nat=>decide (okS f g p x e u)).map Int.ofNat
theorem choT_t {n : Nat} (h : okS f g p x e n) : choT f g p x e (n+1)=choT f g p x e n++[(n : Int)]:=by
 classical
 rw [choT,List.range_succ,List.filter_append,List.filter_cons,if_pos (decide_eq_true h),List.map_append]; rfl
theorem choT_f {n : Nat} (h : ¬ okS f g p x e n) : choT f g p x e (n+1)=choT f g p x e n:=by
 classical
 rw [choT,List.range_succ,List.filter_append,List.filter_cons,if_neg (by simpa using h),List.map_append]; simp [choT]
theorem choT_len (n : Nat) : (choT f g p x e n).length≤n:=by
 rw [choT,List.length_map];refine Nat.le_trans (List.length_filter_le _ _) ?_;rw [List.length_range]; exact Nat.le_refl _
theorem mem_choT {n : Nat} {u : Int} : u∈choT f g p x e n↔(0≤u∧u<n)∧okS f g p x e u:=by
 classical
 simp only [choT,List.mem_map,List.mem_filter,List.mem_range,decide_eq_true_eq]
 constructor
 ·rintro ⟨a,⟨h1,h2⟩,rfl⟩;exact ⟨⟨by simp,by simpa using h1⟩,h2⟩
 ·rintro ⟨⟨h1,h2⟩,h3⟩;refine ⟨u.toNat,⟨by omega, ?_⟩,by simp [Int.toNat_of_nonneg h1]⟩;rw [Int.toNat_of_nonneg h1]; exact h3
theorem choT_srt (n : Nat) : (choT f g p x e n).Pairwise (·<·):=by
 classical
 rw [choT,List.pairwise_map];refine List.Pairwise.imp (R:=fun a b : Nat=>a<b) (fun {a b} h=>by simpa using h) ?_;exact List.Pairwise.sublist List.filter_sublist List.pairwise_lt_range
theorem cho_none (hf : f.Is) (hg : g.Is) (sh : f.shape=g.shape) (hP : PT f g p) (hx : 0≤x∧x<f.shape.objs) (he : 0≤e∧e<ix f.sizes x) (h : choT f g p x e (ix g.sizes x).toNat=[]) : ListsT f g p []:=by
 refine ⟨.nil,fun t=>⟨fun h=>by simp at h,fun ht=>?_⟩⟩
 have hv:=(ht.1.pl x hx).2 e he
 have hat : At3 f g x e (ix (ix t x) e):=⟨hf,hg,sh,hx,he,hv⟩
 have hno : ¬ okS f g p x e (ix (ix t x) e):=fun hok=>by
  have : ix (ix t x) e∈choT f g p x e (ix g.sizes x).toNat:=mem_choT.mpr ⟨⟨hv.1,by omega⟩,hok⟩;rw [h] at this; simp at this
 exact absurd rfl (okS_none hat hP hno t ht)
structure ChoI (f g : SF) (p : List (List Int)) (x e : Int) (n i : Nat) (b : Int) (M : List (List (List Int))) : Prop where
 acc : AccT f g p x e b M
 b0 : 0≤b∧b≤n
 lo : ∀ u,u∈(choT f g p x e n).drop i→b≤u
 hi : ∀ u,b≤u→u<n→okS f g p x e u→u∈(choT f g p x e n).drop i
theorem ChoI.start (hx : 0≤x∧x<f.shape.objs) (he : 0≤e∧e<ix f.sizes x) (n : Nat) : ChoI f g p x e n 0 0 [] :=
 ⟨.zero hx he,by omega,fun u hu=>(mem_choT.mp (by simpa using hu)).1.1,fun u h1 h2 h3=>by simpa using mem_choT.mpr ⟨⟨h1,h2⟩,h3⟩⟩
theorem ChoI.step (w : ∀ d,0≤d→d<ix g.sizes x→At3 f g x e d) (h : FstT f p x e) (hP : PT f g p) (hs : (f.sizes.length : Int)=f.shape.objs) {n i : Nat} {b : Int} (hn : (n : Int)=ix g.sizes x) (s : ChoI f g p x e n i b M) (hi : i<(choT f g p x e n).length)
  {c : Int} (hc : (choT f g p x e n).getD i default=c) (h2 : ListsT f g p' M') (hp : ∀ t,ExtT f g p' t↔ExtT f g p t∧ix (ix t x) e=c) : ChoI f g p x e n (i+1) (c+1) (M++M'):=by
 have hm:=mem_choT.mp (mem_getD.mpr ⟨i,hi,hc⟩)
 have ed : (choT f g p x e n).drop i=c::(choT f g p x e n).drop (i+1):=by
  rw [List.drop_eq_getElem_cons hi]
  congr 1
  rw [← hc,List.getD_eq_getElem?_getD,List.getElem?_eq_getElem hi]; rfl
 have hsr : ∀ u,u∈(choT f g p x e n).drop (i+1)→c<u:=by
  have:=(choT_srt (f:=f) (g:=g) (p:=p) (x:=x) (e:=e) n).sublist (List.drop_sublist i _);rw [ed,List.pairwise_cons] at this;exact this.1
 have hbc:=s.lo c (by rw [ed]; simp);refine ⟨AccT.next h hP hs (s.acc.skip hbc fun u h1 h2 t ht=>?_) h2 hp,by omega,fun u hu=>by have:=hsr u hu; omega,fun u h1 h2 h3=>?_⟩
 ·have h0:=s.b0;refine okS_none (w u (by omega) (by omega)) hP (fun hok=>?_) t ht
  have:=s.hi u h1 (by omega) hok;rw [ed] at this
  rcases List.mem_cons.mp this with rfl | hu
  ·omega
  ·have:=hsr u hu; omega
 ·have:=s.hi u (by omega) h2 h3;rw [ed] at this
  rcases List.mem_cons.mp this with rfl | hu
  ·omega
  ·exact hu
theorem ChoI.done (w : ∀ d,0≤d→d<ix g.sizes x→At3 f g x e d) (h : FstT f p x e) (hP : PT f g p) {n : Nat} {b : Int} (hn : (n : Int)=ix g.sizes x) (s : ChoI f g p x e n (choT f g p x e n).length b M) : ListsT f g p M:=by
 refine AccT.done h.hx h.he ?_;refine s.acc.skip (by have:=s.b0; omega) fun u h1 h2 t ht=>?_
 have h0:=s.b0;refine okS_none (w u (by omega) h2) hP (fun hok=>?_) t ht
 have:=s.hi u h1 (by omega) hok
 simp at this
end
end Go.Shf
namespace Go.Shf
open Go.AW
section
variable {f g : SF} {p : List (List Int)} {x e : Int}
def ScanT (f : SF) (p : List (List Int)) (Y D x e : Int) : Prop :=
 ((x=-1∧e=-1)∨((0≤x∧x<f.shape.objs)∧(0≤e∧e<ix f.sizes x)∧ix (ix p x) e=-1∧(Y<x∨(Y=x∧D≤e)))) ∧
  ∀ y i : Int,0≤y∧y<f.shape.objs→0≤i∧i<ix f.sizes y→(Y<y∨(Y=y∧D≤i))→ix (ix p y) i=-1→0≤x∧(x<y∨(x=y∧e≤i))
theorem ScanT.start {n : Int} (hn : f.shape.objs≤n) : ScanT f p n 0 (-1) (-1):=⟨.inl ⟨rfl,rfl⟩,fun y i hy _ h _=>by omega⟩
theorem ScanT.row {Y D : Int} (hD : ix f.sizes Y≤D) (s : ScanT f p (Y+1) 0 x e) : ScanT f p Y D x e:=⟨s.1.imp id fun ⟨h1,h2,h3,h4⟩=>⟨h1,h2,h3,by omega⟩,fun y i hy hi h h0=>by
 refine s.2 y i hy hi ?_ h0
 rcases h with h | ⟨rfl,h⟩
 ·rcases Int.lt_or_le (Y+1) y with h2 | h2
  ·exact .inl h2
  ·exact .inr ⟨by omega,hi.1⟩
 ·omega⟩
theorem ScanT.keep {Y D : Int} (s : ScanT f p Y (D+1) x e) (h0 : ix (ix p Y) D≠-1) : ScanT f p Y D x e:=⟨s.1.imp id fun ⟨h1,h2,h3,h4⟩=>⟨h1,h2,h3,by omega⟩,fun y i hy hi h h1=>by
 refine s.2 y i hy hi ?_ h1
 rcases h with h | ⟨rfl,h⟩
 ·exact .inl h
 ·refine .inr ⟨rfl, ?_⟩
  by_cases e : i=D
  ·subst e; exact absurd h1 h0
  ·omega⟩
theorem ScanT.hit {Y D : Int} (s : ScanT f p Y (D+1) x e) (hY : 0≤Y∧Y<f.shape.objs) (hD : 0≤D∧D<ix f.sizes Y) (h0 : ix (ix p Y) D=-1) : ScanT f p Y D Y D:=⟨.inr ⟨hY,hD,h0,.inr ⟨rfl,by omega⟩⟩,fun y i hy hi h h1=>⟨hY.1,h⟩⟩
theorem ScanT.none (s : ScanT f p 0 0 x e) (hx : x<0) : ∀ y i : Int,0≤y∧y<f.shape.objs→0≤i∧i<ix f.sizes y→ix (ix p y) i≠-1:=fun y i hy hi h=>by
 have:=(s.2 y i hy hi (by omega) h).1;omega
theorem ScanT.fst (s : ScanT f p 0 0 x e) (hx : ¬ x<0) : FstT f p x e:=by
 rcases s.1 with h | ⟨h1,h2,h3,_⟩
 ·omega
 ·refine ⟨h1,h2,h3,fun y i hy hi hlt h=>?_⟩
  have:=s.2 y i hy hi (by omega) h;omega
end
end Go.Shf
namespace Go.Shf
open Go.AW
structure PF where
 src : Cat
 tgt : Cat
 sizes : List (List Int)
 before : List (List (List Int))
 behind : List (List (List Int))
 deriving Inhabited
@[go_sem] def PF.cells (p : PF) : List AV:=[iI p.src.objs,iL p.src.frm,iL p.src.to,iL p.src.idn,iLL p.src.comp,iI p.tgt.objs,iL p.tgt.frm,iL p.tgt.to,iL p.tgt.idn,iLL p.tgt.comp,iLL p.sizes,iLLL p.before,iLLL p.behind]
def PF.sz (p : PF) (x y : Int) : Int:=ix (ix p.sizes x) y
def PF.bf (p : PF) (a y : Int) : List Int:=ix (ix p.before a) y
def PF.bh (p : PF) (b x : Int) : List Int:=ix (ix p.behind b) x
def Cat.ObR (c : Cat) (x : Int) : Prop:=0≤x∧x<c.objs
def Cat.ArR (c : Cat) (a : Int) : Prop:=0≤a∧a.toNat<c.frm.length
def rp (m n : Int) : List Int:=List.replicate m.toNat n
def pw (m n : Int) : Int:=prodT (rp m n)
abbrev MapB (m n : Int) (t : List Int) : Prop:=InB (rp m n) t
def thn (s t : List Int) : List Int:=s.map fun y=>ix t y
structure PF.Shape (p : PF) : Prop where
 sI : p.src.Is
 tI : p.tgt.Is
 sl : (p.sizes.length : Int)=p.src.objs
 rl : ∀ x,p.src.ObR x→((ix p.sizes x).length : Int)=p.tgt.objs∧∀ y,p.tgt.ObR y→0≤p.sz x y∧p.sz x y≤64
 bl : p.before.length=p.src.frm.length
 hl : p.behind.length=p.tgt.frm.length
 bm : ∀ a,p.src.ArR a→((ix p.before a).length : Int)=p.tgt.objs∧∀ y,p.tgt.ObR y→MapB (p.sz (ix p.src.to a) y) (p.sz (ix p.src.frm a) y) (p.bf a y)
 hm : ∀ b,p.tgt.ArR b→((ix p.behind b).length : Int)=p.src.objs∧∀ x,p.src.ObR x→MapB (p.sz x (ix p.tgt.frm b)) (p.sz x (ix p.tgt.to b)) (p.bh b x)
structure PF.Laws (p : PF) : Prop where
 bi : ∀ x y,p.src.ObR x→p.tgt.ObR y→p.bf (ix p.src.idn x) y=natsL (p.sz x y)
 hi : ∀ x y,p.src.ObR x→p.tgt.ObR y→p.bh (ix p.tgt.idn y) x=natsL (p.sz x y)
 bc : ∀ a b y,p.src.ArR a→p.src.ArR b→ix p.src.to a=ix p.src.frm b→p.tgt.ObR y→p.bf (ix (ix p.src.comp a) b) y=thn (p.bf b y) (p.bf a y)
 hc : ∀ a b x,p.tgt.ArR a→p.tgt.ArR b→ix p.tgt.to a=ix p.tgt.frm b→p.src.ObR x→p.bh (ix (ix p.tgt.comp a) b) x=thn (p.bh a x) (p.bh b x)
 bb : ∀ a b,p.src.ArR a→p.tgt.ArR b→thn (p.bf a (ix p.tgt.frm b)) (p.bh b (ix p.src.frm a))=thn (p.bh b (ix p.src.to a)) (p.bf a (ix p.tgt.to b))
structure PF.Is (p : PF) : Prop where
 shp : p.Shape
 laws : p.Laws
section
variable {m n k : Int} {s t u : List Int}
theorem rp_len (m n : Int) : (rp m n).length=m.toNat:=by simp [rp]
theorem rp_at {i : Nat} (h : i<m.toNat) : (rp m n).getD i default=n:=by simp [rp,List.getD_eq_getElem?_getD,List.getElem?_replicate,h]
theorem MapB.len (h : MapB m n t) : t.length=m.toNat:=by have:=InB.len h; rwa [rp_len] at this
theorem MapB.at (h : MapB m n t) {i : Int} (hi : 0≤i∧i<m) : 0≤ix t i∧ix t i<n:=by
 have hi' : i.toNat<m.toNat:=by omega
 have:=InB.at h i.toNat (by rw [rp_len]; exact hi');rw [rp_at hi'] at this; exact this
theorem MapB.of (hl : t.length=m.toNat) (h : ∀ i : Int,0≤i∧i<m→0≤ix t i∧ix t i<n) : MapB m n t :=
 InB.of (by rw [rp_len]; exact hl) fun i hi=>by
  rw [rp_len] at hi
  have:=h i (by omega);rw [ix_nat] at this;rw [rp_at hi]; exact this
theorem MapB.mem (h : MapB m n t) {y : Int} (hy : y∈t) : 0≤y∧y<n:=by
 obtain ⟨i,hi,rfl⟩:=mem_getD.mp hy
 have:=h.at (i:=i) (by have:=h.len; omega);rw [ix_nat] at this; exact this
theorem thn_len (s t : List Int) : (thn s t).length=s.length:=by simp [thn]
theorem thn_ix {i : Int} (hi : 0≤i∧i.toNat<s.length) : ix (thn s t) i=ix t (ix s i):=by
 rw [ix,thn,map_getD _ hi.2]; rfl
theorem MapB.comp (h : MapB m n s) (g : MapB n k t) : MapB m k (thn s t) :=
 .of (by rw [thn_len,h.len]) fun i hi=>by
  rw [thn_ix ⟨hi.1,by rw [h.len]; omega⟩];exact g.at (h.at hi)
theorem thn_assoc (hs : ∀ y,y∈s→0≤y∧y.toNat<t.length) : thn (thn s t) u=thn s (thn t u):=by
 rw [thn,thn,thn,List.map_map];refine List.map_congr_left fun y hy=>?_;exact (thn_ix (hs y hy)).symm
theorem MapB.assoc (h : MapB m n s) (g : MapB n k t) : thn (thn s t) u=thn s (thn t u) :=
 thn_assoc fun y hy=>by have:=h.mem hy; have:=g.len; omega
theorem natsL_len (n : Int) : (natsL n).length=n.toNat:=by simp [natsL]
theorem thn_natsL (h : t.length=n.toNat) : thn (natsL n) t=t:=by
 refine List.ext_getElem (by rw [thn_len,natsL_len,h]) fun i h1 h2=>?_
 have e : (natsL n)[i]'(by rw [natsL_len]; omega)=(i : Int):=by simp [natsL]
 simp only [thn,List.getElem_map];rw [e,ix_nat]
 simp [List.getD_eq_getElem?_getD,h2]
theorem MapB.idR (h : MapB m n t) : thn t (natsL n)=t:=by
 refine (List.map_congr_left fun y hy=>?_).trans (List.map_id t);exact natsL_ix (h.mem hy)
theorem MapB.eq (h : MapB m n s) (g : MapB m n t) (e : ∀ i : Int,0≤i∧i<m→ix s i=ix t i) : s=t:=by
 refine List.ext_getElem (by rw [h.len,g.len]) fun i h1 h2=>?_
 have:=e i (by have:=h.len; omega)
 simpa [ix_nat,List.getD_eq_getElem?_getD,h1,h2] using this
theorem pw_pos (hn : 0≤n) (h : 0<pw m n) : ∀ a,a∈rp m n→0<a:=by
 intro a ha
 have h0 : a≠0:=fun e=>by rw [e] at ha; rw [pw,prodT_zero ha] at h; omega
 rw [rp] at ha
 obtain ⟨_,rfl⟩:=List.mem_replicate.mp ha;omega
theorem pw_nonneg (hn : 0≤n) : 0≤pw m n:=prodT_nonneg fun a ha=>by
 obtain ⟨_,rfl⟩:=List.mem_replicate.mp ha;exact hn
theorem at_map (hn : 0≤n) (h : 0≤k∧k<pw m n) : MapB m n (atT (rp m n) k):=atT_in (pw_pos hn (by omega)) k
theorem num_lt (h : MapB m n t) : 0≤numT (rp m n) t∧numT (rp m n) t<pw m n:=numT_lt h
theorem num_inj (h : MapB m n s) (g : MapB m n t) (e : numT (rp m n) s=numT (rp m n) t) : s=t:=by rw [← atT_num h,← atT_num g,e]
theorem num_at' (hn : 0≤n) (h : 0≤k∧k<pw m n) : numT (rp m n) (atT (rp m n) k)=k:=num_at (pw_pos hn (by omega)) h.1 h.2
end
section
variable {f g : SF} {x y a b k : Int}
def befN (f g : SF) (a y k : Int) : Int:=numT (rp (ix f.sizes (ix f.shape.frm a)) (ix g.sizes y)) (thn (ix f.acts a) (atT (rp (ix f.sizes (ix f.shape.to a)) (ix g.sizes y)) k))
def behN (f g : SF) (b x k : Int) : Int:=numT (rp (ix f.sizes x) (ix g.sizes (ix g.shape.to b))) (thn (atT (rp (ix f.sizes x) (ix g.sizes (ix g.shape.frm b))) k) (ix g.acts b))
def befL (f g : SF) (a y : Int) : List Int:=(List.range (pw (ix f.sizes (ix f.shape.to a)) (ix g.sizes y)).toNat).map fun k : Nat=>befN f g a y k
def behL (f g : SF) (b x : Int) : List Int:=(List.range (pw (ix f.sizes x) (ix g.sizes (ix g.shape.frm b))).toNat).map fun k : Nat=>behN f g b x k
def mapsP (f g : SF) : PF:=⟨f.shape,g.shape,(List.range f.shape.objs.toNat).map fun x : Nat=>(List.range g.shape.objs.toNat).map fun y : Nat=>pw (ix f.sizes x) (ix g.sizes y),
 (List.range f.shape.frm.length).map fun a : Nat=>(List.range g.shape.objs.toNat).map fun y : Nat=>befL f g a y,
 (List.range g.shape.frm.length).map fun b : Nat=>(List.range f.shape.objs.toNat).map fun x : Nat=>behL f g b x⟩
def FewP (f g : SF) : Prop:=∀ x y,f.shape.ObR x→g.shape.ObR y→pw (ix f.sizes x) (ix g.sizes y)≤64
theorem ixr {α : Type} [Inhabited α] (F : Int→α) {n : Nat} {i : Int} (h : 0≤i∧i.toNat<n) : ix ((List.range n).map fun j : Nat=>F j) i=F i:=by
 rw [ix,getD_map_range _ _ h.2,Int.toNat_of_nonneg h.1]
theorem mapsP_sz (hx : f.shape.ObR x) (hy : g.shape.ObR y) : (mapsP f g).sz x y=pw (ix f.sizes x) (ix g.sizes y):=by
 rw [PF.sz,mapsP,ixr (fun x=>(List.range g.shape.objs.toNat).map fun y : Nat=>pw (ix f.sizes x) (ix g.sizes y)) ⟨hx.1,by have:=hx.1; have:=hx.2; omega⟩,
  ixr (fun y=>pw (ix f.sizes x) (ix g.sizes y)) ⟨hy.1,by have:=hy.1; have:=hy.2; omega⟩]
theorem mapsP_bf (ha : f.shape.ArR a) (hy : g.shape.ObR y) : (mapsP f g).bf a y=befL f g a y:=by
 rw [PF.bf,mapsP,ixr (fun a=>(List.range g.shape.objs.toNat).map fun y : Nat=>befL f g a y) ha,ixr (fun y=>befL f g a y) ⟨hy.1,by have:=hy.1; have:=hy.2; omega⟩]
theorem mapsP_bh (hb : g.shape.ArR b) (hx : f.shape.ObR x) : (mapsP f g).bh b x=behL f g b x:=by
 rw [PF.bh,mapsP,ixr (fun b=>(List.range f.shape.objs.toNat).map fun x : Nat=>behL f g b x) hb,ixr (fun x=>behL f g b x) ⟨hx.1,by have:=hx.1; have:=hx.2; omega⟩]
theorem sz0 (h : f.Shape) (hx : f.shape.ObR x) : 0≤ix f.sizes x∧ix f.sizes x≤16:=h.sizeAt hx
theorem act_map (h : f.Shape) (ha : f.shape.ArR a) : MapB (ix f.sizes (ix f.shape.frm a)) (ix f.sizes (ix f.shape.to a)) (ix f.acts a):=by
 have hal:=h.al
 have h1:=h.act a.toNat (by rw [hal]; exact ha.2);rw [show f.shape.frm.getD a.toNat default=ix f.shape.frm a from rfl,show f.shape.to.getD a.toNat default=ix f.shape.to a from rfl,show f.acts.getD a.toNat default=ix f.acts a from rfl] at h1;refine .of (by omega) fun i hi=>h1.2 _ (ix_mem (by omega))
theorem ar_ob (h : f.Shape) (ha : f.shape.ArR a) : f.shape.ObR (ix f.shape.frm a)∧f.shape.ObR (ix f.shape.to a):=⟨h.is.1.frmObj ha.2,h.is.1.toObj ha.2⟩
theorem bef_map (hf : f.Shape) (hg : g.Shape) (ha : f.shape.ArR a) (hy : g.shape.ObR y) (hk : 0≤k∧k<pw (ix f.sizes (ix f.shape.to a)) (ix g.sizes y)) :
  MapB (ix f.sizes (ix f.shape.frm a)) (ix g.sizes y) (thn (ix f.acts a) (atT (rp (ix f.sizes (ix f.shape.to a)) (ix g.sizes y)) k)):=(act_map hf ha).comp (at_map (sz0 hg hy).1 hk)
theorem beh_map (hf : f.Shape) (hg : g.Shape) (hb : g.shape.ArR b) (hx : f.shape.ObR x) (hk : 0≤k∧k<pw (ix f.sizes x) (ix g.sizes (ix g.shape.frm b))) :
  MapB (ix f.sizes x) (ix g.sizes (ix g.shape.to b)) (thn (atT (rp (ix f.sizes x) (ix g.sizes (ix g.shape.frm b))) k) (ix g.acts b)):=MapB.comp (at_map (sz0 hg (ar_ob hg hb).1).1 hk) (act_map hg hb)
theorem befL_ix (hk : 0≤k∧k<pw (ix f.sizes (ix f.shape.to a)) (ix g.sizes y)) : ix (befL f g a y) k=befN f g a y k:=ixr (fun k=>befN f g a y k) ⟨hk.1,by omega⟩
theorem behL_ix (hk : 0≤k∧k<pw (ix f.sizes x) (ix g.sizes (ix g.shape.frm b))) : ix (behL f g b x) k=behN f g b x k:=ixr (fun k=>behN f g b x k) ⟨hk.1,by omega⟩
theorem befL_map (hf : f.Shape) (hg : g.Shape) (ha : f.shape.ArR a) (hy : g.shape.ObR y) : MapB (pw (ix f.sizes (ix f.shape.to a)) (ix g.sizes y)) (pw (ix f.sizes (ix f.shape.frm a)) (ix g.sizes y)) (befL f g a y) :=
 .of (by simp [befL]) fun i hi=>by rw [befL_ix hi]; exact num_lt (bef_map hf hg ha hy hi)
theorem behL_map (hf : f.Shape) (hg : g.Shape) (hb : g.shape.ArR b) (hx : f.shape.ObR x) : MapB (pw (ix f.sizes x) (ix g.sizes (ix g.shape.frm b))) (pw (ix f.sizes x) (ix g.sizes (ix g.shape.to b))) (behL f g b x) :=
 .of (by simp [behL]) fun i hi=>by rw [behL_ix hi]; exact num_lt (beh_map hf hg hb hx hi)
theorem mapsP_shape (hf : f.Shape) (hg : g.Shape) (few : FewP f g) : (mapsP f g).Shape where
 sI:=hf.is
 tI:=hg.is
 sl:=by have:=hf.is.1.o; simp only [mapsP,List.length_map,List.length_range]; omega
 rl x hx:=by
  have h2:=hg.is.1.o;refine ⟨?_,fun y hy=>?_⟩
  ·show ((ix ((List.range f.shape.objs.toNat).map fun x : Nat=>(List.range g.shape.objs.toNat).map fun y : Nat=>pw (ix f.sizes x) (ix g.sizes y)) x).length : Int)=g.shape.objs
   rw [ixr (fun x=>(List.range g.shape.objs.toNat).map fun y : Nat=>pw (ix f.sizes x) (ix g.sizes y)) ⟨hx.1,by have h5 : 0≤x∧x<f.shape.objs:=hx; omega⟩];simp only [List.length_map,List.length_range]; omega
  ·rw [mapsP_sz hx hy]; exact ⟨pw_nonneg (sz0 hg hy).1,few x y hx hy⟩
 bl:=by simp [mapsP]
 hl:=by simp [mapsP]
 bm a ha:=by
  replace ha : f.shape.ArR a:=ha
  have h2:=hg.is.1.o;refine ⟨?_,fun y hy=>?_⟩
  ·show ((ix ((List.range f.shape.frm.length).map fun a : Nat=>(List.range g.shape.objs.toNat).map fun y : Nat=>befL f g a y) a).length : Int)=g.shape.objs
   rw [ixr (fun a=>(List.range g.shape.objs.toNat).map fun y : Nat=>befL f g a y) ha];simp only [List.length_map,List.length_range]; omega
  ·have h3:=ar_ob hf ha
   show MapB ((mapsP f g).sz (ix f.shape.to a) y) ((mapsP f g).sz (ix f.shape.frm a) y) ((mapsP f g).bf a y)
   rw [mapsP_bf ha hy,mapsP_sz h3.2 hy,mapsP_sz h3.1 hy]; exact befL_map hf hg ha hy
 hm b hb:=by
  replace hb : g.shape.ArR b:=hb
  have h2:=hf.is.1.o;refine ⟨?_,fun x hx=>?_⟩
  ·show ((ix ((List.range g.shape.frm.length).map fun b : Nat=>(List.range f.shape.objs.toNat).map fun x : Nat=>behL f g b x) b).length : Int)=f.shape.objs
   rw [ixr (fun b=>(List.range f.shape.objs.toNat).map fun x : Nat=>behL f g b x) hb];simp only [List.length_map,List.length_range]; omega
  ·have h3:=ar_ob hg hb
   show MapB ((mapsP f g).sz x (ix g.shape.frm b)) ((mapsP f g).sz x (ix g.shape.to b)) ((mapsP f g).bh b x)
   rw [mapsP_bh hb hx,mapsP_sz hx h3.1,mapsP_sz hx h3.2]; exact behL_map hf hg hb hx
theorem befL_eq {L : List Int} (hl : L.length=(pw (ix f.sizes (ix f.shape.to a)) (ix g.sizes y)).toNat) (h : ∀ k : Int,0≤k∧k<pw (ix f.sizes (ix f.shape.to a)) (ix g.sizes y)→ix L k=befN f g a y k) : L=befL f g a y:=by
 refine List.ext_getElem (by rw [hl]; simp [befL]) fun i h1 h2=>?_
 have hk : 0≤(i : Int)∧(i : Int)<pw (ix f.sizes (ix f.shape.to a)) (ix g.sizes y):=by omega
 have e1:=h i hk
 have e2:=befL_ix hk;rw [← e2,ix_nat,ix_nat] at e1
 simpa [List.getD_eq_getElem?_getD,h1,h2] using e1
theorem behL_eq {L : List Int} (hl : L.length=(pw (ix f.sizes x) (ix g.sizes (ix g.shape.frm b))).toNat) (h : ∀ k : Int,0≤k∧k<pw (ix f.sizes x) (ix g.sizes (ix g.shape.frm b))→ix L k=behN f g b x k) : L=behL f g b x:=by
 refine List.ext_getElem (by rw [hl]; simp [behL]) fun i h1 h2=>?_
 have hk : 0≤(i : Int)∧(i : Int)<pw (ix f.sizes x) (ix g.sizes (ix g.shape.frm b)):=by omega
 have e1:=h i hk
 have e2:=behL_ix hk;rw [← e2,ix_nat,ix_nat] at e1
 simpa [List.getD_eq_getElem?_getD,h1,h2] using e1
theorem at_bef (hf : f.Shape) (hg : g.Shape) (ha : f.shape.ArR a) (hy : g.shape.ObR y) (hk : 0≤k∧k<pw (ix f.sizes (ix f.shape.to a)) (ix g.sizes y)) :
  atT (rp (ix f.sizes (ix f.shape.frm a)) (ix g.sizes y)) (befN f g a y k)=thn (ix f.acts a) (atT (rp (ix f.sizes (ix f.shape.to a)) (ix g.sizes y)) k):=atT_num (bef_map hf hg ha hy hk)
theorem at_beh (hf : f.Shape) (hg : g.Shape) (hb : g.shape.ArR b) (hx : f.shape.ObR x) (hk : 0≤k∧k<pw (ix f.sizes x) (ix g.sizes (ix g.shape.frm b))) :
  atT (rp (ix f.sizes x) (ix g.sizes (ix g.shape.to b))) (behN f g b x k)=thn (atT (rp (ix f.sizes x) (ix g.sizes (ix g.shape.frm b))) k) (ix g.acts b):=atT_num (beh_map hf hg hb hx hk)
theorem befN_ran (hf : f.Shape) (hg : g.Shape) (ha : f.shape.ArR a) (hy : g.shape.ObR y) (hk : 0≤k∧k<pw (ix f.sizes (ix f.shape.to a)) (ix g.sizes y)) :
  0≤befN f g a y k∧befN f g a y k<pw (ix f.sizes (ix f.shape.frm a)) (ix g.sizes y):=num_lt (bef_map hf hg ha hy hk)
theorem behN_ran (hf : f.Shape) (hg : g.Shape) (hb : g.shape.ArR b) (hx : f.shape.ObR x) (hk : 0≤k∧k<pw (ix f.sizes x) (ix g.sizes (ix g.shape.frm b))) :
  0≤behN f g b x k∧behN f g b x k<pw (ix f.sizes x) (ix g.sizes (ix g.shape.to b)):=num_lt (beh_map hf hg hb hx hk)
theorem list_ix {A C : List Int} (hl : A.length=C.length) (h : ∀ i : Int,0≤i∧i.toNat<A.length→ix A i=ix C i) : A=C:=by
 refine List.ext_getElem hl fun i h1 h2=>?_
 have:=h i ⟨by omega,by simpa using h1⟩
 simpa [ix_nat,List.getD_eq_getElem?_getD,h1,h2] using this
theorem ids (h : f.Shape) (hx : f.shape.ObR x) : f.shape.ArR (ix f.shape.idn x)∧ix f.shape.frm (ix f.shape.idn x)=x∧ix f.shape.to (ix f.shape.idn x)=x:=h.is.1.idArr hx
theorem act_id (h : f.Is) (hx : f.shape.ObR x) : ix f.acts (ix f.shape.idn x)=natsL (ix f.sizes x):=by
 have hil:=h.1.is.1.il
 have hx1:=hx.1
 have hx2:=hx.2
 have h1:=ids h.1 hx
 have hlen:=h.1.actLen h1.1.2;rw [h1.2.1] at hlen
 have h0:=(sz0 h.1 hx).1;refine list_ix (by rw [natsL_len]; omega) fun i hi=>?_
 have q:=h.2.idl x.toNat (by omega) i.toNat hi.2
 have q : ix (ix f.acts (ix f.shape.idn x)) i=(i.toNat : Int):=q;rw [q,natsL_ix (by omega),Int.toNat_of_nonneg hi.1]
theorem comp_ar (h : f.Shape) (ha : f.shape.ArR a) (hb : f.shape.ArR b) (e : ix f.shape.to a=ix f.shape.frm b) :
  f.shape.ArR (ix (ix f.shape.comp a) b)∧ix f.shape.frm (ix (ix f.shape.comp a) b)=ix f.shape.frm a∧ix f.shape.to (ix (ix f.shape.comp a) b)=ix f.shape.to b:=by
 have q:=h.is.1.yes a.toNat b.toNat ha.2 hb.2 e
 have q : (0≤ix (ix f.shape.comp a) b∧ix (ix f.shape.comp a) b<f.shape.frm.length)∧ix f.shape.frm (ix (ix f.shape.comp a) b)=ix f.shape.frm a∧ix f.shape.to (ix (ix f.shape.comp a) b)=ix f.shape.to b:=q;exact ⟨⟨q.1.1,by have:=q.1; omega⟩,q.2⟩
theorem act_comp (h : f.Is) (ha : f.shape.ArR a) (hb : f.shape.ArR b) (e : ix f.shape.to a=ix f.shape.frm b) : ix f.acts (ix (ix f.shape.comp a) b)=thn (ix f.acts a) (ix f.acts b):=by
 have hc:=comp_ar h.1 ha hb e
 have l1:=h.1.actLen ha.2
 have l2:=h.1.actLen hc.1.2;rw [hc.2.1] at l2;refine list_ix (by rw [thn_len]; omega) fun i hi=>?_
 have hi2 : i.toNat<(ix f.acts a).length:=by omega
 rw [thn_ix ⟨hi.1,hi2⟩]
 have q:=h.2.comp a.toNat b.toNat ha.2 hb.2 e i.toNat hi2;exact q
theorem mapsP_laws (hf : f.Is) (hg : g.Is) : (mapsP f g).Laws where
 bi x y hx hy:=by
  have h1:=ids hf.1 hx
  have h2:=(sz0 hg.1 hy).1
  show (mapsP f g).bf (ix f.shape.idn x) y=natsL ((mapsP f g).sz x y)
  rw [mapsP_bf h1.1 hy,mapsP_sz hx hy];refine (befL_eq ?_ fun k hk=>?_).symm
  ·rw [natsL_len,h1.2.2]
  ·rw [h1.2.2] at hk
   have hm:=at_map h2 hk;rw [natsL_ix hk,befN,h1.2.1,h1.2.2,act_id hf hx,thn_natsL hm.len,num_at' h2 hk]
 hi x y hx hy:=by
  have h1:=ids hg.1 hy
  have h2:=(sz0 hg.1 hy).1
  show (mapsP f g).bh (ix g.shape.idn y) x=natsL ((mapsP f g).sz x y)
  rw [mapsP_bh h1.1 hx,mapsP_sz hx hy];refine (behL_eq ?_ fun k hk=>?_).symm
  ·rw [natsL_len,h1.2.1]
  ·rw [h1.2.1] at hk
   have hm:=at_map h2 hk;rw [natsL_ix hk,behN,h1.2.1,h1.2.2,act_id hg hy,hm.idR,num_at' h2 hk]
 bc a b y ha hb e hy:=by
  have hc:=comp_ar hf.1 ha hb e
  have hm:=befL_map hf.1 hg.1 hb hy
  show (mapsP f g).bf (ix (ix f.shape.comp a) b) y=thn ((mapsP f g).bf b y) ((mapsP f g).bf a y)
  rw [mapsP_bf hc.1 hy,mapsP_bf hb hy,mapsP_bf ha hy];refine (befL_eq ?_ fun k hk=>?_).symm
  ·rw [thn_len,hm.len,show ix f.shape.to (ix (ix f.shape.comp a) b)=ix f.shape.to b from hc.2.2]
  ·rw [show ix f.shape.to (ix (ix f.shape.comp a) b)=ix f.shape.to b from hc.2.2] at hk
   have hr:=befN_ran hf.1 hg.1 hb hy hk
   have hab:=at_bef hf.1 hg.1 hb hy hk
   have ee : ix f.shape.to a=ix f.shape.frm b:=e
   rw [thn_ix ⟨hk.1,by rw [hm.len]; omega⟩,befL_ix hk,befL_ix (by rw [ee]; exact hr),befN,ee,hab,befN,show ix f.shape.frm (ix (ix f.shape.comp a) b)=ix f.shape.frm a from hc.2.1,
    show ix f.shape.to (ix (ix f.shape.comp a) b)=ix f.shape.to b from hc.2.2,act_comp hf ha hb e,(act_map hf.1 ha).assoc (by rw [ee]; exact act_map hf.1 hb)]
 hc a b x ha hb e hx:=by
  have hc:=comp_ar hg.1 ha hb e
  have hm:=behL_map hf.1 hg.1 ha hx
  show (mapsP f g).bh (ix (ix g.shape.comp a) b) x=thn ((mapsP f g).bh a x) ((mapsP f g).bh b x)
  rw [mapsP_bh hc.1 hx,mapsP_bh hb hx,mapsP_bh ha hx];refine (behL_eq ?_ fun k hk=>?_).symm
  ·rw [thn_len,hm.len,show ix g.shape.frm (ix (ix g.shape.comp a) b)=ix g.shape.frm a from hc.2.1]
  ·rw [show ix g.shape.frm (ix (ix g.shape.comp a) b)=ix g.shape.frm a from hc.2.1] at hk
   have hr:=behN_ran hf.1 hg.1 ha hx hk
   have hab:=at_beh hf.1 hg.1 ha hx hk
   have ee : ix g.shape.to a=ix g.shape.frm b:=e
   rw [thn_ix ⟨hk.1,by rw [hm.len]; omega⟩,behL_ix hk,behL_ix (by rw [← ee]; exact hr),behN,← ee,hab,behN,show ix g.shape.frm (ix (ix g.shape.comp a) b)=ix g.shape.frm a from hc.2.1,
    show ix g.shape.to (ix (ix g.shape.comp a) b)=ix g.shape.to b from hc.2.2,act_comp hg ha hb e,MapB.assoc (at_map (sz0 hg.1 (ar_ob hg.1 ha).1).1 hk) (act_map hg.1 ha)]
 bb a b ha hb:=by
  have oa:=ar_ob hf.1 ha
  have ob:=ar_ob hg.1 hb
  have m1:=befL_map hf.1 hg.1 ha ob.1
  have m2:=behL_map hf.1 hg.1 hb oa.2
  show thn ((mapsP f g).bf a (ix g.shape.frm b)) ((mapsP f g).bh b (ix f.shape.frm a))=thn ((mapsP f g).bh b (ix f.shape.to a)) ((mapsP f g).bf a (ix g.shape.to b))
  rw [mapsP_bf ha ob.1,mapsP_bh hb oa.1,mapsP_bh hb oa.2,mapsP_bf ha ob.2];refine list_ix (by rw [thn_len,thn_len,m1.len,m2.len]) fun k hk=>?_;rw [thn_len,m1.len] at hk
  have hk' : 0≤k∧k<pw (ix f.sizes (ix f.shape.to a)) (ix g.sizes (ix g.shape.frm b)):=by omega
  rw [thn_ix ⟨hk.1,by rw [m1.len]; exact hk.2⟩,thn_ix ⟨hk.1,by rw [m2.len]; exact hk.2⟩,befL_ix hk',behL_ix hk',behL_ix (befN_ran hf.1 hg.1 ha ob.1 hk'),befL_ix (behN_ran hf.1 hg.1 hb oa.2 hk')]
  have q1:=at_bef hf.1 hg.1 ha ob.1 hk'
  have q2:=at_beh hf.1 hg.1 hb oa.2 hk'
  show numT _ (thn (atT _ (befN f g a (ix g.shape.frm b) k)) _)=numT _ (thn _ (atT _ (behN f g b (ix f.shape.to a) k)))
  rw [q1,q2,(act_map hf.1 ha).assoc (at_map (sz0 hg.1 ob.1).1 hk')]
theorem mapsP_is (hf : f.Is) (hg : g.Is) (few : FewP f g) : (mapsP f g).Is:=⟨mapsP_shape hf.1 hg.1 few,mapsP_laws hf hg⟩
end
def endSz (p : PF) : List Int:=(List.range p.src.objs.toNat).map fun x : Nat=>p.sz x x
def endLk (p : PF) : List Lk:=(List.range p.src.frm.length).map fun a : Nat=>⟨ix p.src.frm a,ix p.src.to a,p.bh a (ix p.src.frm a),p.bf a (ix p.src.to a)⟩
noncomputable def endL (p : PF) : List (List Int):=solS (endSz p) (endLk p)
structure EndT (p : PF) (t : List Int) : Prop where
 len : t.length=p.src.objs.toNat
 ran : ∀ x,p.src.ObR x→0≤ix t x∧ix t x<p.sz x x
 link : ∀ a,p.src.ArR a→ix (p.bh a (ix p.src.frm a)) (ix t (ix p.src.frm a))=ix (p.bf a (ix p.src.to a)) (ix t (ix p.src.to a))
section
variable {p : PF} {f g : SF}
theorem endSz_len (p : PF) : (endSz p).length=p.src.objs.toNat:=by simp [endSz]
theorem endSz_ix {x : Int} (hx : p.src.ObR x) : ix (endSz p) x=p.sz x x:=ixr (fun x=>p.sz x x) ⟨hx.1,by have:=hx.1; have:=hx.2; omega⟩
theorem src_ar (h : p.Shape) {a : Int} (ha : p.src.ArR a) : p.src.ObR (ix p.src.frm a)∧p.src.ObR (ix p.src.to a):=⟨h.sI.1.frmObj ha.2,h.sI.1.toObj ha.2⟩
theorem endLk_ok (h : p.Shape) (e : p.tgt=p.src) : LksOk (endSz p) (endLk p):=by
 have hl : ∀ l,l∈endLk p→∃ a,p.src.ArR a∧l=⟨ix p.src.frm a,ix p.src.to a,p.bh a (ix p.src.frm a),p.bf a (ix p.src.to a)⟩:=fun l hm=>by
  obtain ⟨a,ha,rfl⟩:=List.mem_map.mp hm
  have:=List.mem_range.mp ha;exact ⟨a,⟨by omega,by simpa using this⟩,rfl⟩
 refine ⟨fun l hm=>?_,fun l hm=>?_,fun l hm=>?_,fun l hm=>?_,fun y hy=>?_⟩
 ·obtain ⟨a,ha,rfl⟩:=hl l hm
  have:=(src_ar h ha).1;rw [endSz_len]; exact ⟨this.1,by obtain ⟨h1,h2⟩:=this; show (ix p.src.frm a).toNat<_; omega⟩
 ·obtain ⟨a,ha,rfl⟩:=hl l hm
  have:=(src_ar h ha).2;rw [endSz_len]; exact ⟨this.1,by obtain ⟨h1,h2⟩:=this; show (ix p.src.to a).toNat<_; omega⟩
 ·obtain ⟨a,ha,rfl⟩:=hl l hm
  have o:=src_ar h ha
  have m:=((h.hm a (by rw [e]; exact ha)).2 _ o.1).len;rw [e] at m;rw [endSz_ix o.1]
  have:=((h.rl _ o.1).2 _ (by rw [e]; exact o.1)).1
  show ((p.bh a (ix p.src.frm a)).length : Int)=_
  omega
 ·obtain ⟨a,ha,rfl⟩:=hl l hm
  have o:=src_ar h ha
  have m:=((h.bm a ha).2 _ (by rw [e]; exact o.2)).len;rw [endSz_ix o.2]
  have:=((h.rl _ o.2).2 _ (by rw [e]; exact o.2)).1
  show ((p.bf a (ix p.src.to a)).length : Int)=_
  omega
 ·obtain ⟨x,hx,rfl⟩:=List.mem_map.mp hy
  have:=List.mem_range.mp hx
  have:=(h.rl x ⟨by omega,by omega⟩).2 x (by rw [e]; exact ⟨by omega,by omega⟩);omega
theorem endL_is (h : p.Shape) (e : p.tgt=p.src) : IsLex (EndT p) (endL p):=by
 have hob:=h.sI.1.o
 have ok:=endLk_ok h e
 have hr : ∀ n,n<(List.replicate (endSz p).length (-1 : Int)).length→(List.replicate (endSz p).length (-1 : Int)).getD n default=-1:=fun n hn=>by
  rw [List.length_replicate] at hn
  simp [List.getD_eq_getElem?_getD,List.getElem?_replicate,hn]
 have hneg : ∀ i : Int,ix (List.replicate (endSz p).length (-1 : Int)) i<0∨(endSz p).length≤i.toNat:=fun i=>by
  by_cases q : i.toNat<(endSz p).length
  ·left; have:=hr i.toNat (by rw [List.length_replicate]; exact q); rw [ix,this]; omega
  ·right; omega
 have key:=exS_is ok (p:=List.replicate (endSz p).length (-1)) ⟨by simp,fun n hn=>.inl (by rw [hr n hn]; omega)⟩ fun l hl h1 h2=>by
  rcases hneg l.i with q | q
  ·omega
  ·have:=(ok.i l hl).2; omega
 refine ⟨key.srt,fun t=>(key.mem t).trans ⟨fun q=>?_,fun q=>?_⟩⟩
 ·have ql:=q.len;rw [List.length_replicate,endSz_len] at ql
  have hran : ∀ x,p.src.ObR x→0≤ix t x∧ix t x<p.sz x x:=fun x hx=>by
   have h1:=hx.1
   have h2:=hx.2
   have hn : x.toNat<(List.replicate (endSz p).length (-1 : Int)).length:=by rw [List.length_replicate,endSz_len]; omega
   have:=q.new x.toNat hn (hr _ hn);rw [show (endSz p).getD x.toNat default=ix (endSz p) x from rfl,endSz_ix hx] at this;exact this
  refine ⟨ql,hran,fun a ha=>?_⟩
  have o:=src_ar h ha
  have hm : (⟨ix p.src.frm a,ix p.src.to a,p.bh a (ix p.src.frm a),p.bf a (ix p.src.to a)⟩ : Lk)∈endLk p:=List.mem_map.mpr ⟨a.toNat,List.mem_range.mpr ha.2,by rw [Int.toNat_of_nonneg ha.1]⟩;exact q.cons _ hm (hran _ o.1).1 (hran _ o.2).1
 ·refine ⟨by rw [List.length_replicate,endSz_len]; exact q.len,fun n hn _=>?_,fun n hn h1=>(h1 (hr n hn)).elim,fun l hl _ _=>?_⟩
  ·rw [List.length_replicate,endSz_len] at hn
   have hx : p.src.ObR n:=⟨by omega,by omega⟩
   have:=q.ran n hx;rw [← endSz_ix hx,ix_nat,ix_nat] at this;exact this
  ·obtain ⟨a,ha,rfl⟩:=List.mem_map.mp hl
   have ha:=List.mem_range.mp ha;exact q.link a ⟨by omega,by simpa using ha⟩
def phiE (f g : SF) (t : List (List Int)) : List Int:=(List.range f.shape.objs.toNat).map fun x : Nat=>numT (rp (ix f.sizes x) (ix g.sizes x)) (ix t x)
def psiE (f g : SF) (L : List Int) : List (List Int):=(List.range f.shape.objs.toNat).map fun x : Nat=>atT (rp (ix f.sizes x) (ix g.sizes x)) (ix L x)
theorem phiE_ix {t : List (List Int)} {x : Int} (hx : f.shape.ObR x) : ix (phiE f g t) x=numT (rp (ix f.sizes x) (ix g.sizes x)) (ix t x):=ixr (fun x=>numT (rp (ix f.sizes x) (ix g.sizes x)) (ix t x)) ⟨hx.1,by have:=hx.1; have:=hx.2; omega⟩
theorem psiE_ix {L : List Int} {x : Int} (hx : f.shape.ObR x) : ix (psiE f g L) x=atT (rp (ix f.sizes x) (ix g.sizes x)) (ix L x):=ixr (fun x=>atT (rp (ix f.sizes x) (ix g.sizes x)) (ix L x)) ⟨hx.1,by have:=hx.1; have:=hx.2; omega⟩
theorem mapL_at {t : List (List Int)} (h : MapL f g t) {x : Int} (hx : f.shape.ObR x) : MapB (ix f.sizes x) (ix g.sizes x) (ix t x):=by
 have q:=h.pl x hx;exact .of (by omega) q.2
theorem phi_end (hf : f.Is) (hg : g.Is) (sh : f.shape=g.shape) {t : List (List Int)} (h : MapL f g t) : EndT (mapsP f g) (phiE f g t):=by
 refine ⟨by simp [phiE,mapsP],fun x hx=>?_,fun a ha=>?_⟩
 ·have hx' : f.shape.ObR x:=hx;rw [phiE_ix hx',mapsP_sz hx' (by rw [← sh]; exact hx')];exact num_lt (mapL_at h hx')
 ·have ha' : f.shape.ArR a:=ha
  have hag : g.shape.ArR a:=by rw [← sh]; exact ha'
  have o:=ar_ob hf.1 ha'
  have m1:=mapL_at h o.1
  have m2:=mapL_at h o.2
  have eg : ix g.shape.frm a=ix f.shape.frm a∧ix g.shape.to a=ix f.shape.to a:=by rw [sh]; exact ⟨rfl,rfl⟩
  have k1:=num_lt m1
  have k2:=num_lt m2
  show ix ((mapsP f g).bh a (ix f.shape.frm a)) (ix (phiE f g t) (ix f.shape.frm a))=ix ((mapsP f g).bf a (ix f.shape.to a)) (ix (phiE f g t) (ix f.shape.to a))
  rw [mapsP_bh hag o.1,mapsP_bf ha' (by rw [← sh]; exact o.2),phiE_ix o.1,phiE_ix o.2,behL_ix (by rw [eg.1]; exact k1),befL_ix k2,behN,befN,eg.1,eg.2,atT_num m1,atT_num m2]
  congr 1
  have a1:=act_map hf.1 ha'
  have a2:=act_map hg.1 hag;rw [eg.1,eg.2] at a2;refine MapB.eq (m1.comp a2) (a1.comp m2) fun e he=>?_;rw [thn_ix ⟨he.1,by rw [m1.len]; omega⟩,thn_ix ⟨he.1,by rw [a1.len]; omega⟩];exact (h.nl a ha' e he).symm
theorem psi_map (hf : f.Is) (hg : g.Is) (sh : f.shape=g.shape) {L : List Int} (h : EndT (mapsP f g) L) : MapL f g (psiE f g L):=by
 have hob:=hf.1.is.1.o
 have hr : ∀ x,f.shape.ObR x→0≤ix L x∧ix L x<pw (ix f.sizes x) (ix g.sizes x):=fun x hx=>by
  have:=h.ran x hx
  rwa [mapsP_sz hx (by rw [← sh]; exact hx)] at this
 have hm : ∀ x,f.shape.ObR x→MapB (ix f.sizes x) (ix g.sizes x) (ix (psiE f g L) x):=fun x hx=>by
  rw [psiE_ix hx]; exact at_map (sz0 hg.1 (by rw [← sh]; exact hx)).1 (hr x hx)
 refine ⟨by simp only [psiE,List.length_map,List.length_range]; omega,fun x hx=>⟨by have:=(hm x hx).len; have:=(sz0 hf.1 hx).1; omega,fun e he=>(hm x hx).at he⟩,fun a ha e he=>?_⟩
 have ha' : f.shape.ArR a:=ha
 have hag : g.shape.ArR a:=by rw [← sh]; exact ha'
 have o:=ar_ob hf.1 ha'
 have eg : ix g.shape.frm a=ix f.shape.frm a∧ix g.shape.to a=ix f.shape.to a:=by rw [sh]; exact ⟨rfl,rfl⟩
 have q:=h.link a ha
 have q : ix ((mapsP f g).bh a (ix f.shape.frm a)) (ix L (ix f.shape.frm a))=ix ((mapsP f g).bf a (ix f.shape.to a)) (ix L (ix f.shape.to a)):=q
 have m1:=hm _ o.1
 have m2:=hm _ o.2
 have a1:=act_map hf.1 ha'
 have a2:=act_map hg.1 hag;rw [eg.1,eg.2] at a2;rw [mapsP_bh hag o.1,mapsP_bf ha' (by rw [← sh]; exact o.2),behL_ix (by rw [eg.1]; exact hr _ o.1),befL_ix (hr _ o.2),behN,befN,eg.1,eg.2,← psiE_ix (f:=f) (g:=g) o.1,← psiE_ix (f:=f) (g:=g) o.2] at q
 have q:=num_inj (m1.comp a2) (a1.comp m2) q
 have q:=congrArg (fun l : List Int=>ix l e) q
 have q : ix (thn (ix (psiE f g L) (ix f.shape.frm a)) (ix g.acts a)) e=ix (thn (ix f.acts a) (ix (psiE f g L) (ix f.shape.to a))) e:=q;rw [thn_ix ⟨he.1,by rw [m1.len]; omega⟩,thn_ix ⟨he.1,by rw [a1.len]; omega⟩] at q;exact q.symm
theorem psi_phi (hf : f.Is) {t : List (List Int)} (h : MapL f g t) : psiE f g (phiE f g t)=t:=by
 have hob:=hf.1.is.1.o
 have hl:=h.len;refine List.ext_getElem (by simp only [psiE,List.length_map,List.length_range]; omega) fun i h1 h2=>?_
 have hx : f.shape.ObR (i : Int):=⟨by omega,by omega⟩
 have e:=psiE_ix (f:=f) (g:=g) (L:=phiE f g t) hx;rw [phiE_ix hx,atT_num (mapL_at h hx),ix_nat,ix_nat] at e
 simpa [List.getD_eq_getElem?_getD,h1,h2] using e
theorem phi_psi (hg : g.Is) (sh : f.shape=g.shape) {L : List Int} (h : EndT (mapsP f g) L) : phiE f g (psiE f g L)=L:=by
 have hl:=h.len;refine list_ix (by simp only [phiE,List.length_map,List.length_range]; exact hl.symm) fun i hi=>?_
 have hx : f.shape.ObR i:=⟨hi.1,by simp only [phiE,List.length_map,List.length_range] at hi; omega⟩
 have:=h.ran i hx;rw [mapsP_sz hx (by rw [← sh]; exact hx)] at this;rw [phiE_ix hx,psiE_ix hx,num_at' (sz0 hg.1 (by rw [← sh]; exact hx)).1 this]
theorem nodup_mapOn {α β : Type} {F : α→β} {l : List α} (h : l.Nodup) (hi : ∀ a,a∈l→∀ b,b∈l→F a=F b→a=b) : (l.map F).Nodup :=
 List.pairwise_map.mpr (h.imp_of_mem fun {a b} ha hb hne e=>hne (hi a ha b hb e))
theorem end_count (hf : f.Is) (hg : g.Is) (sh : f.shape=g.shape) (few : FewP f g) : (endL (mapsP f g)).length=(allMp f g (blankT f)).length:=by
 have hE:=endL_is (mapsP_shape hf.1 hg.1 few) (show g.shape=f.shape from sh.symm)
 have hM:=allMp_is hf hg sh (blank_pt hf.1)
 have hm : ∀ t,t∈allMp f g (blankT f)↔MapL f g t:=fun t=>(hM.mem t).trans (blank_ext hf.1)
 have hEn : (endL (mapsP f g)).Nodup:=hE.srt.imp fun {a b} h e=>by rw [cmp_zero.mpr e] at h; omega
 refine Nat.le_antisymm ?_ ?_
 ·have:=List.Nodup.length_le_of_subset (l₁:=(endL (mapsP f g)).map (psiE f g)) (l₂:=allMp f g (blankT f)) (nodup_mapOn hEn fun a ha b hb e=>by
   rw [← phi_psi hg sh ((hE.mem a).mp ha),← phi_psi hg sh ((hE.mem b).mp hb),e]) fun t ht=>by
   obtain ⟨L,hL,rfl⟩:=List.mem_map.mp ht;exact (hm _).mpr (psi_map hf hg sh ((hE.mem L).mp hL))
  rwa [List.length_map] at this
 ·have:=List.Nodup.length_le_of_subset (l₁:=(allMp f g (blankT f)).map (phiE f g)) (l₂:=endL (mapsP f g)) (nodup_mapOn hM.nodup fun a ha b hb e=>by
   rw [← psi_phi hf ((hm a).mp ha),← psi_phi hf ((hm b).mp hb),e]) fun L hL=>by
   obtain ⟨t,ht,rfl⟩:=List.mem_map.mp hL;exact (hE.mem _).mpr (phi_end hf hg sh ((hm t).mp ht))
  rwa [List.length_map] at this
end
end Go.Shf
namespace Go.Shf
open Go.AW
def capP (n : Int) (k : Nat) : Int:=min (prodT (List.replicate k n)) 65
theorem prodT_rep (n : Int) (k : Nat) : prodT (List.replicate (k+1) n)=n*prodT (List.replicate k n):=rfl
theorem rep_nonneg {n : Int} (h : 0≤n) (k : Nat) : 0≤prodT (List.replicate k n):=prodT_nonneg fun a ha=>by
 obtain ⟨_,rfl⟩:=List.mem_replicate.mp ha;exact h
theorem capP_bd {n : Int} (h : 0≤n) (k : Nat) : 0≤capP n k∧capP n k≤65:=by
 have:=rep_nonneg h k;rw [capP]; omega
theorem capP_succ {n : Int} (h : 0≤n) (k : Nat) : min (capP n k*n) 65=capP n (k+1):=by
 have hp:=rep_nonneg h k;rw [capP,capP,prodT_rep]
 generalize prodT (List.replicate k n)=p at hp
 by_cases e : p≤65
 ·rw [show min p 65=p by omega,Int.mul_comm]
 ·rw [show min p 65=65 by omega]
  by_cases e0 : n=0
  ·subst e0; simp
  ·have h1 : 65*1≤65*n:=Int.mul_le_mul_of_nonneg_left (by omega) (by omega)
   have h2 : 1*p≤n*p:=Int.mul_le_mul_of_nonneg_right (by omega) hp;omega
theorem capP_pw {m n : Int} : capP n m.toNat=min (pw m n) 65:=rfl
def horn (n : Int) : List Int→Int→Int
 | [],a=>a
 | y::r,a=>horn n r (a*n+y)
theorem horn_num (n : Int) : ∀ (t : List Int) (a : Int),horn n t a=a*prodT (List.replicate t.length n)+numT (List.replicate t.length n) t
 | [],a=>by simp [horn,prodT,numT]
 | y::r,a=>by
  rw [horn,horn_num n r,List.length_cons,prodT_rep]
  show (a*n+y)*prodT (List.replicate r.length n)+numT (List.replicate r.length n) r=a*(n*prodT (List.replicate r.length n))+(y*prodT (List.replicate r.length n)+numT (List.replicate r.length n) r)
  rw [Int.add_mul,Int.mul_assoc,Int.add_assoc]
theorem horn_snoc (n : Int) : ∀ (t : List Int) (a y : Int),horn n (t++[y]) a=horn n t a*n+y
 | [],a,y=>rfl
 | z::r,a,y=>by rw [List.cons_append,horn,horn_snoc n r,horn]
theorem rep_drop (n : Int) (m i : Nat) : (List.replicate m n).drop i=List.replicate (m - i) n:=List.drop_replicate
theorem rep_mono {n : Int} (hn : 1≤n) : ∀ (k m : Nat),k≤m→prodT (List.replicate k n)≤prodT (List.replicate m n)
 | k,0,h=>by rw [show k=0 by omega]; exact Int.le_refl _
 | k,m+1,h=>by
  by_cases e : k=m+1
  ·rw [e]; exact Int.le_refl _
  ·have ih:=rep_mono hn k m (by omega)
   have h0:=rep_nonneg (n:=n) (by omega) m;rw [prodT_rep n m]
   have : 1*prodT (List.replicate m n)≤n*prodT (List.replicate m n):=Int.mul_le_mul_of_nonneg_right hn h0;omega
theorem quo_step {n k : Int} (hn : 1≤n) (hk : 0≤k) (j : Nat) : (k / prodT (List.replicate j n)) / n=k / prodT (List.replicate (j+1) n):=by
 have h0 : 0<prodT (List.replicate j n):=prodT_pos fun a ha=>by obtain ⟨_,rfl⟩:=List.mem_replicate.mp ha; omega
 rw [prodT_rep,Int.mul_comm n,Int.ediv_ediv_of_nonneg (by omega)]
theorem dig_rep (n k : Int) (m i : Nat) (hi : i<m) : digT (List.replicate m n) k i=(k / prodT (List.replicate (m - (i+1)) n)) % n:=by
 rw [digT,rep_drop]
 simp [List.getD_eq_getElem?_getD,List.getElem?_replicate,hi]
def digK (m : Nat) (n k : Int) (j : Nat) : List Int:=(List.range m).map fun i=>if m - j≤i then digT (List.replicate m n) k i else 0
theorem digK_len (m : Nat) (n k : Int) (j : Nat) : (digK m n k j).length=m:=by simp [digK]
theorem digK_zero (m : Nat) (n k : Int) : digK m n k 0=List.replicate m 0:=by
 refine List.ext_getElem (by simp [digK]) fun i h1 h2=>?_
 have hi : i<m:=by simpa [digK] using h1
 simp only [digK,List.getElem_map,List.getElem_range,List.getElem_replicate];rw [if_neg (by omega)]
theorem digK_full (m : Nat) (n k : Int) : digK m n k m=atT (List.replicate m n) k:=by
 rw [digK,atT,List.length_replicate];refine List.map_congr_left fun i _=>?_;rw [if_pos (by omega)]
theorem digK_succ {m : Nat} {n k : Int} {j : Nat} (hj : j<m) : (digK m n k j).set (m - 1 - j) ((k / prodT (List.replicate j n)) % n)=digK m n k (j+1):=by
 refine List.ext_getElem (by simp [digK]) fun i h1 h2=>?_
 have hi : i<m:=by simpa [digK] using h2
 rw [List.getElem_set];simp only [digK,List.getElem_map,List.getElem_range]
 by_cases e : m - 1 - j=i
 ·rw [if_pos e,if_pos (by omega),dig_rep n k m i hi,show m - (i+1)=j by omega]
 ·rw [if_neg e]
  by_cases e2 : m - j≤i
  ·rw [if_pos e2,if_pos (by omega)]
  ·rw [if_neg e2,if_neg (by omega)]
end Go.Shf
namespace Go.Shf
open Go.AW
section
variable {p : PF} {q : List Int} {e : Int}
def blk (p : PF) (q : List Int) : List Int:=q++List.replicate (p.src.objs.toNat - q.length) (-1)
noncomputable def endX (p : PF) (q : List Int) : List (List Int):=exS (endSz p) (endLk p) (blk p q)
structure GoodQ (p : PF) (q : List Int) : Prop where
 le : q.length≤p.src.objs.toNat
 ran : ∀ i : Nat,i<q.length→0≤q.getD i default∧q.getD i default<p.sz i i
 cons : Cons (endLk p) (blk p q)
def OkA (p : PF) (q : List Int) (a : Int) : Prop:=max (ix p.src.frm a) (ix p.src.to a)=(q.length : Int) - 1→ix (p.bh a (ix p.src.frm a)) (ix q (ix p.src.frm a))=ix (p.bf a (ix p.src.to a)) (ix q (ix p.src.to a))
def OkQ (p : PF) (q : List Int) : Prop:=∀ a,p.src.ArR a→OkA p q a
theorem blk_len (h : q.length≤p.src.objs.toNat) : (blk p q).length=p.src.objs.toNat:=by simp [blk]; omega
theorem blk_lo {i : Nat} (h : i<q.length) : (blk p q).getD i default=q.getD i default:=by
 simp [blk,List.getD_eq_getElem?_getD,List.getElem?_append_left h]
theorem blk_hi {i : Nat} (h : q.length≤i) (h2 : i<p.src.objs.toNat) : (blk p q).getD i default=-1:=by
 simp [blk,List.getD_eq_getElem?_getD,List.getElem?_append_right h,List.getElem?_replicate,show i - q.length<p.src.objs.toNat - q.length by omega]
theorem blk_set (h : q.length<p.src.objs.toNat) : (blk p q).set q.length e=blk p (q++[e]):=by
 obtain ⟨m,hm⟩ : ∃ m,p.src.objs.toNat - q.length=m+1:=⟨p.src.objs.toNat - q.length - 1,by omega⟩
 have hm2 : p.src.objs.toNat - (q++[e]).length=m:=by simp; omega
 rw [blk,blk,hm,hm2]
 simp [List.set_append,List.replicate_succ]
theorem blk_full (h : q.length=p.src.objs.toNat) : blk p q=q:=by simp [blk,h]
theorem blk_part (hb : p.Shape) (g : GoodQ p q) : PartL (endSz p) (blk p q):=by
 refine ⟨by rw [blk_len g.le,endSz_len],fun n hn=>?_⟩;rw [blk_len g.le] at hn
 by_cases h : n<q.length
 ·right
  have:=g.ran n h;rw [blk_lo h]
  have hx : p.src.ObR (n : Int):=⟨by omega,by omega⟩
  have e:=endSz_ix hx;rw [ix_nat] at e;rw [e]; exact this
 ·left; rw [blk_hi (by omega) hn]; omega
theorem lk_mem {a : Int} (ha : p.src.ArR a) : (⟨ix p.src.frm a,ix p.src.to a,p.bh a (ix p.src.frm a),p.bf a (ix p.src.to a)⟩ : Lk)∈endLk p :=
 List.mem_map.mpr ⟨a.toNat,List.mem_range.mpr ha.2,by rw [Int.toNat_of_nonneg ha.1]⟩
theorem lk_of {l : Lk} (h : l∈endLk p) : ∃ a,p.src.ArR a∧l=⟨ix p.src.frm a,ix p.src.to a,p.bh a (ix p.src.frm a),p.bf a (ix p.src.to a)⟩:=by
 obtain ⟨a,ha,rfl⟩:=List.mem_map.mp h
 have:=List.mem_range.mp ha;exact ⟨a,⟨by omega,by simpa using this⟩,rfl⟩
theorem goodQ_nil (hb : p.Shape) : GoodQ p []:=by
 refine ⟨by simp,fun i h=>by simp at h,fun l hm h1 _=>?_⟩
 obtain ⟨a,ha,rfl⟩:=lk_of hm
 have o:=(src_ar hb ha).1
 have h1 : 0≤ix (blk p []) (ix p.src.frm a):=h1
 have:=blk_hi (p:=p) (q:=[]) (i:=(ix p.src.frm a).toNat) (by simp) (by have:=o.1; have:=o.2; omega);rw [ix,this] at h1; omega
theorem blk_ix {i : Int} (h : 0≤i∧i≤q.length) (hq : q.length<p.src.objs.toNat) : ix (blk p (q++[e])) i=ix (q++[e]) i:=by
 rw [ix,ix,blk_lo (by simp; omega)]
theorem blk_neg {i : Int} (h : (q.length : Int)<i) (hi : i<p.src.objs) : ix (blk p (q++[e])) i=-1:=by
 rw [ix,blk_hi (by simp; omega) (by omega)]
theorem snoc_ix {i : Int} (h : 0≤i∧i<q.length) : ix (q++[e]) i=ix q i:=by
 simp [ix,List.getD_eq_getElem?_getD,List.getElem?_append_left (show i.toNat<q.length by omega)]
theorem snoc_last : ix (q++[e]) (q.length : Int)=e:=by simp [ix,List.getD_eq_getElem?_getD]
theorem snoc_pos (g : GoodQ p q) (he : 0≤e) {i : Int} (h : 0≤i∧i≤q.length) : 0≤ix (q++[e]) i:=by
 by_cases h2 : i=q.length
 ·rw [h2,snoc_last]; exact he
 ·rw [snoc_ix ⟨h.1,by omega⟩]; exact (g.ran i.toNat (by omega)).1
theorem okQ_iff (hb : p.Shape) (g : GoodQ p q) (hq : q.length<p.src.objs.toNat) (he : 0≤e) : OkQ p (q++[e])↔ChP (endLk p) (blk p q) q.length e:=by
 have hl : ((q++[e]).length : Int) - 1=q.length:=by simp
 have ho:=hb.sI.1.o
 constructor
 ·intro h l hm ht
  obtain ⟨a,ha,rfl⟩:=lk_of hm
  have o:=src_ar hb ha;rw [blk_set hq]
  intro h1 h2
  have ht : ix p.src.frm a=q.length∨ix p.src.to a=q.length:=ht
  have h1 : 0≤ix (blk p (q++[e])) (ix p.src.frm a):=h1
  have h2 : 0≤ix (blk p (q++[e])) (ix p.src.to a):=h2
  have b1 : ix p.src.frm a≤q.length:=Int.not_lt.mp fun hh=>by rw [blk_neg hh o.1.2] at h1; omega
  have b2 : ix p.src.to a≤q.length:=Int.not_lt.mp fun hh=>by rw [blk_neg hh o.2.2] at h2; omega
  show ix (p.bh a (ix p.src.frm a)) (ix (blk p (q++[e])) (ix p.src.frm a))=ix (p.bf a (ix p.src.to a)) (ix (blk p (q++[e])) (ix p.src.to a))
  rw [blk_ix ⟨o.1.1,b1⟩ hq,blk_ix ⟨o.2.1,b2⟩ hq];exact h a ha (by rw [hl]; omega)
 ·intro h a ha hm;rw [hl] at hm
  have o:=src_ar hb ha
  have o1:=o.1.1
  have o2:=o.2.1
  have q1:=h _ (lk_mem ha) (by show ix p.src.frm a=q.length∨ix p.src.to a=q.length; omega);rw [blk_set hq] at q1
  have q1 : 0≤ix (blk p (q++[e])) (ix p.src.frm a)→0≤ix (blk p (q++[e])) (ix p.src.to a)→ix (p.bh a (ix p.src.frm a)) (ix (blk p (q++[e])) (ix p.src.frm a))=ix (p.bf a (ix p.src.to a)) (ix (blk p (q++[e])) (ix p.src.to a)):=q1;rw [blk_ix ⟨o1,by omega⟩ hq,blk_ix ⟨o2,by omega⟩ hq] at q1;exact q1 (snoc_pos g he ⟨o1,by omega⟩) (snoc_pos g he ⟨o2,by omega⟩)
theorem goodQ_snoc (hb : p.Shape) (e0 : p.tgt=p.src) (g : GoodQ p q) (hq : q.length<p.src.objs.toNat) (he : 0≤e∧e<p.sz q.length q.length) (h : OkQ p (q++[e])) : GoodQ p (q++[e]):=by
 refine ⟨by simp; omega,fun i hi=>?_, ?_⟩
 ·by_cases h2 : i<q.length
  ·have:=g.ran i h2
   simpa [List.getD_eq_getElem?_getD,List.getElem?_append_left h2] using this
  ·obtain rfl : i=q.length:=by simp at hi; omega
   simpa [List.getD_eq_getElem?_getD] using he
 ·have:=cons_set (endLk_ok hb e0) g.cons ((okQ_iff hb g hq he.1).mp h)
  rwa [blk_set hq] at this
theorem endX_nil (p : PF) : endX p []=endL p:=by
 rw [endX,endL,solS,endSz_len]; simp [blk]
theorem endX_full (g : GoodQ p q) (h : q.length=p.src.objs.toNat) : endX p q=[q]:=by
 have hc:=g.cons;rw [endX,blk_full h];rw [blk_full h] at hc;refine exS_eq (lex_full hc fun n hn=>?_)
 have:=(g.ran n hn).1;omega
noncomputable def endG (p : PF) (q : List Int) (k : Nat) : List (List Int):=(List.range k).flatMap fun e : Nat=>if dec (OkQ p (q++[(e : Int)])) then endX p (q++[(e : Int)]) else []
theorem endG_zero (p : PF) (q : List Int) : endG p q 0=[]:=rfl
theorem endG_t {k : Nat} (h : OkQ p (q++[(k : Int)])) : endG p q (k+1)=endG p q k++endX p (q++[(k : Int)]):=by
 rw [endG,List.range_succ,List.flatMap_append]; simp [endG,dec_t h]
theorem endG_f {k : Nat} (h : ¬ OkQ p (q++[(k : Int)])) : endG p q (k+1)=endG p q k:=by
 rw [endG,List.range_succ,List.flatMap_append]; simp [endG,dec_f h]
theorem endG_pre {k m : Nat} (h : k≤m) : endG p q k <+: endG p q m:=by
 obtain ⟨d,rfl⟩:=Nat.exists_eq_add_of_le h
 induction d with
 | zero=>exact List.prefix_refl _
 | succ d ih =>
  refine (ih (by omega)).trans ?_
  by_cases hh : OkQ p (q++[((k+d : Nat) : Int)])
  ·rw [← Nat.add_assoc,endG_t hh]; exact List.prefix_append _ _
  ·rw [← Nat.add_assoc,endG_f hh]; exact List.prefix_refl _
theorem filt_flat {α β γ : Type} (P : α→Bool) (F : α→β) (G : β→List γ) : ∀ l : List α,((l.filter P).map F).flatMap G=l.flatMap fun e=>if P e then G (F e) else []
 | []=>rfl
 | a::l=>by
  have ih:=filt_flat P F G l
  by_cases h : P a=true
  ·rw [List.filter_cons_of_pos h,List.map_cons,List.flatMap_cons,List.flatMap_cons,ih,if_pos h]
  ·rw [List.filter_cons_of_neg h,List.flatMap_cons,ih,if_neg h,List.nil_append]
theorem flat_congr {α γ : Type} {F G : α→List γ} : ∀ {l : List α},(∀ a,a∈l→F a=G a)→l.flatMap F=l.flatMap G
 | [],_=>rfl
 | a::l,h=>by rw [List.flatMap_cons,List.flatMap_cons,h a (by simp),flat_congr fun b hb=>h b (by simp [hb])]
theorem endX_step (hb : p.Shape) (e0 : p.tgt=p.src) (g : GoodQ p q) (hq : q.length<p.src.objs.toNat) : endX p q=endG p q (p.sz q.length q.length).toNat:=by
 have hx : p.src.ObR (q.length : Int):=⟨by omega,by omega⟩
 have e:=endSz_ix hx;rw [ix_nat] at e
 rw [endX,exS_step (endLk_ok hb e0) (blk_part hb g) g.cons (n:=q.length) (by rw [blk_len g.le]; exact hq) (blk_hi (Nat.le_refl _) hq) fun m hm=>by
  rw [blk_lo hm]; have:=(g.ran m hm).1; omega]
 rw [choices,nats,filt_flat,e,endG];refine flat_congr fun n _=>?_
 have hiff:=okQ_iff (e:=(n : Int)) hb g hq (by omega)
 by_cases h : OkQ p (q++[(n : Int)])
 ·rw [chP,dec_t (hiff.mp h),dec_t h,if_pos rfl,if_pos rfl]
  show exS _ _ ((blk p q).set q.length (n : Int))=_
  rw [blk_set hq]; rfl
 ·rw [chP,dec_f (fun hh=>h (hiff.mpr hh)),dec_f h]; rfl
def cutE (L : List (List Int)) : List (List Int):=L.take 201
theorem cutE_lo {L : List (List Int)} (h : L.length≤201) : cutE L=L:=List.take_of_length_le h
theorem cutE_le {L : List (List Int)} (h : (cutE L).length≤200) : L.length≤200:=by simp only [cutE,List.length_take] at h; omega
theorem cutE_app {L M N : List (List Int)} (h : 200<(cutE (L++M)).length) (hp : M <+: N) : cutE (L++M)=cutE (L++N):=by
 obtain ⟨K,rfl⟩:=hp
 have : 201≤(L++M).length:=by simp only [cutE,List.length_take] at h; omega
 rw [cutE,cutE,← List.append_assoc,List.take_append_of_le_length this]
end
end Go.Shf
namespace Go.Shf
open Go.AW
theorem getD_setD {α : Type} [Inhabited α] (l : List α) {i : Nat} (a : α) (hi : i<l.length) {y : Nat} : (l.set i a).getD y default=if y=i then a else l.getD y default:=by
 simp only [List.getD_eq_getElem?_getD,List.getElem?_set]
 by_cases h : i=y
 ·subst h; simp [hi]
 ·rw [if_neg h,if_neg (Ne.symm h)]
structure SF.Pre (f : SF) (c : Cat) (N : Nat) : Prop where
 sh : f.shape=c
 sl : (f.sizes.length : Int)=c.objs
 al : f.acts.length=c.frm.length
 sz : ∀ y,y∈f.sizes→0≤y∧y≤N
 act : ∀ a : Nat,a<c.frm.length→((f.acts.getD a default).length : Int)=ix f.sizes (c.frm.getD a default)∧∀ y,y∈f.acts.getD a default→0≤y∧y<ix f.sizes (c.to.getD a default)
structure FreeI (c : Cat) (os : List Int) (k h : Nat) (LL : List (List (List Int))) : Prop where
 len : (LL.length : Int)=c.objs
 of : ∀ y : Nat,y<LL.length→∀ q,q∈LL.getD y default→∃ i j : Nat,q=[(i : Int),(j : Int)]∧i<os.length∧j<c.frm.length∧c.frm.getD j default=os.getD i default∧c.to.getD j default=y
 all : ∀ i j : Nat,(i<k∨(i=k∧j<h))→i<os.length→j<c.frm.length→c.frm.getD j default=os.getD i default→([(i : Int),(j : Int)] : List Int)∈LL.getD (c.to.getD j default).toNat default
 bd : ∀ y : Nat,(LL.getD y default).length≤k*c.frm.length+h
section
variable {c : Cat} {os : List Int} {k h : Nat} {LL : List (List (List Int))}
theorem FreeI.zero (hc : 0≤c.objs) : FreeI c os 0 0 (List.replicate c.objs.toNat []) where
 len:=by simp; omega
 of y hy q hq:=by
  rw [List.length_replicate] at hy
  simp [List.getD_eq_getElem?_getD,hy] at hq
 all i j h:=by omega
 bd y:=by
  by_cases hy : y<c.objs.toNat
  ·simp [List.getD_eq_getElem?_getD,hy]
  ·rw [List.getD_eq_getElem?_getD,List.getElem?_eq_none (by simp; omega)]
   simp
   rfl
theorem FreeI.skip (s : FreeI c os k h LL) (hn : c.frm.getD h default≠os.getD k default) : FreeI c os k (h+1) LL:=⟨s.len,s.of,fun i j hij hi hj e=>by
 by_cases e1 : i=k∧j=h
 ·rw [e1.1,e1.2] at e; exact absurd e hn
 ·exact s.all i j (by omega) hi hj e,fun y=>by have:=s.bd y; omega⟩
theorem FreeI.hit (s : FreeI c os k h LL) (hc : c.Shape) (hk : k<os.length) (hh : h<c.frm.length) (e : c.frm.getD h default=os.getD k default) :
  FreeI c os k (h+1) (LL.set (c.to.getD h default).toNat (LL.getD (c.to.getD h default).toNat default++[[(k : Int),(h : Int)]])):=by
 have ht:=hc.toObj (f:=(h : Int)) (by simpa using hh);rw [ix_nat] at ht
 have hl:=s.len
 have hin : (c.to.getD h default).toNat<LL.length:=by omega
 have hget : ∀ y : Nat,(LL.set (c.to.getD h default).toNat (LL.getD (c.to.getD h default).toNat default++[[(k : Int),(h : Int)]])).getD y default =
   if y=(c.to.getD h default).toNat then LL.getD y default++[[(k : Int),(h : Int)]] else LL.getD y default:=by
  intro y;rw [getD_setD _ _ hin]
  by_cases hy : y=(c.to.getD h default).toNat
  ·rw [if_pos hy,if_pos hy,hy]
  ·rw [if_neg hy,if_neg hy]
 refine ⟨by rw [List.length_set]; exact hl,fun y hy q hq=>?_,fun i j hij hi hj e1=>?_,fun y=>?_⟩
 ·rw [List.length_set] at hy;rw [hget] at hq
  split at hq
  ·rename_i hyy
   rcases List.mem_append.mp hq with hq | hq
   ·exact s.of y hy q hq
   ·rw [List.mem_singleton] at hq;exact ⟨k,h,hq,hk,hh,e,by rw [hyy]; omega⟩
  ·exact s.of y hy q hq
 ·rw [hget]
  by_cases e2 : i=k∧j=h
  ·rw [e2.1,e2.2,if_pos rfl]; simp
  ·have:=s.all i j (by omega) hi hj e1
   split
   ·exact List.mem_append_left _ this
   ·exact this
 ·rw [hget]
  have:=s.bd y
  split
  ·rw [List.length_append,List.length_singleton]; omega
  ·omega
theorem FreeI.next (s : FreeI c os k c.frm.length LL) : FreeI c os (k+1) 0 LL:=⟨s.len,s.of,fun i j hij hi hj e=>s.all i j (by omega) hi hj e,fun y=>by
 have:=s.bd y;rw [Nat.succ_mul]; omega⟩
def freeAct (c : Cat) (LL : List (List (List Int))) (a : Nat) : List Int:=(LL.getD (c.frm.getD a default).toNat default).map fun q=>indexOf (LL.getD (c.to.getD a default).toNat default) [ix q 0,(ix c.comp (ix q 1)).getD a default]
def freeF (c : Cat) (LL : List (List (List Int))) : SF:=⟨c,LL.map fun l=>(l.length : Int),(List.range c.frm.length).map (freeAct c LL)⟩
theorem free_pre (hc : c.Is) (s : FreeI c os os.length 0 LL) {N : Nat} (hN : os.length*c.frm.length≤N) : (freeF c LL).Pre c N where
 sh:=rfl
 sl:=by simp only [freeF,List.length_map]; exact s.len
 al:=by simp [freeF]
 sz y hy:=by
  obtain ⟨l,hl,rfl⟩:=List.mem_map.mp hy
  obtain ⟨i,hi,rfl⟩:=mem_getD.mp hl
  have:=s.bd i; omega
 act a ha:=by
  have hl:=s.len
  have hf:=hc.1.frmObj (f:=(a : Int)) (by simpa using ha)
  have ht:=hc.1.toObj (f:=(a : Int)) (by simpa using ha);rw [ix_nat] at hf ht
  have e1 : (freeF c LL).acts.getD a default=freeAct c LL a:=by rw [freeF]; exact getD_map_range _ _ ha
  have e2 : ∀ y : Int,0≤y∧y<c.objs→ix (freeF c LL).sizes y=((LL.getD y.toNat default).length : Int):=fun y hy=>by
   rw [ix,freeF]; exact map_getD _ (by omega)
  rw [e1,e2 _ hf,e2 _ ht];refine ⟨by simp [freeAct],fun y hy=>?_⟩
  obtain ⟨q,hq,rfl⟩:=List.mem_map.mp hy
  obtain ⟨i,j,rfl,hi,hj,e3,e4⟩:=s.of _ (by omega) q hq
  have h1 : (0 : Int)≤(j : Int)∧(j : Int).toNat<c.frm.length:=⟨by omega,by simpa using hj⟩
  have h2 : (0 : Int)≤(a : Int)∧(a : Int).toNat<c.frm.length:=⟨by omega,by simpa using ha⟩
  have hcm:=hc.1.comp h1 h2 (by rw [ix_nat,ix_nat,e4]; omega)
  obtain ⟨v,hv⟩ : ∃ v : Nat,ix (ix c.comp (j : Int)) (a : Int)=v:=⟨_,(Int.toNat_of_nonneg hcm.1.1).symm⟩;rw [hv] at hcm;simp only [ix_nat] at hcm
  have hall:=s.all i v (.inl hi) hi (by simpa using hcm.1.2) (by rw [hcm.2.1,e3]);rw [hcm.2.2] at hall
  have e5 : ([ix [(i : Int),(j : Int)] 0,(ix c.comp (ix [(i : Int),(j : Int)] 1)).getD a default] : List Int)=[(i : Int),(v : Int)]:=by
   have : (ix c.comp (j : Int)).getD a default=v:=by rw [← hv,ix_nat (ix c.comp (j : Int))]
   show [(i : Int),(ix c.comp (j : Int)).getD a default]=_
   rw [this]
  rw [e5]
  have:=indexOf_in hall;omega
end
def uneq (l : List Int) : Nat:=((List.range l.length).flatMap fun d=>(List.range l.length).map fun e=>(d,e)).countP fun q : Nat × Nat=>decide (l.getD q.1 default≠l.getD q.2 default)
theorem uneq_less {l m : List Int} (hl : m.length=l.length) (h : ∀ i j : Nat,i<l.length→j<l.length→l.getD i default=l.getD j default→m.getD i default=m.getD j default)
  {u v : Nat} (hu : u<l.length) (hv : v<l.length) (h1 : l.getD u default≠l.getD v default) (h2 : m.getD u default=m.getD v default) : uneq m<uneq l:=by
 unfold uneq;rw [hl];refine countP_less (b:=(u,v)) (fun q hq hq2=>?_) (by simp; exact ⟨hu,hv⟩) (decide_eq_false (by simpa using h2)) (decide_eq_true h1);simp only [List.mem_flatMap,List.mem_range,List.mem_map] at hq
 obtain ⟨i,hi,j,hj,rfl⟩:=hq
 have hq2:=of_decide_eq_true hq2;exact decide_eq_true fun e=>hq2 (h i j hi hj e)
def pot (C : List (List Int)) : Nat:=(C.map uneq).sum
theorem pot_set : ∀ (C : List (List Int)) (y : Nat) (m : List Int),y<C.length→uneq m<uneq (C.getD y default)→pot (C.set y m)<pot C
 | [],_,_,h,_=>by simp at h
 | a::C,0,m,_,h=>by
  simp only [pot,List.set_cons_zero,List.map_cons,List.sum_cons]
  have : uneq m<uneq a:=h;omega
 | a::C,y+1,m,hy,h=>by
  have:=pot_set C y m (by simpa using hy) (by simpa using h);simp only [pot,List.set_cons_succ,List.map_cons,List.sum_cons] at this ⊢;omega
def pairsOf (p : List Int) : List (List Int):=(List.range p.length).map fun i=>[indexOf p (p.getD i default),(i : Int)]
def Glued (ps : List (List Int)) (m : List Int) : Prop:=∀ q,q∈ps→ix m (ix q 0)=ix m (ix q 1)
theorem glued_less {l m : List Int} (hl : m.length=l.length) {u v : Int} (hu : 0≤u∧u.toNat<l.length) (hv : 0≤v∧v.toNat<l.length) (h1 : ix l u≠ix l v) (hg : Glued (pairsOf l++[[u,v]]) m) : uneq m<uneq l:=by
 refine uneq_less hl (fun i j hi hj e=>?_) hu.2 hv.2 h1 ?_
 ·have hp : ∀ i : Nat,i<l.length→m.getD (indexOf l (l.getD i default)).toNat default=m.getD i default:=fun i hi=>by
   have:=hg [indexOf l (l.getD i default),(i : Int)] (List.mem_append_left _ (List.mem_map.mpr ⟨i,List.mem_range.mpr hi,rfl⟩))
   have e : ix m (ix [indexOf l (l.getD i default),(i : Int)] 1)=m.getD i default:=ix_nat m i;rw [e] at this;exact this
  rw [← hp i hi,← hp j hj,e]
 ·exact hg [u,v] (List.mem_append_right _ (by simp))
theorem pairsOf_ok {l : List Int} {u v : Int} (hu : 0≤u∧u.toNat<l.length) (hv : 0≤v∧v.toNat<l.length) : ∀ q,q∈pairsOf l++[[u,v]]→2≤q.length∧(0≤q.getD 0 default∧(q.getD 0 default).toNat<l.length)∧(0≤q.getD 1 default∧(q.getD 1 default).toNat<l.length):=by
 intro q hq
 rcases List.mem_append.mp hq with hq | hq
 ·obtain ⟨i,hi,rfl⟩:=List.mem_map.mp hq;rw [List.mem_range] at hi
  have h:=indexOf_in (l:=l) (a:=l.getD i default) (mem_getD.mpr ⟨i,hi,rfl⟩);exact ⟨by simp,⟨h.1,h.2.1⟩,by simp,by simpa using hi⟩
 ·rw [List.mem_singleton] at hq;subst hq;exact ⟨by simp,hu,hv⟩
def relab (A : List Int) (a b : Int) : List Int:=A.map fun v=>if v=b then a else v
theorem relab_len (A : List Int) (a b : Int) : (relab A a b).length=A.length:=by simp [relab]
theorem relab_ix {A : List Int} {a b i : Int} (h : i.toNat<A.length) : ix (relab A a b) i=if ix A i=b then a else ix A i:=by
 rw [ix,relab,map_getD _ h]; rfl
theorem Glued.relab {ps : List (List Int)} {A : List Int} (hp : ∀ q,q∈ps→(ix q 0).toNat<A.length∧(ix q 1).toNat<A.length) (h : Glued ps A) (a b : Int) : Glued ps (relab A a b):=fun q hq=>by
 have h1:=hp q hq;rw [relab_ix h1.1,relab_ix h1.2,h q hq]
theorem Glued.step {ps : List (List Int)} {A : List Int} (hp : ∀ q,q∈ps→(ix q 0).toNat<A.length∧(ix q 1).toNat<A.length) {q : List Int} (hq : (ix q 0).toNat<A.length∧(ix q 1).toNat<A.length) (h : Glued ps A) :
  Glued (ps++[q]) (Go.Shf.relab A (ix A (ix q 0)) (ix A (ix q 1))):=fun r hr=>by
 rcases List.mem_append.mp hr with hr | hr
 ·exact h.relab hp _ _ r hr
 ·rw [List.mem_singleton] at hr;subst hr;rw [relab_ix hq.1,relab_ix hq.2,if_pos rfl]
  split <;> rfl
end Go.Shf
namespace Go.Shf
open Go.AW
theorem indexOf_appT {s : List Int} {u v : Int} (h : u∈s) : indexOf (s++[v]) u=indexOf s u:=by
 obtain ⟨h1,h2,h3⟩:=indexOf_in h;unfold indexOf
 have : (s++[v]).idxOf? u=s.idxOf? u:=by
  have hs : ∃ i,s.idxOf? u=some i:=by
   cases e : s.idxOf? u with
   | some i=>exact ⟨i,rfl⟩
   | none=>rw [List.idxOf?_eq_none_iff] at e; exact absurd h e
  obtain ⟨i,hi⟩:=hs;rw [hi];rw [List.idxOf?_eq_some_iff] at hi ⊢
  obtain ⟨k1,k2,k3⟩:=hi;refine ⟨by simp; omega,by rw [List.getElem_append_left k1]; exact k2,fun j hj=>?_⟩;rw [List.getElem_append_left (by omega)]; exact k3 j hj
 rw [this]
theorem indexOf_newT {s : List Int} {v : Int} (h : v ∉ s) : indexOf (s++[v]) v=s.length:=by
 refine indexOf_hit (k:=s.length) (by simp) (fun i hi e=>h ?_) (by simp [List.getD_eq_getElem?_getD]);rw [List.getD_eq_getElem?_getD,List.getElem?_append_left hi,← List.getD_eq_getElem?_getD] at e;exact mem_getD.mpr ⟨i,hi,e⟩
def seenL (l : List Int) : List Int:=l.foldl (fun s v=>if v∈s then s else s++[v]) []
theorem seenL_snoc (l : List Int) (v : Int) : seenL (l++[v])=if v∈seenL l then seenL l else seenL l++[v]:=by rw [seenL,List.foldl_append]; rfl
theorem mem_seenL : ∀ (k : Nat) (l : List Int),l.length=k→∀ v,v∈seenL l↔v∈l
 | 0,l,h,v=>by rw [List.length_eq_zero_iff] at h; subst h; simp [seenL]
 | k+1,l,h,v=>by
  have hne : l≠[]:=fun e=>by rw [e] at h; simp at h
  obtain ⟨r,x,rfl⟩ : ∃ r x,l=r++[x]:=⟨l.dropLast,l.getLast hne,(List.dropLast_concat_getLast hne).symm⟩
  have ih:=mem_seenL k r (by simpa using h);rw [seenL_snoc]
  by_cases hx : x∈seenL r
  ·rw [if_pos hx,ih];simp only [List.mem_append,List.mem_singleton];exact ⟨.inl,fun h=>h.elim id fun e=>e ▸ (ih x).mp hx⟩
  ·rw [if_neg hx];simp only [List.mem_append,List.mem_singleton,ih]
theorem seenL_len : ∀ (k : Nat) (l : List Int),l.length=k→(seenL l).length≤k
 | 0,l,h=>by rw [List.length_eq_zero_iff] at h; subst h; simp [seenL]
 | k+1,l,h=>by
  have hne : l≠[]:=fun e=>by rw [e] at h; simp at h
  obtain ⟨r,x,rfl⟩ : ∃ r x,l=r++[x]:=⟨l.dropLast,l.getLast hne,(List.dropLast_concat_getLast hne).symm⟩
  have ih:=seenL_len k r (by simpa using h);rw [seenL_snoc]
  split
  ·omega
  ·simp; omega
def classL (l : List Int) : List Int:=l.map fun v=>indexOf (seenL l) v
theorem classL_len (l : List Int) : (classL l).length=l.length:=by simp [classL]
theorem classL_snoc (l : List Int) (v : Int) : classL (l++[v])=classL l++[indexOf (seenL (l++[v])) v]:=by
 rw [classL,List.map_append,List.map_cons,List.map_nil]
 congr 1
 refine List.map_congr_left fun u hu=>?_
 have:=(mem_seenL _ l rfl u).mpr hu;rw [seenL_snoc]
 split
 ·rfl
 ·exact indexOf_appT this
theorem classL_ran {l : List Int} {v : Int} (h : v∈classL l) : 0≤v∧v<l.length:=by
 obtain ⟨u,hu,rfl⟩:=List.mem_map.mp h
 have:=indexOf_in ((mem_seenL _ l rfl u).mpr hu)
 have:=seenL_len _ l rfl;omega
theorem Glued.class {ps : List (List Int)} {l : List Int} (hp : ∀ q,q∈ps→(ix q 0).toNat<l.length∧(ix q 1).toNat<l.length) (h : Glued ps l) : Glued ps (classL l):=fun q hq=>by
 have h1:=hp q hq
 have key : ∀ i : Int,i.toNat<l.length→ix (classL l) i=indexOf (seenL l) (ix l i):=fun i hi=>by rw [ix,classL,map_getD _ hi]; rfl
 rw [key _ h1.1,key _ h1.2,h q hq]
def labs (n : Nat) (ps : List (List Int)) : List Int:=ps.foldl (fun A q=>relab A (ix A (ix q 0)) (ix A (ix q 1))) ((List.range n).map Int.ofNat)
theorem labs_snoc (n : Nat) (ps : List (List Int)) (q : List Int) : labs n (ps++[q])=relab (labs n ps) (ix (labs n ps) (ix q 0)) (ix (labs n ps) (ix q 1)):=by simp [labs,List.foldl_append]
theorem labs_succ (n : Nat) (ps : List (List Int)) {k : Nat} (hk : k<ps.length) : labs n (ps.take (k+1))=relab (labs n (ps.take k)) (ix (labs n (ps.take k)) (ix (ps.getD k default) 0)) (ix (labs n (ps.take k)) (ix (ps.getD k default) 1)):=by
 rw [take_one ps hk,labs_snoc]
theorem labs_fold (ps : List (List Int)) : ∀ (done : List (List Int)) (A : List Int),(∀ q,q∈done++ps→(ix q 0).toNat<A.length∧(ix q 1).toNat<A.length)→Glued done A →
  (ps.foldl (fun A q=>relab A (ix A (ix q 0)) (ix A (ix q 1))) A).length=A.length∧Glued (done++ps) (ps.foldl (fun A q=>relab A (ix A (ix q 0)) (ix A (ix q 1))) A):=by
 induction ps with
 | nil=>intro done A _ h; exact ⟨rfl,by simpa using h⟩
 | cons q r ih =>
  intro done A hr h
  have hq:=hr q (by simp)
  have h2:=h.step (fun q hq=>hr q (by simp [hq])) hq
  have:=ih (done++[q]) (relab A (ix A (ix q 0)) (ix A (ix q 1))) (fun p hp=>by
   rw [relab_len]; exact hr p (by simpa using hp)) h2
  rw [List.foldl_cons];rw [relab_len] at this;exact ⟨this.1,by simpa using this.2⟩
theorem labs_len (n : Nat) (ps : List (List Int)) : (labs n ps).length=n:=by
 have : ∀ (ps : List (List Int)) (A : List Int),(ps.foldl (fun A q=>relab A (ix A (ix q 0)) (ix A (ix q 1))) A).length=A.length:=by
  intro ps
  induction ps with
  | nil=>intro A; rfl
  | cons q r ih=>intro A; rw [List.foldl_cons,ih,relab_len]
 rw [labs,this]; simp
def joinL (n : Nat) (ps : List (List Int)) : List Int:=classL (labs n ps)
theorem joinL_len (n : Nat) (ps : List (List Int)) : (joinL n ps).length=n:=by rw [joinL,classL_len,labs_len]
theorem joinL_ran {n : Nat} {ps : List (List Int)} {v : Int} (h : v∈joinL n ps) : 0≤v∧v<n:=by
 have:=classL_ran h
 rwa [labs_len] at this
theorem joinL_glued {n : Nat} {ps : List (List Int)} (hp : ∀ q,q∈ps→(ix q 0).toNat<n∧(ix q 1).toNat<n) : Glued ps (joinL n ps):=by
 have hr : ∀ q,q∈ps→(ix q 0).toNat<((List.range n).map Int.ofNat).length∧(ix q 1).toNat<((List.range n).map Int.ofNat).length:=fun q hq=>by simpa using hp q hq
 have:=(labs_fold ps [] ((List.range n).map Int.ofNat) (by simpa using hr) (fun q hq=>by simp at hq)).2;refine Glued.class (fun q hq=>by rw [labs_len]; exact hp q hq) ?_
 simpa [labs] using this
def relabTo (A : List Int) (a b : Int) (i : Nat) : List Int:=relab (A.take i) a b++A.drop i
theorem relabTo_len (A : List Int) (a b : Int) {i : Nat} (hi : i≤A.length) : (relabTo A a b i).length=A.length:=by simp [relabTo,relab_len]; omega
theorem relabTo_zero (A : List Int) (a b : Int) : relabTo A a b 0=A:=by simp [relabTo,relab]
theorem relabTo_all (A : List Int) (a b : Int) : relabTo A a b A.length=relab A a b:=by simp [relabTo]
theorem relab_same (A : List Int) (a : Int) : relab A a a=A:=by
 rw [relab]
 have : ∀ v,v∈A→(if v=a then a else v)=v:=fun v _=>by split <;> simp_all
 rw [List.map_congr_left this,List.map_id']
theorem relabTo_get (A : List Int) (a b : Int) {i : Nat} (hi : i<A.length) : (relabTo A a b i).getD i default=A.getD i default:=by
 rw [relabTo,List.getD_eq_getElem?_getD,List.getElem?_append_right (by rw [relab_len,List.length_take]; omega),relab_len,List.length_take];rw [show i - min i A.length=0 by omega,List.getElem?_drop,List.getD_eq_getElem?_getD]; simp
theorem relabTo_succ (A : List Int) (a b : Int) {i : Nat} (hi : i<A.length) : relabTo A a b (i+1)=(relabTo A a b i).set i (if A.getD i default=b then a else A.getD i default):=by
 have hl : (relab (A.take i) a b).length=i:=by rw [relab_len,List.length_take]; omega
 rw [relabTo,relabTo,take_one A hi]
 have e1 : relab (A.take i++[A.getD i default]) a b=relab (A.take i) a b++[if A.getD i default=b then a else A.getD i default]:=by simp [relab]
 have e2 : A.drop i=A.getD i default::A.drop (i+1):=by
  rw [List.drop_eq_getElem_cons hi]; simp [List.getD_eq_getElem?_getD,hi]
 rw [e1,e2,List.set_append_right _ _ (by omega),hl,Nat.sub_self,List.set_cons_zero,List.append_assoc]; rfl
end Go.Shf
namespace Go.Shf
open Go.AW
structure ClsOk (sz : List Int) (CC : List (List Int)) : Prop where
 len : CC.length=sz.length
 row : ∀ x : Nat,x<sz.length→((CC.getD x default).length : Int)=sz.getD x default
 ran : ∀ x : Nat,x<sz.length→∀ v,v∈CC.getD x default→0≤v∧v<sz.getD x default
def clsAt (sz : List Int) (PP : List (List (List Int))) (x : Nat) : List Int:=joinL (sz.getD x default).toNat (PP.getD x default)
theorem cls_join {sz : List Int} (h : ∀ y,y∈sz→0≤y) (PP : List (List (List Int))) : ClsOk sz ((List.range sz.length).map (clsAt sz PP)) where
 len:=by simp
 row x hx:=by
  have:=h _ (mem_getD.mpr ⟨x,hx,rfl⟩);rw [getD_map_range _ _ hx,clsAt,joinL_len]; omega
 ran x hx v hv:=by
  have:=h _ (mem_getD.mpr ⟨x,hx,rfl⟩);rw [getD_map_range _ _ hx,clsAt] at hv
  have:=joinL_ran hv; omega
theorem ClsOk.set {sz : List Int} {CC : List (List Int)} (s : ClsOk sz CC) {y : Nat} (hy : y<sz.length) {m : List Int} (hm : (m.length : Int)=sz.getD y default) (hr : ∀ v,v∈m→0≤v∧v<sz.getD y default) : ClsOk sz (CC.set y m):=by
 have hg : ∀ x,(CC.set y m).getD x default=if x=y then m else CC.getD x default:=fun x=>getD_setD CC m (by rw [s.len]; exact hy)
 refine ⟨by rw [List.length_set]; exact s.len,fun x hx=>?_,fun x hx v hv=>?_⟩
 ·rw [hg]
  by_cases e : x=y
  ·rw [if_pos e,e]; exact hm
  ·rw [if_neg e]; exact s.row x hx
 ·rw [hg] at hv
  by_cases e : x=y
  ·rw [if_pos e] at hv; rw [e]; exact hr v hv
  ·rw [if_neg e] at hv; exact s.ran x hx v hv
def mxL (l : List Int) : Int:=l.foldl (fun n v=>if v+1 > n then v+1 else n) 0
theorem mxL_snoc (l : List Int) (v : Int) : mxL (l++[v])=if v+1 > mxL l then v+1 else mxL l:=by rw [mxL,List.foldl_append]; rfl
theorem mxL_succ (l : List Int) {k : Nat} (hk : k<l.length) : mxL (l.take (k+1))=if l.getD k default+1 > mxL (l.take k) then l.getD k default+1 else mxL (l.take k):=by rw [take_one l hk,mxL_snoc]
theorem mxL_all {l : List Int} {N : Int} (h0 : 0≤N) (h : ∀ v,v∈l→0≤v∧v<N) : ∀ k,k≤l.length→(0≤mxL (l.take k)∧mxL (l.take k)≤N)∧∀ i,i<k→l.getD i default<mxL (l.take k)
 | 0,_=>⟨by simpa [mxL] using h0,fun i hi=>by omega⟩
 | k+1,hk=>by
  have ih:=mxL_all h0 h k (by omega)
  have hv:=h _ (mem_getD.mpr ⟨k,hk,rfl⟩);rw [mxL_succ l hk];refine ⟨by split <;> omega,fun i hi=>?_⟩
  by_cases e : i=k
  ·subst e; split <;> omega
  ·have:=ih.2 i (by omega)
   split <;> omega
theorem mxL_bd {l : List Int} {N : Int} (h0 : 0≤N) (h : ∀ v,v∈l→0≤v∧v<N) : (0≤mxL l∧mxL l≤N)∧∀ v,v∈l→v<mxL l:=by
 have:=mxL_all h0 h l.length (Nat.le_refl _);rw [List.take_length] at this;exact ⟨this.1,fun v hv=>by obtain ⟨i,hi,rfl⟩:=mem_getD.mp hv; exact this.2 i hi⟩
end Go.Shf
namespace Go.Shf
open Go.AW
section
variable {c : Cat} {q : QS} {G f : SF} {cls : Int × Int→Int}
theorem TermOk.comp (h : c.Is) {p : Int × Int} (hp : TermOk c q.v p) {a : Int} (ha : 0≤a∧a.toNat<c.frm.length) (e : ix c.to p.2=ix c.frm a) :
  TermOk c q.v (p.1,ix (ix c.comp p.2) a)∧ix c.to (ix (ix c.comp p.2) a)=ix c.to a:=by
 have:=h.1.comp hp.2.1 ha e;exact ⟨⟨hp.1,this.1,this.2.1.trans hp.2.2⟩,this.2.2⟩
end
end Go.Shf
namespace Go.Shf
open Go.AW
end Go.Shf
namespace Go.Shf
open Go.AW
section
variable {c : Cat} {q : QS}
theorem snoc_ind {P : List Int→Prop} (h0 : P []) (h1 : ∀ l v,P l→P (l++[v])) : ∀ (k : Nat) (l : List Int),l.length=k→P l
 | 0,l,h=>by rw [List.length_eq_zero_iff] at h; subst h; exact h0
 | k+1,l,h=>by
  have hne : l≠[]:=fun e=>by rw [e] at h; simp at h
  obtain ⟨r,x,rfl⟩ : ∃ r x,l=r++[x]:=⟨l.dropLast,l.getLast hne,(List.dropLast_concat_getLast hne).symm⟩;exact h1 r x (snoc_ind h0 h1 k r (by simpa using h))
theorem seenL_nodup (l : List Int) : (seenL l).Nodup:=by
 refine snoc_ind (P:=fun l=>(seenL l).Nodup) (by simp [seenL]) (fun l v ih=>?_) _ l rfl;rw [seenL_snoc]
 split
 ·exact ih
 ·rename_i h
  refine List.nodup_append.mpr ⟨ih,by simp,fun a ha b hb e=>?_⟩;simp only [List.mem_singleton] at hb;subst hb; subst e; exact h ha
def pairsC (c : Cat) (v : List Int) : List (Int × Int):=(List.range v.length).flatMap fun i : Nat=>(outs c (v.getD i default)).map fun h=>((i : Int),h)
theorem mem_pairsC {v : List Int} {p : Int × Int} : p∈pairsC c v↔TermOk c v p:=by
 simp only [pairsC,List.mem_flatMap,List.mem_range,List.mem_map,mem_outs]
 constructor
 ·rintro ⟨i,hi,h,⟨h1,h2,h3⟩,rfl⟩;exact ⟨⟨by simp,by simpa using hi⟩,⟨h1,h2⟩,by simp only [ix_nat]; exact h3⟩
 ·rintro ⟨⟨h1,h2⟩,⟨h3,h4⟩,h5⟩;refine ⟨p.1.toNat,h2,p.2,⟨h3,h4,h5⟩, ?_⟩;rw [Int.toNat_of_nonneg h1]
theorem nodup_flat {β : Type} (g : Nat→List β) (hn : ∀ i,(g i).Nodup) (hd : ∀ i k,i≠k→∀ x,x∈g i→x ∉ g k) : ∀ n : Nat,((List.range n).flatMap g).Nodup
 | 0=>by simp
 | n+1=>by
  rw [List.range_succ,List.flatMap_append];refine List.nodup_append.mpr ⟨nodup_flat g hn hd n,by simpa using hn n,fun a ha b hb e=>?_⟩;subst e
  obtain ⟨i,hi,hx⟩:=List.mem_flatMap.mp ha;rw [List.mem_range] at hi;simp only [List.flatMap_cons,List.flatMap_nil,List.append_nil] at hb;exact hd i n (by omega) a hx hb
theorem pairsC_nodup (v : List Int) : (pairsC c v).Nodup:=by
 refine nodup_flat _ (fun i=>?_) (fun i k hik x hx hx'=>?_) v.length
 ·refine List.pairwise_map.mpr ?_
  have : (outs c (v.getD i default)).Nodup:=by
   rw [outs];refine List.pairwise_map.mpr ((List.nodup_range.sublist List.filter_sublist).imp fun {a b} h e=>h ?_);exact Int.ofNat.inj e
  exact this.imp fun {a b} h e=>h (Prod.mk.inj e).2
 ·obtain ⟨h,_,rfl⟩:=List.mem_map.mp hx
  obtain ⟨h',_,e⟩:=List.mem_map.mp hx'
  have:=(Prod.mk.inj e).1; omega
def memC (c : Cat) (v : List Int) (y : Int) : List (Int × Int):=(pairsC c v).filter fun p=>decide (ix c.to p.2=y)
theorem mem_memC {v : List Int} {y : Int} {p : Int × Int} : p∈memC c v y↔TermOk c v p∧ix c.to p.2=y:=by
 rw [memC,List.mem_filter,mem_pairsC,decide_eq_true_eq]
end
end Go.Shf
namespace Go.Shf
open Go.AW
end Go.Shf
namespace Go.Shf
open Go.AW
section
variable {c : Cat} {q : QS}
theorem mem_at {v : List Int} {y : Int} {i : Nat} (hi : i<(memC c v y).length) : TermOk c v ((memC c v y).getD i default)∧ix c.to ((memC c v y).getD i default).2=y:=mem_memC.mp (mem_getD.mpr ⟨i,hi,rfl⟩)
end
end Go.Shf
namespace Go.Shf
open Go.AW
section
variable {c : Cat} {q : QS}
def homC (c : Cat) (x y : Int) : List Int:=(outs c x).filter fun h=>decide (ix c.to h=y)
def homK (c : Cat) (x y : Int) (k : Nat) : List Int:=((List.range k).filter fun i=>decide (c.frm.getD i default=x) && decide (c.to.getD i default=y)).map Int.ofNat
theorem homK_full (c : Cat) (x y : Int) : homK c x y c.frm.length=homC c x y:=by
 rw [homK,homC,outs,List.filter_map,List.filter_filter]
 congr 1
 refine List.filter_congr fun i _=>?_;simp only [Function.comp_def];rw [Bool.and_comm]
 congr 1
theorem homK_t {x y : Int} {k : Nat} (h1 : c.frm.getD k default=x) (h2 : c.to.getD k default=y) : homK c x y (k+1)=homK c x y k++[(k : Int)]:=by
 rw [homK,range_succ_filter,if_pos (by rw [decide_eq_true h1,decide_eq_true h2]; rfl),List.map_append]; rfl
theorem homK_f {x y : Int} {k : Nat} (h : ¬ (c.frm.getD k default=x∧c.to.getD k default=y)) : homK c x y (k+1)=homK c x y k:=by
 have e : (decide (c.frm.getD k default=x) && decide (c.to.getD k default=y))=false:=by
  rw [Bool.and_eq_false_iff,decide_eq_false_iff_not,decide_eq_false_iff_not]
  by_cases h1 : c.frm.getD k default=x
  ·exact .inr fun h2=>h ⟨h1,h2⟩
  ·exact .inl h1
 rw [homK,range_succ_filter,if_neg (by rw [e]; simp),List.append_nil]; rfl
def memN (c : Cat) (v : List Int) (y : Int) (n : Nat) : List (Int × Int):=(List.range n).flatMap fun i : Nat=>(homC c (v.getD i default) y).map fun h=>((i : Int),h)
theorem filter_flatMapC {α β : Type} (p : β→Bool) (g : α→List β) : ∀ l : List α,(l.flatMap g).filter p=l.flatMap fun a=>(g a).filter p
 | []=>rfl
 | a::l=>by rw [List.flatMap_cons,List.filter_append,filter_flatMapC p g l,List.flatMap_cons]
theorem memN_full (v : List Int) (y : Int) : memN c v y v.length=memC c v y:=by
 rw [memN,memC,pairsC,filter_flatMapC]
 congr 1
 funext i
 rw [List.filter_map,homC]
 rfl
theorem memN_succ (v : List Int) (y : Int) (n : Nat) : memN c v y (n+1)=memN c v y n++(homC c (v.getD n default) y).map fun h=>((n : Int),h):=by
 rw [memN,List.range_succ,List.flatMap_append]; simp [memN]
theorem memC_nodup (v : List Int) (y : Int) : (memC c v y).Nodup:=(pairsC_nodup v).sublist List.filter_sublist
def posC (c : Cat) (v : List Int) (p : Int × Int) : Int:=indexOf (memC c v (ix c.to p.2)) p
theorem posC_in {v : List Int} {p : Int × Int} (h : TermOk c v p) : (0≤posC c v p∧(posC c v p).toNat<(memC c v (ix c.to p.2)).length)∧(memC c v (ix c.to p.2)).getD (posC c v p).toNat default=p:=by
 have:=indexOf_in (mem_memC.mpr ⟨h,rfl⟩ : p∈memC c v (ix c.to p.2));exact ⟨⟨this.1,this.2.1⟩,this.2.2⟩
theorem posC_at {v : List Int} {y : Int} {i : Nat} (hi : i<(memC c v y).length) : posC c v ((memC c v y).getD i default)=i:=by
 rw [posC,(mem_at hi).2]; exact indexOf_nodup (memC_nodup v y) hi
def actP (c : Cat) (v : List Int) (a : Int) (e : Nat) : Int:=posC c v (((memC c v (ix c.frm a)).getD e default).1,ix (ix c.comp ((memC c v (ix c.frm a)).getD e default).2) a)
theorem actP_pos {v : List Int} {a : Int} {p : Int × Int} (hp : TermOk c v p) (e : ix c.to p.2=ix c.frm a) : actP c v a (posC c v p).toNat=posC c v (p.1,ix (ix c.comp p.2) a):=by
 have:=(posC_in hp).2;rw [e] at this;rw [actP,this]
end
end Go.Shf
namespace Go.Shf
open Go.AW
theorem getElem_getD {α : Type} [Inhabited α] (l : List α) {i : Nat} (h : i<l.length) : l[i]=l.getD i default:=by simp [List.getD_eq_getElem?_getD,h]
def enc2 (p : Int × Int) : List Int:=[p.1,p.2]
theorem enc2_inj {p p' : Int × Int} (h : enc2 p=enc2 p') : p=p':=by
 simp only [enc2,List.cons.injEq,and_true] at h;exact Prod.ext h.1 h.2
theorem indexOf_enc (l : List (Int × Int)) {p : Int × Int} (h : p∈l) (nd : l.Nodup) : indexOf (l.map enc2) (enc2 p)=indexOf l p:=by
 obtain ⟨i,hi,e⟩:=mem_getD.mp h
 have nd2 : (l.map enc2).Nodup:=List.pairwise_map.mpr (nd.imp fun {a b} hab e=>hab (enc2_inj e))
 have h1:=indexOf_nodup nd hi
 have h2:=indexOf_nodup nd2 (show i<(l.map enc2).length by simpa using hi);rw [map_getD _ hi,e] at h2;rw [e] at h1;rw [h1,h2]
structure FreeX (c : Cat) (os : List Int) (k h : Nat) (LL : List (List (List Int))) : Prop extends FreeI c os k h LL where
 ex : ∀ y : Nat,y<LL.length→LL.getD y default=(memN c os y k).map enc2++(homK c (os.getD k default) y h).map fun j=>[(k : Int),j]
section
variable {c : Cat} {os : List Int} {k h : Nat} {LL : List (List (List Int))}
theorem FreeX.zero (hc : 0≤c.objs) : FreeX c os 0 0 (List.replicate c.objs.toNat []) where
 toFreeI:=FreeI.zero hc
 ex y hy:=by
  rw [List.length_replicate] at hy
  simp [List.getD_eq_getElem?_getD,hy,memN,homK]
theorem FreeX.skip (s : FreeX c os k h LL) (hn : c.frm.getD h default≠os.getD k default) : FreeX c os k (h+1) LL where
 toFreeI:=s.toFreeI.skip hn
 ex y hy:=by rw [s.ex y hy,homK_f fun e=>hn e.1]
theorem FreeX.hit (s : FreeX c os k h LL) (hc : c.Shape) (hk : k<os.length) (hh : h<c.frm.length) (e : c.frm.getD h default=os.getD k default) :
  FreeX c os k (h+1) (LL.set (c.to.getD h default).toNat (LL.getD (c.to.getD h default).toNat default++[[(k : Int),(h : Int)]])) where
 toFreeI:=s.toFreeI.hit hc hk hh e
 ex y hy:=by
  rw [List.length_set] at hy
  have ht:=hc.toObj (f:=(h : Int)) (by simpa using hh);rw [ix_nat] at ht
  have hl:=s.len;rw [getD_setD _ _ (by omega)]
  by_cases ey : y=(c.to.getD h default).toNat
  ·rw [if_pos ey,← ey,s.ex y hy,homK_t e (by omega),List.map_append,List.append_assoc]; rfl
  ·rw [if_neg ey,s.ex y hy,homK_f fun h2=>ey (by have:=h2.2; omega)]
theorem FreeX.next (s : FreeX c os k c.frm.length LL) : FreeX c os (k+1) 0 LL where
 toFreeI:=s.toFreeI.next
 ex y hy:=by
  rw [s.ex y hy,homK_full,memN_succ,List.map_append,List.map_map];simp only [homK,List.range_zero,List.filter_nil,List.map_nil,List.append_nil]
  rfl
def LLC (c : Cat) (os : List Int) : List (List (List Int)):=(List.range c.objs.toNat).map fun y : Nat=>(memC c os y).map enc2
theorem FreeX.full (s : FreeX c os os.length 0 LL) : LL=LLC c os:=by
 have hl:=s.len;refine List.ext_getElem (by simp [LLC]; omega) fun y h1 h2=>?_
 have:=s.ex y h1;rw [memN_full] at this;simp only [homK,List.range_zero,List.filter_nil,List.map_nil,List.append_nil] at this;simp only [LLC,List.getElem_map,List.getElem_range]
 simpa [List.getD_eq_getElem?_getD,h1] using this
theorem LLC_at {y : Int} (hy : 0≤y∧y<c.objs) : (LLC c os).getD y.toNat default=(memC c os y).map enc2:=by
 rw [LLC,getD_map_range _ _ (by omega),Int.toNat_of_nonneg hy.1]
def freeQ (c : Cat) (os : List Int) : SF:=freeF c (LLC c os)
theorem freeQ_size {y : Int} (hy : 0≤y∧y<c.objs) : ix (freeQ c os).sizes y=((memC c os y).length : Int):=by
 have hl : y.toNat<(LLC c os).length:=by simp [LLC]; omega
 rw [ix,freeQ,freeF]
 show ((LLC c os).map fun l=>(l.length : Int)).getD y.toNat default=_
 rw [map_getD _ hl,show (LLC c os).getD y.toNat default=(memC c os y).map enc2 from LLC_at hy,List.length_map]
theorem freeQ_act (hc : c.Is) {a : Nat} (ha : a<c.frm.length) : (freeQ c os).acts.getD a default=(List.range (memC c os (ix c.frm (a : Int))).length).map fun e=>actP c os a e:=by
 have haI : 0≤(a : Int)∧((a : Int)).toNat<c.frm.length:=by omega
 have hf:=hc.1.frmObj haI.2
 have ht:=hc.1.toObj haI.2
 have hfr : ix c.frm (a : Int)=c.frm.getD a default:=ix_nat _ _
 have htr : ix c.to (a : Int)=c.to.getD a default:=ix_nat _ _
 have hA : ∀ e,actP c os a e=posC c os (((memC c os (c.frm.getD a default)).getD e default).1,ix (ix c.comp ((memC c os (c.frm.getD a default)).getD e default).2) (a : Int)):=fun e=>by rw [actP,hfr]
 rw [hfr] at hf ⊢;rw [htr] at ht;rw [freeQ,freeF]
 show ((List.range c.frm.length).map (freeAct c (LLC c os))).getD a default=_
 rw [getD_map_range _ _ ha,freeAct];rw [show (LLC c os).getD (c.frm.getD a default).toNat default=_ from LLC_at hf,show (LLC c os).getD (c.to.getD a default).toNat default=_ from LLC_at ht,List.map_map];refine List.ext_getElem (by simp) fun e h1 h2=>?_
 have he : e<(memC c os (c.frm.getD a default)).length:=by simpa using h1
 simp only [List.getElem_map,List.getElem_range,Function.comp_def]
 have e1 : (memC c os (c.frm.getD a default))[e]=(memC c os (c.frm.getD a default)).getD e default:=getElem_getD _ he;rw [e1,hA]
 have hm:=mem_at he
 have hcm:=TermOk.comp (q:=⟨os,[],[],[]⟩) hc hm.1 haI (by rw [hfr]; exact hm.2)
 have hmem : (((memC c os (c.frm.getD a default)).getD e default).1,ix (ix c.comp ((memC c os (c.frm.getD a default)).getD e default).2) (a : Int))∈memC c os (c.to.getD a default):=mem_memC.mpr ⟨hcm.1,by rw [hcm.2,htr]⟩
 have:=indexOf_enc _ hmem (memC_nodup os _);rw [enc2] at this
 have e2 : ([ix (enc2 ((memC c os (c.frm.getD a default)).getD e default)) 0,(ix c.comp (ix (enc2 ((memC c os (c.frm.getD a default)).getD e default)) 1)).getD a default] : List Int)=[((memC c os (c.frm.getD a default)).getD e default).1,ix (ix c.comp ((memC c os (c.frm.getD a default)).getD e default).2) (a : Int)]:=by
  rw [ix_nat (ix c.comp ((memC c os (c.frm.getD a default)).getD e default).2)]; rfl
 rw [e2,this,posC]
 show _=indexOf (memC c os (ix c.to (ix (ix c.comp ((memC c os (c.frm.getD a default)).getD e default).2) (a : Int)))) _
 rw [hcm.2,htr]
end
end Go.Shf
namespace Go.Shf
open Go.AW
def Cont (l : List Int) : Prop:=∀ k : Int,0≤k→k<mxL l→k∈l
theorem classL_cont (l : List Int) : Cont (classL l):=fun k h0 hk=>by
 have hN : ∀ v,v∈classL l→0≤v∧v<((seenL l).length : Int):=fun v hv=>by
  obtain ⟨u,hu,rfl⟩:=List.mem_map.mp hv
  have:=indexOf_in ((mem_seenL _ l rfl u).mpr hu);omega
 have hb:=(mxL_bd (N:=((seenL l).length : Int)) (by omega) hN).1
 have hl : k.toNat<(seenL l).length:=by omega
 have hi:=indexOf_nodup (seenL_nodup l) hl;refine List.mem_map.mpr ⟨(seenL l).getD k.toNat default,(mem_seenL _ l rfl _).mp (mem_getD.mpr ⟨_,hl,rfl⟩), ?_⟩;rw [hi]; omega
theorem joinL_cont (n : Nat) (ps : List (List Int)) : Cont (joinL n ps):=classL_cont _
def CgAt (f : SF) (CC : List (List Int)) (a d e : Nat) : Prop :=
 (ix CC (f.shape.frm.getD a default)).getD d default=(ix CC (f.shape.frm.getD a default)).getD e default →
 ix (ix CC (f.shape.to.getD a default)) ((f.acts.getD a default).getD d default)=ix (ix CC (f.shape.to.getD a default)) ((f.acts.getD a default).getD e default)
def CgD (f : SF) (CC : List (List Int)) (a d k : Nat) : Prop:=∀ e : Nat,e<k→CgAt f CC a d e
def CgA (f : SF) (CC : List (List Int)) (a k : Nat) : Prop:=∀ d : Nat,d<k→CgD f CC a d d
def Cg (f : SF) (CC : List (List Int)) (k : Nat) : Prop:=∀ a : Nat,a<k→CgA f CC a (f.acts.getD a default).length
theorem CgA.at {f : SF} {CC : List (List Int)} {a k : Nat} (h : CgA f CC a k) {d e : Nat} (hd : d<k) (he : e<k) : CgAt f CC a d e:=fun q=>by
 rcases Nat.lt_trichotomy d e with l | l | l
 ·exact (h e he d l q.symm).symm
 ·rw [l]
 ·exact h d hd e l q
def RowTo (f : SF) (CC : List (List Int)) (a : Nat) (A : List Int) (k : Nat) : Prop:=(A.length : Int)=mxL (ix CC (f.shape.frm.getD a default)) ∧
 ∀ e : Nat,e<k→ix A ((ix CC (f.shape.frm.getD a default)).getD e default)=ix (ix CC (f.shape.to.getD a default)) ((f.acts.getD a default).getD e default)
theorem RowTo.set {f : SF} {CC : List (List Int)} {a k : Nat} {A : List Int} (h : RowTo f CC a A k) (hC : CgA f CC a (f.acts.getD a default).length) (hk : k<(f.acts.getD a default).length)
  (h0 : ∀ e : Nat,e≤k→0≤(ix CC (f.shape.frm.getD a default)).getD e default) (h1 : ((ix CC (f.shape.frm.getD a default)).getD k default).toNat<A.length) :
  RowTo f CC a (A.set ((ix CC (f.shape.frm.getD a default)).getD k default).toNat (ix (ix CC (f.shape.to.getD a default)) ((f.acts.getD a default).getD k default))) (k+1):=by
 refine ⟨by rw [List.length_set]; exact h.1,fun e he=>?_⟩;rw [ix,getD_setD _ _ h1]
 split
 ·rename_i q
  have e0:=h0 e (by omega)
  have ek:=h0 k (by omega);exact hC.at hk (by omega) (by omega)
 ·rename_i q
  have hne : e≠k:=fun h=>q (by rw [h]);exact h.2 e (by omega)
structure QuoOk (f : SF) (CC : List (List Int)) (g : SF) : Prop where
 sh : g.shape=f.shape
 sz : g.sizes=CC.map mxL
 al : g.acts.length=f.acts.length
 row : ∀ a : Nat,a<f.acts.length→RowTo f CC a (g.acts.getD a default) (f.acts.getD a default).length
structure TermF (c : Cat) (v : List Int) (G : SF) (cls : Int × Int→Int) : Prop where
 sh : G.shape=c
 sl : (G.sizes.length : Int)=c.objs
 al : G.acts.length=c.frm.length
 sz : ∀ y,y∈G.sizes→0≤y∧y<17
 len : ∀ a : Int,0≤a∧a.toNat<c.frm.length→((ix G.acts a).length : Int)=ix G.sizes (ix c.frm a)
 rng : ∀ p,TermOk c v p→0≤cls p∧cls p<ix G.sizes (ix c.to p.2)
 surj : ∀ y e : Int,0≤y∧y<c.objs→0≤e∧e<ix G.sizes y→∃ p,TermOk c v p∧ix c.to p.2=y∧cls p=e
 act : ∀ p,TermOk c v p→∀ a : Int,0≤a∧a.toNat<c.frm.length→ix c.to p.2=ix c.frm a→ix (ix G.acts a) (cls p)=cls (p.1,ix (ix c.comp p.2) a)
theorem TermF.is {c : Cat} {v : List Int} {G : SF} {cls : Int × Int→Int} (k : TermF c v G cls) (h : c.Is) : G.Is:=by
 obtain ⟨rfl,sl,al,sz,len,rng,surj,act⟩:=k
 have cmp:=fun (p : Int × Int) (hp : TermOk G.shape v p) (a : Int) (ha : 0≤a∧a.toNat<G.shape.frm.length) (e : ix G.shape.to p.2=ix G.shape.frm a)=>TermOk.comp (q:=⟨v,[],[],[]⟩) h hp ha e;refine ⟨⟨h,sl,al,sz,fun a ha=>?_⟩,⟨fun x hx e he=>?_,fun a b ha hb hab e he=>?_⟩⟩
 ·have ha' : 0≤(a : Int)∧(a : Int).toNat<G.shape.frm.length:=by omega
  have hl:=len a ha';rw [ix_nat,ix_nat] at hl;refine ⟨hl,fun y hy=>?_⟩
  obtain ⟨e,he,rfl⟩:=mem_getD.mp hy
  have hf:=h.1.frmObj ha'.2
  obtain ⟨p,hp,ep,e2⟩:=surj (ix G.shape.frm a) e hf (by rw [ix_nat]; omega)
  have h1:=act p hp a ha' ep
  have h2:=cmp p hp a ha' ep
  have h3:=rng _ h2.1;rw [h2.2,← h1,e2,ix_nat,ix_nat,ix_nat G.shape.to a] at h3;exact h3
 ·have hil:=h.1.il
  have hxo : 0≤(x : Int)∧(x : Int)<G.shape.objs:=by omega
  obtain ⟨i1,i2,i3⟩:=h.1.idArr hxo
  have e0 : ix G.shape.idn (x : Int)=G.shape.idn.getD x default:=ix_nat _ _;rw [← e0] at he ⊢
  have hl:=len _ i1;rw [i2] at hl
  obtain ⟨p,hp,ep,e2⟩:=surj x e hxo (by omega)
  have h1:=act p hp _ i1 (ep.trans i2.symm);rw [e2,ix_nat,← ep,h.idr hp.2.1,e2] at h1;rw [← ep]; exact h1
 ·have ha' : 0≤(a : Int)∧(a : Int).toNat<G.shape.frm.length:=by omega
  have hb' : 0≤(b : Int)∧(b : Int).toNat<G.shape.frm.length:=by omega
  have hf:=h.1.frmObj ha'.2
  have hl:=len a ha';rw [ix_nat,ix_nat] at hl
  have hab' : ix G.shape.to (a : Int)=ix G.shape.frm (b : Int):=by rw [ix_nat,ix_nat]; exact hab
  obtain ⟨p,hp,ep,e2⟩:=surj (ix G.shape.frm a) e hf (by rw [ix_nat]; omega)
  have hc:=h.1.comp ha' hb' hab'
  have h1:=act p hp a ha' ep
  have hpa:=cmp p hp a ha' ep
  have h2:=act _ hpa.1 b hb' (hpa.2.trans hab')
  have h3:=act p hp _ hc.1 (ep.trans hc.2.1.symm);simp only at h2;rw [← h1,h.assoc hp.2.1 ha' hb' ep hab',← h3,e2] at h2;simp only [ix_nat] at h2;exact h2.symm
theorem QuoOk.is {c : Cat} {os : List Int} {CC : List (List Int)} {g : SF} (h : c.Is) (hK : ClsOk (freeQ c os).sizes CC) (ct : ∀ x : Nat,x<CC.length→Cont (CC.getD x default)) (q : QuoOk (freeQ c os) CC g) (h17 : ∀ y,y∈g.sizes→y<17) : g.Is:=by
 have hfl : (freeQ c os).sizes.length=c.objs.toNat:=by simp [freeQ,freeF,LLC]
 have hfa : (freeQ c os).acts.length=c.frm.length:=by simp [freeQ,freeF]
 have hol:=h.1.o
 have hcl : CC.length=c.objs.toNat:=by rw [hK.len,hfl]
 have hsz : ∀ y : Int,0≤y∧y<c.objs→ix g.sizes y=mxL (ix CC y):=fun y hy=>by rw [ix,q.sz,map_getD _ (by omega)]; rfl
 have hrow : ∀ y : Int,0≤y∧y<c.objs→(ix CC y).length=(memC c os y).length:=fun y hy=>by
  have h1:=hK.row y.toNat (by omega)
  have h2:=freeQ_size (os:=os) hy;rw [ix] at h2 ⊢;omega
 have hran : ∀ y : Int,0≤y∧y<c.objs→∀ v,v∈ix CC y→0≤v∧v<mxL (ix CC y):=fun y hy v hv=>by
  have h1:=hK.ran y.toNat (by omega)
  have h2:=freeQ_size (os:=os) hy;exact ⟨(h1 v hv).1,(mxL_bd (N:=ix (freeQ c os).sizes y) (by omega) h1).2 v hv⟩
 refine TermF.is (c:=c) (v:=os) (cls:=fun p=>ix (ix CC (ix c.to p.2)) (posC c os p)) ⟨q.sh, ?_,by rw [q.al,hfa],fun y hy=>⟨?_,h17 y hy⟩,fun a ha=>?_,fun p hp=>?_,fun y e hy he=>?_,fun p hp a ha e=>?_⟩ h
 ·rw [q.sz,List.length_map]; omega
 ·rw [q.sz] at hy
  obtain ⟨l,hl,rfl⟩:=List.mem_map.mp hy
  obtain ⟨x,hx,rfl⟩:=mem_getD.mp hl
  have h1:=hK.ran x (by rw [← hK.len]; exact hx)
  have h2:=hK.row x (by rw [← hK.len]; exact hx);exact (mxL_bd (N:=(freeQ c os).sizes.getD x default) (by omega) h1).1.1
 ·have hf:=h.1.frmObj ha.2
  have:=(q.row a.toNat (by rw [hfa]; exact ha.2)).1;rw [hsz _ hf];exact this
 ·have ht:=h.1.toObj hp.2.1.2
  have hp2:=(posC_in hp).1;rw [hsz _ ht];exact hran _ ht _ (ix_mem (by rw [hrow _ ht]; exact hp2.2))
 ·rw [hsz y hy] at he
  have hc:=ct y.toNat (by omega) e he.1 he.2
  obtain ⟨i,hi,ei⟩:=mem_getD.mp hc
  have hi : i<(memC c os y).length:=by rw [← hrow y hy]; exact hi
  obtain ⟨h1,h2⟩:=mem_at hi;refine ⟨_,h1,h2, ?_⟩
  show ix (ix CC (ix c.to ((memC c os y).getD i default).2)) (posC c os ((memC c os y).getD i default))=e
  rw [h2,posC_at hi,ix_nat]; exact ei
 ·have hf:=h.1.frmObj ha.2
  have hpp:=posC_in hp;rw [e] at hpp
  have h1:=freeQ_act (os:=os) h ha.2;rw [Int.toNat_of_nonneg ha.1] at h1
  have hl : ((freeQ c os).acts.getD a.toNat default).length=(memC c os (ix c.frm a)).length:=by rw [h1]; simp
  have h2:=(q.row a.toNat (by rw [hfa]; exact ha.2)).2 (posC c os p).toNat (by rw [hl]; exact hpp.1.2);rw [h1,getD_map_range _ _ hpp.1.2,actP_pos hp e] at h2
  have h3:=h.1.comp hp.2.1 ha e
  show ix (ix g.acts a) (ix (ix CC (ix c.to p.2)) (posC c os p))=ix (ix CC (ix c.to (ix (ix c.comp p.2) a))) (posC c os (p.1,ix (ix c.comp p.2) a))
  rw [e,h3.2.2];exact h2
structure ClsC (sz : List Int) (CC : List (List Int)) : Prop extends ClsOk sz CC where
 ct : ∀ x : Nat,x<sz.length→Cont (CC.getD x default)
theorem clsC_join {sz : List Int} (h : ∀ y,y∈sz→0≤y) (PP : List (List (List Int))) : ClsC sz ((List.range sz.length).map (clsAt sz PP)) where
 toClsOk:=cls_join h PP
 ct x hx:=by rw [getD_map_range _ _ hx,clsAt]; exact joinL_cont _ _
theorem ClsC.set {sz : List Int} {CC : List (List Int)} (s : ClsC sz CC) {y : Nat} (hy : y<sz.length) {m : List Int} (hm : (m.length : Int)=sz.getD y default) (hr : ∀ v,v∈m→0≤v∧v<sz.getD y default) (hc : Cont m) : ClsC sz (CC.set y m) where
 toClsOk:=s.toClsOk.set hy hm hr
 ct x hx:=by
  rw [getD_setD CC m (by rw [s.len]; exact hy)]
  split
  ·exact hc
  ·exact s.ct x hx
theorem rows_snoc {P : Nat→List Int→Prop} {RR : List (List Int)} {A : List Int} {a : Nat} (hl : RR.length=a) (h : ∀ i : Nat,i<a→P i (RR.getD i default)) (hA : P a A) : ∀ i : Nat,i<a+1→P i ((RR++[A]).getD i default):=fun i hi=>by
 by_cases e : i=a
 ·subst e;rw [show (RR++[A]).getD i default=A by simp [List.getD_eq_getElem?_getD,← hl]]; exact hA
 ·rw [show (RR++[A]).getD i default=RR.getD i default by simp [List.getD_eq_getElem?_getD,List.getElem?_append_left (show i<RR.length by omega)]];exact h i (by omega)
end Go.Shf
namespace Go.Shf
open Go.AW
end Go.Shf
namespace Go.Shf
open Go.AW
end Go.Shf
namespace Go.Shf
open Go.AW
end Go.Shf
namespace Go.Shf
open Go.AW
end Go.Shf
namespace Go.Shf
open Go.AW
end Go.Shf
namespace Go.AW
def IoOnly (a : AV) : Prop:=∀ (g g' : Gh) (v : Value),(∀ i p,g.io i=some p→g'.io i=some p)→VRel g a v→VRel g' a v
theorem IoOnly.int (k : IntKind) (n : Int) : IoOnly (.int k n):=fun g g' v _ h=>by cases h; exact .int k n
theorem IoOnly.bool (b : Bool) : IoOnly (.bool b):=fun g g' v _ h=>by cases h; exact .bool b
theorem IoOnly.buf (i n : Nat) : IoOnly (.buf i n):=fun g g' v hg h=>by
 cases h with
 | bufnil _ h=>exact .bufnil _ (hg _ _ h)
 | buf _ _ b cap h=>exact .buf _ _ b cap (hg _ _ h)
theorem IoOnly.nilsl : IoOnly .nilsl:=fun g g' v hg h=>by cases h; exact .nilsl
def MObj.plain : MObj→Prop
 | .cells _ cs _=>∀ c,c∈cs→IoOnly c
 | .map _ _=>False
def MObj.frz : MObj→MObj
 | .cells sz cs _=>.cells sz cs cs.length
 | o=>o
def MObj.isMap : MObj→Bool
 | .map _ _=>true
 | _=>false
def frzo : Option MObj→Option MObj
 | some (.cells sz cs _)=>some (.cells sz cs cs.length)
 | _=>none
def Heap.frz (H : Heap) : Heap:=(H.filter fun x=>!((H.get x.1).elim false MObj.isMap)).map fun x=>(x.1,x.2.frz)
theorem Heap.get_filter (H : Heap) (p : Nat→Bool) (i : Nat) : Heap.get (H.filter fun x=>p x.1) i=if p i then H.get i else none:=by
 induction H with
 | nil=>simp [Heap.get]
 | cons x r ih =>
  obtain ⟨j,o⟩:=x;simp only [Heap.get,List.filter_cons,List.lookup] at ih ⊢
  by_cases hp : p j
  ·simp only [hp,if_true,List.lookup]
   by_cases e : i=j
   ·subst e; simp [hp]
   ·have : (i == j)=false:=by simpa using e
    simp [this,ih]
  ·simp only [hp,Bool.false_eq_true,if_false]
   by_cases e : i=j
   ·subst e; rw [ih]; simp [hp]
   ·have : (i == j)=false:=by simpa using e
    simp [this,ih]
theorem Heap.get_map (H : Heap) (f : MObj→MObj) (i : Nat) : Heap.get (H.map fun x=>(x.1,f x.2)) i=(H.get i).map f:=by
 induction H with
 | nil=>rfl
 | cons x r ih =>
  obtain ⟨j,o⟩:=x;simp only [Heap.get,List.map_cons,List.lookup] at ih ⊢
  by_cases e : i=j
  ·subst e; simp
  ·have : (i == j)=false:=by simpa using e
   simp [this,ih]
theorem Heap.get_frz (H : Heap) (i : Nat) : H.frz.get i=frzo (H.get i):=by
 unfold Heap.frz;rw [Heap.get_map,Heap.get_filter H fun j=>!((H.get j).elim false MObj.isMap)]
 cases h : H.get i with
 | none=>simp [frzo]
 | some o=>cases o <;> simp [MObj.isMap,frzo,MObj.frz]
theorem frzo_some {o : Option MObj} {x : MObj} (h : frzo o=some x) : ∃ sz cs f,o=some (.cells sz cs f)∧x=.cells sz cs cs.length:=by
 unfold frzo at h
 split at h
 ·cases h; exact ⟨_,_,_,rfl,rfl⟩
 ·cases h
inductive Tr (H : Heap) : AV→AV→Prop
 | val (a : AV) : Tr H a a
 | buf (id f : Nat) (cs es : List AV) (h : H.get id=some (.cells 1 cs f)) (hl : es.length=cs.length) (h1 : ∀ i,i<cs.length→(es.getD i nv).cells=[es.getD i nv])
   (ht : ∀ i,i<cs.length→Tr H (cs.getD i nv) (es.getD i nv)) : Tr H (.buf id cs.length) (.sl es)
 | agg (cs es : List AV) (hl : es.length=cs.length) (ht : ∀ i,i<cs.length→Tr H (cs.getD i nv) (es.getD i nv)) : Tr H (.agg cs) (.agg es)
 | ref (id sz f : Nat) (cs es : List AV) (h : H.get id=some (.cells sz cs f)) (hl : es.length=cs.length) (ht : ∀ i,i<cs.length→Tr H (cs.getD i nv) (es.getD i nv)) : Tr H (.ref id 0) (.ptr es)
def mapEs : Option Obj→Option (Array MapEntry)
 | some (.map es _)=>some es
 | _=>none
noncomputable def Gh.lend (g : Gh) (H : Heap) (w : World) : Gh :=
 {
  fz:=fun b o=>@ite _ (∃ id cap sz cs f,H.get id=some (.cells sz cs f)∧g.io id=some (.blk b cap)∧o<cs.length) (Classical.propDecidable _) (w.cell? ⟨b,o,none⟩) (g.fz b o)
  fm:=fun b=>@ite _ (∃ id ks vs,H.get id=some (.map ks vs)∧g.io id=some (.mp b)) (Classical.propDecidable _) (mapEs w.heap[b]?) (g.fm b)
  io:=g.io }
theorem Gh.le_lend {g : Gh} {B : Nat} {H : Heap} {w : World} (h : WRel g B H w) : g.le (g.lend H w):=by
 refine ⟨fun b o v e=>?_,fun b es e=>?_,fun _ _ h=>h⟩
 ·simp only [Gh.lend]
  split
  ·exact h.fz b o v e
  ·exact e
 ·simp only [Gh.lend]
  split
  ·obtain ⟨clk,hc⟩:=h.fm b es e;rw [hc]; rfl
  ·exact e
theorem WRel.lend {g : Gh} {B : Nat} {H : Heap} {w : World} (h : WRel g B H w) : WRel (g.lend H w) B H.frz w:=by
 have hle:=Gh.le_lend h
 have hsome : ∀ i,(H.frz.get i).isSome→(H.get i).isSome:=by
  intro i e
  obtain ⟨o,e⟩:=Option.isSome_iff_exists.1 e;rw [Heap.get_frz] at e
  obtain ⟨sz,cs,f,e,_⟩:=frzo_some e
  simp [e]
 constructor
 ·intro b o v e;simp only [Gh.lend] at e
  split at e
  ·exact e
  ·exact h.fz b o v e
 ·intro b es e;simp only [Gh.lend] at e
  split at e
  ·unfold mapEs at e
   split at e
   ·rename_i es' clk hc; cases e; exact ⟨clk,hc⟩
   ·cases e
  ·exact h.fm b es e
 ·intro i o e;rw [Heap.get_frz] at e
  obtain ⟨sz,cs,f,e1,rfl⟩:=frzo_some e;clear e
  obtain ⟨p,hp,hr⟩:=h.ob i _ e1;refine ⟨p,hp, ?_⟩
  cases p with
  | nil=>simp only [ObjRel] at hr ⊢; simp [hr.1]
  | blk b cap =>
   simp only [ObjRel] at hr ⊢
   obtain ⟨h1,h2,h3,h4,c,el,h5,h6,h7,h8⟩:=hr;refine ⟨h1,Nat.le_refl _,h3,fun x hx=>?_,c,el,h5,h6,h7,fun i hi=>(h8 i hi).mono hle⟩;simp only [Gh.lend];rw [if_neg,h4 x (by omega)]
   rintro ⟨id,cap',sz',cs',f',a1,a2,a3⟩
   by_cases hid : id=i
   ·subst hid; rw [e1] at a1; cases a1; omega
   ·exact h.inj id i b cap' cap hid (by simp [a1]) (by simp [e1]) a2 hp
  | mp b=>simp [ObjRel] at hr
 ·intro i j b c c' n e1 e2;exact h.inj i j b c c' n (hsome i e1) (hsome j e2)
 ·intro i j b n e1 e2;exact h.injm i j b n (hsome i e1) (hsome j e2)
 ·exact h.base
 ·exact h.fin
theorem Tr.vrel {g : Gh} {B : Nat} {H : Heap} {w : World} (hW : WRel g B H w) {a e : AV} (t : Tr H a e) : ∀ v,VRel g a v→VRel (g.lend H w) e v:=by
 induction t with
 | val a=>intro v h; exact h.mono (Gh.le_lend hW)
 | buf id f cs es h hl h1 ht ih =>
  intro v hv
  obtain ⟨p,hp,hr⟩:=hW.ob id _ h
  generalize hn : cs.length=n at *
  cases hv with
  | bufnil _ hq =>
   have : es=[]:=List.eq_nil_of_length_eq_zero hl;subst this;exact .slnil none 0
  | buf _ _ b cap hq =>
   rw [hp] at hq; cases hq;simp only [ObjRel] at hr
   obtain ⟨r1,r2,r3,r4,c,el,r5,r6,r7,r8⟩:=hr
   have hl' : es.length=cs.length:=by omega
   have key : ∀ i j,i<es.length→j<1→i*1+j=i:=by intro i j _ hj; omega
   refine hl ▸ VRel.sl es b 0 1 cap (fun i=>c.getD i undef) (by omega) (by omega) (fun i hi=>?_) (fun i j hi hj=>?_) (fun i j hi hj=>?_)
   ·rw [h1 i (by omega)]; rfl
   ·rw [key i j hi hj,Nat.zero_add];simp only [Gh.lend];rw [if_pos ⟨id,cap,1,cs,f,h,hp,by omega⟩];rw [cell_of_row w b i c el (0,0) r5]
    have : i<c.size:=by omega
    simp [Array.getD,this]
   ·rw [key i j hi hj,h1 i (by omega)]
    obtain rfl : j=0:=by omega
    exact ih i (by omega) _ (r8 i (by omega))
 | agg cs es hl ht ih =>
  intro v hv
  cases hv with
  | agg _ vs hs hv=>exact .agg es vs (by omega) fun i hi=>ih i (by omega) _ (hv i (by omega))
 | ref id sz f cs es h hl ht ih =>
  intro v hv
  obtain ⟨p,hp,hr⟩:=hW.ob id _ h
  cases hv with
  | ref _ _ b cap hq =>
   rw [hp] at hq; cases hq;simp only [ObjRel] at hr
   obtain ⟨r1,r2,r3,r4,c,el,r5,r6,r7,r8⟩:=hr;refine .ptr es b 0 (fun i=>c.getD i undef) (fun i hi=>?_) (fun i hi=>ih i (by omega) _ (r8 i (by omega)));rw [Nat.zero_add];simp only [Gh.lend];rw [if_pos ⟨id,cap,sz,cs,f,h,hp,by omega⟩];rw [cell_of_row w b i c el (0,0) r5]
   have : i<c.size:=by omega
   simp [Array.getD,this]
theorem Heap.get_append (l H : Heap) (i : Nat) : Heap.get (l++H) i=(Heap.get l i).or (H.get i):=by
 induction l with
 | nil=>simp [Heap.get]
 | cons x r ih =>
  obtain ⟨j,o⟩:=x;simp only [Heap.get,List.cons_append,List.lookup] at ih ⊢
  by_cases e : i=j
  ·subst e; simp
  ·have : (i == j)=false:=by simpa using e
   simp [this,ih]
theorem Heap.get_mem {l : Heap} {i : Nat} {o : MObj} (h : Heap.get l i=some o) : (i,o)∈l:=by
 induction l with
 | nil=>simp [Heap.get] at h
 | cons x r ih =>
  obtain ⟨j,o'⟩:=x;simp only [Heap.get,List.lookup] at ih h
  by_cases e : i=j
  ·subst e; simp at h; simp [h]
  ·have : (i == j)=false:=by simpa using e
   simp only [this] at h;exact List.mem_cons_of_mem _ (ih h)
theorem Heap.mem_get {l : Heap} (nd : (l.map Prod.fst).Nodup) {x : Nat × MObj} (h : x∈l) : Heap.get l x.1=some x.2:=by
 induction l with
 | nil=>simp at h
 | cons y r ih =>
  obtain ⟨j,o'⟩:=y;simp only [List.map_cons,List.nodup_cons] at nd;simp only [Heap.get,List.lookup]
  rcases List.mem_cons.mp h with rfl | hm
  ·simp
  ·have : (x.1 == j)=false:=by
    simp only [beq_eq_false_iff_ne,ne_eq]
    intro e; exact nd.1 (e ▸ List.mem_map_of_mem hm)
   simp only [this];exact ih nd.2 hm
theorem WRel.giveBack {g g' : Gh} {B : Nat} {H H' l : Heap} {w w' : World} (h : WRel g B H w) (hg : (g.lend H w).le g')
  (h' : WRel g' B H' w') (ho : Owns H.frz H' l) (hl : ∀ x,x∈l→x.2.plain∧H.get x.1=none) : g.le { g with io:=g'.io }∧WRel { g with io:=g'.io } B (l++H) w':=by
 have hle0:=(Gh.le_lend h).trans hg
 have hle : g.le { g with io:=g'.io }:=⟨fun _ _ _ h=>h,fun _ _ h=>h,hle0.io⟩
 have fzn : ∀ b o,g'.fz b o=none→g.fz b o=none:=by
  intro b o e
  cases e2 : g.fz b o with
  | none=>rfl
  | some v=>rw [hle0.fz _ _ _ e2] at e; cases e
 have hio : ∀ i o,H.get i=some o→∃ p,g.io i=some p∧g'.io i=some p∧ObjRel g B w p o:=by
  intro i o e
  obtain ⟨p,hp,hr⟩:=h.ob i o e;exact ⟨p,hp,hle0.io _ _ hp,hr⟩
 have cases : ∀ i,(Heap.get (l++H) i).isSome→(∃ sz cs f,H'.get i=some (.cells sz cs f))∨∃ ks vs,H.get i=some (.map ks vs):=by
  intro i e;rw [Heap.get_append] at e
  cases e1 : Heap.get l i with
  | some o =>
   have hm:=Heap.get_mem e1
   have h1:=ho.get _ hm
   have h2:=(hl _ hm).1;simp only at h1 h2
   cases o with
   | cells sz cs f=>exact .inl ⟨_,_,_,h1⟩
   | map ks vs=>exact absurd h2 (by simp [MObj.plain])
  | none =>
   rw [e1,Option.none_or] at e
   obtain ⟨o,e⟩:=Option.isSome_iff_exists.1 e
   cases o with
   | cells sz cs f =>
    have : H.frz.get i=some (.cells sz cs cs.length):=by rw [Heap.get_frz,e]; rfl
    exact .inl ⟨_,_,_,ho.sub _ _ this⟩
   | map ks vs=>exact .inr ⟨_,_,e⟩
 refine ⟨hle, ?_⟩
 constructor
 ·intro b o v e; exact h'.fz _ _ _ (hle0.fz _ _ _ e)
 ·intro b es e; exact h'.fm _ _ (hle0.fm _ _ e)
 ·intro i o e;rw [Heap.get_append] at e
  cases e1 : Heap.get l i with
  | some o1 =>
   rw [e1,Option.some_or] at e; cases e
   have hm:=Heap.get_mem e1
   obtain ⟨p,hpp,hr⟩:=h'.ob i o (ho.get _ hm)
   have hpl:=(hl _ hm).1;refine ⟨p,hpp, ?_⟩
   cases o with
   | map ks vs=>exact absurd hpl (by simp [MObj.plain])
   | cells sz cs f =>
    cases p with
    | nil=>exact hr
    | mp b=>simp [ObjRel] at hr
    | blk b cap =>
     simp only [ObjRel] at hr ⊢
     obtain ⟨r1,r2,r3,r4,c,el,r5,r6,r7,r8⟩:=hr;refine ⟨r1,r2,r3,fun o ho=>fzn _ _ (r4 o ho),c,el,r5,r6,r7,fun i hi=>hpl _ ?_ g' _ _ (fun _ _ h=>h) (r8 i hi)⟩;rw [List.getD_eq_getElem?_getD,List.getElem?_eq_getElem hi]; simp
  | none =>
   rw [e1,Option.none_or] at e
   obtain ⟨p,hp0,hp1,hr0⟩:=hio i o e;refine ⟨p,hp1, ?_⟩
   cases o with
   | map ks vs =>
    cases p with
    | nil=>simp [ObjRel] at hr0
    | blk b cap=>simp [ObjRel] at hr0
    | mp b =>
     simp only [ObjRel] at hr0 ⊢
     obtain ⟨q1,q2,es,clk,q3,q4,q5,q6,q7⟩:=hr0
     have hfm : (g.lend H w).fm b=some es:=by
      simp only [Gh.lend];rw [if_pos ⟨i,ks,vs,e,hp0⟩,q3]; rfl
     obtain ⟨clk',hc⟩:=h'.fm _ _ (hg.fm _ _ hfm);exact ⟨q1,q2,es,clk',hc,q4,q5,fun i hi=>(q6 i hi).mono hle,fun i hi=>(q7 i hi).mono hle⟩
   | cells sz cs f =>
    have e2 : H.frz.get i=some (.cells sz cs cs.length):=by rw [Heap.get_frz,e]; rfl
    obtain ⟨p',hpp,hr⟩:=h'.ob i _ (ho.sub _ _ e2);rw [hp1] at hpp; cases hpp
    cases p with
    | nil=>exact hr0
    | mp b=>simp [ObjRel] at hr0
    | blk b cap =>
     simp only [ObjRel] at hr hr0 ⊢
     obtain ⟨q1,q2,q3,q4,c0,el0,q5,q6,q7,q8⟩:=hr0
     obtain ⟨r1,r2,r3,r4,c,el,r5,r6,r7,r8⟩:=hr;refine ⟨r1,q2,r3,q4,c,el,r5,r6,r7,fun j hj=>?_⟩
     have h1 : w.cell? ⟨b,j,none⟩=some (c0.getD j undef):=by
      rw [cell_of_row w b j c0 el0 (0,0) q5]
      have : j<c0.size:=by omega
      simp [Array.getD,this]
     have h2 : w'.cell? ⟨b,j,none⟩=some (c0.getD j undef):=by
      refine h'.fz _ _ _ (hg.fz _ _ _ ?_);simp only [Gh.lend];rw [if_pos ⟨i,cap,sz,cs,f,e,hp0,hj⟩]; exact h1
     rw [cell_of_row w' b j c el (0,0) r5] at h2
     have h3 : c.getD j undef=c0.getD j undef:=by
      have hj' : j<c.size:=by omega
      rw [Array.getElem?_eq_getElem hj'] at h2;rw [← Option.some.inj h2]; simp [Array.getD,hj']
     rw [h3]; exact (q8 j hj).mono hle
 ·intro i j b c c' n e1 e2 e3 e4
  rcases cases i e1 with ⟨sz,cs,f,k1⟩ | ⟨ks,vs,k1⟩
  ·rcases cases j e2 with ⟨sz',cs',f',k2⟩ | ⟨ks,vs,k2⟩
   ·exact h'.inj i j b c c' n (by simp [k1]) (by simp [k2]) e3 e4
   ·obtain ⟨p,hp0,hp1,hr0⟩:=hio j _ k2;simp only at e4; rw [hp1] at e4; cases e4; simp [ObjRel] at hr0
  ·obtain ⟨p,hp0,hp1,hr0⟩:=hio i _ k1;simp only at e3; rw [hp1] at e3; cases e3; simp [ObjRel] at hr0
 ·intro i j b n e1 e2 e3 e4
  rcases cases i e1 with ⟨sz,cs,f,k1⟩ | ⟨ks,vs,k1⟩
  ·obtain ⟨p,hp,hr⟩:=h'.ob i _ k1;simp only at e3; rw [hp] at e3; cases e3; simp [ObjRel] at hr
  ·rcases cases j e2 with ⟨sz',cs',f',k2⟩ | ⟨ks',vs',k2⟩
   ·obtain ⟨p,hp,hr⟩:=h'.ob j _ k2;simp only at e4; rw [hp] at e4; cases e4; simp [ObjRel] at hr
   ·obtain ⟨p,hp0,hp1,_⟩:=hio i _ k1
    obtain ⟨q,hq0,hq1,_⟩:=hio j _ k2;simp only at e3 e4;rw [hp1] at e3; cases e3;rw [hq1] at e4; cases e4;exact h.injm i j b n (by simp [k1]) (by simp [k2]) hp0 hq0
 ·exact h'.base
 ·exact h'.fin
theorem WRel.lendNew {g g' : Gh} {B : Nat} {H H' l : Heap} {w w' : World} (h : WRel g B H w) (hg : (g.lend H w).le g') (h' : WRel g' B H' w') (ho : Owns H.frz H' l) (hl : ∀ x,x∈l→x.2.plain) :
  ∀ x,x∈l→H.get x.1=none:=by
 intro x hx
 have h1:=ho.out x hx
 have h2:=ho.get x hx
 have h3:=hl x hx;rw [Heap.get_frz] at h1
 cases e : H.get x.1 with
 | none=>rfl
 | some o =>
  rw [e] at h1
  cases o with
  | cells sz cs f=>simp [frzo] at h1
  | map ks vs =>
   obtain ⟨p,hp,hr⟩:=h.ob _ _ e
   cases p with
   | nil=>simp [ObjRel] at hr
   | blk b cap=>simp [ObjRel] at hr
   | mp b =>
    have hp':=((Gh.le_lend h).trans hg).io _ _ hp
    obtain ⟨q,hq,hr2⟩:=h'.ob _ _ h2;rw [hp'] at hq; cases hq
    cases ho2 : x.2 with
    | cells sz cs f=>rw [ho2] at hr2; simp [ObjRel] at hr2
    | map ks vs=>rw [ho2] at h3; simp [MObj.plain] at h3
theorem CallH.borrow {P : Program} {B : Nat} {f : FuncId} {args es : List AV} {H : Heap} {K0 K : Kont} (hl : es.length=args.length)
  (ht : ∀ i,i<args.length→∀ g w v,WRel g B H w→VRel g (args.getD i nv) v→VRel (g.lend H w) (es.getD i nv) v)
  (h : CallH P B f es H.frz K0) (hk : ∀ r H',K0 r H'→∃ l,Owns H.frz H' l∧(∀ x,x∈l→x.2.plain)∧IoOnly r∧((∀ x,x∈l→H.get x.1=none)→K r (l++H))) : CallH P B f args H K:=by
 refine ⟨h.1,fun g w vs hW hv=>?_⟩;refine (h.2 _ w vs hW.lend ⟨by rw [hv.1,hl],fun i hi=>ht i (by omega) g w _ hW (hv.2 i (by omega))⟩).mono fun e w' ⟨v,he,g',r,H',a,b,c,d,k⟩=>?_
 obtain ⟨l,ho,hpl,hio,hK⟩:=hk r H' b
 have hn:=hW.lendNew a d ho hpl
 obtain ⟨q1,q2⟩:=hW.giveBack a d ho fun x hx=>⟨hpl x hx,hn x hx⟩;exact ⟨v,he,_,r,_,q1,hK hn,hio g' _ _ (fun _ _ h=>h) c,q2,k⟩
theorem CallH.lentPure {P : Program} {B : Nat} {f : FuncId} {args es : List AV} {H : Heap} {K : Kont} {r : AV} (hr : IoOnly r) (hl : es.length=args.length)
  (ht : ∀ i,i<args.length→∀ g w v,WRel g B H w→VRel g (args.getD i nv) v→VRel (g.lend H w) (es.getD i nv) v)
  (h : PureF P B f es r) (hk : K r H) : CallH P B f args H K :=
 CallH.borrow hl ht (h _) fun r' H' ⟨e1,e2⟩=>⟨[],e2 ▸ .nil _,by simp,e1 ▸ hr,fun _=>by rw [e1]; exact hk⟩
theorem Tr.arg {B : Nat} {H : Heap} {a e : AV} (t : Tr H a e) : ∀ g w v,WRel g B H w→VRel g a v→VRel (g.lend H w) e v:=fun g w v hW hv=>t.vrel hW v hv
theorem val_arg {B : Nat} {H : Heap} (a : AV) : ∀ g w v,WRel g B H w→VRel g a v→VRel (g.lend H w) a v:=fun g w v hW hv=>hv.mono (Gh.le_lend hW)
theorem Owns.frz {H H' l : Heap} (h : Owns H.frz H' l) (hn : ∀ x,x∈l→H.get x.1=none) : Owns H (l++H) l:=by
 refine ⟨fun i o e=>?_,fun x hx=>?_,h.nd,hn⟩
 ·rw [Heap.get_append]
  cases e1 : Heap.get l i with
  | some o1=>have:=hn _ (Heap.get_mem e1); simp only at this; rw [this] at e; cases e
  | none=>simpa using e
 ·rw [Heap.get_append,Heap.mem_get h.nd hx]; rfl
theorem lent_arg {α : Type} [Inhabited α] {f : α→AV} [One f] {B : Nat} {H0 H : Heap} {l : List (Nat × MObj)} {id n fr : Nat} {A : List α} (o : Owns H0 H ((id,.cells 1 (A.map f) fr)::l)) (hn : n=A.length) :
  ∀ g w v,WRel g B H w→VRel g (.buf id n) v→VRel (g.lend H w) (mL f A) v:=by
 subst hn
 have h0:=o.h0;simp only at h0
 have:=Tr.buf (H:=H) id fr (A.map f) (A.map f) h0 rfl (fun i hi=>by rw [List.length_map] at hi; rw [getD_map A hi]; exact one_cells _) (fun i _=>.val _);rw [List.length_map] at this;exact this.arg
theorem call_lent {α : Type} [Inhabited α] {f : α→AV} [One f] {P : Program} {B : Nat} {fn : FuncId} {args : List AV} {H0 H : Heap} {l : List (Nat × MObj)} {K : Kont} {id n fr : Nat} {A : List α} {r : AV} (t : Nat)
  (ha : args[t]? = some (.buf id n)) (o : Owns H0 H ((id,.cells 1 (A.map f) fr)::l)) (hn : n=A.length) (hr : IoOnly r) (h : PureF P B fn (args.set t (mL f A)) r) (hk : K r H) : CallH P B fn args H K:=by
 refine CallH.lentPure hr (by simp) (fun i hi=>?_) h hk
 by_cases e : i=t
 ·subst e
  have e1 : args.getD i nv=.buf id n:=by rw [List.getD_eq_getElem?_getD,ha]; rfl
  have e2 : (args.set i (mL f A)).getD i nv=mL f A:=by simp [List.getD_eq_getElem?_getD,hi]
  rw [e1,e2];exact lent_arg o hn
 ·have e2 : (args.set t (mL f A)).getD i nv=args.getD i nv:=by
   rw [List.getD_eq_getElem?_getD,List.getElem?_set_ne (by omega),← List.getD_eq_getElem?_getD]
  rw [e2]; exact val_arg _
theorem Owns.trans {H0 H H' base l : Heap} (h : Owns H0 H base) (k : Owns H H' l) : Owns H0 H' (l++base):=by
 refine ⟨h.sub.trans k.sub,fun x hx=>?_, ?_,fun x hx=>?_⟩
 ·rcases List.mem_append.mp hx with hx | hx
  ·exact k.get x hx
  ·exact k.sub _ _ (h.get x hx)
 ·rw [List.map_append,List.nodup_append];refine ⟨k.nd,h.nd,fun a ha b hb=>?_⟩
  obtain ⟨x,hx,rfl⟩:=List.mem_map.mp ha
  obtain ⟨y,hy,rfl⟩:=List.mem_map.mp hb
  intro e
  have h1:=k.out x hx
  have h2:=h.get y hy;rw [← e,h1] at h2; cases h2
 ·rcases List.mem_append.mp hx with hx | hx
  ·cases e : H0.get x.1 with
   | none=>rfl
   | some o=>have:=h.sub _ _ e; rw [k.out x hx] at this; cases this
  ·exact h.out x hx
end Go.AW
namespace Go.AW
attribute [go_sem] Nat.mul_one Bool.not_true Bool.not_false
section
variable {α : Type} [Inhabited α] {f : α→AV} [One f] {H0 H : Heap} {l : List (Nat × MObj)} {K : Kont}
omit [Inhabited α] in
theorem mks_list {n : Nat} {z : AV} (f : α→AV) (a : α) (hz : z=f a) (h : Owns H0 H l) (hk : ∀ id H',Owns H0 H' ((id,.cells 1 ((List.replicate n a).map f) 0)::l)→K (.buf id n) H') :
  newBuf n 1 (rep n [z]) K H:=by
 rw [rep_one]; subst hz;refine newBuf_own h fun id H' o=>hk id H' ?_;rw [List.map_replicate]; exact o
omit [One f] in
theorem rd_own {id off fr sz : Nat} {A : List α} (h : Owns H0 H ((id,.cells sz (A.map f) fr)::l)) (ho : off<A.length) (hk : K (f (A.getD off default)) H) :
  rd1 (H.get id) none off K H:=by
 have h0:=h.h0;simp only at h0;rw [h0,rd1_1];refine ⟨by simpa using ho, ?_⟩;rw [getD_map A ho]; exact hk
omit [Inhabited α] in
theorem set_own {id off : Nat} {A : List α} (a : α) {v : AV} (h : Owns H0 H ((id,.cells 1 (A.map f) 0)::l)) (hv : v=f a) (ho : off<A.length)
  (hk : ∀ H',Owns H0 H' ((id,.cells 1 ((A.set off a).map f) 0)::l)→K nv H') : st1 (H.get id) id off 1 [v] K H:=by
 subst hv
 have h0:=h.h0;simp only at h0;rw [h0,st1_c];refine ⟨⟨by omega,by rw [List.length_map]; omega,rfl,fun c hc=>?_⟩, ?_⟩
 ·rw [List.mem_singleton] at hc; subst hc; exact One.one a
 ·have e : wr (A.map f) off [f a]=(A.set off a).map f:=by
   simp only [wr,List.map_set]
  rw [e];exact hk _ (h.put _)
end
theorem Wk.call {P : Program} {B : Nat} {fn : FuncId} {args args' : List AV} {H H' : Heap} {K : Kont} (hl : args'.length=args.length)
  (hw : ∀ g w vs,WRel g B H w→VRels g args vs→∃ g',g.le g'∧WRel g' B H' w∧VRels g' args' vs) (h : CallH P B fn args' H' K) : CallH P B fn args H K:=by
 refine ⟨h.1,fun g w vs hW hv=>?_⟩
 obtain ⟨g',q1,q2,q3⟩:=hw g w vs hW hv;exact (h.2 g' w vs q2 q3).mono fun e w' ⟨v,he,g2,r,H2,a,b⟩=>⟨v,he,g2,r,H2,q1.trans a,b⟩
theorem call_fz {α : Type} [Inhabited α] {f : α→AV} [One f] {P : Program} {B : Nat} {fn : FuncId} {args : List AV} {H0 H : Heap} {l : List (Nat × MObj)} {K : Kont} {id n fr : Nat} {A : List α} (t : Nat)
  (ha : args[t]? = some (.buf id n)) (o : Owns H0 H ((id,.cells 1 (A.map f) fr)::l)) (hn : n=A.length)
  (hk : ∀ H',Owns H0 H' l→CallH P B fn (args.set t (mL f A)) H' K) : CallH P B fn args H K:=by
 subst hn
 have h0:=o.h0;simp only at h0
 have ht : t<args.length:=by
  rcases Nat.lt_or_ge t args.length with h | h
  ·exact h
  ·rw [List.getElem?_eq_none h] at ha; cases ha
 have hone : ∀ c,c∈A.map f→c.one=true:=by
  intro c hc; obtain ⟨a,_,rfl⟩:=List.mem_map.mp hc; exact One.one a
 refine Wk.call (by simp) (fun g w vs hW hv=>?_) (hk _ (o.put (.cells 1 (A.map f) (A.map f).length)).tl)
 obtain ⟨σ',H',hwk,rfl,rfl⟩:=fz_wk (t:=t) (σ:=[(t,some (.buf id A.length))]) (H:=H) (F:=fun σ' H'=>σ'=Env.put [(t,some (.buf id A.length))] t (.sl (A.map f))∧H'=H.set id (.cells 1 (A.map f) (A.map f).length)) (by
  have : Env.get [(t,some (AV.buf id A.length))] t=some (.buf id A.length):=by simp [Env.get]
  rw [this];simp only [fzW,h0,fz1];refine ⟨⟨by simp,by omega,hone⟩, ?_,trivial⟩;rw [chunk_one _ _ (by simp)])
 obtain ⟨g',q1,q2,q3⟩:=hwk g B w vs hW (fun s v e=>by
  simp only [Env.get] at e
  split at e
  ·rename_i e2; subst e2; cases e
   have:=hv.2 s ht;rw [List.getD_eq_getElem?_getD,ha] at this;exact ⟨by rw [hv.1]; exact ht,this⟩
  ·cases e)
 refine ⟨g',q1,q2,by rw [hv.1]; simp,fun i hi=>?_⟩;rw [List.length_set] at hi
 by_cases e : i=t
 ·subst e
  have:=(q3 i (.sl (A.map f)) (by simp [Env.put,Env.get])).2
  have e2 : (args.set i (mL f A)).getD i nv=.sl (A.map f):=by simp [List.getD_eq_getElem?_getD,hi,mL]
  rw [e2]; exact this
 ·have e2 : (args.set t (mL f A)).getD i nv=args.getD i nv:=by
   rw [List.getD_eq_getElem?_getD,List.getElem?_set_ne (by omega),← List.getD_eq_getElem?_getD]
  rw [e2]; exact (hv.2 i hi).mono q1
end Go.AW
