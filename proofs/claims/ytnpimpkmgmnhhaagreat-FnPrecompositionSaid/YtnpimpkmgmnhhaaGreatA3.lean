/- Plain data, plain laws. -/
import Derived.Test.YtnpimpkmgmnhhaaGreatA2
set_option linter.unusedVariables false
set_option linter.unusedSimpArgs false
set_option linter.unusedSectionVars false
namespace Go.AW
class One {α : Type} (f : α→AV) : Prop where
 cells : ∀ a,(f a).cells=[f a]
 one : ∀ a,(f a).one=true
def mL {α : Type} (f : α→AV) (l : List α) : AV:=.sl (l.map f)
abbrev iI : Int→AV:=AV.int .i64
abbrev iL : List Int→AV:=mL iI
abbrev iLL : List (List Int)→AV:=mL iL
abbrev iLLL : List (List (List Int))→AV:=mL iLL
instance : One iI:=⟨fun _=>rfl,fun _=>rfl⟩
instance : One AV.bool:=⟨fun _=>rfl,fun _=>rfl⟩
instance : One AV.str:=⟨fun _=>rfl,fun _=>rfl⟩
instance {α : Type} (f : α→AV) : One (mL f):=⟨fun _=>rfl,fun _=>rfl⟩
def ix {α : Type} [Inhabited α] (l : List α) (i : Int) : α:=l.getD i.toNat default
theorem ix_nat {α : Type} [Inhabited α] (l : List α) (k : Nat) : ix l (k : Int)=l.getD k default:=by simp [ix]
section
variable {P : Program} {B : Nat} {F : Env→Heap→Prop} {σ : Env} {H : Heap} {d : Option Nat} {α : Type} [Inhabited α] {f : α→AV}
theorem getD_map (l : List α) {i : Nat} (h : i<l.length) : (l.map f).getD i nv=f (l.getD i default):=by
 simp [List.getD_eq_getElem?_getD,h]
theorem one_cells [One f] (a : α) : (f a).cells=[f a]:=One.cells a
@[go_sem] theorem cells_mL (l : List α) : (mL f l).cells=[mL f l]:=rfl
@[go_sem] theorem lenE_mL (l : List α) : lenE (some (mL f l))=some (True,.int .i64 l.length):=by simp [mL,lenE]
@[go_sem] theorem idxE_mL [One f] (l : List α) (k : IntKind) (i : Int) :
  pE d F σ H (idxE 1 (some (mL f l)) (some (.int k i)))=((0≤i∧i.toNat<l.length)∧putK d F σ (.ptr [f (ix l i)]) H):=by
 simp only [mL,idxE,pE,pW,List.length_map,eq_iff_iff]
 constructor
 ·rintro ⟨⟨h1,h2,h3⟩,h4⟩;rw [getD_map l h2,one_cells] at h4;exact ⟨⟨h1,h2⟩,h4⟩
 ·rintro ⟨⟨h1,h2⟩,h4⟩;rw [getD_map l h2,one_cells];exact ⟨⟨h1,h2,rfl⟩,h4⟩
theorem flat_map [One f] (l : List α) : flat (l.map f)=l.map f:=by
 induction l with
 | nil=>rfl
 | cons a r ih=>simp [flat,one_cells,ih]
theorem okEls_map [One f] (l : List α) : okEls 1 (l.map f):=by
 intro e he
 obtain ⟨a,_,rfl⟩:=List.mem_map.mp he;rw [one_cells];refine ⟨rfl,fun c hc=>?_⟩;rw [List.mem_singleton] at hc; subst hc; exact One.one a
@[go_sem] theorem srcOf_mL [One f] (l : List α) : srcOf 1 (some (mL f l)) H=some (True,l.length,l.map f):=by
 simp [mL,srcOf,okEls_map,flat_map]
@[go_sem] theorem slcE_lo [One f] (l : List α) (k : IntKind) (a : Int) : slcE 1 (some (mL f l)) (some (some (.int k a))) none=some (0≤a∧a≤l.length,mL f (l.drop a.toNat)):=by
 have : List.take l.length (l.map f)=l.map f:=List.take_of_length_le (by simp)
 simp [mL,slcE,slcA,slcB,slcL,okEls_map,this]
@[go_sem] theorem slcE_hi [One f] (l : List α) (k : IntKind) (b : Int) : slcE 1 (some (mL f l)) none (some (some (.int k b)))=some (0≤b∧b≤l.length,mL f (l.take b.toNat)):=by
 simp [mL,slcE,slcA,slcB,slcL,okEls_map,← List.map_take]
@[go_sem] theorem slcE_both [One f] (l : List α) (k k' : IntKind) (a b : Int) : slcE 1 (some (mL f l)) (some (some (.int k a))) (some (some (.int k' b)))=some (0≤a∧a≤b∧b≤l.length,mL f ((l.take b.toNat).drop a.toNat)):=by
 simp [mL,slcE,slcA,slcB,slcL,okEls_map,← List.map_take,← List.map_drop]
@[go_sem] theorem okEls_nil (n : Nat) : okEls n []=True:=by simp [okEls]
@[go_sem] theorem okEls_cons (n : Nat) (a : AV) (r : List AV) : okEls n (a::r)=((a.cells.length=n∧∀ c,c∈a.cells→c.one=true)∧okEls n r):=by
 simp [okEls]
theorem okEls_one [One f] (a : α) : okEls 1 [f a]:=by
 intro e he;rw [List.mem_singleton] at he; subst he;rw [one_cells];refine ⟨rfl,fun c hc=>?_⟩;rw [List.mem_singleton] at hc; subst hc; exact One.one a
theorem fine_mL_le {l : List α} (h : AV.fine (mL f l)) : l.length≤maxL:=by simpa using h.sl_le
theorem ix_mem {l : List α} {i : Int} (h : i.toNat<l.length) : ix l i∈l:=by
 rw [ix,List.getD_eq_getElem?_getD]; simp [h]
theorem take_succ' (l : List α) {k : Nat} (h : k<l.length) : l.take (k+1)=l.take k++[l.getD k default]:=by
 rw [List.take_add_one]; simp [List.getD_eq_getElem?_getD,h]
end
@[go_sem] theorem and_true_r (p : Prop) : (p∧True)=p:=and_true p
@[go_sem] theorem true_and_r (p : Prop) : (True∧p)=p:=true_and p
@[go_sem] theorem zle (n : Nat) : (0≤n)=True:=by simp
@[go_sem] theorem le_maxL1 : (1≤maxL)=True:=by simp [maxL]
@[go_sem] theorem le_maxL2 : (2≤maxL)=True:=by simp [maxL]
@[go_sem] theorem one_int (k : IntKind) (n : Int) : (AV.int k n).one=true:=rfl
@[go_sem] theorem one_mL {α : Type} (f : α→AV) (l : List α) : (mL f l).one=true:=rfl
@[go_sem] theorem one_bool (b : Bool) : (AV.bool b).one=true:=rfl
@[go_sem] theorem one_str (b : List UInt8) : (AV.str b).one=true:=rfl
@[go_sem] theorem one_sl (b : List AV) : (AV.sl b).one=true:=rfl
@[go_sem] theorem one_buf (i n : Nat) : (AV.buf i n).one=true:=rfl
@[go_sem] theorem one_ptr (b : List AV) : (AV.ptr b).one=true:=rfl
@[go_sem] theorem memnil (p : AV→Prop) : (∀ c,c∈([] : List AV)→p c)=True:=by simp
@[go_sem] theorem memcons (p : AV→Prop) (a : AV) (r : List AV) : (∀ c,c∈a::r→p c)=(p a∧∀ c,c∈r→p c):=by simp
@[go_sem] theorem len1 (a : AV) : [a].length=1:=rfl
@[go_sem] theorem len0 : ([] : List AV).length=0:=rfl
theorem awp_for {P : Program} {B : Nat} {l : List Nat} {c : SC} {Q : AQ} {σ : Env} {H : Heap} (lf : List Nat) {G : Type} (E : Nat→G→Env) (J : Nat→G→Heap→Prop) (n : Nat) (g : G)
  (h0 : J 0 g H) (he : Env.keep l σ=E 0 g++Env.keep lf σ)
  (h : ∀ k g H,k≤n→J k g H→awp P B c (lpQ l (fun m σ' H=>∃ k g,k≤n∧m=n - k∧J k g H∧σ'=E k g++Env.keep lf σ) (n - k) Q) (E k g++Env.keep lf σ) H) :
  awp P B (.loop l c) Q σ H :=
 awp_loop (fun m σ' H=>∃ k g,k≤n∧m=n - k∧J k g H∧σ'=E k g++Env.keep lf σ) n ⟨0,g,by omega,rfl,h0,he⟩
  fun m σ H ⟨k,g,h1,h2,h3,h4⟩=>h2 ▸ h4 ▸ h k g H h1 h3
theorem for_next {G : Type} {S : Nat→G→Env} {J : Nat→G→Heap→Prop} {n k : Nat} {σ : Env} {H : Heap} (g : G) (h : k<n) (hj : J (k+1) g H) (he : σ=S (k+1) g) :
  ∃ m σ' H',m<n - k∧(∃ k g,k≤n∧m=n - k∧J k g H'∧σ'=S k g)∧Wk σ H σ' H' :=
 ⟨n - (k+1),σ,H,by omega,⟨k+1,g,h,rfl,hj,he⟩,.refl _ _⟩
theorem awp_while {P : Program} {B : Nat} {l : List Nat} {c : SC} {Q : AQ} {σ : Env} {H : Heap} (lf : List Nat) {G : Type} (E : G→Env) (J : Nat→G→Heap→Prop) (n : Nat) (g : G)
  (h0 : J n g H) (he : Env.keep l σ=E g++Env.keep lf σ)
  (h : ∀ m g H,J m g H→awp P B c (lpQ l (fun m σ' H=>∃ g,J m g H∧σ'=E g++Env.keep lf σ) m Q) (E g++Env.keep lf σ) H) :
  awp P B (.loop l c) Q σ H :=
 awp_loop (fun m σ' H=>∃ g,J m g H∧σ'=E g++Env.keep lf σ) n ⟨g,h0,he⟩
  fun m σ H ⟨g,h3,h4⟩=>h4 ▸ h m g H h3
theorem while_next {G : Type} {S : G→Env} {J : Nat→G→Heap→Prop} {m : Nat} {σ : Env} {H : Heap} (m' : Nat) (g : G) (h : m'<m) (hj : J m' g H) (he : σ=S g) :
  ∃ m' σ' H',m'<m∧(∃ g,J m' g H'∧σ'=S g)∧Wk σ H σ' H' :=
 ⟨m',σ,H,h,⟨g,hj,he⟩,.refl _ _⟩
@[go_sem] theorem env_app_cons (a : Nat × Option AV) (l r : Env) : (a::l)++r=a::(l++r):=rfl
@[go_sem] theorem env_app_nil (r : Env) : ([] : Env)++r=r:=rfl
structure Owns (H0 H : Heap) (l : List (Nat × MObj)) : Prop where
 sub : H0.sub H
 get : ∀ x,x∈l→H.get x.1=some x.2
 nd : (l.map Prod.fst).Nodup
 out : ∀ x,x∈l→H0.get x.1=none
theorem Owns.nil (H : Heap) : Owns H H []:=⟨.refl H,by simp,by simp,by simp⟩
theorem Owns.h0 {H0 H : Heap} {a : Nat × MObj} {l : List (Nat × MObj)} (h : Owns H0 H (a::l)) : H.get a.1=some a.2:=h.get a (by simp)
theorem Owns.tl {H0 H : Heap} {a : Nat × MObj} {l : List (Nat × MObj)} (h : Owns H0 H (a::l)) : Owns H0 H l :=
 ⟨h.sub,fun x hx=>h.get x (by simp [hx]),(by simpa using h.nd : _∧_).2,fun x hx=>h.out x (by simp [hx])⟩
theorem Owns.perm {H0 H : Heap} {l r : List (Nat × MObj)} (h : Owns H0 H l) (hp : l.Perm r) : Owns H0 H r :=
 ⟨h.sub,fun x hx=>h.get x (hp.mem_iff.mpr hx),((hp.map _).nodup_iff.mp h.nd),fun x hx=>h.out x (hp.mem_iff.mpr hx)⟩
theorem Owns.swap {H0 H : Heap} {a b : Nat × MObj} {l : List (Nat × MObj)} (h : Owns H0 H (a::b::l)) : Owns H0 H (b::a::l):=h.perm (List.Perm.swap b a l)
theorem Owns.new {H0 H : Heap} {l : List (Nat × MObj)} (h : Owns H0 H l) {id : Nat} (hn : H.get id=none) (o : MObj) : Owns H0 (H.set id o) ((id,o)::l):=by
 refine ⟨fun i x hx=>?_,fun x hx=>?_, ?_,fun x hx=>?_⟩
 ·have:=h.sub i x hx;rw [Heap.get_set_ne]; exact this
  rintro rfl; rw [hn] at this; cases this
 ·simp only [List.mem_cons] at hx
  rcases hx with rfl | hx
  ·simp
  ·rw [Heap.get_set_ne]; exact h.get x hx
   intro e; have:=h.get x hx; rw [e,hn] at this; cases this
 ·simp only [List.map_cons,List.nodup_cons];refine ⟨fun hm=>?_,h.nd⟩
  obtain ⟨x,hx,e⟩:=List.mem_map.mp hm
  have:=h.get x hx; rw [e,hn] at this; cases this
 ·simp only [List.mem_cons] at hx
  rcases hx with rfl | hx
  ·cases hh : H0.get id with
   | none=>rfl
   | some o'=>have:=h.sub _ _ hh; rw [hn] at this; cases this
  ·exact h.out x hx
theorem Owns.put {H0 H : Heap} {l : List (Nat × MObj)} {id : Nat} {o : MObj} (h : Owns H0 H ((id,o)::l)) (o' : MObj) : Owns H0 (H.set id o') ((id,o')::l):=by
 have hnd:=h.nd;simp only [List.map_cons,List.nodup_cons] at hnd
 have hne : ∀ x,x∈l→x.1≠id:=fun x hx e=>hnd.1 (e ▸ List.mem_map_of_mem hx)
 have ho:=h.out (id,o) (by simp);refine ⟨fun i x hx=>?_,fun x hx=>?_,by simpa using hnd,fun x hx=>?_⟩
 ·rw [Heap.get_set_ne]; exact h.sub i x hx
  rintro rfl; simp only at ho; rw [ho] at hx; cases hx
 ·simp only [List.mem_cons] at hx
  rcases hx with rfl | hx
  ·simp
  ·rw [Heap.get_set_ne _ _ (hne x hx)]; exact h.get x (by simp [hx])
 ·simp only [List.mem_cons] at hx
  rcases hx with rfl | hx
  ·exact ho
  ·exact h.out x (by simp [hx])
theorem Owns.mv {H0 H : Heap} {l : List (Nat × MObj)} {id id' : Nat} {o : MObj} (h : Owns H0 H ((id,o)::l)) (hn : H.get id'=none) (o' : MObj) : Owns H0 ((H.del id).set id' o') ((id',o')::l):=by
 have hnd:=h.nd;simp only [List.map_cons,List.nodup_cons] at hnd
 have hne : ∀ x,x∈l→x.1≠id:=fun x hx e=>hnd.1 (e ▸ List.mem_map_of_mem hx)
 have ho:=h.out (id,o) (by simp)
 have hd : Owns H0 (H.del id) l:=by
  refine ⟨fun i x hx=>?_,fun x hx=>?_,hnd.2,fun x hx=>h.out x (by simp [hx])⟩
  ·rw [Heap.get_del_ne]; exact h.sub i x hx
   rintro rfl; simp only at ho; rw [ho] at hx; cases hx
  ·rw [Heap.get_del_ne _ (hne x hx)]; exact h.get x (by simp [hx])
 refine hd.new ?_ o'
 by_cases e : id'=id
 ·subst e; exact Heap.get_del_same _ _
 ·rw [Heap.get_del_ne _ e]; exact hn
section
variable {α : Type} [Inhabited α] {f : α→AV} [One f] {H0 H : Heap} {l : List (Nat × MObj)} {K : Kont}
theorem newBuf_own {n sz : Nat} {cs : List AV} (h : Owns H0 H l) (hk : ∀ id H',Owns H0 H' ((id,.cells sz cs 0)::l)→K (.buf id n) H') : newBuf n sz cs K H :=
 fun id hn=>hk id _ (h.new hn _)
theorem newRef_own {sz : Nat} {cs : List AV} (h : Owns H0 H l) (hk : ∀ id H',Owns H0 H' ((id,.cells sz cs 0)::l)→K (.ref id 0) H') : newRef sz cs K H :=
 fun id hn=>hk id _ (h.new hn _)
theorem newMap_own (h : Owns H0 H l) (hk : ∀ id H',Owns H0 H' ((id,.map [] [])::l)→K (.mref id) H') : newMap K H :=
 fun id hn=>hk id _ (h.new hn _)
omit [Inhabited α] in
/-- An empty list of ours. -/
theorem new_list (f : α→AV) (h : Owns H0 H l) (hk : ∀ id H',Owns H0 H' ((id,.cells 1 (([] : List α).map f) 0)::l)→K (.buf id ([] : List α).length) H') : newBuf 0 1 [] K H :=
 newBuf_own h hk
theorem app_own {id fr n : Nat} {out : List α} (a : α) {v : AV} (h : Owns H0 H ((id,.cells 1 (out.map f) fr)::l)) (hv : v=f a) (hn : n=out.length) (hm : out.length+1≤maxL)
  (hk : ∀ id' H',Owns H0 H' ((id',.cells 1 ((out++[a]).map f) fr)::l)→K (.buf id' (out++[a]).length) H') :
  appW 1 (some (.buf id n)) (some (.sl [v])) K H:=by
 subst hv hn
 have h0:=h.h0;simp only at h0;simp only [appW,h0,srcOf,app2];refine ⟨⟨trivial,by simp,by simpa using hm,by simpa using hm,okEls_one a⟩,fun id' hn=>?_⟩
 have:=h.mv hn (.cells 1 ((out++[a]).map f) fr)
 have e : out.map f++flat [f a]=(out++[a]).map f:=by simp [flat,one_cells]
 rw [e]
 have:=hk id' _ this
 simpa using this
theorem app_list {id fr n : Nat} {out r : List α} (h : Owns H0 H ((id,.cells 1 (out.map f) fr)::l)) (hn : n=out.length) (hm : out.length+r.length≤maxL)
  (hk : ∀ id' H',Owns H0 H' ((id',.cells 1 ((out++r).map f) fr)::l)→K (.buf id' (out++r).length) H') :
  appW 1 (some (.buf id n)) (some (mL f r)) K H:=by
 subst hn
 have h0:=h.h0;simp only at h0;simp only [appW,h0,app2,srcOf_mL];refine ⟨⟨trivial,by simp,hm,by simpa using hm⟩,fun id' hn=>?_⟩
 have:=h.mv hn (.cells 1 ((out++r).map f) fr)
 have e : out.map f++r.map f=(out++r).map f:=by simp
 rw [e]
 have:=hk id' _ this
 simpa using this
theorem nil_own (a : α) {v : AV} (h : Owns H0 H l) (hv : v=f a)
  (hk : ∀ id' H',Owns H0 H' ((id',.cells 1 ([a].map f) 0)::l)→K (.buf id' [a].length) H') :
  appW 1 (some .nilsl) (some (.sl [v])) K H:=by
 subst hv;simp only [appW,srcOf,app1];refine ⟨⟨by simp [maxL],by simp [maxL],okEls_one a⟩,fun id hn=>?_⟩
 have:=hk id _ (h.new hn (.cells 1 ([a].map f) 0))
 simpa [flat,one_cells] using this
end
section
variable {α : Type} {f : α→AV} [One f] {H0 H : Heap} {l : List (Nat × MObj)}
theorem fz_own {t id n fr : Nat} {out : List α} {F : Env→Heap→Prop} {σ : Env} (h : Owns H0 H ((id,.cells 1 (out.map f) fr)::l)) (hn : n=out.length)
  (hk : ∀ H',Owns H0 H' l→F ((t,some (mL f out))::σ) H') : fz1 t id n F σ H (H.get id):=by
 subst hn
 have h0:=h.h0;simp only at h0;rw [h0,fz1_one];refine ⟨⟨by simp,fun c hc=>?_⟩,hk _ (h.put _).tl⟩
 obtain ⟨a,_,rfl⟩:=List.mem_map.mp hc;exact One.one a
end
theorem wsucc {k : Nat} (h : k<1125899906842624) : IntKind.i64.wrap ((k : Int)+1)=((k+1 : Nat) : Int):=by
 rw [wrap_i64 (by omega) (by omega)]; omega
theorem of_decide {p : Prop} [Decidable p] (h : decide p=true) : p:=by simpa using h
theorem of_ndecide {p : Prop} [Decidable p] (h : decide p=false) : ¬ p:=by simpa using h
end Go.AW
namespace Go.AW
structure Pur (P : Program) (B : Nat) (f : FuncId) (args : List AV) (r : AV) : Prop where
 run : PureF P B f args r
theorem Pur.go {P : Program} {B : Nat} {f : FuncId} {args : List AV} {r : AV} {H : Heap} {K : Kont} (h : Pur P B f args r) (hk : r.fine→K r H) : CallH P B f args H K :=
 h.run.go hk
end Go.AW
namespace Go.AW
noncomputable def dec (p : Prop) : Bool:=@decide p (Classical.propDecidable p)
theorem dec_t {p : Prop} (h : p) : dec p=true:=by simp [dec,h]
theorem dec_f {p : Prop} (h : ¬ p) : dec p=false:=by simp [dec,h]
theorem dec_iff {p : Prop} : dec p=true↔p:=by simp [dec]
theorem dec_niff {p : Prop} : dec p=false↔¬ p:=by simp [dec]
theorem dec_congr {p q : Prop} (h : p↔q) : dec p=dec q:=by rw [show p=q from propext h]
theorem decide_dec (p : Prop) [Decidable p] : decide p=dec p:=by
 by_cases h : p
 ·rw [dec_t h]; simpa using h
 ·rw [dec_f h]; simpa using h
theorem lt_succ_all {k : Nat} {p : Nat→Prop} (h : ∀ i,i<k→p i) (hk : p k) : ∀ i,i<k+1→p i:=fun i hi=>by
 by_cases e : i=k
 ·subst e; exact hk
 ·exact h i (by omega)
theorem mem_getD {α : Type} [Inhabited α] {l : List α} {a : α} : a∈l↔∃ i,i<l.length∧l.getD i default=a:=by
 rw [List.mem_iff_getElem]
 constructor
 ·rintro ⟨i,h,e⟩; exact ⟨i,h,by simpa [List.getD_eq_getElem?_getD,h] using e⟩
 ·rintro ⟨i,h,e⟩; exact ⟨i,h,by simpa [List.getD_eq_getElem?_getD,h] using e⟩
theorem all_getD {α : Type} [Inhabited α] {l : List α} {p : α→Prop} : (∀ a,a∈l→p a)↔∀ i,i<l.length→p (l.getD i default):=by
 constructor
 ·intro h i hi; exact h _ (mem_getD.mpr ⟨i,hi,rfl⟩)
 ·rintro h a ha; obtain ⟨i,hi,rfl⟩:=mem_getD.mp ha; exact h i hi
@[go_sem] theorem ix_nat' {α : Type} [Inhabited α] (l : List α) (k : Nat) : ix l (k : Int)=l.getD k default:=ix_nat l k
@[go_sem] theorem toNat_nat (k : Nat) : ((k : Int)).toNat=k:=Int.toNat_natCast k
@[go_sem] theorem nat_nonneg (k : Nat) : (0≤(k : Int))=True:=by simp
@[go_sem] theorem lt_nat (a b : Nat) : decide ((a : Int)<(b : Int))=decide (a<b):=by simp
theorem wpred {k : Nat} (h : 0<k) (h' : k<1125899906842624) : IntKind.i64.wrap ((k : Int) - 1)=((k - 1 : Nat) : Int):=by
 rw [wrap_i64 (by omega) (by omega)]; omega
def indexOf {α : Type} [DecidableEq α] (l : List α) (n : α) : Int:=match l.idxOf? n with
 | some i=>i
 | none=>-1
theorem indexOf_hit {α : Type} [DecidableEq α] [Inhabited α] {l : List α} {n : α} {k : Nat} (hk : k<l.length) (hall : ∀ i,i<k→l.getD i default≠n) (he : l.getD k default=n) : indexOf l n=k:=by
 have : l.idxOf? n=some k:=by
  rw [List.idxOf?_eq_some_iff];refine ⟨hk,by simpa [List.getD_eq_getElem?_getD,hk] using he,fun j hj=>?_⟩
  have:=hall j hj
  simpa [List.getD_eq_getElem?_getD,show j<l.length by omega] using this
 simp [indexOf,this]
theorem indexOf_miss {α : Type} [DecidableEq α] [Inhabited α] {l : List α} {n : α} (hall : ∀ i,i<l.length→l.getD i default≠n) : indexOf l n=-1:=by
 have : l.idxOf? n=none:=by
  rw [List.idxOf?_eq_none_iff]
  intro h; obtain ⟨i,hi,e⟩:=mem_getD.mp h; exact hall i hi e
 simp [indexOf,this]
end Go.AW
namespace Go.AW
theorem indexOf_bd {α : Type} [DecidableEq α] (l : List α) (n : α) : -1≤indexOf l n∧indexOf l n<l.length:=by
 unfold indexOf
 split
 ·rename_i i h
  rw [List.idxOf?_eq_some_iff] at h
  obtain ⟨hi,_⟩:=h;omega
 ·omega
end Go.AW
namespace Go.AW
theorem bnt (b : Bool) : ((!b)=true)=(b=false):=by simp
theorem bnf (b : Bool) : ((!b)=false)=(b=true):=by simp
theorem dect (p : Prop) : (dec p=true)=p:=propext dec_iff
theorem decf (p : Prop) : (dec p=false)=¬ p:=propext dec_niff
end Go.AW
namespace Go.AW
@[go_sem] theorem eq_nat (a b : Nat) : decide ((a : Int)=(b : Int))=decide (a=b):=by simp [Int.ofNat_inj]
@[go_sem] theorem le_nat (a b : Nat) : decide ((a : Int)≤(b : Int))=decide (a≤b):=by simp
def rc1 (n : Option Nat) (off : Nat) : Option MObj→Option AV
 | some (.cells _ cs _)=>match n with
  | none=>if off<cs.length then some (cs.getD off nv) else none
  | some n=>if off+n≤cs.length then some (.agg ((cs.drop off).take n)) else none
 | _=>none
@[go_sem] theorem rcV_ref (n : Option Nat) (id off : Nat) (H : Heap) : rcV n (some (.ref id off)) H=rc1 n off (H.get id):=by
 unfold rcV rc1
 cases n <;> (dsimp only; split <;> simp_all)
@[go_sem] theorem rc1_1 (off sz f : Nat) (cs : List AV) : rc1 none off (some (.cells sz cs f))=if off<cs.length then some (cs.getD off nv) else none:=rfl
@[go_sem] theorem rc1_n (n off sz f : Nat) (cs : List AV) : rc1 (some n) off (some (.cells sz cs f))=if off+n≤cs.length then some (.agg ((cs.drop off).take n)) else none:=rfl
theorem drop_cons {α : Type} [Inhabited α] (l : List α) {k : Nat} (h : k<l.length) : l.drop k=l.getD k default::l.drop (k+1):=by
 rw [List.drop_eq_getElem_cons h]; simp [List.getD_eq_getElem?_getD,h]
attribute [go_sem] List.drop_succ_cons List.drop_zero List.take_succ_cons List.take_zero List.getD_cons_zero List.getD_cons_succ List.length_cons List.length_nil List.set_cons_succ List.set_cons_zero
end Go.AW
namespace Go.AW
theorem rep_one (z : AV) : ∀ n,rep n [z]=List.replicate n z
 | 0=>rfl
 | n+1=>by simp [rep,rep_one z n,List.replicate_succ]
section
variable {α : Type} {f : α→AV} [One f] {H0 H : Heap} {l : List (Nat × MObj)} {K : Kont}
theorem mks_own {n : Nat} {z : AV} (f : α→AV) (h : Owns H0 H l) (hk : ∀ id H',Owns H0 H' ((id,.cells 1 (([] : List α).map f++List.replicate n z) 0)::l)→K (.buf id n) H') :
  newBuf n 1 (rep n [z]) K H:=by
 rw [rep_one]; exact newBuf_own h hk
theorem st_own {id off m : Nat} {z : AV} {A : List α} (a : α) {v : AV} (h : Owns H0 H ((id,.cells 1 (A.map f++List.replicate (m+1) z) 0)::l)) (hv : v=f a) (ho : off=A.length)
  (hk : ∀ H',Owns H0 H' ((id,.cells 1 ((A++[a]).map f++List.replicate m z) 0)::l)→K nv H') :
  st1 (H.get id) id off 1 [v] K H:=by
 subst hv ho
 have h0:=h.h0;simp only at h0;rw [h0,st1_c];refine ⟨⟨by omega,by simp,rfl,fun c hc=>?_⟩, ?_⟩
 ·rw [List.mem_singleton] at hc; subst hc; exact One.one a
 ·have e : wr (A.map f++List.replicate (m+1) z) A.length [f a]=(A++[a]).map f++List.replicate m z:=by
   simp only [wr,List.replicate_succ,List.map_append,List.map_cons,List.map_nil,List.append_assoc];rw [List.set_append_right _ _ (by simp)]
   simp
  rw [e];exact hk _ (h.put _)
theorem fz_made {t id n : Nat} {z : AV} {A : List α} {F : Env→Heap→Prop} {σ : Env} (h : Owns H0 H ((id,.cells 1 (A.map f++List.replicate 0 z) 0)::l)) (hn : n=A.length)
  (hk : ∀ H',Owns H0 H' l→F ((t,some (mL f A))::σ) H') : fz1 t id n F σ H (H.get id):=by
 rw [List.replicate_zero,List.append_nil] at h;exact fz_own h hn hk
end
theorem take_map_succ {α β : Type} [Inhabited α] (l : List α) (g : α→β) {k : Nat} (h : k<l.length) : (l.take (k+1)).map g=(l.take k).map g++[g (l.getD k default)]:=by
 rw [take_succ' l h]; simp
theorem range_succ_filter (p : Nat→Bool) (k : Nat) : (List.range (k+1)).filter p=(List.range k).filter p++if p k then [k] else []:=by
 rw [List.range_succ,List.filter_append]; simp [List.filter_cons]
end Go.AW
namespace Go.AW
theorem sub_set {H0 H : Heap} {i : Nat} {o : MObj} (h : H0.sub H) (n : H0.get i=none) : H0.sub (H.set i o):=by
 intro j x hx;rw [Heap.get_set_ne]
 ·exact h j x hx
 ·rintro rfl; rw [n] at hx; cases hx
attribute [go_sem] Heap.get_set_same
end Go.AW
namespace Go.AW
@[go_sem] theorem xor_tl (b : Bool) : (true ^^ b)=!b:=by simp
@[go_sem] theorem xor_fl (b : Bool) : (false ^^ b)=b:=by simp
@[go_sem] theorem and_dec (p q : Prop) [Decidable p] [Decidable q] : (decide p && decide q)=dec (p∧q):=by rw [← decide_dec]; simp
end Go.AW
namespace Go.AW
def faultK (P : Prop) (H0 : Heap) : Kont:=fun r H'=>H'=H0∧∃ k a b d : Int,r=.tup [.int .i64 k,.int .i64 a,.int .i64 b,.int .i64 d]∧(k=0↔P)
theorem fault_ret {P : Prop} {H0 H : Heap} {k a b d : Int} (h : k=0↔P) (hs : H0.sub H) : subW (faultK P H0) (.tup [.int .i64 k,.int .i64 a,.int .i64 b,.int .i64 d]) H :=
 ⟨H0,hs,rfl,k,a,b,d,rfl,h⟩
end Go.AW
namespace Go.Shf
open Go.AW
structure Cat where
 objs : Int
 frm : List Int
 to : List Int
 idn : List Int
 comp : List (List Int)
 deriving Inhabited
structure SF where
 shape : Cat
 sizes : List Int
 acts : List (List Int)
 deriving Inhabited
structure Top where
 shape : Cat
 covers : List (List (List Int))
 deriving Inhabited
structure SM where
 src : SF
 tgt : SF
 parts : List (List Int)
 deriving Inhabited
@[go_sem] def Cat.cells (c : Cat) : List AV:=[iI c.objs,iL c.frm,iL c.to,iL c.idn,iLL c.comp]
@[go_sem] def SF.cells (f : SF) : List AV:=[iI f.shape.objs,iL f.shape.frm,iL f.shape.to,iL f.shape.idn,iLL f.shape.comp,iL f.sizes,iLL f.acts]
@[go_sem] def Top.cells (j : Top) : List AV:=[iI j.shape.objs,iL j.shape.frm,iL j.shape.to,iL j.shape.idn,iLL j.shape.comp,iLLL j.covers]
@[go_sem] def SM.cells (m : SM) : List AV:=[iI m.src.shape.objs,iL m.src.shape.frm,iL m.src.shape.to,iL m.src.shape.idn,iLL m.src.shape.comp,iL m.src.sizes,iLL m.src.acts,
 iI m.tgt.shape.objs,iL m.tgt.shape.frm,iL m.tgt.shape.to,iL m.tgt.shape.idn,iLL m.tgt.shape.comp,iL m.tgt.sizes,iLL m.tgt.acts,iLL m.parts]
def cmp : List Int→List Int→Int
 | [],[]=>0
 | [],_::_=>-1
 | _::_,[]=>1
 | a::r,b::s=>if a=b then cmp r s else if a<b then -1 else 1
theorem cmp_zero : ∀ {a b : List Int},cmp a b=0↔a=b
 | [],[]=>by simp [cmp]
 | [],_::_=>by simp [cmp]
 | _::_,[]=>by simp [cmp]
 | a::r,b::s=>by
  unfold cmp
  split
  ·rename_i h; rw [cmp_zero]; simp [h]
  ·rename_i h; split <;> simp [h]
def Rising (l : List Int) : Prop:=∀ i,0<i→i<l.length→l.getD (i - 1) default<l.getD i default
def outs (c : Cat) (x : Int) : List Int:=((List.range c.frm.length).filter fun i=>c.frm.getD i default=x).map Int.ofNat
end Go.Shf
namespace Go.Shf
open Go.AW
structure Cat.Shape (c : Cat) : Prop where
 o : 0≤c.objs∧c.objs≤8
 m : c.frm.length≤40
 frm : ∀ y,y∈c.frm→0≤y∧y<c.objs
 tol : c.to.length=c.frm.length
 to : ∀ y,y∈c.to→0≤y∧y<c.objs
 cl : c.comp.length=c.frm.length
 il : (c.idn.length : Int)=c.objs
 idn : ∀ y,y∈c.idn→0≤y∧y<(c.frm.length : Int)
 ide : ∀ x : Nat,x<c.idn.length→ix c.frm (c.idn.getD x default)=x∧ix c.to (c.idn.getD x default)=x
 row : ∀ f : Nat,f<c.frm.length→(c.comp.getD f default).length=c.frm.length
 non : ∀ f g : Nat,f<c.frm.length→g<c.frm.length→c.to.getD f default≠c.frm.getD g default→(c.comp.getD f default).getD g default=-1
 yes : ∀ f g : Nat,f<c.frm.length→g<c.frm.length→c.to.getD f default=c.frm.getD g default →
  (0≤(c.comp.getD f default).getD g default∧(c.comp.getD f default).getD g default<c.frm.length) ∧
  ix c.frm ((c.comp.getD f default).getD g default)=c.frm.getD f default∧ix c.to ((c.comp.getD f default).getD g default)=c.to.getD g default
structure Cat.Laws (c : Cat) : Prop where
 idl : ∀ f : Nat,f<c.frm.length→ix (ix c.comp (ix c.idn (c.frm.getD f default))) f=f∧ix (c.comp.getD f default) (ix c.idn (c.to.getD f default))=f
 assoc : ∀ f g h : Nat,f<c.frm.length→g<c.frm.length→h<c.frm.length→c.to.getD f default=c.frm.getD g default→c.to.getD g default=c.frm.getD h default →
  ix (ix c.comp ((c.comp.getD f default).getD g default)) h=ix (c.comp.getD f default) ((c.comp.getD g default).getD h default)
def Cat.Is (c : Cat) : Prop:=c.Shape∧c.Laws
end Go.Shf
namespace Go.Shf
open Go.AW
theorem Cat.Shape.frm' {c : Cat} (s : c.Shape) {f : Nat} (h : f<c.frm.length) : 0≤c.frm.getD f default∧(c.frm.getD f default).toNat<c.idn.length:=by
 have:=s.frm _ (mem_getD.mpr ⟨f,h,rfl⟩); have:=s.il; omega
theorem Cat.Shape.to' {c : Cat} (s : c.Shape) {f : Nat} (h : f<c.frm.length) : 0≤c.to.getD f default∧(c.to.getD f default).toNat<c.idn.length:=by
 have:=s.to _ (mem_getD.mpr ⟨f,by have:=s.tol; omega,rfl⟩); have:=s.il; omega
theorem Cat.Shape.id' {c : Cat} (s : c.Shape) {x : Int} (h : x.toNat<c.idn.length) : 0≤ix c.idn x∧(ix c.idn x).toNat<c.frm.length:=by
 have:=s.idn _ (ix_mem h); omega
theorem Cat.Shape.row' {c : Cat} (s : c.Shape) {a : Int} (h : a.toNat<c.frm.length) : (ix c.comp a).length=c.frm.length:=s.row _ h
theorem Cat.Shape.pos {c : Cat} (s : c.Shape) {f g : Nat} (hf : f<c.frm.length) (hg : g<c.frm.length) : (0≤(c.comp.getD f default).getD g default)↔c.to.getD f default=c.frm.getD g default:=by
 constructor
 ·intro h; apply Classical.byContradiction; intro e; have:=s.non f g hf hg e; omega
 ·intro e; exact (s.yes f g hf hg e).1.1
theorem Cat.Shape.lt {c : Cat} (s : c.Shape) {f g : Nat} (hf : f<c.frm.length) (hg : g<c.frm.length) : ((c.comp.getD f default).getD g default).toNat<c.frm.length:=by
 by_cases e : c.to.getD f default=c.frm.getD g default
 ·have:=(s.yes f g hf hg e).1; omega
 ·have:=s.non f g hf hg e; omega
def Cat.IdAt (c : Cat) (f : Nat) : Prop:=ix (ix c.comp (ix c.idn (c.frm.getD f default))) f=f∧ix (c.comp.getD f default) (ix c.idn (c.to.getD f default))=f
def Cat.AssocAt (c : Cat) (f g h : Nat) : Prop:=c.to.getD f default=c.frm.getD g default→c.to.getD g default=c.frm.getD h default →
  ix (ix c.comp ((c.comp.getD f default).getD g default)) h=ix (c.comp.getD f default) ((c.comp.getD g default).getD h default)
end Go.Shf
namespace Go.Shf
open Go.AW
theorem mem_outs {c : Cat} {x y : Int} : y∈outs c x↔0≤y∧y.toNat<c.frm.length∧ix c.frm y=x:=by
 simp only [outs,List.mem_map,List.mem_filter,List.mem_range,decide_eq_true_eq]
 constructor
 ·rintro ⟨b,⟨h1,h2⟩,rfl⟩; exact ⟨Int.natCast_nonneg b,by simpa using h1,by simpa [ix] using h2⟩
 ·rintro ⟨h1,h2,h3⟩; exact ⟨y.toNat,⟨h2,h3⟩,Int.toNat_of_nonneg h1⟩
end Go.Shf
namespace Go.Shf
open Go.AW
end Go.Shf
namespace Go.Shf
open Go.AW
end Go.Shf
namespace Go.Shf
open Go.AW
end Go.Shf
namespace Go.Shf
open Go.AW
def nats (p : Nat→Bool) (n : Nat) : List Int:=((List.range n).filter p).map Int.ofNat
theorem mem_nats {p : Nat→Bool} {n : Nat} {y : Int} : y∈nats p n↔0≤y∧y.toNat<n∧p y.toNat=true:=by
 simp only [nats,List.mem_map,List.mem_filter,List.mem_range]
 constructor
 ·rintro ⟨b,⟨h1,h2⟩,rfl⟩; exact ⟨Int.natCast_nonneg b,by simpa using h1,by simpa using h2⟩
 ·rintro ⟨h1,h2,h3⟩; exact ⟨y.toNat,⟨h2,h3⟩,Int.toNat_of_nonneg h1⟩
theorem nats_succ (p : Nat→Bool) (n : Nat) : nats p (n+1)=nats p n++if p n then [(n : Int)] else []:=by
 rw [nats,range_succ_filter,List.map_append]; congr 1; split <;> rfl
theorem nats_t {p : Nat→Bool} {n : Nat} (h : p n=true) : nats p (n+1)=nats p n++[(n : Int)]:=by rw [nats_succ,if_pos h]
theorem nats_f {p : Nat→Bool} {n : Nat} (h : p n=false) : nats p (n+1)=nats p n:=by rw [nats_succ,if_neg (by simp [h]),List.append_nil]
@[simp] theorem nats_0 (p : Nat→Bool) : nats p 0=[]:=rfl
theorem nats_len (p : Nat→Bool) (n : Nat) : (nats p n).length≤n:=by
 rw [nats,List.length_map]; exact Nat.le_trans (List.length_filter_le _ _) (by simp)
theorem rising_pw {l : List Int} : Rising l↔l.Pairwise (·<·):=by
 constructor
 ·intro h;rw [List.pairwise_iff_getElem]
  intro i j hi hj hij
  have key : ∀ d i,i+d<l.length→0<d→l.getD i default<l.getD (i+d) default:=by
   intro d
   induction d with
   | zero=>intro i _ h; omega
   | succ d ih =>
    intro i hi _
    have h1:=h (i+d+1) (by omega) hi;simp only [Nat.add_sub_cancel] at h1
    by_cases hd : d=0
    ·subst hd; exact h1
    ·have:=ih i (by omega) (by omega); exact Int.lt_trans this h1
  have:=key (j - i) i (by omega) (by omega);rw [show i+(j - i)=j by omega] at this
  simpa [List.getD_eq_getElem?_getD,hi,hj] using this
 ·intro h i h0 hi;rw [List.pairwise_iff_getElem] at h
  have:=h (i - 1) i (by omega) hi (by omega)
  simpa [List.getD_eq_getElem?_getD,hi,show i - 1<l.length by omega] using this
theorem nats_rising (p : Nat→Bool) (n : Nat) : Rising (nats p n):=by
 rw [rising_pw,nats,List.pairwise_map];exact (List.pairwise_lt_range.filter _).imp fun {a b} h=>by simpa using h
def pullP (c : Cat) (a : Int) (s : List Int) (b : Nat) : Bool:=decide (ix c.to a=c.frm.getD b default) && decide ((ix c.comp a).getD b default∈s)
def pullS (c : Cat) (a : Int) (s : List Int) : List Int:=nats (pullP c a s) c.frm.length
section
variable {c : Cat}
theorem Cat.Shape.comp (s : c.Shape) {a b : Int} (ha : 0≤a∧a.toNat<c.frm.length) (hb : 0≤b∧b.toNat<c.frm.length) (e : ix c.to a=ix c.frm b) :
  (0≤ix (ix c.comp a) b∧(ix (ix c.comp a) b).toNat<c.frm.length)∧ix c.frm (ix (ix c.comp a) b)=ix c.frm a∧ix c.to (ix (ix c.comp a) b)=ix c.to b:=by
 have:=s.yes a.toNat b.toNat ha.2 hb.2 e;refine ⟨⟨this.1.1, ?_⟩,this.2⟩
 have:=this.1; simp only [ix]; omega
theorem Cat.Is.assoc (h : c.Is) {f g k : Int} (hf : 0≤f∧f.toNat<c.frm.length) (hg : 0≤g∧g.toNat<c.frm.length) (hk : 0≤k∧k.toNat<c.frm.length)
  (e1 : ix c.to f=ix c.frm g) (e2 : ix c.to g=ix c.frm k) : ix (ix c.comp (ix (ix c.comp f) g)) k=ix (ix c.comp f) (ix (ix c.comp g) k):=by
 have:=h.2.assoc f.toNat g.toNat k.toNat hf.2 hg.2 hk.2 e1 e2
 simpa only [ix,Int.toNat_natCast] using this
theorem Cat.Shape.toObj (s : c.Shape) {f : Int} (hf : f.toNat<c.frm.length) : 0≤ix c.to f∧ix c.to f<c.objs:=s.to _ (ix_mem (by rw [s.tol]; exact hf))
theorem Cat.Shape.frmObj (s : c.Shape) {f : Int} (hf : f.toNat<c.frm.length) : 0≤ix c.frm f∧ix c.frm f<c.objs:=s.frm _ (ix_mem hf)
theorem Cat.Shape.idArr (s : c.Shape) {x : Int} (hx : 0≤x∧x<c.objs) : (0≤ix c.idn x∧(ix c.idn x).toNat<c.frm.length)∧ix c.frm (ix c.idn x)=x∧ix c.to (ix c.idn x)=x:=by
 have hl:=s.il
 have h1:=s.id' (x:=x) (by omega)
 have h2:=s.ide x.toNat (by omega);rw [Int.toNat_of_nonneg hx.1] at h2;exact ⟨h1,h2⟩
theorem Cat.Is.idr (h : c.Is) {f : Int} (hf : 0≤f∧f.toNat<c.frm.length) : ix (ix c.comp f) (ix c.idn (ix c.to f))=f:=by
 have:=(h.2.idl f.toNat hf.2).2;rw [Int.toNat_of_nonneg hf.1] at this; exact this
theorem Cat.Is.idl (h : c.Is) {f : Int} (hf : 0≤f∧f.toNat<c.frm.length) : ix (ix c.comp (ix c.idn (ix c.frm f))) f=f:=by
 have:=(h.2.idl f.toNat hf.2).1;rw [Int.toNat_of_nonneg hf.1] at this; exact this
end
end Go.Shf
namespace Go.Shf
open Go.AW
end Go.Shf
namespace Go.Shf
open Go.AW
theorem getD_set {α : Type} (l : List α) (i j : Nat) (a d : α) : (l.set i a).getD j d=if i=j∧j<l.length then a else l.getD j d:=by
 rw [List.getD_eq_getElem?_getD,List.getElem?_set,List.getD_eq_getElem?_getD]
 by_cases h : i=j
 ·subst h
  by_cases h2 : i<l.length
  ·simp [h2]
  ·simp [h2,List.getElem?_eq_none (show l.length≤i by omega)]
 ·simp [h]
end Go.Shf
namespace Go.Shf
open Go.AW
end Go.Shf
namespace Go.Shf
open Go.AW
def rowP (c : Cat) (L : List (List (List Int))) (a : Nat) : List Int:=(L.getD (c.frm.getD a default).toNat default).map fun s=>indexOf (L.getD (c.to.getD a default).toNat default) (pullS c a s)
def pullsOf (c : Cat) (L : List (List (List Int))) : List (List Int):=(List.range c.frm.length).map (rowP c L)
def topOf (c : Cat) (L : List (List (List Int))) (x : Nat) : Int:=indexOf (L.getD x default) (outs c x)
def topsOf (c : Cat) (L : List (List (List Int))) : List Int:=(List.range L.length).map (topOf c L)
theorem getD_map_range {α : Type} (f : Nat→α) (d : α) {n k : Nat} (h : k<n) : ((List.range n).map f).getD k d=f k:=by
 simp [List.getD_eq_getElem?_getD,h]
@[go_sem] def tabCells (c : Cat) (L : List (List (List Int))) : List AV:=[iI c.objs,iL c.frm,iL c.to,iL c.idn,iLL c.comp,iLLL L,iLL (pullsOf c L),iL (topsOf c L)]
@[go_sem] def tabZ : List AV:=[.int .i64 0,.nilsl,.nilsl,.nilsl,.nilsl,.nilsl,.nilsl,.nilsl]
theorem indexOf_in {α : Type} [DecidableEq α] [Inhabited α] {l : List α} {a : α} (h : a∈l) : 0≤indexOf l a∧(indexOf l a).toNat<l.length∧ix l (indexOf l a)=a:=by
 unfold indexOf
 split
 ·rename_i i e
  rw [List.idxOf?_eq_some_iff] at e
  obtain ⟨hi,e,_⟩:=e;refine ⟨by omega,by simpa using hi, ?_⟩
  simpa [ix,List.getD_eq_getElem?_getD,hi] using e
 ·rename_i e; rw [List.idxOf?_eq_none_iff] at e; exact absurd h e
theorem indexOf_nodup {α : Type} [DecidableEq α] [Inhabited α] {l : List α} (h : l.Nodup) {k : Nat} (hk : k<l.length) : indexOf l (l.getD k default)=k:=by
 refine indexOf_hit hk (fun i hi e=>?_) rfl
 have h1 : i<l.length:=by omega
 have:=(List.getElem_inj h (h₀:=h1) (h₁:=hk)).mp (by simpa [List.getD_eq_getElem?_getD,h1,hk] using e);omega
end Go.Shf
namespace Go.Shf
open Go.AW
theorem map_getD {α β : Type} [Inhabited α] (f : α→β) {l : List α} {k : Nat} {d : β} (h : k<l.length) : (l.map f).getD k d=f (l.getD k default):=by simp [List.getD_eq_getElem?_getD,h]
end Go.Shf
namespace Go.Shf
open Go.AW
end Go.Shf
namespace Go.Shf
open Go.AW
structure Lk where
 i : Int
 j : Int
 left : List Int
 right : List Int
 deriving Inhabited
def Fits (p : List Int) (l : Lk) : Prop:=0≤ix p l.i→0≤ix p l.j→ix l.left (ix p l.i)=ix l.right (ix p l.j)
def Cons (ls : List Lk) (p : List Int) : Prop:=∀ l,l∈ls→Fits p l
structure Ext (sizes : List Int) (ls : List Lk) (p t : List Int) : Prop where
 len : t.length=p.length
 new : ∀ n,n<p.length→p.getD n default=-1→0≤t.getD n default∧t.getD n default<sizes.getD n default
 old : ∀ n,n<p.length→p.getD n default≠-1→t.getD n default=p.getD n default
 cons : Cons ls t
structure IsLex (S : List Int→Prop) (L : List (List Int)) : Prop where
 srt : L.Pairwise fun s t=>cmp s t<0
 mem : ∀ t,t∈L↔S t
end Go.Shf
namespace Go.Shf
open Go.AW
end Go.Shf
namespace Go.Shf
open Go.AW
section
variable {sizes : List Int} {ls : List Lk} {p : List Int}
open Classical in
noncomputable def exS (sizes : List Int) (ls : List Lk) (p : List Int) : List (List Int):=if h : ∃ L,IsLex (Ext sizes ls p) L then Classical.choose h else []
end
end Go.Shf
namespace Go.Shf
open Go.AW
end Go.Shf
namespace Go.Shf
open Go.AW
def lkRow (c : Cat) (s : List Int) (i b : Nat) : List Int:=[(i : Int),(b : Int),indexOf s (ix (ix c.comp (s.getD i default)) b)]
def hitP (c : Cat) (s : List Int) (i b : Nat) : Bool:=decide (c.frm.getD b default=ix c.to (s.getD i default))
def rowsAt (c : Cat) (s : List Int) (i n : Nat) : List (List Int):=((List.range n).filter (hitP c s i)).map (lkRow c s i)
def rowsTo (c : Cat) (s : List Int) (k : Nat) : List (List Int):=(List.range k).flatMap fun i=>rowsAt c s i c.frm.length
def rowsOf (c : Cat) (s : List Int) : List (List Int):=rowsTo c s s.length
def famSizes (f : SF) (s : List Int) : List Int:=s.map fun a=>ix f.sizes (ix f.shape.to a)
def natsL (n : Int) : List Int:=(List.range n.toNat).map Int.ofNat
theorem natsL_ix {n y : Int} (h : 0≤y∧y<n) : ix (natsL n) y=y:=by
 rw [ix,natsL,getD_map_range _ _ (by omega)]; exact Int.toNat_of_nonneg h.1
def lkOf (f : SF) (s r : List Int) : Lk:=⟨r.getD 0 default,r.getD 2 default,ix f.acts (r.getD 1 default),natsL (ix (famSizes f s) (r.getD 2 default))⟩
def famLinks (f : SF) (s : List Int) : List Lk:=(rowsOf f.shape s).map (lkOf f s)
noncomputable def solS (sizes : List Int) (ls : List Lk) : List (List Int):=exS sizes ls (List.replicate sizes.length (-1))
noncomputable def famS (f : SF) (s : List Int) : List (List Int):=solS (famSizes f s) (famLinks f s)
end Go.Shf
namespace Go.Shf
open Go.AW
def movedF (c : Cat) (V : List (List Int)) (a : Int) (t : List Int) : List Int:=(ix V (ix c.to a)).map fun b=>ix t (indexOf (ix V (ix c.frm a)) (ix (ix c.comp a) b))
noncomputable def famAt (f : SF) (V : List (List Int)) (x : Nat) : List (List Int):=famS f (V.getD x default)
noncomputable def famsOf (f : SF) (V : List (List Int)) : List (List (List Int)):=(List.range V.length).map (famAt f V)
noncomputable def sizeAt (f : SF) (V : List (List Int)) (x : Nat) : Int:=((famAt f V x).length : Int)
noncomputable def stepSizes (f : SF) (V : List (List Int)) : List Int:=(List.range V.length).map (sizeAt f V)
noncomputable def actAt (f : SF) (V : List (List Int)) (a : Nat) : List Int :=
 (famAt f V (f.shape.frm.getD a default).toNat).map fun t=>indexOf (famAt f V (f.shape.to.getD a default).toNat) (movedF f.shape V a t)
noncomputable def stepActs (f : SF) (V : List (List Int)) : List (List Int):=(List.range f.shape.frm.length).map (actAt f V)
end Go.Shf
namespace Go.Shf
open Go.AW
end Go.Shf
namespace Go.Shf
open Go.AW
end Go.Shf
namespace Go.Shf
open Go.AW
end Go.Shf
namespace Go.Shf
open Go.AW
structure Cat.Sh (N : Nat) (c : Cat) : Prop where
 ob : 0≤c.objs∧c.objs≤N
 il : (c.idn.length : Int)=c.objs
 ml : c.frm.length≤N
 tl : c.to.length=c.frm.length
 cl : c.comp.length=c.frm.length
 row : ∀ f : Nat,f<c.frm.length→(c.comp.getD f default).length=c.frm.length
theorem Cat.Sh.mono {N M : Nat} {c : Cat} (h : c.Sh N) (hm : N≤M) : c.Sh M:=⟨by have:=h.ob; omega,h.il,by have:=h.ml; omega,h.tl,h.cl,h.row⟩
structure Cat.Ty (c : Cat) : Prop where
 frm : ∀ f : Nat,f<c.frm.length→0≤c.frm.getD f default∧c.frm.getD f default<c.objs
 to : ∀ f : Nat,f<c.frm.length→0≤c.to.getD f default∧c.to.getD f default<c.objs
 idn : ∀ x : Nat,x<c.idn.length→(0≤c.idn.getD x default∧c.idn.getD x default<(c.frm.length : Int))∧ix c.frm (c.idn.getD x default)=x∧ix c.to (c.idn.getD x default)=x
 non : ∀ f g : Nat,f<c.frm.length→g<c.frm.length→c.to.getD f default≠c.frm.getD g default→(c.comp.getD f default).getD g default=-1
 yes : ∀ f g : Nat,f<c.frm.length→g<c.frm.length→c.to.getD f default=c.frm.getD g default →
  (0≤(c.comp.getD f default).getD g default∧(c.comp.getD f default).getD g default<(c.frm.length : Int)) ∧
  ix c.frm ((c.comp.getD f default).getD g default)=c.frm.getD f default∧ix c.to ((c.comp.getD f default).getD g default)=c.to.getD g default
theorem Cat.Ty.shape {N : Nat} {c : Cat} (t : c.Ty) (s : c.Sh N) (h8 : c.objs≤8) (h40 : c.frm.length≤40) : c.Shape where
 o:=⟨s.ob.1,h8⟩
 m:=h40
 frm y hy:=by obtain ⟨i,hi,rfl⟩:=mem_getD.mp hy; exact t.frm i hi
 tol:=s.tl
 to y hy:=by obtain ⟨i,hi,rfl⟩:=mem_getD.mp hy; exact t.to i (by rw [← s.tl]; exact hi)
 cl:=s.cl
 il:=s.il
 idn y hy:=by obtain ⟨i,hi,rfl⟩:=mem_getD.mp hy; exact (t.idn i hi).1
 ide x hx:=(t.idn x hx).2
 row:=s.row
 non:=t.non
 yes:=t.yes
def Cat.Good (N : Nat) (c : Cat) : Prop:=c.Sh N∧c.Ty
theorem Cat.Good.mono {N M : Nat} {c : Cat} (h : c.Good N) (hm : N≤M) : c.Good M:=⟨h.1.mono hm,h.2⟩
theorem Cat.Ty.of {c : Cat} (frm : ∀ f : Nat,f<c.frm.length→0≤c.frm.getD f default∧c.frm.getD f default<c.objs) (to : ∀ f : Nat,f<c.frm.length→0≤c.to.getD f default∧c.to.getD f default<c.objs)
  (idn : ∀ x : Nat,x<c.idn.length→(0≤c.idn.getD x default∧c.idn.getD x default<(c.frm.length : Int))∧ix c.frm (c.idn.getD x default)=x∧ix c.to (c.idn.getD x default)=x)
  (h : ∀ f : Nat,f<c.frm.length→∀ g : Nat,g<c.frm.length→if c.to.getD f default=c.frm.getD g default then
   (0≤(c.comp.getD f default).getD g default∧(c.comp.getD f default).getD g default<(c.frm.length : Int))∧ix c.frm ((c.comp.getD f default).getD g default)=c.frm.getD f default∧ix c.to ((c.comp.getD f default).getD g default)=c.to.getD g default
   else (c.comp.getD f default).getD g default=-1) : c.Ty :=
 ⟨frm,to,idn,fun f g hf hg e=>by have:=h f hf g hg; rwa [if_neg e] at this,fun f g hf hg e=>by have:=h f hf g hg; rwa [if_pos e] at this⟩
def tabC (m : Nat) (φ : Nat→Nat→Int) : List (List Int):=(List.range m).map fun f=>(List.range m).map (φ f)
theorem tabC_at {m : Nat} {φ : Nat→Nat→Int} {f g : Nat} (hf : f<m) (hg : g<m) : ((tabC m φ).getD f default).getD g default=φ f g:=by
 rw [tabC,getD_map_range _ _ hf,getD_map_range _ _ hg]
theorem tabC_len (m : Nat) (φ : Nat→Nat→Int) : (tabC m φ).length=m:=by simp [tabC]
theorem tabC_row {m : Nat} {φ : Nat→Nat→Int} {f : Nat} (hf : f<m) : ((tabC m φ).getD f default).length=m:=by
 rw [tabC,getD_map_range _ _ hf]; simp
theorem getD_l {α : Type} {a b : List α} {i : Nat} {d : α} (h : i<a.length) : (a++b).getD i d=a.getD i d:=by
 rw [List.getD_eq_getElem?_getD,List.getElem?_append_left h,← List.getD_eq_getElem?_getD]
theorem getD_r {α : Type} {a b : List α} {i : Nat} {d : α} (h : a.length≤i) : (a++b).getD i d=b.getD (i - a.length) d:=by
 rw [List.getD_eq_getElem?_getD,List.getElem?_append_right h,← List.getD_eq_getElem?_getD]
theorem Ty.mk' {c : Cat} {m : Nat} {φ : Nat→Nat→Int} (hm : c.frm.length=m) (hc : c.comp=tabC m φ)
  (frm : ∀ f : Nat,f<m→0≤c.frm.getD f default∧c.frm.getD f default<c.objs) (to : ∀ f : Nat,f<m→0≤c.to.getD f default∧c.to.getD f default<c.objs)
  (idn : ∀ x : Nat,x<c.idn.length→(0≤c.idn.getD x default∧c.idn.getD x default<(m : Int))∧ix c.frm (c.idn.getD x default)=x∧ix c.to (c.idn.getD x default)=x)
  (non : ∀ f g : Nat,f<m→g<m→c.to.getD f default≠c.frm.getD g default→φ f g=-1)
  (yes : ∀ f g : Nat,f<m→g<m→c.to.getD f default=c.frm.getD g default→(0≤φ f g∧φ f g<(m : Int))∧ix c.frm (φ f g)=c.frm.getD f default∧ix c.to (φ f g)=c.to.getD g default) : c.Ty:=by
 subst hm;refine ⟨frm,to,idn,fun f g hf hg e=>?_,fun f g hf hg e=>?_⟩
 ·rw [hc,tabC_at hf hg]; exact non f g hf hg e
 ·rw [hc,tabC_at hf hg]; exact yes f g hf hg e
def opC (c : Cat) : Cat:=⟨c.objs,c.to,c.frm,c.idn,tabC c.frm.length fun f g=>(c.comp.getD g default).getD f default⟩
theorem opC_good {N : Nat} {c : Cat} (h : c.Good N) : (opC c).Good N:=by
 obtain ⟨s,t⟩:=h
 have htl:=s.tl;refine ⟨⟨s.ob,s.il,by show c.to.length≤N; have:=s.ml; omega,by show c.frm.length=c.to.length; omega,by rw [show (opC c).comp=tabC _ _ from rfl,tabC_len]; exact htl.symm,fun f hf=>?_⟩, ?_⟩
 ·have hf2 : f<c.frm.length:=by have : f<c.to.length:=hf; omega
  rw [show (opC c).comp=tabC _ _ from rfl,tabC_row hf2]; exact htl.symm
 ·exact Ty.mk' (m:=c.frm.length) htl rfl t.to t.frm (fun x hx=>⟨(t.idn x hx).1,(t.idn x hx).2.2,(t.idn x hx).2.1⟩) (fun f g hf hg e=>t.non g f hg hf fun q=>e q.symm)
   (fun f g hf hg e=>by have:=t.yes g f hg hf e.symm; exact ⟨this.1,this.2.2,this.2.1⟩)
def monC (T : List (List Int)) : Cat:=⟨1,List.replicate T.length 0,List.replicate T.length 0,[0],T⟩
structure MonT (T : List (List Int)) : Prop where
 pos : 0<T.length
 l4 : T.length≤4
 row : ∀ i,i<T.length→(T.getD i default).length=T.length
 ran : ∀ i,i<T.length→∀ j,j<T.length→0≤(T.getD i default).getD j default∧(T.getD i default).getD j default<T.length
theorem rep0 {n : Nat} {i : Nat} : (List.replicate n (0 : Int)).getD i default=0:=by
 rw [List.getD_eq_getElem?_getD,List.getElem?_replicate]; split <;> rfl
theorem monC_good {T : List (List Int)} (h : MonT T) : (monC T).Good 4:=by
 have hl:=h.l4
 have hp:=h.pos
 have e0 : ∀ i : Nat,(monC T).frm.getD i default=0:=fun i=>rep0
 have e1 : ∀ i : Nat,(monC T).to.getD i default=0:=fun i=>rep0
 have em : (monC T).frm.length=T.length:=by simp [monC]
 refine ⟨⟨by simp [monC],by simp [monC],by rw [em]; exact hl,by simp [monC],em.symm,fun f hf=>by rw [em] at hf ⊢; exact h.row f hf⟩,⟨fun f hf=>?_,fun f hf=>?_,fun x hx=>?_,fun f g hf hg e=>?_,fun f g hf hg e=>?_⟩⟩
 ·rw [e0]; exact ⟨by omega,by show (0 : Int)<1; omega⟩
 ·rw [e1]; exact ⟨by omega,by show (0 : Int)<1; omega⟩
 ·have : x=0:=by simp [monC] at hx; exact hx
  subst this
  have : (monC T).idn.getD 0 default=0:=rfl;rw [this,em,ix,ix,e0,e1];exact ⟨⟨by omega,by omega⟩,rfl,rfl⟩
 ·rw [e0,e1] at e; exact absurd rfl e
 ·rw [em] at hf hg ⊢;rw [ix,ix,e0,e1,e0,e1];exact ⟨h.ran f hf g hg,rfl,rfl⟩
def relE (R : List (List Int)) (i j : Nat) : Int:=(R.getD i default).getD j default
def prJ (R : List (List Int)) (i : Nat) : Nat→List (Nat × Nat)
 | 0=>[]
 | j+1=>prJ R i j++if relE R i j=1 then [(i,j)] else []
def prI (R : List (List Int)) : Nat→List (Nat × Nat)
 | 0=>[]
 | i+1=>prI R i++prJ R i R.length
def numR (R : List (List Int)) (i j : Nat) : Nat:=(prI R i++prJ R i j).length
def fsts (P : List (Nat × Nat)) : List Int:=P.map fun p=>(p.1 : Int)
def snds (P : List (Nat × Nat)) : List Int:=P.map fun p=>(p.2 : Int)
section
variable {R : List (List Int)}
theorem prJ_pre {i : Nat} : ∀ {j n : Nat},j≤n→prJ R i j <+: prJ R i n
 | j,0,h=>by
  obtain rfl : j=0:=by omega
  exact List.prefix_refl _
 | j,n+1,h=>by
  by_cases e : j=n+1
  ·subst e; exact List.prefix_refl _
  ·exact (prJ_pre (by omega)).trans (List.prefix_append _ _)
theorem prI_pre : ∀ {i n : Nat},i≤n→prI R i <+: prI R n
 | i,0,h=>by
  obtain rfl : i=0:=by omega
  exact List.prefix_refl _
 | i,n+1,h=>by
  by_cases e : i=n+1
  ·subst e; exact List.prefix_refl _
  ·exact (prI_pre (by omega)).trans (List.prefix_append _ _)
theorem mem_prJ {i a b : Nat} : ∀ {n : Nat},(a,b)∈prJ R i n↔a=i∧b<n∧relE R i b=1
 | 0=>by simp [prJ]
 | n+1=>by
  rw [prJ,List.mem_append,mem_prJ (n:=n)]
  constructor
  ·rintro (⟨h1,h2,h3⟩ | h)
   ·exact ⟨h1,by omega,h3⟩
   ·split at h
    ·rename_i hr
     simp only [List.mem_singleton,Prod.mk.injEq] at h
     obtain ⟨rfl,rfl⟩:=h;exact ⟨rfl,by omega,hr⟩
    ·cases h
  ·rintro ⟨rfl,h2,h3⟩
   by_cases e : b=n
   ·subst e; right; rw [if_pos h3]; exact List.mem_singleton_self _
   ·exact .inl ⟨rfl,by omega,h3⟩
theorem mem_prI {a b : Nat} : ∀ {n : Nat},(a,b)∈prI R n↔a<n∧b<R.length∧relE R a b=1
 | 0=>by simp [prI]
 | n+1=>by
  rw [prI,List.mem_append,mem_prI (n:=n),mem_prJ]
  constructor
  ·rintro (⟨h1,h2,h3⟩ | ⟨rfl,h2,h3⟩)
   ·exact ⟨by omega,h2,h3⟩
   ·exact ⟨by omega,h2,h3⟩
  ·rintro ⟨h1,h2,h3⟩
   by_cases e : a=n
   ·subst e; exact .inr ⟨rfl,h2,h3⟩
   ·exact .inl ⟨by omega,h2,h3⟩
theorem prJ_len (i : Nat) : ∀ n,(prJ R i n).length≤n
 | 0=>by simp [prJ]
 | n+1=>by
  rw [prJ,List.length_append]
  have:=prJ_len i n
  split <;> simp <;> omega
theorem prI_len : ∀ n,(prI R n).length≤n*R.length
 | 0=>by simp [prI]
 | n+1=>by
  rw [prI,List.length_append,Nat.succ_mul]
  have:=prI_len n
  have:=prJ_len (R:=R) n R.length;omega
theorem numR_at {i j : Nat} (hi : i<R.length) (hj : j<R.length) (h : relE R i j=1) : numR R i j<(prI R R.length).length∧(prI R R.length).getD (numR R i j) default=(i,j):=by
 have h1 : (prI R i++prJ R i j)++[(i,j)] <+: prI R R.length:=by
  refine List.IsPrefix.trans ?_ (prI_pre (show i+1≤R.length by omega));rw [prI,List.append_assoc];refine (List.prefix_append_right_inj _).mpr ?_
  have:=prJ_pre (R:=R) (i:=i) (show j+1≤R.length by omega);rw [prJ,if_pos h] at this;exact this
 obtain ⟨r,hr⟩:=h1
 have hl : numR R i j<(prI R i++prJ R i j++[(i,j)]).length:=by simp [numR]
 rw [← hr];refine ⟨by rw [List.length_append]; omega, ?_⟩;rw [getD_l hl,getD_r (by simp [numR])]
 simp [numR]
end
structure PoR (R : List (List Int)) : Prop where
 l4 : R.length≤4
 row : ∀ i,i<R.length→(R.getD i default).length=R.length
 refl : ∀ i,i<R.length→relE R i i=1
 trans : ∀ i j k,i<R.length→j<R.length→k<R.length→relE R i j=1→relE R j k=1→relE R i k=1
theorem PoR.of {R : List (List Int)} (l4 : R.length≤4) (row : ∀ i,i<R.length→(R.getD i default).length=R.length) (refl : ∀ i,i<R.length→relE R i i=1)
  (tr : ∀ i,i<R.length→∀ j,j<R.length→∀ k,k<R.length→relE R i j=1→relE R j k=1→relE R i k=1) : PoR R:=⟨l4,row,refl,fun i j k hi hj hk=>tr i hi j hj k hk⟩
def orT (R : List (List Int)) (f g : Nat) : Int :=
 if (snds (prI R R.length)).getD f default=(fsts (prI R R.length)).getD g default then (numR R ((fsts (prI R R.length)).getD f default).toNat ((snds (prI R R.length)).getD g default).toNat : Int) else -1
def orC (R : List (List Int)) : Cat:=⟨R.length,fsts (prI R R.length),snds (prI R R.length),(List.range R.length).map fun i=>(numR R i i : Int),tabC (prI R R.length).length (orT R)⟩
theorem orC_good {R : List (List Int)} (h : PoR R) : (orC R).Good 16:=by
 have hl:=h.l4
 have hm : (prI R R.length).length≤16:=Nat.le_trans (prI_len _) (Nat.mul_le_mul hl hl)
 have e0 : (orC R).frm.length=(prI R R.length).length:=by simp [orC,fsts]
 have at1 : ∀ f,f<(prI R R.length).length→∃ i j,i<R.length∧j<R.length∧relE R i j=1∧(prI R R.length).getD f default=(i,j):=fun f hf=>by
  obtain ⟨i,j,e⟩ : ∃ i j,(prI R R.length).getD f default=(i,j):=⟨_,_,rfl⟩
  have:=mem_prI.mp (e ▸ (mem_getD.mpr ⟨f,hf,rfl⟩ : (prI R R.length).getD f default∈prI R R.length));exact ⟨i,j,this.1,this.2.1,this.2.2,e⟩
 have fe : ∀ f,f<(prI R R.length).length→(fsts (prI R R.length)).getD f default=(((prI R R.length).getD f default).1 : Int):=fun f hf=>map_getD _ hf
 have se : ∀ f,f<(prI R R.length).length→(snds (prI R R.length)).getD f default=(((prI R R.length).getD f default).2 : Int):=fun f hf=>map_getD _ hf;refine ⟨⟨by simp [orC]; omega,by simp [orC],by omega,by simp [orC,fsts,snds],by rw [e0]; exact tabC_len _ _,fun f hf=>by rw [e0] at hf ⊢; exact tabC_row hf⟩,Ty.mk' (m:=(prI R R.length).length) e0 rfl (fun f hf=>?_) (fun f hf=>?_) (fun x hx=>?_) (fun f g hf hg e=>?_) (fun f g hf hg e=>?_)⟩
 ·obtain ⟨i,j,hi,hj,_,e⟩:=at1 f hf
  show 0≤(fsts (prI R R.length)).getD f default∧(fsts (prI R R.length)).getD f default<(R.length : Int)
  rw [fe f hf,e]; simp only; omega
 ·obtain ⟨i,j,hi,hj,_,e⟩:=at1 f hf
  show 0≤(snds (prI R R.length)).getD f default∧(snds (prI R R.length)).getD f default<(R.length : Int)
  rw [se f hf,e]; simp only; omega
 ·have hx2 : x<R.length:=by simpa [orC] using hx
  have e1 : (orC R).idn.getD x default=(numR R x x : Int):=getD_map_range _ _ hx2
  obtain ⟨n1,n2⟩:=numR_at hx2 hx2 (h.refl x hx2);rw [e1];refine ⟨by omega, ?_, ?_⟩
  ·show ix (fsts (prI R R.length)) _=_
   rw [ix_nat,fe _ n1,n2]
  ·show ix (snds (prI R R.length)) _=_
   rw [ix_nat,se _ n1,n2]
 ·exact if_neg e
 ·obtain ⟨i,j,hi,hj,r1,e1⟩:=at1 f hf
  obtain ⟨j',k,hj',hk,r2,e2⟩:=at1 g hg
  have ef : (fsts (prI R R.length)).getD f default=(i : Int):=by rw [fe f hf,e1]
  have sf : (snds (prI R R.length)).getD f default=(j : Int):=by rw [se f hf,e1]
  have eg : (fsts (prI R R.length)).getD g default=(j' : Int):=by rw [fe g hg,e2]
  have sg : (snds (prI R R.length)).getD g default=(k : Int):=by rw [se g hg,e2]
  have ej : j=j':=by
   have : (snds (prI R R.length)).getD f default=(fsts (prI R R.length)).getD g default:=e;rw [sf,eg] at this; omega
  subst ej
  have r3:=h.trans i j k hi hj hk r1 r2
  obtain ⟨n1,n2⟩:=numR_at hi hk r3
  have ep : orT R f g=(numR R i k : Int):=by
   refine (if_pos e).trans ?_;rw [ef,sg]; simp
  rw [ep];refine ⟨by omega, ?_, ?_⟩
  ·show ix (fsts (prI R R.length)) _=(fsts (prI R R.length)).getD f default
   rw [ix_nat,fe _ n1,n2,ef]
  ·show ix (snds (prI R R.length)) _=(snds (prI R R.length)).getD g default
   rw [ix_nat,se _ n1,n2,sg]
end Go.Shf
namespace Go.Shf
open Go.AW
def shI (n : Int) (l : List Int) : List Int:=l.map fun y=>y+n
theorem shI_len (n : Int) (l : List Int) : (shI n l).length=l.length:=List.length_map _
theorem shI_at {n : Int} {l : List Int} {i : Nat} (h : i<l.length) : (shI n l).getD i default=l.getD i default+n:=map_getD _ h
def compE (c : Cat) (f g : Nat) : Int:=(c.comp.getD f default).getD g default
def sumP (c e : Cat) (f g : Nat) : Int :=
 if f<c.frm.length then (if g<c.frm.length then compE c f g else -1)
 else if g<c.frm.length then -1 else if 0≤compE e (f - c.frm.length) (g - c.frm.length) then compE e (f - c.frm.length) (g - c.frm.length)+c.frm.length else compE e (f - c.frm.length) (g - c.frm.length)
def sumC (c e : Cat) : Cat:=⟨c.objs+e.objs,c.frm++shI c.objs e.frm,c.to++shI c.objs e.to,c.idn++shI c.frm.length e.idn,tabC (c.frm.length+e.frm.length) (sumP c e)⟩
section
variable {c e : Cat} {N M : Nat}
theorem sumC_fl : (sumC c e).frm.length=c.frm.length+e.frm.length:=by simp [sumC,shI]
theorem sum_frm1 {f : Nat} (h : f<c.frm.length) : (sumC c e).frm.getD f default=c.frm.getD f default:=getD_l h
theorem sum_frm2 {f : Nat} (h : c.frm.length≤f) (h2 : f - c.frm.length<e.frm.length) : (sumC c e).frm.getD f default=e.frm.getD (f - c.frm.length) default+c.objs:=(getD_r h).trans (shI_at h2)
theorem sum_to1 (s : c.Sh N) {f : Nat} (h : f<c.frm.length) : (sumC c e).to.getD f default=c.to.getD f default:=getD_l (by rw [s.tl]; exact h)
theorem sum_to2 (s : c.Sh N) (s2 : e.Sh M) {f : Nat} (h : c.frm.length≤f) (h2 : f - c.frm.length<e.frm.length) : (sumC c e).to.getD f default=e.to.getD (f - c.frm.length) default+c.objs :=
 (getD_r (by rw [s.tl]; exact h)).trans (by rw [s.tl]; exact shI_at (by rw [s2.tl]; exact h2))
theorem sumC_good (hc : c.Good N) (he : e.Good M) : (sumC c e).Good (N+M):=by
 obtain ⟨s,t⟩:=hc
 obtain ⟨s2,t2⟩:=he
 have cob:=s.ob
 have eob:=s2.ob
 have cml:=s.ml
 have eml:=s2.ml
 have cil:=s.il
 have eil:=s2.il
 have ctl:=s.tl
 have etl:=s2.tl
 have sub : ∀ {f : Nat},¬ f<c.frm.length→f<c.frm.length+e.frm.length→f - c.frm.length<e.frm.length:=fun h1 h2=>by omega
 have ixf : ∀ {h : Int} {g : Nat},0≤h→h<(e.frm.length : Int)→(h+c.frm.length).toNat=h.toNat+c.frm.length:=fun h1 h2=>by omega
 refine ⟨⟨by simp only [sumC]; omega,by simp [sumC,shI]; omega,by rw [sumC_fl]; omega,by simp [sumC,shI]; omega,by rw [sumC_fl]; exact tabC_len _ _,fun f hf=>by rw [sumC_fl] at hf ⊢; exact tabC_row hf⟩,
  Ty.mk' (m:=c.frm.length+e.frm.length) sumC_fl rfl (fun f hf=>?_) (fun f hf=>?_) (fun x hx=>?_) (fun f g hf hg en=>?_) (fun f g hf hg en=>?_)⟩
 ·by_cases h : f<c.frm.length
  ·rw [sum_frm1 h]; have:=t.frm f h; simp only [sumC]; omega
  ·rw [sum_frm2 (by omega) (sub h hf)]; have:=t2.frm _ (sub h hf); simp only [sumC]; omega
 ·by_cases h : f<c.frm.length
  ·rw [sum_to1 s h]; have:=t.to f h; simp only [sumC]; omega
  ·rw [sum_to2 s s2 (by omega) (sub h hf)]; have:=t2.to _ (sub h hf); simp only [sumC]; omega
 ·have hx2 : x<c.idn.length+e.idn.length:=by simpa [sumC,shI] using hx
  by_cases h : x<c.idn.length
  ·have e1 : (sumC c e).idn.getD x default=c.idn.getD x default:=getD_l h
   have h1:=t.idn x h;rw [e1];refine ⟨by omega, ?_, ?_⟩
   ·rw [ix,sum_frm1 (by omega)]; exact h1.2.1
   ·rw [ix,sum_to1 s (by omega)]; exact h1.2.2
  ·have hx3 : x - c.idn.length<e.idn.length:=by omega
   have e1 : (sumC c e).idn.getD x default=e.idn.getD (x - c.idn.length) default+c.frm.length:=(getD_r (by omega)).trans (shI_at hx3)
   have h1:=t2.idn _ hx3;rw [e1]
   have en : (e.idn.getD (x - c.idn.length) default+c.frm.length).toNat - c.frm.length=(e.idn.getD (x - c.idn.length) default).toNat:=by omega
   refine ⟨by omega, ?_, ?_⟩
   ·rw [ix,sum_frm2 (by omega) (by omega),en,show e.frm.getD (e.idn.getD (x - c.idn.length) default).toNat default=_ from h1.2.1]; omega
   ·rw [ix,sum_to2 s s2 (by omega) (by omega),en,show e.to.getD (e.idn.getD (x - c.idn.length) default).toNat default=_ from h1.2.2]; omega
 ·by_cases h : f<c.frm.length
  ·by_cases h2 : g<c.frm.length
   ·rw [sumP,if_pos h,if_pos h2];exact t.non f g h h2 (by rwa [sum_frm1 h2,sum_to1 s h] at en)
   ·rw [sumP,if_pos h,if_neg h2]
  ·by_cases h2 : g<c.frm.length
   ·rw [sumP,if_neg h,if_pos h2]
   ·rw [sumP,if_neg h,if_neg h2]
    have:=t2.non _ _ (sub h hf) (sub h2 hg) (fun q=>en (by rw [sum_frm2 (by omega) (sub h2 hg),sum_to2 s s2 (by omega) (sub h hf),q]));rw [compE,this,if_neg (by omega)]
 ·by_cases h : f<c.frm.length
  ·have tf:=t.to f h
   by_cases h2 : g<c.frm.length
   ·rw [sumP,if_pos h,if_pos h2]
    have y:=t.yes f g h h2 (by rwa [sum_frm1 h2,sum_to1 s h] at en)
    have y1:=y.1;refine ⟨by rw [compE]; omega, ?_, ?_⟩
    ·rw [ix,compE,sum_frm1 (by omega),sum_frm1 h]; exact y.2.1
    ·rw [ix,compE,sum_to1 s (by omega),sum_to1 s h2]; exact y.2.2
   ·have fg:=t2.frm _ (sub h2 hg);rw [sum_frm2 (by omega) (sub h2 hg),sum_to1 s h] at en; omega
  ·have tf:=t2.to _ (sub h hf)
   by_cases h2 : g<c.frm.length
   ·have fg:=t.frm _ h2;rw [sum_to2 s s2 (by omega) (sub h hf),sum_frm1 h2] at en; omega
   ·rw [sum_to2 s s2 (by omega) (sub h hf),sum_frm2 (by omega) (sub h2 hg)] at en
    have y:=t2.yes _ _ (sub h hf) (sub h2 hg) (by omega)
    have y1:=y.1
    have ev : sumP c e f g=compE e (f - c.frm.length) (g - c.frm.length)+c.frm.length:=by
     rw [sumP,if_neg h,if_neg h2,if_pos (by rw [compE]; omega)]
    rw [ev]
    have en2 : (compE e (f - c.frm.length) (g - c.frm.length)+c.frm.length).toNat - c.frm.length=(compE e (f - c.frm.length) (g - c.frm.length)).toNat:=by rw [compE]; omega
    have b1 : c.frm.length≤(compE e (f - c.frm.length) (g - c.frm.length)+c.frm.length).toNat:=by rw [compE]; omega
    have b2 : (compE e (f - c.frm.length) (g - c.frm.length)).toNat<e.frm.length:=by rw [compE]; omega
    refine ⟨by rw [compE]; omega, ?_, ?_⟩
    ·rw [ix,sum_frm2 b1 (by omega),en2,sum_frm2 (by omega) (sub h hf)]
     have:=y.2.1; rw [ix] at this; rw [compE,this]
    ·rw [ix,sum_to2 s s2 b1 (by omega),en2,sum_to2 s s2 (by omega) (sub h2 hg)]
     have:=y.2.2; rw [ix] at this; rw [compE,this]
end
theorem div_mk {k m j : Nat} (h : j<m) : (k*m+j) / m=k∧(k*m+j) % m=j:=by
 have hm : 0<m:=by omega
 constructor
 ·rw [Nat.mul_comm,Nat.mul_add_div hm,Nat.div_eq_of_lt h]; omega
 ·rw [Nat.mul_comm,Nat.mul_add_mod,Nat.mod_eq_of_lt h]
theorem div_in {i n m : Nat} (h : i<n*m) : i / m<n∧i % m<m∧i=i / m*m+i % m:=by
 have hm : 0<m:=by
  rcases Nat.eq_zero_or_pos m with e | e
  ·subst e; omega
  ·exact e
 refine ⟨Nat.div_lt_of_lt_mul (by rw [Nat.mul_comm]; exact h),Nat.mod_lt _ hm, ?_⟩
 have:=Nat.div_add_mod i m;rw [Nat.mul_comm] at this; omega
theorem mk_lt {k m j n : Nat} (hk : k<n) (hj : j<m) : k*m+j<n*m:=by
 have : (k+1)*m≤n*m:=Nat.mul_le_mul_right m hk;rw [Nat.succ_mul] at this; omega
def crF (n m : Nat) : List Int:=(List.range (n*m)).map fun i=>((i / m : Nat) : Int)
def crT (n m : Nat) : List Int:=(List.range (n*m)).map fun i=>((n+i % m : Nat) : Int)
def jnF (c e : Cat) : List Int:=(sumC c e).frm++crF c.objs.toNat e.objs.toNat
def joinT (c e : Cat) : List Int:=(sumC c e).to++crT c.objs.toNat e.objs.toNat
def joinP (c e : Cat) (f g : Nat) : Int :=
 if (joinT c e).getD f default≠(jnF c e).getD g default then -1
 else if f<(sumC c e).frm.length∧g<(sumC c e).frm.length then compE (sumC c e) f g
 else ((sumC c e).frm.length : Int)+(jnF c e).getD f default*e.objs+(joinT c e).getD g default - c.objs
def joinC (c e : Cat) : Cat:=⟨c.objs+e.objs,jnF c e,joinT c e,(sumC c e).idn,tabC ((sumC c e).frm.length+c.objs.toNat*e.objs.toNat) (joinP c e)⟩
section
variable {c e : Cat} {N M : Nat}
theorem joinC_good (hc : c.Good N) (he : e.Good M) : (joinC c e).Good (N+M+N*M):=by
 have hg:=sumC_good hc he
 obtain ⟨s,t⟩:=hc
 obtain ⟨s2,t2⟩:=he
 obtain ⟨qs,qt⟩:=hg
 have cob:=s.ob
 have eob:=s2.ob
 obtain ⟨n,hn⟩ : ∃ n : Nat,c.objs=n:=⟨_,(Int.toNat_of_nonneg cob.1).symm⟩
 obtain ⟨k,hk⟩ : ∃ k : Nat,e.objs=k:=⟨_,(Int.toNat_of_nonneg eob.1).symm⟩
 obtain ⟨m,hm⟩ : ∃ m : Nat,(sumC c e).frm.length=m:=⟨_,rfl⟩
 have hmm:=sumC_fl (c:=c) (e:=e)
 have htl:=qs.tl
 have hml:=qs.ml
 have qo : (sumC c e).objs=c.objs+e.objs:=rfl;rw [hm] at htl hmm hml
 have hnk : n*k≤N*M:=Nat.mul_le_mul (by omega) (by omega)
 have hF1 : ∀ f,f<m→(jnF c e).getD f default=(sumC c e).frm.getD f default:=fun f hf=>getD_l (by omega)
 have hT1 : ∀ f,f<m→(joinT c e).getD f default=(sumC c e).to.getD f default:=fun f hf=>getD_l (by omega)
 have hF2 : ∀ x y,x<n→y<k→(jnF c e).getD (m+(x*k+y)) default=(x : Int):=fun x y hx hy=>by
  rw [jnF,getD_r (by omega),hm,hn,hk,Int.toNat_natCast,Int.toNat_natCast,show m+(x*k+y) - m=x*k+y by omega,crF,getD_map_range _ _ (mk_lt hx hy),(div_mk hy).1]
 have hT2 : ∀ x y,x<n→y<k→(joinT c e).getD (m+(x*k+y)) default=(n : Int)+y:=fun x y hx hy=>by
  rw [joinT,getD_r (by omega),htl,hn,hk,Int.toNat_natCast,Int.toNat_natCast,show m+(x*k+y) - m=x*k+y by omega,crT,getD_map_range _ _ (mk_lt hx hy),(div_mk hy).2]; simp
 have hcr : ∀ f,m≤f→f<m+n*k→∃ x y,x<n∧y<k∧f=m+(x*k+y):=fun f h1 h2=>by
  obtain ⟨a,b,d⟩:=div_in (i:=f - m) (n:=n) (m:=k) (by omega);exact ⟨_,_,a,b,by omega⟩
 have hl1 : (jnF c e).length=m+n*k:=by simp [jnF,crF,hm,hn,hk]
 have hl2 : (joinT c e).length=m+n*k:=by simp [joinT,crT,htl,hn,hk]
 have side : ∀ f,f<m→((0≤(sumC c e).frm.getD f default∧(sumC c e).frm.getD f default<n)∧0≤(sumC c e).to.getD f default∧(sumC c e).to.getD f default<n) ∨
   ((n≤(sumC c e).frm.getD f default∧(sumC c e).frm.getD f default<n+k)∧n≤(sumC c e).to.getD f default∧(sumC c e).to.getD f default<n+k):=fun f hf=>by
  by_cases h : f<c.frm.length
  ·left; rw [sum_frm1 h,sum_to1 s h]; have:=t.frm f h; have:=t.to f h; omega
  ·right
   have h2 : f - c.frm.length<e.frm.length:=by omega
   rw [sum_frm2 (by omega) h2,sum_to2 s s2 (by omega) h2]
   have:=t2.frm _ h2; have:=t2.to _ h2; omega
 refine ⟨⟨by simp only [joinC]; have : ((N+M+N*M : Nat) : Int)=N+M+(N*M : Nat):=(by simp); omega,qs.il,by show (jnF c e).length≤_; omega,by show (joinT c e).length=(jnF c e).length; omega, ?_,fun f hf=>?_⟩, ?_⟩
 ·show (tabC _ _).length=(jnF c e).length
  rw [tabC_len,hm,hn,hk,hl1]; rfl
 ·have hf2 : f<m+n*k:=by rw [← hl1]; exact hf
  show ((tabC _ _).getD f default).length=(jnF c e).length
  rw [tabC_row (by rw [hm,hn,hk]; exact hf2),hm,hn,hk,hl1]; rfl
 have hfl : (joinC c e).frm.length=(sumC c e).frm.length+c.objs.toNat*e.objs.toNat:=by
  show (jnF c e).length=_
  rw [hl1,hm,hn,hk]; rfl
 refine Ty.mk' (m:=(sumC c e).frm.length+c.objs.toNat*e.objs.toNat) hfl rfl (fun f hf=>?_) (fun f hf=>?_) (fun x hx=>?_) (fun f g hf hg en=>?_) (fun f g hf hg en=>?_)
 ·rw [hm,hn,hk,Int.toNat_natCast,Int.toNat_natCast] at hf
  show 0≤(jnF c e).getD f default∧(jnF c e).getD f default<c.objs+e.objs
  by_cases h : f<m
  ·rw [hF1 f h]; rcases side f h with h1 | h1 <;> omega
  ·obtain ⟨x,y,hx,hy,rfl⟩:=hcr f (by omega) hf;rw [hF2 x y hx hy]; omega
 ·rw [hm,hn,hk,Int.toNat_natCast,Int.toNat_natCast] at hf
  show 0≤(joinT c e).getD f default∧(joinT c e).getD f default<c.objs+e.objs
  by_cases h : f<m
  ·rw [hT1 f h]; rcases side f h with h1 | h1 <;> omega
  ·obtain ⟨x,y,hx,hy,rfl⟩:=hcr f (by omega) hf;rw [hT2 x y hx hy]; omega
 ·have h1:=qt.idn x hx;rw [hm,hn,hk,Int.toNat_natCast,Int.toNat_natCast];rw [hm] at h1;refine ⟨by have : (joinC c e).idn=(sumC c e).idn:=rfl; rw [this]; omega, ?_, ?_⟩
  ·show (jnF c e).getD _ default=_
   rw [show (joinC c e).idn=(sumC c e).idn from rfl,hF1 _ (by omega)]; exact h1.2.1
  ·show (joinT c e).getD _ default=_
   rw [show (joinC c e).idn=(sumC c e).idn from rfl,hT1 _ (by omega)]; exact h1.2.2
 ·exact if_pos en
 ·rw [hm,hn,hk,Int.toNat_natCast,Int.toNat_natCast] at hf hg ⊢
  have en2 : (joinT c e).getD f default=(jnF c e).getD g default:=en
  have hdef : joinP c e f g=if f<m∧g<m then compE (sumC c e) f g else (m : Int)+(jnF c e).getD f default*k+(joinT c e).getD g default - n:=by
   rw [joinP,if_neg (fun q=>q en2),hm,hn,hk]
  show (0≤joinP c e f g∧joinP c e f g<((m+n*k : Nat) : Int))∧(jnF c e).getD (joinP c e f g).toNat default=(jnF c e).getD f default∧(joinT c e).getD (joinP c e f g).toNat default=(joinT c e).getD g default
  by_cases hb : f<m∧g<m
  ·rw [hdef,if_pos hb]
   have y:=qt.yes f g (by omega) (by omega) (by rw [← hT1 f hb.1,← hF1 g hb.2]; exact en2)
   have y1:=y.1;rw [hm] at y1
   have hlt : (compE (sumC c e) f g).toNat<m:=by rw [compE]; omega
   refine ⟨by rw [compE]; omega, ?_, ?_⟩
   ·rw [hF1 _ hlt,hF1 f hb.1]; exact y.2.1
   ·rw [hT1 _ hlt,hT1 g hb.2]; exact y.2.2
  ·rw [hdef,if_neg hb]
   obtain ⟨x,y,hx,hy,ex,ey⟩ : ∃ x y,x<n∧y<k∧(jnF c e).getD f default=(x : Int)∧(joinT c e).getD g default=(n : Int)+y:=by
    by_cases h : f<m
    ·have h2 : ¬ g<m:=fun q=>hb ⟨h,q⟩
     obtain ⟨x,y,hx,hy,rfl⟩:=hcr g (by omega) hg;rw [hF2 x y hx hy,hT1 f h] at en2
     rcases side f h with h1 | h1
     ·exact ⟨((jnF c e).getD f default).toNat,y,by rw [hF1 f h]; omega,hy,by rw [hF1 f h]; omega,hT2 x y hx hy⟩
     ·omega
    ·obtain ⟨x,y,hx,hy,rfl⟩:=hcr f (by omega) hf;rw [hT2 x y hx hy] at en2
     by_cases h2 : g<m
     ·rw [hF1 g h2] at en2
      rcases side g h2 with h1 | h1
      ·omega
      ·exact ⟨x,((joinT c e).getD g default - n).toNat,hx,by rw [hT1 g h2]; omega,hF2 x y hx hy,by rw [hT1 g h2]; omega⟩
     ·obtain ⟨x',y',hx',hy',rfl⟩:=hcr g (by omega) hg;rw [hF2 x' y' hx' hy'] at en2; omega
   have ev : (m : Int)+(x : Int)*k+((n : Int)+y) - n=((m+(x*k+y) : Nat) : Int):=by
    simp only [Int.natCast_add,Int.natCast_mul]; omega
   have hlt:=mk_lt hx hy;rw [ex,ey,ev];refine ⟨by omega, ?_, ?_⟩
   ·rw [Int.toNat_natCast,hF2 x y hx hy]
   ·rw [Int.toNat_natCast,hT2 x y hx hy]
end
end Go.Shf
namespace Go.Shf
open Go.AW
theorem pair_inj {a b a' b' n : Int} (hb : 0≤b∧b<n) (hb' : 0≤b'∧b'<n) (h : a*n+b=a'*n+b') : a=a'∧b=b':=by
 have hn : n≠0:=by omega
 have e1 : (a*n+b) / n=a:=by rw [Int.add_comm,Int.add_mul_ediv_right _ _ hn,Int.ediv_eq_zero_of_lt hb.1 hb.2]; omega
 have e2 : (a'*n+b') / n=a':=by rw [Int.add_comm,Int.add_mul_ediv_right _ _ hn,Int.ediv_eq_zero_of_lt hb'.1 hb'.2]; omega
 have e : a=a':=by rw [← e1,h,e2]
 subst e;exact ⟨rfl,by omega⟩
theorem pair_lt {a b p n : Int} (ha : 0≤a∧a<p) (hb : 0≤b∧b<n) : 0≤a*n+b∧a*n+b<p*n∧(a*n+b).toNat=a.toNat*n.toNat+b.toNat:=by
 obtain ⟨x,rfl⟩:=Int.eq_ofNat_of_zero_le ha.1
 obtain ⟨y,rfl⟩:=Int.eq_ofNat_of_zero_le hb.1
 obtain ⟨m,rfl⟩:=Int.eq_ofNat_of_zero_le (show 0≤n by omega)
 obtain ⟨q,rfl⟩:=Int.eq_ofNat_of_zero_le (show 0≤p by omega)
 have:=mk_lt (k:=x) (j:=y) (n:=q) (m:=m) (by omega) (by omega);rw [Int.toNat_natCast,Int.toNat_natCast,Int.toNat_natCast,← Int.natCast_mul,← Int.natCast_mul];omega
def prL (a b : List Int) (n : Int) : List Int:=(List.range (a.length*b.length)).map fun i=>a.getD (i / b.length) default*n+b.getD (i % b.length) default
theorem prL_len (a b : List Int) (n : Int) : (prL a b n).length=a.length*b.length:=by simp [prL]
theorem prL_at {a b : List Int} {n : Int} {i j : Nat} (hi : i<a.length) (hj : j<b.length) : (prL a b n).getD (i*b.length+j) default=a.getD i default*n+b.getD j default:=by
 rw [prL,getD_map_range _ _ (mk_lt hi hj),(div_mk hj).1,(div_mk hj).2]
def prodP (c e : Cat) (f g : Nat) : Int :=
 if 0≤compE c (f / e.frm.length) (g / e.frm.length)∧0≤compE e (f % e.frm.length) (g % e.frm.length) then
  compE c (f / e.frm.length) (g / e.frm.length)*e.frm.length+compE e (f % e.frm.length) (g % e.frm.length) else -1
def prodC (c e : Cat) : Cat:=⟨c.objs*e.objs,prL c.frm e.frm e.objs,prL c.to e.to e.objs,prL c.idn e.idn e.frm.length,tabC (c.frm.length*e.frm.length) (prodP c e)⟩
section
variable {c e : Cat} {N M : Nat}
theorem Cat.Ty.comp_pos {c : Cat} (t : c.Ty) {f g : Nat} (hf : f<c.frm.length) (hg : g<c.frm.length) : 0≤compE c f g↔c.to.getD f default=c.frm.getD g default:=by
 constructor
 ·intro h;apply Classical.byContradiction
  intro n
  have:=t.non f g hf hg n;rw [compE] at h; omega
 ·intro h; exact (t.yes f g hf hg h).1.1
theorem prodC_good (hc : c.Good N) (he : e.Good M) : (prodC c e).Good (N*M):=by
 obtain ⟨s,t⟩:=hc
 obtain ⟨s2,t2⟩:=he
 have cob:=s.ob
 have eob:=s2.ob
 have ctl:=s.tl
 have etl:=s2.tl
 have cil:=s.il
 have eil:=s2.il
 have hfl : (prodC c e).frm.length=c.frm.length*e.frm.length:=prL_len _ _ _
 have htl : (prodC c e).to.length=c.frm.length*e.frm.length:=by rw [show (prodC c e).to=prL c.to e.to e.objs from rfl,prL_len,ctl,etl]
 have hil : (prodC c e).idn.length=c.idn.length*e.idn.length:=prL_len _ _ _
 have hF : ∀ i j,i<c.frm.length→j<e.frm.length→(prodC c e).frm.getD (i*e.frm.length+j) default=c.frm.getD i default*e.objs+e.frm.getD j default:=fun i j hi hj=>prL_at hi hj
 have hT : ∀ i j,i<c.frm.length→j<e.frm.length→(prodC c e).to.getD (i*e.frm.length+j) default=c.to.getD i default*e.objs+e.to.getD j default:=fun i j hi hj=>by
  have:=prL_at (a:=c.to) (b:=e.to) (n:=e.objs) (i:=i) (j:=j) (by omega) (by omega);rw [etl] at this; exact this
 have hml : c.frm.length*e.frm.length≤N*M:=Nat.mul_le_mul s.ml s2.ml
 have hob : 0≤c.objs*e.objs∧c.objs*e.objs≤((N*M : Nat) : Int):=by
  refine ⟨Int.mul_nonneg cob.1 eob.1, ?_⟩;rw [Int.natCast_mul];exact Int.mul_le_mul cob.2 eob.2 eob.1 (by omega)
 refine ⟨⟨hob, ?_,by rw [hfl]; exact hml,by rw [hfl,htl],by rw [hfl]; exact tabC_len _ _,fun f hf=>by rw [hfl] at hf ⊢; exact tabC_row hf⟩,
  Ty.mk' (m:=c.frm.length*e.frm.length) hfl rfl (fun f hf=>?_) (fun f hf=>?_) (fun x hx=>?_) (fun f g hf hg en=>?_) (fun f g hf hg en=>?_)⟩
 ·rw [hil,Int.natCast_mul,cil,eil]; rfl
 ·obtain ⟨h1,h2,h3⟩:=div_in hf;rw [h3,hF _ _ h1 h2]
  have:=pair_lt (t.frm _ h1) (t2.frm _ h2);exact ⟨this.1,this.2.1⟩
 ·obtain ⟨h1,h2,h3⟩:=div_in hf;rw [h3,hT _ _ h1 h2]
  have:=pair_lt (t.to _ h1) (t2.to _ h2);exact ⟨this.1,this.2.1⟩
 ·rw [hil] at hx
  obtain ⟨h1,h2,h3⟩:=div_in hx
  have a1:=t.idn _ h1
  have a2:=t2.idn _ h2
  have e1 : (prodC c e).idn.getD x default=c.idn.getD (x / e.idn.length) default*e.frm.length+e.idn.getD (x % e.idn.length) default:=by
   have:=prL_at (a:=c.idn) (b:=e.idn) (n:=e.frm.length) h1 h2;rw [← h3] at this; exact this
  have pl:=pair_lt a1.1 a2.1;rw [Int.toNat_natCast] at pl
  have ex : (x : Int)=((x / e.idn.length : Nat) : Int)*e.objs+((x % e.idn.length : Nat) : Int):=by
   rw [← eil,← Int.natCast_mul]; omega
  rw [e1];refine ⟨⟨pl.1,by rw [Int.natCast_mul]; exact pl.2.1⟩, ?_, ?_⟩
  ·rw [ix,pl.2.2,hF _ _ (by omega) (by omega)];rw [show c.frm.getD (c.idn.getD (x / e.idn.length) default).toNat default=_ from a1.2.1,show e.frm.getD (e.idn.getD (x % e.idn.length) default).toNat default=_ from a2.2.1];exact ex.symm
  ·rw [ix,pl.2.2,hT _ _ (by omega) (by omega)];rw [show c.to.getD (c.idn.getD (x / e.idn.length) default).toNat default=_ from a1.2.2,show e.to.getD (e.idn.getD (x % e.idn.length) default).toNat default=_ from a2.2.2];exact ex.symm
 ·obtain ⟨h1,h2,h3⟩:=div_in hf
  obtain ⟨g1,g2,g3⟩:=div_in hg;refine if_neg fun hp=>en ?_;rw [t.comp_pos h1 g1,t2.comp_pos h2 g2] at hp;rw [h3,g3,hT _ _ h1 h2,hF _ _ g1 g2,hp.1,hp.2]
 ·obtain ⟨h1,h2,h3⟩:=div_in hf
  obtain ⟨g1,g2,g3⟩:=div_in hg
  have en2 : c.to.getD (f / e.frm.length) default*e.objs+e.to.getD (f % e.frm.length) default=c.frm.getD (g / e.frm.length) default*e.objs+e.frm.getD (g % e.frm.length) default:=by
   rw [← hT _ _ h1 h2,← hF _ _ g1 g2,← h3,← g3]; exact en
  obtain ⟨q1,q2⟩:=pair_inj (t2.to _ h2) (t2.frm _ g2) en2
  have y1:=t.yes _ _ h1 g1 q1
  have y2:=t2.yes _ _ h2 g2 q2
  have ev : prodP c e f g=compE c (f / e.frm.length) (g / e.frm.length)*e.frm.length+compE e (f % e.frm.length) (g % e.frm.length):=if_pos ⟨y1.1.1,y2.1.1⟩
  have pl:=pair_lt y1.1 y2.1;rw [Int.toNat_natCast] at pl
  have b1 : (compE c (f / e.frm.length) (g / e.frm.length)).toNat<c.frm.length:=by have:=y1.1; rw [compE]; omega
  have b2 : (compE e (f % e.frm.length) (g % e.frm.length)).toNat<e.frm.length:=by have:=y2.1; rw [compE]; omega
  rw [ev];refine ⟨⟨pl.1,by rw [Int.natCast_mul]; exact pl.2.1⟩, ?_, ?_⟩
  ·rw [ix,show (compE c (f / e.frm.length) (g / e.frm.length)*(e.frm.length : Int)+compE e (f % e.frm.length) (g % e.frm.length)).toNat=_ from pl.2.2];refine (hF _ _ b1 b2).trans ?_
   have z1:=y1.2.1
   have z2:=y2.2.1;rw [ix] at z1 z2;rw [compE,compE,z1,z2,← hF _ _ h1 h2,← h3]
  ·rw [ix,show (compE c (f / e.frm.length) (g / e.frm.length)*(e.frm.length : Int)+compE e (f % e.frm.length) (g % e.frm.length)).toNat=_ from pl.2.2];refine (hT _ _ b1 b2).trans ?_
   have z1:=y1.2.2
   have z2:=y2.2.2;rw [ix] at z1 z2;rw [compE,compE,z1,z2,← hT _ _ g1 g2,← g3]
end
end Go.Shf
namespace Go.AW
structure Pt where
 frm : Int
 to : Int
 edges : List Int
 deriving Inhabited
end Go.AW
namespace Go.Shf
open Go.AW
structure Clo (n k : Nat) (r : Nat→Nat→Prop) : Prop where
 refl : ∀ a,a<n→r a a
 tr : ∀ m a b,m<k→a<n→b<n→r a m→r m b→r a b
theorem Clo.step {n k : Nat} {r : Nat→Nat→Prop} (h : Clo n k r) (hk : k<n) : Clo n (k+1) fun a b=>r a b∨r a k∧r k b:=by
 refine ⟨fun a ha=>.inl (h.refl a ha),fun m a b hm ha hb h1 h2=>?_⟩
 by_cases e : m=k
 ·subst e
  have x1 : r a m:=h1.elim id fun q=>q.1
  have x2 : r m b:=h2.elim id fun q=>q.2;exact .inr ⟨x1,x2⟩
 ·have hmk : m<k:=by omega
  rcases h1 with h1 | ⟨h1,h1'⟩ <;> rcases h2 with h2 | ⟨h2,h2'⟩
  ·exact .inl (h.tr m a b hmk ha hb h1 h2)
  ·exact .inr ⟨h.tr m a k hmk ha hk h1 h2,h2'⟩
  ·exact .inr ⟨h1,h.tr m k b hmk hk hb h1' h2⟩
  ·exact .inr ⟨h1,h2'⟩
def Wk (F T : List Int) (x : Int) : List Int→Int→Prop
 | [],y=>x=y
 | e::r,y=>((0≤e∧e.toNat<F.length)∧ix F e=x)∧Wk F T (ix T e) r y
section
variable {F T : List Int}
theorem Wk.app : ∀ {es : List Int} {x y z : Int} {r : List Int},Wk F T x es y→Wk F T y r z→Wk F T x (es++r) z
 | [],x,y,z,r,h,k=>by
  have : x=y:=h;subst this; exact k
 | e::es,x,y,z,r,h,k=>⟨h.1,Wk.app h.2 k⟩
theorem Wk.det : ∀ {es : List Int} {x y z : Int},Wk F T x es y→Wk F T x es z→y=z
 | [],x,y,z,h,k=>(show x=y from h).symm.trans k
 | e::es,x,y,z,h,k=>Wk.det h.2 k.2
theorem Wk.one {x : Int} {e : Nat} (he : e<F.length) (h : F.getD e default=x) : Wk F T x [(e : Int)] (T.getD e default) :=
 ⟨⟨⟨by omega,by omega⟩,by rw [ix_nat]; exact h⟩,by show ix T _=_; rw [ix_nat]⟩
structure Pths (n : Nat) (F T : List Int) (P : List Pt) : Prop where
 ok : ∀ p,p∈P→(0≤p.frm∧p.frm<n)∧(0≤p.to∧p.to<n)∧Wk F T p.frm p.edges p.to
 tr : ∀ x : Nat,x<n→(⟨x,x,[]⟩ : Pt)∈P
 cl : ∀ p,p∈P→∀ e,e<F.length→F.getD e default=p.to→(⟨p.frm,T.getD e default,p.edges++[(e : Int)]⟩ : Pt)∈P
variable {n : Nat} {P : List Pt}
theorem Pths.mem {Q : List Pt} (h : Pths n F T P) (hp : ∀ q,q∈Q↔q∈P) : Pths n F T Q :=
 ⟨fun p q=>h.ok p ((hp p).mp q),fun x hx=>(hp _).mpr (h.tr x hx),fun p q e he hf=>(hp _).mpr (h.cl p ((hp p).mp q) e he hf)⟩
theorem Pths.ext (h : Pths n F T P) : ∀ {es : List Int} {p : Pt} {z : Int},p∈P→Wk F T p.to es z→(⟨p.frm,z,p.edges++es⟩ : Pt)∈P
 | [],p,z,hp,w=>by
  have : p.to=z:=w;subst this; rw [List.append_nil]; exact hp
 | e::es,p,z,hp,w=>by
  have h1:=w.1
  have h2:=h.cl p hp e.toNat h1.1.2 h1.2
  have:=h.ext (p:=⟨p.frm,T.getD e.toNat default,p.edges++[(e.toNat : Int)]⟩) h2 (z:=z) (es:=es) w.2;rw [Int.toNat_of_nonneg h1.1.1] at this
  simpa using this
def PthE (P : List Pt) (f g : Nat) (h : Int) : Prop :=
 ((P.getD f default).to≠(P.getD g default).frm→h=-1)∧((P.getD f default).to=(P.getD g default).frm →
  (h=-1∧∀ k,k<P.length→¬ ((P.getD k default).frm=(P.getD f default).frm∧(P.getD k default).edges=(P.getD f default).edges++(P.getD g default).edges)) ∨
  ((0≤h∧h<(P.length : Int))∧(ix P h).frm=(P.getD f default).frm∧(ix P h).edges=(P.getD f default).edges++(P.getD g default).edges))
theorem Pths.good (h : Pths n F T P) (hn : n≤18) (hl : P.length≤18) {I : List Int} {D : List (List Int)} (hI : I.length=n)
  (hi : ∀ x : Nat,x<n→(0≤I.getD x default∧I.getD x default<(P.length : Int))∧(ix P (I.getD x default)).frm=x∧(ix P (I.getD x default)).edges=[])
  (hD : D.length=P.length) (hr : ∀ f,f<P.length→(D.getD f default).length=P.length) (he : ∀ f g,f<P.length→g<P.length→PthE P f g ((D.getD f default).getD g default)) :
  Cat.Good 18 ⟨n,P.map Pt.frm,P.map Pt.to,I,D⟩:=by
 have eF : ∀ f,f<P.length→(P.map Pt.frm).getD f default=(P.getD f default).frm:=fun f hf=>map_getD _ hf
 have eT : ∀ f,f<P.length→(P.map Pt.to).getD f default=(P.getD f default).to:=fun f hf=>map_getD _ hf
 have mem : ∀ f,f<P.length→P.getD f default∈P:=fun f hf=>mem_getD.mpr ⟨f,hf,rfl⟩
 have hfl : (P.map Pt.frm).length=P.length:=by simp
 refine ⟨⟨⟨by show (0 : Int)≤n; omega,by show (n : Int)≤((18 : Nat) : Int); omega⟩,by show (I.length : Int)=n; omega,by show (P.map Pt.frm).length≤18; omega,by simp,by simpa using hD,fun f hf=>?_⟩,⟨fun f hf=>?_,fun f hf=>?_,fun x hx=>?_,fun f g hf hg en=>?_,fun f g hf hg en=>?_⟩⟩
 ·have hf2 : f<P.length:=by simpa using hf
  show (D.getD f default).length=(P.map Pt.frm).length
  rw [hr f hf2,hfl]
 ·have hf2 : f<P.length:=by simpa using hf
  show 0≤(P.map Pt.frm).getD f default∧(P.map Pt.frm).getD f default<(n : Int)
  rw [eF f hf2]; exact (h.ok _ (mem f hf2)).1
 ·have hf2 : f<P.length:=by simpa using hf
  show 0≤(P.map Pt.to).getD f default∧(P.map Pt.to).getD f default<(n : Int)
  rw [eT f hf2]; exact (h.ok _ (mem f hf2)).2.1
 ·have hx2 : x<n:=by rw [← hI]; exact hx
  obtain ⟨h1,h2,h3⟩:=hi x hx2
  have hlt : (I.getD x default).toNat<P.length:=by omega
  have hok:=(h.ok _ (mem _ hlt)).2.2
  have e2 : (P.getD (I.getD x default).toNat default).frm=x:=h2
  have e3 : (P.getD (I.getD x default).toNat default).edges=[]:=h3;rw [e2,e3] at hok;refine ⟨⟨h1.1,by rw [hfl]; exact h1.2⟩, ?_, ?_⟩
  ·show (P.map Pt.frm).getD _ default=_
   rw [eF _ hlt]; exact h2
  ·show (P.map Pt.to).getD _ default=_
   rw [eT _ hlt]; exact (show (x : Int)=_ from hok).symm
 ·have hf2 : f<P.length:=by simpa using hf
  have hg2 : g<P.length:=by simpa using hg
  refine (he f g hf2 hg2).1 ?_;rw [← eT f hf2,← eF g hg2]; exact en
 ·have hf2 : f<P.length:=by simpa using hf
  have hg2 : g<P.length:=by simpa using hg
  have en2 : (P.getD f default).to=(P.getD g default).frm:=by rw [← eT f hf2,← eF g hg2]; exact en
  have wg:=(h.ok _ (mem g hg2)).2.2
  have hx:=h.ext (mem f hf2) (es:=(P.getD g default).edges) (z:=(P.getD g default).to) (by rw [en2]; exact wg)
  rcases (he f g hf2 hg2).2 en2 with ⟨_,hno⟩ | ⟨h1,h2,h3⟩
  ·obtain ⟨k,hk,ek⟩:=mem_getD.mp hx;exact absurd ⟨by rw [ek],by rw [ek]⟩ (hno k hk)
  ·have hlt : ((D.getD f default).getD g default).toNat<P.length:=by omega
   have hok:=(h.ok _ (mem _ hlt)).2.2
   have e2 : (P.getD ((D.getD f default).getD g default).toNat default).frm=(P.getD f default).frm:=h2
   have e3 : (P.getD ((D.getD f default).getD g default).toNat default).edges=(P.getD f default).edges++(P.getD g default).edges:=h3
   have wf:=(h.ok _ (mem f hf2)).2.2
   have wall:=wf.app (by rw [en2]; exact wg);rw [e2,e3] at hok;refine ⟨⟨h1.1,by show _<((P.map Pt.frm).length : Int); rw [hfl]; exact h1.2⟩, ?_, ?_⟩
   ·show (P.map Pt.frm).getD _ default=(P.map Pt.frm).getD f default
    rw [eF _ hlt,eF f hf2]; exact h2
   ·show (P.map Pt.to).getD _ default=(P.map Pt.to).getD g default
    rw [eT _ hlt,eT g hg2]; exact hok.det wall
end
end Go.Shf
namespace Go.Shf
open Go.AW
theorem Cat.Ty.bound {c : Cat} (t : c.Ty) {f g : Nat} (hf : f<c.frm.length) (hg : g<c.frm.length) : -1≤compE c f g∧compE c f g<c.frm.length:=by
 by_cases h : c.to.getD f default=c.frm.getD g default
 ·have:=(t.yes f g hf hg h).1; rw [compE]; omega
 ·have:=t.non f g hf hg h; rw [compE]; omega
theorem tabC_ext {As : List (List Int)} {m : Nat} {φ : Nat→Nat→Int} (hl : As.length=m) (hr : ∀ f,f<m→As.getD f default=(List.range m).map (φ f)) : As=tabC m φ:=by
 refine List.ext_getElem (by rw [hl,tabC_len]) fun i h1 h2=>?_
 have:=hr i (by omega);rw [List.getD_eq_getElem?_getD,List.getElem?_eq_getElem h1] at this
 simpa [tabC] using this
section
variable {c e : Cat}
theorem sum_row1 {f : Nat} (hf : f<c.frm.length) (hr : (c.comp.getD f default).length=c.frm.length) :
  c.comp.getD f default++List.replicate e.frm.length (-1)=(List.range (c.frm.length+e.frm.length)).map (sumP c e f):=by
 refine List.ext_getElem (by rw [List.length_append,hr]; simp) fun i h1 h2=>?_;simp only [List.getElem_map,List.getElem_range]
 by_cases h : i<c.frm.length
 ·rw [List.getElem_append_left (by omega),sumP,if_pos hf,if_pos h,compE,List.getD_eq_getElem?_getD (l:=c.comp.getD f default),List.getElem?_eq_getElem (by omega)]; rfl
 ·rw [List.getElem_append_right (by omega),List.getElem_replicate,sumP,if_pos hf,if_neg h]
def psiS (c e : Cat) (x g : Nat) : Int:=if 0≤compE e x g then compE e x g+c.frm.length else compE e x g
theorem sum_row2 (x : Nat) : List.replicate c.frm.length (-1)++(List.range e.frm.length).map (psiS c e x)=(List.range (c.frm.length+e.frm.length)).map (sumP c e (c.frm.length+x)):=by
 refine List.ext_getElem (by simp) fun i h1 h2=>?_;simp only [List.getElem_map,List.getElem_range]
 by_cases h : i<c.frm.length
 ·rw [List.getElem_append_left (by simpa using h),List.getElem_replicate,sumP,if_neg (by omega),if_pos h]
 ·rw [List.getElem_append_right (by simpa using h),sumP,if_neg (by omega),if_neg h];simp only [List.getElem_map,List.getElem_range,List.length_replicate,psiS];rw [show c.frm.length+x - c.frm.length=x by omega]
theorem shI_take {n : Int} {l : List Int} {k : Nat} (hk : k<l.length) : shI n (l.take k)++[l.getD k default+n]=shI n (l.take (k+1)):=by
 rw [take_succ' _ hk,shI,shI,List.map_append]; rfl
theorem sum_comp {As : List (List Int)} (hl : As.length=c.frm.length+e.frm.length) (hr : ∀ f : Nat,f<c.frm.length→(c.comp.getD f default).length=c.frm.length)
  (h1 : ∀ f,f<c.frm.length→As.getD f []=c.comp.getD f default++List.replicate e.frm.length (-1)) (h2 : ∀ x,x<e.frm.length→As.getD (c.frm.length+x) []=List.replicate c.frm.length (-1)++(List.range e.frm.length).map (psiS c e x)) :
  As=(sumC c e).comp:=by
 refine tabC_ext hl fun f hf=>?_
 by_cases h : f<c.frm.length
 ·rw [show As.getD f default=_ from h1 f h,sum_row1 h (hr f h)]
 ·have:=h2 (f - c.frm.length) (by omega);rw [show c.frm.length+(f - c.frm.length)=f by omega] at this;rw [show As.getD f default=_ from this,sum_row2,show c.frm.length+(f - c.frm.length)=f by omega]
end
end Go.Shf
namespace Go.Shf
open Go.AW
theorem prL_take {a b : List Int} {n : Int} {i j m : Nat} (hm : b.length=m) (hi : i<a.length) (hj : j<m) : (prL a b n).take (i*m+j)++[a.getD i default*n+b.getD j default]=(prL a b n).take (i*m+j+1):=by
 subst hm;rw [take_succ' _ (by rw [prL_len]; exact mk_lt hi hj),prL_at hi hj]
theorem prodP_at {c e : Cat} {k j f g : Nat} (hj : j<e.frm.length) (hg : g<e.frm.length) : prodP c e (k*e.frm.length+j) (f*e.frm.length+g) =
  if 0≤compE c k f∧0≤compE e j g then compE c k f*e.frm.length+compE e j g else -1:=by
 rw [prodP,(div_mk hj).1,(div_mk hj).2,(div_mk hg).1,(div_mk hg).2]
end Go.Shf
namespace Go.Shf
open Go.AW
end Go.Shf
namespace Go.Shf
open Go.AW
end Go.Shf
namespace Go.Shf
open Go.AW
def homP (c : Cat) (x y : Int) (i : Nat) : Bool:=decide (c.frm.getD i default=x) && decide (c.to.getD i default=y)
def hom (c : Cat) (x y : Int) : List Int:=nats (homP c x y) c.frm.length
theorem mem_hom {c : Cat} {x y a : Int} : a∈hom c x y↔(0≤a∧a.toNat<c.frm.length)∧ix c.frm a=x∧ix c.to a=y:=by
 simp only [hom,homP,mem_nats,Bool.and_eq_true,decide_eq_true_eq,and_assoc]; exact Iff.rfl
end Go.Shf
namespace Go.Shf
open Go.AW
end Go.Shf
namespace Go.Shf
open Go.AW
end Go.Shf
namespace Go.Shf
open Go.AW
end Go.Shf
namespace Go.Shf
open Go.AW
end Go.Shf
namespace Go.Shf
open Go.AW
structure QS where
 v : List Int
 l : List (Int × Int)
 r : List (Int × Int)
 o : List Int
end Go.Shf
namespace Go.Shf
open Go.AW
end Go.Shf
namespace Go.Shf
open Go.AW
end Go.Shf
namespace Go.Shf
open Go.AW
end Go.Shf
namespace Go.Shf
open Go.AW
end Go.Shf
namespace Go.Shf
open Go.AW
end Go.Shf
namespace Go.Shf
open Go.AW
end Go.Shf
namespace Go.Shf
open Go.AW
end Go.Shf
namespace Go.Shf
open Go.AW
end Go.Shf
namespace Go.Shf
open Go.AW
end Go.Shf
namespace Go.Shf
open Go.AW
section
variable {c : Cat} {q : QS}
def homC (c : Cat) (x y : Int) : List Int:=(outs c x).filter fun h=>decide (ix c.to h=y)
def homK (c : Cat) (x y : Int) (k : Nat) : List Int:=((List.range k).filter fun i=>decide (c.frm.getD i default=x) && decide (c.to.getD i default=y)).map Int.ofNat
theorem homK_full (c : Cat) (x y : Int) : homK c x y c.frm.length=homC c x y:=by
 rw [homK,homC,outs,List.filter_map,List.filter_filter]
 congr 1
 refine List.filter_congr fun i _=>?_;simp only [Function.comp_def];rw [Bool.and_comm]
 congr 1
theorem homK_t {x y : Int} {k : Nat} (h1 : c.frm.getD k default=x) (h2 : c.to.getD k default=y) : homK c x y (k+1)=homK c x y k++[(k : Int)]:=by
 rw [homK,range_succ_filter,if_pos (by rw [decide_eq_true h1,decide_eq_true h2]; rfl),List.map_append]; rfl
theorem homK_f {x y : Int} {k : Nat} (h : ¬ (c.frm.getD k default=x∧c.to.getD k default=y)) : homK c x y (k+1)=homK c x y k:=by
 have e : (decide (c.frm.getD k default=x) && decide (c.to.getD k default=y))=false:=by
  rw [Bool.and_eq_false_iff,decide_eq_false_iff_not,decide_eq_false_iff_not]
  by_cases h1 : c.frm.getD k default=x
  ·exact .inr fun h2=>h ⟨h1,h2⟩
  ·exact .inl h1
 rw [homK,range_succ_filter,if_neg (by rw [e]; simp),List.append_nil]; rfl
theorem homK_len (x y : Int) (k : Nat) : (homK c x y k).length≤k:=by
 rw [homK,List.length_map]; exact Nat.le_trans (List.length_filter_le _ _) (by simp)
theorem homC_len (x y : Int) : (homC c x y).length≤c.frm.length:=by rw [← homK_full]; exact homK_len x y _
end
end Go.Shf
namespace Go.Shf
open Go.AW
structure FU where
 src : Cat
 tgt : Cat
 ob : List Int
 ar : List Int
 deriving Inhabited
@[go_sem] def FU.cells (k : FU) : List AV:=[iI k.src.objs,iL k.src.frm,iL k.src.to,iL k.src.idn,iLL k.src.comp,iI k.tgt.objs,iL k.tgt.frm,iL k.tgt.to,iL k.tgt.idn,iLL k.tgt.comp,iL k.ob,iL k.ar]
structure FU.Fit (k : FU) : Prop where
 ol : (k.ob.length : Int)=k.src.objs
 al : k.ar.length=k.src.frm.length
 obr : ∀ y,y∈k.ob→0≤y∧y<k.tgt.objs
 arr : ∀ y,y∈k.ar→0≤y∧y<(k.tgt.frm.length : Int)
structure FU.Laws (k : FU) : Prop where
 ends : ∀ a : Nat,a<k.src.frm.length→ix k.tgt.frm (k.ar.getD a default)=ix k.ob (k.src.frm.getD a default)∧ix k.tgt.to (k.ar.getD a default)=ix k.ob (k.src.to.getD a default)
 idn : ∀ x : Nat,x<k.src.idn.length→ix k.ar (k.src.idn.getD x default)=ix k.tgt.idn (k.ob.getD x default)
 comp : ∀ a b : Nat,a<k.src.frm.length→b<k.src.frm.length→k.src.to.getD a default=k.src.frm.getD b default →
  ix k.ar ((k.src.comp.getD a default).getD b default)=ix (ix k.tgt.comp (k.ar.getD a default)) (k.ar.getD b default)
structure FU.Is (k : FU) : Prop where
 sI : k.src.Is
 tI : k.tgt.Is
 fit : k.Fit
 laws : k.Laws
theorem ix_map {α β : Type} [Inhabited α] [Inhabited β] (f : α→β) {l : List α} {i : Int} (h : i.toNat<l.length) : ix (l.map f) i=f (ix l i):=map_getD f h
section
variable {k : FU} {g : SF} {q : QS}
theorem FU.Is.obAt (h : k.Is) {x : Int} (hx : 0≤x∧x<k.src.objs) : x.toNat<k.ob.length∧0≤ix k.ob x∧ix k.ob x<k.tgt.objs:=by
 have:=h.fit.ol
 have hl : x.toNat<k.ob.length:=by omega
 exact ⟨hl,h.fit.obr _ (ix_mem hl)⟩
theorem FU.Is.arAt (h : k.Is) {a : Int} (ha : 0≤a∧a.toNat<k.src.frm.length) : a.toNat<k.ar.length∧0≤ix k.ar a∧(ix k.ar a).toNat<k.tgt.frm.length:=by
 have:=h.fit.al
 have hl : a.toNat<k.ar.length:=by omega
 have:=h.fit.arr _ (ix_mem hl);exact ⟨hl,by omega⟩
theorem FU.Is.endsAt (h : k.Is) {a : Int} (ha : 0≤a∧a.toNat<k.src.frm.length) : ix k.tgt.frm (ix k.ar a)=ix k.ob (ix k.src.frm a)∧ix k.tgt.to (ix k.ar a)=ix k.ob (ix k.src.to a):=h.laws.ends _ ha.2
theorem FU.Is.idAt (h : k.Is) {x : Int} (hx : 0≤x∧x<k.src.objs) : ix k.ar (ix k.src.idn x)=ix k.tgt.idn (ix k.ob x):=h.laws.idn _ (by have:=h.sI.1.il; omega)
theorem FU.Is.compAt (h : k.Is) {a b : Int} (ha : 0≤a∧a.toNat<k.src.frm.length) (hb : 0≤b∧b.toNat<k.src.frm.length) (e : ix k.src.to a=ix k.src.frm b) :
  ix k.ar (ix (ix k.src.comp a) b)=ix (ix k.tgt.comp (ix k.ar a)) (ix k.ar b):=h.laws.comp _ _ ha.2 hb.2 e
end
end Go.Shf
namespace Go.Shf
open Go.AW
end Go.Shf
namespace Go.Shf
open Go.AW
end Go.Shf
namespace Go.Shf
open Go.AW
end Go.Shf
namespace Go.Shf
open Go.AW
structure PF where
 src : Cat
 tgt : Cat
 sizes : List (List Int)
 before : List (List (List Int))
 behind : List (List (List Int))
 deriving Inhabited
@[go_sem] def PF.cells (p : PF) : List AV:=[iI p.src.objs,iL p.src.frm,iL p.src.to,iL p.src.idn,iLL p.src.comp,iI p.tgt.objs,iL p.tgt.frm,iL p.tgt.to,iL p.tgt.idn,iLL p.tgt.comp,iLL p.sizes,iLLL p.before,iLLL p.behind]
def Cat.ObR (c : Cat) (x : Int) : Prop:=0≤x∧x<c.objs
def Cat.ArR (c : Cat) (a : Int) : Prop:=0≤a∧a.toNat<c.frm.length
end Go.Shf
namespace Go.Shf
open Go.AW
section
variable {c d : Cat} {ob ar : List Int} {a b h : Int}
def TyE (c d : Cat) (ob : List Int) (a v : Int) : Prop:=d.ArR v∧ix d.frm v=ix ob (ix c.frm a)∧ix d.to v=ix ob (ix c.to a)
structure TyA (c d : Cat) (ob ar : List Int) : Prop where
 len : ar.length=c.frm.length
 ty : ∀ a : Int,c.ArR a→ix ar a<0∨TyE c d ob a (ix ar a)
structure TyO (c d : Cat) (ob : List Int) : Prop where
 len : (ob.length : Int)=c.objs
 ob : ∀ x,c.ObR x→d.ObR (ix ob x)
def ngs (A : List Int) : Nat:=A.countP fun x=>decide (x<0)
theorem ngs_set : ∀ {A : List Int} {i : Nat} {v : Int},i<A.length→A.getD i default<0→0≤v→ngs (A.set i v)+1=ngs A
 | [],i,v,h,_,_=>by simp at h
 | x::r,0,v,h,hx,hv=>by
  have hx' : decide (x<0)=true:=by simpa using hx
  have hv' : decide (v<0)=false:=by simpa using hv
  simp [ngs,List.countP_cons,hx',hv']
 | x::r,i+1,v,h,hx,hv=>by
  have ih:=ngs_set (A:=r) (i:=i) (v:=v) (by simpa using h) (by simpa using hx) hv;simp only [ngs,List.set_cons_succ,List.countP_cons] at ih ⊢;omega
theorem Cat.Shape.compEnds (hc : c.Shape) (ha : c.ArR a) (hb : c.ArR b) (e : ix c.to a=ix c.frm b) :
  c.ArR (ix (ix c.comp a) b)∧ix c.frm (ix (ix c.comp a) b)=ix c.frm a∧ix c.to (ix (ix c.comp a) b)=ix c.to b:=by
 have q:=hc.yes a.toNat b.toNat ha.2 hb.2 e
 have q : (0≤ix (ix c.comp a) b∧ix (ix c.comp a) b<c.frm.length)∧ix c.frm (ix (ix c.comp a) b)=ix c.frm a∧ix c.to (ix (ix c.comp a) b)=ix c.to b:=q;exact ⟨⟨q.1.1,by have:=q.1; omega⟩,q.2⟩
theorem TyE.comp (hc : c.Shape) (hd : d.Shape) (ha : c.ArR a) (hb : c.ArR b) (e : ix c.to a=ix c.frm b) {u v : Int} (hu : TyE c d ob a u) (hv : TyE c d ob b v) :
  TyE c d ob (ix (ix c.comp a) b) (ix (ix d.comp u) v):=by
 have q:=hc.compEnds ha hb e
 have k:=hd.compEnds hu.1 hv.1 (by rw [hu.2.2,hv.2.1,e]);exact ⟨k.1,by rw [k.2.1,hu.2.1,q.2.1],by rw [k.2.2,hv.2.2,q.2.2]⟩
theorem TyA.set (t : TyA c d ob ar) (hh : c.ArR h) {v : Int} (hv : TyE c d ob h v) : TyA c d ob (ar.set h.toNat v):=by
 refine ⟨by rw [List.length_set]; exact t.len,fun x hx=>?_⟩
 by_cases e : x=h
 ·right
  subst e
  have : ix (ar.set x.toNat v) x=v:=by
   have hl : x.toNat<ar.length:=by rw [t.len]; exact hx.2
   simp [ix,List.getD_eq_getElem?_getD,hl]
  rw [this]; exact hv
 ·have : ix (ar.set h.toNat v) x=ix ar x:=by
   have h1:=hx.1
   have h2:=hh.1
   have : h.toNat≠x.toNat:=by omega
   simp [ix,List.getD_eq_getElem?_getD,List.getElem?_set_ne this]
  rw [this]; exact t.ty x hx
theorem TyE.idn (hc : c.Shape) (hd : d.Shape) (hx : c.ObR h) (ho : d.ObR (ix ob h)) : TyE c d ob (ix c.idn h) (ix d.idn (ix ob h)):=by
 have q:=hc.idArr hx
 have k:=hd.idArr ho;exact ⟨k.1,by rw [k.2.1,q.2.1],by rw [k.2.2,q.2.2]⟩
theorem TyE.hom {v : Int} (hm : v∈homC d (ix ob (ix c.frm a)) (ix ob (ix c.to a))) : TyE c d ob a v:=by
 rw [homC,List.mem_filter,decide_eq_true_eq] at hm
 have:=mem_outs.mp hm.1;exact ⟨⟨this.1,this.2.1⟩,this.2.2,hm.2⟩
theorem TyA.blank : TyA c d ob (List.replicate c.frm.length (-1)):=by
 refine ⟨by simp,fun x hx=>.inl ?_⟩
 have : x.toNat<c.frm.length:=hx.2
 simp [ix,List.getD_eq_getElem?_getD,List.getElem?_replicate,this]
end
end Go.Shf
namespace Go.Shf
open Go.AW
end Go.Shf
namespace Go.Shf
open Go.AW
end Go.Shf
namespace Go.Shf
open Go.AW
end Go.Shf
namespace Go.Shf
open Go.AW
end Go.Shf
namespace Go.AW
def IoOnly (a : AV) : Prop:=∀ (g g' : Gh) (v : Value),(∀ i p,g.io i=some p→g'.io i=some p)→VRel g a v→VRel g' a v
theorem IoOnly.int (k : IntKind) (n : Int) : IoOnly (.int k n):=fun g g' v _ h=>by cases h; exact .int k n
theorem IoOnly.bool (b : Bool) : IoOnly (.bool b):=fun g g' v _ h=>by cases h; exact .bool b
theorem IoOnly.buf (i n : Nat) : IoOnly (.buf i n):=fun g g' v hg h=>by
 cases h with
 | bufnil _ h=>exact .bufnil _ (hg _ _ h)
 | buf _ _ b cap h=>exact .buf _ _ b cap (hg _ _ h)
theorem IoOnly.nilsl : IoOnly .nilsl:=fun g g' v hg h=>by cases h; exact .nilsl
theorem IoOnly.agg {cs : List AV} (hc : ∀ c,c∈cs→IoOnly c) : IoOnly (.agg cs):=fun g g' v hg h=>by
 cases h with
 | agg _ vs hs hv =>
  refine .agg cs vs hs fun i hi=>hc _ ?_ g g' _ hg (hv i hi);rw [List.getD_eq_getElem?_getD,List.getElem?_eq_getElem hi]; simp
def MObj.plain : MObj→Prop
 | .cells _ cs _=>∀ c,c∈cs→IoOnly c
 | .map _ _=>False
def MObj.frz : MObj→MObj
 | .cells sz cs _=>.cells sz cs cs.length
 | o=>o
def MObj.isMap : MObj→Bool
 | .map _ _=>true
 | _=>false
def frzo : Option MObj→Option MObj
 | some (.cells sz cs _)=>some (.cells sz cs cs.length)
 | _=>none
def Heap.frz (H : Heap) : Heap:=(H.filter fun x=>!((H.get x.1).elim false MObj.isMap)).map fun x=>(x.1,x.2.frz)
theorem Heap.get_filter (H : Heap) (p : Nat→Bool) (i : Nat) : Heap.get (H.filter fun x=>p x.1) i=if p i then H.get i else none:=by
 induction H with
 | nil=>simp [Heap.get]
 | cons x r ih =>
  obtain ⟨j,o⟩:=x;simp only [Heap.get,List.filter_cons,List.lookup] at ih ⊢
  by_cases hp : p j
  ·simp only [hp,if_true,List.lookup]
   by_cases e : i=j
   ·subst e; simp [hp]
   ·have : (i == j)=false:=by simpa using e
    simp [this,ih]
  ·simp only [hp,Bool.false_eq_true,if_false]
   by_cases e : i=j
   ·subst e; rw [ih]; simp [hp]
   ·have : (i == j)=false:=by simpa using e
    simp [this,ih]
theorem Heap.get_map (H : Heap) (f : MObj→MObj) (i : Nat) : Heap.get (H.map fun x=>(x.1,f x.2)) i=(H.get i).map f:=by
 induction H with
 | nil=>rfl
 | cons x r ih =>
  obtain ⟨j,o⟩:=x;simp only [Heap.get,List.map_cons,List.lookup] at ih ⊢
  by_cases e : i=j
  ·subst e; simp
  ·have : (i == j)=false:=by simpa using e
   simp [this,ih]
theorem Heap.get_frz (H : Heap) (i : Nat) : H.frz.get i=frzo (H.get i):=by
 unfold Heap.frz;rw [Heap.get_map,Heap.get_filter H fun j=>!((H.get j).elim false MObj.isMap)]
 cases h : H.get i with
 | none=>simp [frzo]
 | some o=>cases o <;> simp [MObj.isMap,frzo,MObj.frz]
theorem frzo_some {o : Option MObj} {x : MObj} (h : frzo o=some x) : ∃ sz cs f,o=some (.cells sz cs f)∧x=.cells sz cs cs.length:=by
 unfold frzo at h
 split at h
 ·cases h; exact ⟨_,_,_,rfl,rfl⟩
 ·cases h
inductive Tr (H : Heap) : AV→AV→Prop
 | val (a : AV) : Tr H a a
 | buf (id f : Nat) (cs es : List AV) (h : H.get id=some (.cells 1 cs f)) (hl : es.length=cs.length) (h1 : ∀ i,i<cs.length→(es.getD i nv).cells=[es.getD i nv])
   (ht : ∀ i,i<cs.length→Tr H (cs.getD i nv) (es.getD i nv)) : Tr H (.buf id cs.length) (.sl es)
 | agg (cs es : List AV) (hl : es.length=cs.length) (ht : ∀ i,i<cs.length→Tr H (cs.getD i nv) (es.getD i nv)) : Tr H (.agg cs) (.agg es)
 | ref (id sz f : Nat) (cs es : List AV) (h : H.get id=some (.cells sz cs f)) (hl : es.length=cs.length) (ht : ∀ i,i<cs.length→Tr H (cs.getD i nv) (es.getD i nv)) : Tr H (.ref id 0) (.ptr es)
def mapEs : Option Obj→Option (Array MapEntry)
 | some (.map es _)=>some es
 | _=>none
noncomputable def Gh.lend (g : Gh) (H : Heap) (w : World) : Gh :=
 {
  fz:=fun b o=>@ite _ (∃ id cap sz cs f,H.get id=some (.cells sz cs f)∧g.io id=some (.blk b cap)∧o<cs.length) (Classical.propDecidable _) (w.cell? ⟨b,o,none⟩) (g.fz b o)
  fm:=fun b=>@ite _ (∃ id ks vs,H.get id=some (.map ks vs)∧g.io id=some (.mp b)) (Classical.propDecidable _) (mapEs w.heap[b]?) (g.fm b)
  io:=g.io }
theorem Gh.le_lend {g : Gh} {B : Nat} {H : Heap} {w : World} (h : WRel g B H w) : g.le (g.lend H w):=by
 refine ⟨fun b o v e=>?_,fun b es e=>?_,fun _ _ h=>h⟩
 ·simp only [Gh.lend]
  split
  ·exact h.fz b o v e
  ·exact e
 ·simp only [Gh.lend]
  split
  ·obtain ⟨clk,hc,_⟩:=h.fm b es e;rw [hc]; rfl
  ·exact e
theorem WRel.lend {g : Gh} {B : Nat} {H : Heap} {w : World} (h : WRel g B H w) : WRel (g.lend H w) B H.frz w:=by
 have hle:=Gh.le_lend h
 have hsome : ∀ i,(H.frz.get i).isSome→(H.get i).isSome:=by
  intro i e
  obtain ⟨o,e⟩:=Option.isSome_iff_exists.1 e;rw [Heap.get_frz] at e
  obtain ⟨sz,cs,f,e,_⟩:=frzo_some e
  simp [e]
 constructor
 ·intro b o v e;simp only [Gh.lend] at e
  split at e
  ·exact e
  ·exact h.fz b o v e
 ·intro b es e;simp only [Gh.lend] at e
  split at e
  ·unfold mapEs at e
   split at e
   ·rename_i hq _ es' clk hc
    cases e
    obtain ⟨id,ks,vs,q1,q2⟩:=hq
    obtain ⟨p,hp,hr⟩:=h.ob id _ q1;rw [q2] at hp; cases hp;simp only [ObjRel] at hr
    obtain ⟨_,_,es2,clk2,r5,r6,_⟩:=hr;rw [hc] at r5; cases r5;exact ⟨clk,hc,r6.2⟩
   ·cases e
  ·exact h.fm b es e
 ·intro i o e;rw [Heap.get_frz] at e
  obtain ⟨sz,cs,f,e1,rfl⟩:=frzo_some e;clear e
  obtain ⟨p,hp,hr⟩:=h.ob i _ e1;refine ⟨p,hp, ?_⟩
  cases p with
  | nil=>simp only [ObjRel] at hr ⊢; simp [hr.1]
  | blk b cap =>
   simp only [ObjRel] at hr ⊢
   obtain ⟨h1,h2,h3,h4,c,el,h5,h6,h7,h8⟩:=hr;refine ⟨h1,Nat.le_refl _,h3,fun x hx=>?_,c,el,h5,h6,h7,fun i hi=>(h8 i hi).mono hle⟩;simp only [Gh.lend];rw [if_neg,h4 x (by omega)]
   rintro ⟨id,cap',sz',cs',f',a1,a2,a3⟩
   by_cases hid : id=i
   ·subst hid; rw [e1] at a1; cases a1; omega
   ·exact h.inj id i b cap' cap hid (by simp [a1]) (by simp [e1]) a2 hp
  | mp b=>simp [ObjRel] at hr
 ·intro i j b c c' n e1 e2;exact h.inj i j b c c' n (hsome i e1) (hsome j e2)
 ·intro i j b n e1 e2;exact h.injm i j b n (hsome i e1) (hsome j e2)
 ·exact h.base
 ·exact h.fin
theorem Tr.vrel {g : Gh} {B : Nat} {H : Heap} {w : World} (hW : WRel g B H w) {a e : AV} (t : Tr H a e) : ∀ v,VRel g a v→VRel (g.lend H w) e v:=by
 induction t with
 | val a=>intro v h; exact h.mono (Gh.le_lend hW)
 | buf id f cs es h hl h1 ht ih =>
  intro v hv
  obtain ⟨p,hp,hr⟩:=hW.ob id _ h
  generalize hn : cs.length=n at *
  cases hv with
  | bufnil _ hq =>
   have : es=[]:=List.eq_nil_of_length_eq_zero hl;subst this;exact .slnil none 0
  | buf _ _ b cap hq =>
   rw [hp] at hq; cases hq;simp only [ObjRel] at hr
   obtain ⟨r1,r2,r3,r4,c,el,r5,r6,r7,r8⟩:=hr
   have hl' : es.length=cs.length:=by omega
   have key : ∀ i j,i<es.length→j<1→i*1+j=i:=by intro i j _ hj; omega
   refine hl ▸ VRel.sl es b 0 1 cap (fun i=>c.getD i undef) (by omega) (by omega) (fun i hi=>?_) (fun i j hi hj=>?_) (fun i j hi hj=>?_)
   ·rw [h1 i (by omega)]; rfl
   ·rw [key i j hi hj,Nat.zero_add];simp only [Gh.lend];rw [if_pos ⟨id,cap,1,cs,f,h,hp,by omega⟩];rw [cell_of_row w b i c el (0,0) r5]
    have : i<c.size:=by omega
    simp [Array.getD,this]
   ·rw [key i j hi hj,h1 i (by omega)]
    obtain rfl : j=0:=by omega
    exact ih i (by omega) _ (r8 i (by omega))
 | agg cs es hl ht ih =>
  intro v hv
  cases hv with
  | agg _ vs hs hv=>exact .agg es vs (by omega) fun i hi=>ih i (by omega) _ (hv i (by omega))
 | ref id sz f cs es h hl ht ih =>
  intro v hv
  obtain ⟨p,hp,hr⟩:=hW.ob id _ h
  cases hv with
  | ref _ _ b cap hq =>
   rw [hp] at hq; cases hq;simp only [ObjRel] at hr
   obtain ⟨r1,r2,r3,r4,c,el,r5,r6,r7,r8⟩:=hr;refine .ptr es b 0 (fun i=>c.getD i undef) (fun i hi=>?_) (fun i hi=>ih i (by omega) _ (r8 i (by omega)));rw [Nat.zero_add];simp only [Gh.lend];rw [if_pos ⟨id,cap,sz,cs,f,h,hp,by omega⟩];rw [cell_of_row w b i c el (0,0) r5]
   have : i<c.size:=by omega
   simp [Array.getD,this]
theorem Heap.get_append (l H : Heap) (i : Nat) : Heap.get (l++H) i=(Heap.get l i).or (H.get i):=by
 induction l with
 | nil=>simp [Heap.get]
 | cons x r ih =>
  obtain ⟨j,o⟩:=x;simp only [Heap.get,List.cons_append,List.lookup] at ih ⊢
  by_cases e : i=j
  ·subst e; simp
  ·have : (i == j)=false:=by simpa using e
   simp [this,ih]
theorem Heap.get_mem {l : Heap} {i : Nat} {o : MObj} (h : Heap.get l i=some o) : (i,o)∈l:=by
 induction l with
 | nil=>simp [Heap.get] at h
 | cons x r ih =>
  obtain ⟨j,o'⟩:=x;simp only [Heap.get,List.lookup] at ih h
  by_cases e : i=j
  ·subst e; simp at h; simp [h]
  ·have : (i == j)=false:=by simpa using e
   simp only [this] at h;exact List.mem_cons_of_mem _ (ih h)
theorem Heap.mem_get {l : Heap} (nd : (l.map Prod.fst).Nodup) {x : Nat × MObj} (h : x∈l) : Heap.get l x.1=some x.2:=by
 induction l with
 | nil=>simp at h
 | cons y r ih =>
  obtain ⟨j,o'⟩:=y;simp only [List.map_cons,List.nodup_cons] at nd;simp only [Heap.get,List.lookup]
  rcases List.mem_cons.mp h with rfl | hm
  ·simp
  ·have : (x.1 == j)=false:=by
    simp only [beq_eq_false_iff_ne,ne_eq]
    intro e; exact nd.1 (e ▸ List.mem_map_of_mem hm)
   simp only [this];exact ih nd.2 hm
theorem WRel.giveBack {g g' : Gh} {B : Nat} {H H' l : Heap} {w w' : World} (h : WRel g B H w) (hg : (g.lend H w).le g')
  (h' : WRel g' B H' w') (ho : Owns H.frz H' l) (hl : ∀ x,x∈l→x.2.plain∧H.get x.1=none) : g.le { g with io:=g'.io }∧WRel { g with io:=g'.io } B (l++H) w':=by
 have hle0:=(Gh.le_lend h).trans hg
 have hle : g.le { g with io:=g'.io }:=⟨fun _ _ _ h=>h,fun _ _ h=>h,hle0.io⟩
 have fzn : ∀ b o,g'.fz b o=none→g.fz b o=none:=by
  intro b o e
  cases e2 : g.fz b o with
  | none=>rfl
  | some v=>rw [hle0.fz _ _ _ e2] at e; cases e
 have hio : ∀ i o,H.get i=some o→∃ p,g.io i=some p∧g'.io i=some p∧ObjRel g B w p o:=by
  intro i o e
  obtain ⟨p,hp,hr⟩:=h.ob i o e;exact ⟨p,hp,hle0.io _ _ hp,hr⟩
 have cases : ∀ i,(Heap.get (l++H) i).isSome→(∃ sz cs f,H'.get i=some (.cells sz cs f))∨∃ ks vs,H.get i=some (.map ks vs):=by
  intro i e;rw [Heap.get_append] at e
  cases e1 : Heap.get l i with
  | some o =>
   have hm:=Heap.get_mem e1
   have h1:=ho.get _ hm
   have h2:=(hl _ hm).1;simp only at h1 h2
   cases o with
   | cells sz cs f=>exact .inl ⟨_,_,_,h1⟩
   | map ks vs=>exact absurd h2 (by simp [MObj.plain])
  | none =>
   rw [e1,Option.none_or] at e
   obtain ⟨o,e⟩:=Option.isSome_iff_exists.1 e
   cases o with
   | cells sz cs f =>
    have : H.frz.get i=some (.cells sz cs cs.length):=by rw [Heap.get_frz,e]; rfl
    exact .inl ⟨_,_,_,ho.sub _ _ this⟩
   | map ks vs=>exact .inr ⟨_,_,e⟩
 refine ⟨hle, ?_⟩
 constructor
 ·intro b o v e; exact h'.fz _ _ _ (hle0.fz _ _ _ e)
 ·intro b es e; exact h'.fm _ _ (hle0.fm _ _ e)
 ·intro i o e;rw [Heap.get_append] at e
  cases e1 : Heap.get l i with
  | some o1 =>
   rw [e1,Option.some_or] at e; cases e
   have hm:=Heap.get_mem e1
   obtain ⟨p,hpp,hr⟩:=h'.ob i o (ho.get _ hm)
   have hpl:=(hl _ hm).1;refine ⟨p,hpp, ?_⟩
   cases o with
   | map ks vs=>exact absurd hpl (by simp [MObj.plain])
   | cells sz cs f =>
    cases p with
    | nil=>exact hr
    | mp b=>simp [ObjRel] at hr
    | blk b cap =>
     simp only [ObjRel] at hr ⊢
     obtain ⟨r1,r2,r3,r4,c,el,r5,r6,r7,r8⟩:=hr;refine ⟨r1,r2,r3,fun o ho=>fzn _ _ (r4 o ho),c,el,r5,r6,r7,fun i hi=>hpl _ ?_ g' _ _ (fun _ _ h=>h) (r8 i hi)⟩;rw [List.getD_eq_getElem?_getD,List.getElem?_eq_getElem hi]; simp
  | none =>
   rw [e1,Option.none_or] at e
   obtain ⟨p,hp0,hp1,hr0⟩:=hio i o e;refine ⟨p,hp1, ?_⟩
   cases o with
   | map ks vs =>
    cases p with
    | nil=>simp [ObjRel] at hr0
    | blk b cap=>simp [ObjRel] at hr0
    | mp b =>
     simp only [ObjRel] at hr0 ⊢
     obtain ⟨q1,q2,es,clk,q3,q4,q5,q6,q7⟩:=hr0
     have hfm : (g.lend H w).fm b=some es:=by
      simp only [Gh.lend];rw [if_pos ⟨i,ks,vs,e,hp0⟩,q3]; rfl
     obtain ⟨clk',hc,hbo⟩:=h'.fm _ _ (hg.fm _ _ hfm);exact ⟨q1,q2,es,clk',hc,⟨q4.1,hbo⟩,q5,fun i hi=>(q6 i hi).mono hle,fun i hi=>(q7 i hi).mono hle⟩
   | cells sz cs f =>
    have e2 : H.frz.get i=some (.cells sz cs cs.length):=by rw [Heap.get_frz,e]; rfl
    obtain ⟨p',hpp,hr⟩:=h'.ob i _ (ho.sub _ _ e2);rw [hp1] at hpp; cases hpp
    cases p with
    | nil=>exact hr0
    | mp b=>simp [ObjRel] at hr0
    | blk b cap =>
     simp only [ObjRel] at hr hr0 ⊢
     obtain ⟨q1,q2,q3,q4,c0,el0,q5,q6,q7,q8⟩:=hr0
     obtain ⟨r1,r2,r3,r4,c,el,r5,r6,r7,r8⟩:=hr;refine ⟨r1,q2,r3,q4,c,el,r5,r6,r7,fun j hj=>?_⟩
     have h1 : w.cell? ⟨b,j,none⟩=some (c0.getD j undef):=by
      rw [cell_of_row w b j c0 el0 (0,0) q5]
      have : j<c0.size:=by omega
      simp [Array.getD,this]
     have h2 : w'.cell? ⟨b,j,none⟩=some (c0.getD j undef):=by
      refine h'.fz _ _ _ (hg.fz _ _ _ ?_);simp only [Gh.lend];rw [if_pos ⟨i,cap,sz,cs,f,e,hp0,hj⟩]; exact h1
     rw [cell_of_row w' b j c el (0,0) r5] at h2
     have h3 : c.getD j undef=c0.getD j undef:=by
      have hj' : j<c.size:=by omega
      rw [Array.getElem?_eq_getElem hj'] at h2;rw [← Option.some.inj h2]; simp [Array.getD,hj']
     rw [h3]; exact (q8 j hj).mono hle
 ·intro i j b c c' n e1 e2 e3 e4
  rcases cases i e1 with ⟨sz,cs,f,k1⟩ | ⟨ks,vs,k1⟩
  ·rcases cases j e2 with ⟨sz',cs',f',k2⟩ | ⟨ks,vs,k2⟩
   ·exact h'.inj i j b c c' n (by simp [k1]) (by simp [k2]) e3 e4
   ·obtain ⟨p,hp0,hp1,hr0⟩:=hio j _ k2;simp only at e4; rw [hp1] at e4; cases e4; simp [ObjRel] at hr0
  ·obtain ⟨p,hp0,hp1,hr0⟩:=hio i _ k1;simp only at e3; rw [hp1] at e3; cases e3; simp [ObjRel] at hr0
 ·intro i j b n e1 e2 e3 e4
  rcases cases i e1 with ⟨sz,cs,f,k1⟩ | ⟨ks,vs,k1⟩
  ·obtain ⟨p,hp,hr⟩:=h'.ob i _ k1;simp only at e3; rw [hp] at e3; cases e3; simp [ObjRel] at hr
  ·rcases cases j e2 with ⟨sz',cs',f',k2⟩ | ⟨ks',vs',k2⟩
   ·obtain ⟨p,hp,hr⟩:=h'.ob j _ k2;simp only at e4; rw [hp] at e4; cases e4; simp [ObjRel] at hr
   ·obtain ⟨p,hp0,hp1,_⟩:=hio i _ k1
    obtain ⟨q,hq0,hq1,_⟩:=hio j _ k2;simp only at e3 e4;rw [hp1] at e3; cases e3;rw [hq1] at e4; cases e4;exact h.injm i j b n (by simp [k1]) (by simp [k2]) hp0 hq0
 ·exact h'.base
 ·exact h'.fin
theorem WRel.lendNew {g g' : Gh} {B : Nat} {H H' l : Heap} {w w' : World} (h : WRel g B H w) (hg : (g.lend H w).le g') (h' : WRel g' B H' w') (ho : Owns H.frz H' l) (hl : ∀ x,x∈l→x.2.plain) :
  ∀ x,x∈l→H.get x.1=none:=by
 intro x hx
 have h1:=ho.out x hx
 have h2:=ho.get x hx
 have h3:=hl x hx;rw [Heap.get_frz] at h1
 cases e : H.get x.1 with
 | none=>rfl
 | some o =>
  rw [e] at h1
  cases o with
  | cells sz cs f=>simp [frzo] at h1
  | map ks vs =>
   obtain ⟨p,hp,hr⟩:=h.ob _ _ e
   cases p with
   | nil=>simp [ObjRel] at hr
   | blk b cap=>simp [ObjRel] at hr
   | mp b =>
    have hp':=((Gh.le_lend h).trans hg).io _ _ hp
    obtain ⟨q,hq,hr2⟩:=h'.ob _ _ h2;rw [hp'] at hq; cases hq
    cases ho2 : x.2 with
    | cells sz cs f=>rw [ho2] at hr2; simp [ObjRel] at hr2
    | map ks vs=>rw [ho2] at h3; simp [MObj.plain] at h3
theorem CallH.borrow {P : Program} {B : Nat} {f : FuncId} {args es : List AV} {H : Heap} {K0 K : Kont} (hl : es.length=args.length)
  (ht : ∀ i,i<args.length→∀ g w v,WRel g B H w→VRel g (args.getD i nv) v→VRel (g.lend H w) (es.getD i nv) v)
  (h : CallH P B f es H.frz K0) (hk : ∀ r H',K0 r H'→∃ l,Owns H.frz H' l∧(∀ x,x∈l→x.2.plain)∧IoOnly r∧((∀ x,x∈l→H.get x.1=none)→K r (l++H))) : CallH P B f args H K:=by
 refine ⟨h.1,fun g w vs hW hv=>?_⟩;refine (h.2 _ w vs hW.lend ⟨by rw [hv.1,hl],fun i hi=>ht i (by omega) g w _ hW (hv.2 i (by omega))⟩).mono fun e w' ⟨v,he,g',r,H',a,b,c,d,k⟩=>?_
 obtain ⟨l,ho,hpl,hio,hK⟩:=hk r H' b
 have hn:=hW.lendNew a d ho hpl
 obtain ⟨q1,q2⟩:=hW.giveBack a d ho fun x hx=>⟨hpl x hx,hn x hx⟩;exact ⟨v,he,_,r,_,q1,hK hn,hio g' _ _ (fun _ _ h=>h) c,q2,k⟩
theorem CallH.lentPure {P : Program} {B : Nat} {f : FuncId} {args es : List AV} {H : Heap} {K : Kont} {r : AV} (hr : IoOnly r) (hl : es.length=args.length)
  (ht : ∀ i,i<args.length→∀ g w v,WRel g B H w→VRel g (args.getD i nv) v→VRel (g.lend H w) (es.getD i nv) v)
  (h : PureF P B f es r) (hk : K r H) : CallH P B f args H K :=
 CallH.borrow hl ht (h _) fun r' H' ⟨e1,e2⟩=>⟨[],e2 ▸ .nil _,by simp,e1 ▸ hr,fun _=>by rw [e1]; exact hk⟩
theorem Tr.arg {B : Nat} {H : Heap} {a e : AV} (t : Tr H a e) : ∀ g w v,WRel g B H w→VRel g a v→VRel (g.lend H w) e v:=fun g w v hW hv=>t.vrel hW v hv
theorem val_arg {B : Nat} {H : Heap} (a : AV) : ∀ g w v,WRel g B H w→VRel g a v→VRel (g.lend H w) a v:=fun g w v hW hv=>hv.mono (Gh.le_lend hW)
theorem Owns.frz {H H' l : Heap} (h : Owns H.frz H' l) (hn : ∀ x,x∈l→H.get x.1=none) : Owns H (l++H) l:=by
 refine ⟨fun i o e=>?_,fun x hx=>?_,h.nd,hn⟩
 ·rw [Heap.get_append]
  cases e1 : Heap.get l i with
  | some o1=>have:=hn _ (Heap.get_mem e1); simp only at this; rw [this] at e; cases e
  | none=>simpa using e
 ·rw [Heap.get_append,Heap.mem_get h.nd hx]; rfl
theorem lent_arg {α : Type} [Inhabited α] {f : α→AV} [One f] {B : Nat} {H0 H : Heap} {l : List (Nat × MObj)} {id n fr : Nat} {A : List α} (o : Owns H0 H ((id,.cells 1 (A.map f) fr)::l)) (hn : n=A.length) :
  ∀ g w v,WRel g B H w→VRel g (.buf id n) v→VRel (g.lend H w) (mL f A) v:=by
 subst hn
 have h0:=o.h0;simp only at h0
 have:=Tr.buf (H:=H) id fr (A.map f) (A.map f) h0 rfl (fun i hi=>by rw [List.length_map] at hi; rw [getD_map A hi]; exact one_cells _) (fun i _=>.val _);rw [List.length_map] at this;exact this.arg
theorem call_lent {α : Type} [Inhabited α] {f : α→AV} [One f] {P : Program} {B : Nat} {fn : FuncId} {args : List AV} {H0 H : Heap} {l : List (Nat × MObj)} {K : Kont} {id n fr : Nat} {A : List α} {r : AV} (t : Nat)
  (ha : args[t]? = some (.buf id n)) (o : Owns H0 H ((id,.cells 1 (A.map f) fr)::l)) (hn : n=A.length) (hr : IoOnly r) (h : PureF P B fn (args.set t (mL f A)) r) (hk : K r H) : CallH P B fn args H K:=by
 refine CallH.lentPure hr (by simp) (fun i hi=>?_) h hk
 by_cases e : i=t
 ·subst e
  have e1 : args.getD i nv=.buf id n:=by rw [List.getD_eq_getElem?_getD,ha]; rfl
  have e2 : (args.set i (mL f A)).getD i nv=mL f A:=by simp [List.getD_eq_getElem?_getD,hi]
  rw [e1,e2];exact lent_arg o hn
 ·have e2 : (args.set t (mL f A)).getD i nv=args.getD i nv:=by
   rw [List.getD_eq_getElem?_getD,List.getElem?_set_ne (by omega),← List.getD_eq_getElem?_getD]
  rw [e2]; exact val_arg _
theorem Owns.trans {H0 H H' base l : Heap} (h : Owns H0 H base) (k : Owns H H' l) : Owns H0 H' (l++base):=by
 refine ⟨h.sub.trans k.sub,fun x hx=>?_, ?_,fun x hx=>?_⟩
 ·rcases List.mem_append.mp hx with hx | hx
  ·exact k.get x hx
  ·exact k.sub _ _ (h.get x hx)
 ·rw [List.map_append,List.nodup_append];refine ⟨k.nd,h.nd,fun a ha b hb=>?_⟩
  obtain ⟨x,hx,rfl⟩:=List.mem_map.mp ha
  obtain ⟨y,hy,rfl⟩:=List.mem_map.mp hb
  intro e
  have h1:=k.out x hx
  have h2:=h.get y hy;rw [← e,h1] at h2; cases h2
 ·rcases List.mem_append.mp hx with hx | hx
  ·cases e : H0.get x.1 with
   | none=>rfl
   | some o=>have:=h.sub _ _ e; rw [k.out x hx] at this; cases this
  ·exact h.out x hx
end Go.AW
namespace Go.AW
attribute [go_sem] Nat.mul_one Bool.not_true Bool.not_false
section
variable {α : Type} [Inhabited α] {f : α→AV} [One f] {H0 H : Heap} {l : List (Nat × MObj)} {K : Kont}
omit [Inhabited α] in
theorem mks_list {n : Nat} {z : AV} (f : α→AV) (a : α) (hz : z=f a) (h : Owns H0 H l) (hk : ∀ id H',Owns H0 H' ((id,.cells 1 ((List.replicate n a).map f) 0)::l)→K (.buf id n) H') :
  newBuf n 1 (rep n [z]) K H:=by
 rw [rep_one]; subst hz;refine newBuf_own h fun id H' o=>hk id H' ?_;rw [List.map_replicate]; exact o
omit [One f] in
theorem rd_own {id off fr sz : Nat} {A : List α} (h : Owns H0 H ((id,.cells sz (A.map f) fr)::l)) (ho : off<A.length) (hk : K (f (A.getD off default)) H) :
  rd1 (H.get id) none off K H:=by
 have h0:=h.h0;simp only at h0;rw [h0,rd1_1];refine ⟨by simpa using ho, ?_⟩;rw [getD_map A ho]; exact hk
omit [Inhabited α] in
theorem set_own {id off : Nat} {A : List α} (a : α) {v : AV} (h : Owns H0 H ((id,.cells 1 (A.map f) 0)::l)) (hv : v=f a) (ho : off<A.length)
  (hk : ∀ H',Owns H0 H' ((id,.cells 1 ((A.set off a).map f) 0)::l)→K nv H') : st1 (H.get id) id off 1 [v] K H:=by
 subst hv
 have h0:=h.h0;simp only at h0;rw [h0,st1_c];refine ⟨⟨by omega,by rw [List.length_map]; omega,rfl,fun c hc=>?_⟩, ?_⟩
 ·rw [List.mem_singleton] at hc; subst hc; exact One.one a
 ·have e : wr (A.map f) off [f a]=(A.set off a).map f:=by
   simp only [wr,List.map_set]
  rw [e];exact hk _ (h.put _)
end
end Go.AW
