/- Plain data, plain laws. -/
import Derived.Test.YthflgdphhajkbaaGreatA2
set_option linter.unusedVariables false
set_option linter.unusedSimpArgs false
set_option linter.unusedSectionVars false
namespace Go.AW
class One {α : Type} (f : α→AV) : Prop where
 cells : ∀ a,(f a).cells=[f a]
 one : ∀ a,(f a).one=true
def mL {α : Type} (f : α→AV) (l : List α) : AV:=.sl (l.map f)
abbrev iI : Int→AV:=AV.int .i64
abbrev iL : List Int→AV:=mL iI
abbrev iLL : List (List Int)→AV:=mL iL
abbrev iLLL : List (List (List Int))→AV:=mL iLL
abbrev bL : List Bool→AV:=mL AV.bool
abbrev bLL : List (List Bool)→AV:=mL bL
instance : One iI:=⟨fun _=>rfl,fun _=>rfl⟩
instance : One AV.bool:=⟨fun _=>rfl,fun _=>rfl⟩
instance : One AV.str:=⟨fun _=>rfl,fun _=>rfl⟩
instance {α : Type} (f : α→AV) : One (mL f):=⟨fun _=>rfl,fun _=>rfl⟩
def ix {α : Type} [Inhabited α] (l : List α) (i : Int) : α:=l.getD i.toNat default
theorem ix_nat {α : Type} [Inhabited α] (l : List α) (k : Nat) : ix l (k : Int)=l.getD k default:=by simp [ix]
section
variable {P : Program} {B : Nat} {F : Env→Heap→Prop} {σ : Env} {H : Heap} {d : Option Nat} {α : Type} [Inhabited α] {f : α→AV}
theorem getD_map (l : List α) {i : Nat} (h : i<l.length) : (l.map f).getD i nv=f (l.getD i default):=by
 simp [List.getD_eq_getElem?_getD,h]
theorem one_cells [One f] (a : α) : (f a).cells=[f a]:=One.cells a
@[go_sem] theorem cells_mL (l : List α) : (mL f l).cells=[mL f l]:=rfl
@[go_sem] theorem lenE_mL (l : List α) : lenE (some (mL f l))=some (True,.int .i64 l.length):=by simp [mL,lenE]
@[go_sem] theorem idxE_mL [One f] (l : List α) (k : IntKind) (i : Int) :
  pE d F σ H (idxE 1 (some (mL f l)) (some (.int k i)))=((0≤i∧i.toNat<l.length)∧putK d F σ (.ptr [f (ix l i)]) H):=by
 simp only [mL,idxE,pE,pW,List.length_map,eq_iff_iff]
 constructor
 ·rintro ⟨⟨h1,h2,h3⟩,h4⟩;rw [getD_map l h2,one_cells] at h4;exact ⟨⟨h1,h2⟩,h4⟩
 ·rintro ⟨⟨h1,h2⟩,h4⟩;rw [getD_map l h2,one_cells];exact ⟨⟨h1,h2,rfl⟩,h4⟩
theorem flat_map [One f] (l : List α) : flat (l.map f)=l.map f:=by
 induction l with
 | nil=>rfl
 | cons a r ih=>simp [flat,one_cells,ih]
theorem okEls_map [One f] (l : List α) : okEls 1 (l.map f):=by
 intro e he
 obtain ⟨a,_,rfl⟩:=List.mem_map.mp he;rw [one_cells];refine ⟨rfl,fun c hc=>?_⟩;rw [List.mem_singleton] at hc; subst hc; exact One.one a
@[go_sem] theorem srcOf_mL [One f] (l : List α) : srcOf 1 (some (mL f l)) H=some (True,l.length,l.map f):=by
 simp [mL,srcOf,okEls_map,flat_map]
@[go_sem] theorem slcE_lo [One f] (l : List α) (k : IntKind) (a : Int) : slcE 1 (some (mL f l)) (some (some (.int k a))) none=some (0≤a∧a≤l.length,mL f (l.drop a.toNat)):=by
 have : List.take l.length (l.map f)=l.map f:=List.take_of_length_le (by simp)
 simp [mL,slcE,slcA,slcB,slcL,okEls_map,this]
@[go_sem] theorem slcE_hi [One f] (l : List α) (k : IntKind) (b : Int) : slcE 1 (some (mL f l)) none (some (some (.int k b)))=some (0≤b∧b≤l.length,mL f (l.take b.toNat)):=by
 simp [mL,slcE,slcA,slcB,slcL,okEls_map,← List.map_take]
@[go_sem] theorem slcE_both [One f] (l : List α) (k k' : IntKind) (a b : Int) : slcE 1 (some (mL f l)) (some (some (.int k a))) (some (some (.int k' b)))=some (0≤a∧a≤b∧b≤l.length,mL f ((l.take b.toNat).drop a.toNat)):=by
 simp [mL,slcE,slcA,slcB,slcL,okEls_map,← List.map_take,← List.map_drop]
@[go_sem] theorem okEls_nil (n : Nat) : okEls n []=True:=by simp [okEls]
@[go_sem] theorem okEls_cons (n : Nat) (a : AV) (r : List AV) : okEls n (a::r)=((a.cells.length=n∧∀ c,c∈a.cells→c.one=true)∧okEls n r):=by
 simp [okEls]
theorem okEls_one [One f] (a : α) : okEls 1 [f a]:=by
 intro e he;rw [List.mem_singleton] at he; subst he;rw [one_cells];refine ⟨rfl,fun c hc=>?_⟩;rw [List.mem_singleton] at hc; subst hc; exact One.one a
theorem fine_mL_le {l : List α} (h : AV.fine (mL f l)) : l.length≤maxL:=by simpa using h.sl_le
theorem fine_mL_mem [One f] {l : List α} (h : AV.fine (mL f l)) {a : α} (ha : a∈l) : AV.fine (f a) :=
 h.sl_mem (List.mem_map_of_mem ha) (one_cells a)
theorem ix_mem {l : List α} {i : Int} (h : i.toNat<l.length) : ix l i∈l:=by
 rw [ix,List.getD_eq_getElem?_getD]; simp [h]
theorem fine_mL_ix [One f] {l : List α} (h : AV.fine (mL f l)) {i : Int} (hi : i.toNat<l.length) : AV.fine (f (ix l i)):=fine_mL_mem h (ix_mem hi)
theorem take_succ' (l : List α) {k : Nat} (h : k<l.length) : l.take (k+1)=l.take k++[l.getD k default]:=by
 rw [List.take_add_one]; simp [List.getD_eq_getElem?_getD,h]
end
@[go_sem] theorem and_true_r (p : Prop) : (p∧True)=p:=and_true p
@[go_sem] theorem true_and_r (p : Prop) : (True∧p)=p:=true_and p
@[go_sem] theorem zle (n : Nat) : (0≤n)=True:=by simp
@[go_sem] theorem le_maxL1 : (1≤maxL)=True:=by simp [maxL]
@[go_sem] theorem le_maxL2 : (2≤maxL)=True:=by simp [maxL]
@[go_sem] theorem one_int (k : IntKind) (n : Int) : (AV.int k n).one=true:=rfl
@[go_sem] theorem one_mL {α : Type} (f : α→AV) (l : List α) : (mL f l).one=true:=rfl
@[go_sem] theorem one_bool (b : Bool) : (AV.bool b).one=true:=rfl
@[go_sem] theorem one_str (b : List UInt8) : (AV.str b).one=true:=rfl
@[go_sem] theorem one_sl (b : List AV) : (AV.sl b).one=true:=rfl
@[go_sem] theorem one_buf (i n : Nat) : (AV.buf i n).one=true:=rfl
@[go_sem] theorem one_ptr (b : List AV) : (AV.ptr b).one=true:=rfl
@[go_sem] theorem memnil (p : AV→Prop) : (∀ c,c∈([] : List AV)→p c)=True:=by simp
@[go_sem] theorem memcons (p : AV→Prop) (a : AV) (r : List AV) : (∀ c,c∈a::r→p c)=(p a∧∀ c,c∈r→p c):=by simp
@[go_sem] theorem len1 (a : AV) : [a].length=1:=rfl
@[go_sem] theorem len0 : ([] : List AV).length=0:=rfl
theorem awp_for {P : Program} {B : Nat} {l : List Nat} {c : SC} {Q : AQ} {σ : Env} {H : Heap} (lf : List Nat) {G : Type} (E : Nat→G→Env) (J : Nat→G→Heap→Prop) (n : Nat) (g : G)
  (h0 : J 0 g H) (he : Env.keep l σ=E 0 g++Env.keep lf σ)
  (h : ∀ k g H,k≤n→J k g H→awp P B c (lpQ l (fun m σ' H=>∃ k g,k≤n∧m=n - k∧J k g H∧σ'=E k g++Env.keep lf σ) (n - k) Q) (E k g++Env.keep lf σ) H) :
  awp P B (.loop l c) Q σ H :=
 awp_loop (fun m σ' H=>∃ k g,k≤n∧m=n - k∧J k g H∧σ'=E k g++Env.keep lf σ) n ⟨0,g,by omega,rfl,h0,he⟩
  fun m σ H ⟨k,g,h1,h2,h3,h4⟩=>h2 ▸ h4 ▸ h k g H h1 h3
theorem for_next {G : Type} {S : Nat→G→Env} {J : Nat→G→Heap→Prop} {n k : Nat} {σ : Env} {H : Heap} (g : G) (h : k<n) (hj : J (k+1) g H) (he : σ=S (k+1) g) :
  ∃ m σ' H',m<n - k∧(∃ k g,k≤n∧m=n - k∧J k g H'∧σ'=S k g)∧Wk σ H σ' H' :=
 ⟨n - (k+1),σ,H,by omega,⟨k+1,g,h,rfl,hj,he⟩,.refl _ _⟩
theorem awp_while {P : Program} {B : Nat} {l : List Nat} {c : SC} {Q : AQ} {σ : Env} {H : Heap} (lf : List Nat) {G : Type} (E : G→Env) (J : Nat→G→Heap→Prop) (n : Nat) (g : G)
  (h0 : J n g H) (he : Env.keep l σ=E g++Env.keep lf σ)
  (h : ∀ m g H,J m g H→awp P B c (lpQ l (fun m σ' H=>∃ g,J m g H∧σ'=E g++Env.keep lf σ) m Q) (E g++Env.keep lf σ) H) :
  awp P B (.loop l c) Q σ H :=
 awp_loop (fun m σ' H=>∃ g,J m g H∧σ'=E g++Env.keep lf σ) n ⟨g,h0,he⟩
  fun m σ H ⟨g,h3,h4⟩=>h4 ▸ h m g H h3
theorem while_next {G : Type} {S : G→Env} {J : Nat→G→Heap→Prop} {m : Nat} {σ : Env} {H : Heap} (m' : Nat) (g : G) (h : m'<m) (hj : J m' g H) (he : σ=S g) :
  ∃ m' σ' H',m'<m∧(∃ g,J m' g H'∧σ'=S g)∧Wk σ H σ' H' :=
 ⟨m',σ,H,h,⟨g,hj,he⟩,.refl _ _⟩
@[go_sem] theorem env_app_cons (a : Nat × Option AV) (l r : Env) : (a::l)++r=a::(l++r):=rfl
@[go_sem] theorem env_app_nil (r : Env) : ([] : Env)++r=r:=rfl
structure Owns (H0 H : Heap) (l : List (Nat × MObj)) : Prop where
 sub : H0.sub H
 get : ∀ x,x∈l→H.get x.1=some x.2
 nd : (l.map Prod.fst).Nodup
 out : ∀ x,x∈l→H0.get x.1=none
theorem Owns.nil (H : Heap) : Owns H H []:=⟨.refl H,by simp,by simp,by simp⟩
theorem Owns.h0 {H0 H : Heap} {a : Nat × MObj} {l : List (Nat × MObj)} (h : Owns H0 H (a::l)) : H.get a.1=some a.2:=h.get a (by simp)
theorem Owns.tl {H0 H : Heap} {a : Nat × MObj} {l : List (Nat × MObj)} (h : Owns H0 H (a::l)) : Owns H0 H l :=
 ⟨h.sub,fun x hx=>h.get x (by simp [hx]),(by simpa using h.nd : _∧_).2,fun x hx=>h.out x (by simp [hx])⟩
theorem Owns.perm {H0 H : Heap} {l r : List (Nat × MObj)} (h : Owns H0 H l) (hp : l.Perm r) : Owns H0 H r :=
 ⟨h.sub,fun x hx=>h.get x (hp.mem_iff.mpr hx),((hp.map _).nodup_iff.mp h.nd),fun x hx=>h.out x (hp.mem_iff.mpr hx)⟩
theorem Owns.swap {H0 H : Heap} {a b : Nat × MObj} {l : List (Nat × MObj)} (h : Owns H0 H (a::b::l)) : Owns H0 H (b::a::l):=h.perm (List.Perm.swap b a l)
theorem Owns.new {H0 H : Heap} {l : List (Nat × MObj)} (h : Owns H0 H l) {id : Nat} (hn : H.get id=none) (o : MObj) : Owns H0 (H.set id o) ((id,o)::l):=by
 refine ⟨fun i x hx=>?_,fun x hx=>?_, ?_,fun x hx=>?_⟩
 ·have:=h.sub i x hx;rw [Heap.get_set_ne]; exact this
  rintro rfl; rw [hn] at this; cases this
 ·simp only [List.mem_cons] at hx
  rcases hx with rfl | hx
  ·simp
  ·rw [Heap.get_set_ne]; exact h.get x hx
   intro e; have:=h.get x hx; rw [e,hn] at this; cases this
 ·simp only [List.map_cons,List.nodup_cons];refine ⟨fun hm=>?_,h.nd⟩
  obtain ⟨x,hx,e⟩:=List.mem_map.mp hm
  have:=h.get x hx; rw [e,hn] at this; cases this
 ·simp only [List.mem_cons] at hx
  rcases hx with rfl | hx
  ·cases hh : H0.get id with
   | none=>rfl
   | some o'=>have:=h.sub _ _ hh; rw [hn] at this; cases this
  ·exact h.out x hx
theorem Owns.put {H0 H : Heap} {l : List (Nat × MObj)} {id : Nat} {o : MObj} (h : Owns H0 H ((id,o)::l)) (o' : MObj) : Owns H0 (H.set id o') ((id,o')::l):=by
 have hnd:=h.nd;simp only [List.map_cons,List.nodup_cons] at hnd
 have hne : ∀ x,x∈l→x.1≠id:=fun x hx e=>hnd.1 (e ▸ List.mem_map_of_mem hx)
 have ho:=h.out (id,o) (by simp);refine ⟨fun i x hx=>?_,fun x hx=>?_,by simpa using hnd,fun x hx=>?_⟩
 ·rw [Heap.get_set_ne]; exact h.sub i x hx
  rintro rfl; simp only at ho; rw [ho] at hx; cases hx
 ·simp only [List.mem_cons] at hx
  rcases hx with rfl | hx
  ·simp
  ·rw [Heap.get_set_ne _ _ (hne x hx)]; exact h.get x (by simp [hx])
 ·simp only [List.mem_cons] at hx
  rcases hx with rfl | hx
  ·exact ho
  ·exact h.out x (by simp [hx])
theorem Owns.mv {H0 H : Heap} {l : List (Nat × MObj)} {id id' : Nat} {o : MObj} (h : Owns H0 H ((id,o)::l)) (hn : H.get id'=none) (o' : MObj) : Owns H0 ((H.del id).set id' o') ((id',o')::l):=by
 have hnd:=h.nd;simp only [List.map_cons,List.nodup_cons] at hnd
 have hne : ∀ x,x∈l→x.1≠id:=fun x hx e=>hnd.1 (e ▸ List.mem_map_of_mem hx)
 have ho:=h.out (id,o) (by simp)
 have hd : Owns H0 (H.del id) l:=by
  refine ⟨fun i x hx=>?_,fun x hx=>?_,hnd.2,fun x hx=>h.out x (by simp [hx])⟩
  ·rw [Heap.get_del_ne]; exact h.sub i x hx
   rintro rfl; simp only at ho; rw [ho] at hx; cases hx
  ·rw [Heap.get_del_ne _ (hne x hx)]; exact h.get x (by simp [hx])
 refine hd.new ?_ o'
 by_cases e : id'=id
 ·subst e; exact Heap.get_del_same _ _
 ·rw [Heap.get_del_ne _ e]; exact hn
section
variable {α : Type} [Inhabited α] {f : α→AV} [One f] {H0 H : Heap} {l : List (Nat × MObj)} {K : Kont}
theorem newBuf_own {n sz : Nat} {cs : List AV} (h : Owns H0 H l) (hk : ∀ id H',Owns H0 H' ((id,.cells sz cs 0)::l)→K (.buf id n) H') : newBuf n sz cs K H :=
 fun id hn=>hk id _ (h.new hn _)
theorem newRef_own {sz : Nat} {cs : List AV} (h : Owns H0 H l) (hk : ∀ id H',Owns H0 H' ((id,.cells sz cs 0)::l)→K (.ref id 0) H') : newRef sz cs K H :=
 fun id hn=>hk id _ (h.new hn _)
theorem newMap_own (h : Owns H0 H l) (hk : ∀ id H',Owns H0 H' ((id,.map [] [])::l)→K (.mref id) H') : newMap K H :=
 fun id hn=>hk id _ (h.new hn _)
omit [Inhabited α] in
/-- An empty list of ours. -/
theorem new_list (f : α→AV) (h : Owns H0 H l) (hk : ∀ id H',Owns H0 H' ((id,.cells 1 (([] : List α).map f) 0)::l)→K (.buf id ([] : List α).length) H') : newBuf 0 1 [] K H :=
 newBuf_own h hk
theorem app_own {id fr n : Nat} {out : List α} (a : α) {v : AV} (h : Owns H0 H ((id,.cells 1 (out.map f) fr)::l)) (hv : v=f a) (hn : n=out.length) (hm : out.length+1≤maxL)
  (hk : ∀ id' H',Owns H0 H' ((id',.cells 1 ((out++[a]).map f) fr)::l)→K (.buf id' (out++[a]).length) H') :
  appW 1 (some (.buf id n)) (some (.sl [v])) K H:=by
 subst hv hn
 have h0:=h.h0;simp only at h0;simp only [appW,h0,srcOf,app2];refine ⟨⟨trivial,by simp,by simpa using hm,by simpa using hm,okEls_one a⟩,fun id' hn=>?_⟩
 have:=h.mv hn (.cells 1 ((out++[a]).map f) fr)
 have e : out.map f++flat [f a]=(out++[a]).map f:=by simp [flat,one_cells]
 rw [e]
 have:=hk id' _ this
 simpa using this
theorem app_list {id fr n : Nat} {out r : List α} (h : Owns H0 H ((id,.cells 1 (out.map f) fr)::l)) (hn : n=out.length) (hm : out.length+r.length≤maxL)
  (hk : ∀ id' H',Owns H0 H' ((id',.cells 1 ((out++r).map f) fr)::l)→K (.buf id' (out++r).length) H') :
  appW 1 (some (.buf id n)) (some (mL f r)) K H:=by
 subst hn
 have h0:=h.h0;simp only at h0;simp only [appW,h0,app2,srcOf_mL];refine ⟨⟨trivial,by simp,hm,by simpa using hm⟩,fun id' hn=>?_⟩
 have:=h.mv hn (.cells 1 ((out++r).map f) fr)
 have e : out.map f++r.map f=(out++r).map f:=by simp
 rw [e]
 have:=hk id' _ this
 simpa using this
theorem nil_own (a : α) {v : AV} (h : Owns H0 H l) (hv : v=f a)
  (hk : ∀ id' H',Owns H0 H' ((id',.cells 1 ([a].map f) 0)::l)→K (.buf id' [a].length) H') :
  appW 1 (some .nilsl) (some (.sl [v])) K H:=by
 subst hv;simp only [appW,srcOf,app1];refine ⟨⟨by simp [maxL],by simp [maxL],okEls_one a⟩,fun id hn=>?_⟩
 have:=hk id _ (h.new hn (.cells 1 ([a].map f) 0))
 simpa [flat,one_cells] using this
end
section
variable {α : Type} {f : α→AV} [One f] {H0 H : Heap} {l : List (Nat × MObj)}
theorem fz_own {t id n fr : Nat} {out : List α} {F : Env→Heap→Prop} {σ : Env} (h : Owns H0 H ((id,.cells 1 (out.map f) fr)::l)) (hn : n=out.length)
  (hk : ∀ H',Owns H0 H' l→F ((t,some (mL f out))::σ) H') : fz1 t id n F σ H (H.get id):=by
 subst hn
 have h0:=h.h0;simp only at h0;rw [h0,fz1_one];refine ⟨⟨by simp,fun c hc=>?_⟩,hk _ (h.put _).tl⟩
 obtain ⟨a,_,rfl⟩:=List.mem_map.mp hc;exact One.one a
end
theorem wsucc {k : Nat} (h : k<1125899906842624) : IntKind.i64.wrap ((k : Int)+1)=((k+1 : Nat) : Int):=by
 rw [wrap_i64 (by omega) (by omega)]; omega
theorem of_decide {p : Prop} [Decidable p] (h : decide p=true) : p:=by simpa using h
theorem of_ndecide {p : Prop} [Decidable p] (h : decide p=false) : ¬ p:=by simpa using h
end Go.AW
namespace Go.AW
structure Pur (P : Program) (B : Nat) (f : FuncId) (args : List AV) (r : AV) : Prop where
 run : PureF P B f args r
theorem Pur.go {P : Program} {B : Nat} {f : FuncId} {args : List AV} {r : AV} {H : Heap} {K : Kont} (h : Pur P B f args r) (hk : r.fine→K r H) : CallH P B f args H K :=
 h.run.go hk
end Go.AW
namespace Go.AW
noncomputable def dec (p : Prop) : Bool:=@decide p (Classical.propDecidable p)
theorem dec_t {p : Prop} (h : p) : dec p=true:=by simp [dec,h]
theorem dec_f {p : Prop} (h : ¬ p) : dec p=false:=by simp [dec,h]
theorem dec_iff {p : Prop} : dec p=true↔p:=by simp [dec]
theorem dec_niff {p : Prop} : dec p=false↔¬ p:=by simp [dec]
theorem dec_congr {p q : Prop} (h : p↔q) : dec p=dec q:=by rw [show p=q from propext h]
theorem decide_dec (p : Prop) [Decidable p] : decide p=dec p:=by
 by_cases h : p
 ·rw [dec_t h]; simpa using h
 ·rw [dec_f h]; simpa using h
theorem lt_succ_all {k : Nat} {p : Nat→Prop} (h : ∀ i,i<k→p i) (hk : p k) : ∀ i,i<k+1→p i:=fun i hi=>by
 by_cases e : i=k
 ·subst e; exact hk
 ·exact h i (by omega)
theorem mem_getD {α : Type} [Inhabited α] {l : List α} {a : α} : a∈l↔∃ i,i<l.length∧l.getD i default=a:=by
 rw [List.mem_iff_getElem]
 constructor
 ·rintro ⟨i,h,e⟩; exact ⟨i,h,by simpa [List.getD_eq_getElem?_getD,h] using e⟩
 ·rintro ⟨i,h,e⟩; exact ⟨i,h,by simpa [List.getD_eq_getElem?_getD,h] using e⟩
theorem all_getD {α : Type} [Inhabited α] {l : List α} {p : α→Prop} : (∀ a,a∈l→p a)↔∀ i,i<l.length→p (l.getD i default):=by
 constructor
 ·intro h i hi; exact h _ (mem_getD.mpr ⟨i,hi,rfl⟩)
 ·rintro h a ha; obtain ⟨i,hi,rfl⟩:=mem_getD.mp ha; exact h i hi
@[go_sem] theorem ix_nat' {α : Type} [Inhabited α] (l : List α) (k : Nat) : ix l (k : Int)=l.getD k default:=ix_nat l k
@[go_sem] theorem toNat_nat (k : Nat) : ((k : Int)).toNat=k:=Int.toNat_natCast k
@[go_sem] theorem nat_nonneg (k : Nat) : (0≤(k : Int))=True:=by simp
@[go_sem] theorem lt_nat (a b : Nat) : decide ((a : Int)<(b : Int))=decide (a<b):=by simp
theorem wpred {k : Nat} (h : 0<k) (h' : k<1125899906842624) : IntKind.i64.wrap ((k : Int) - 1)=((k - 1 : Nat) : Int):=by
 rw [wrap_i64 (by omega) (by omega)]; omega
def indexOf {α : Type} [DecidableEq α] (l : List α) (n : α) : Int:=match l.idxOf? n with
 | some i=>i
 | none=>-1
theorem indexOf_hit {α : Type} [DecidableEq α] [Inhabited α] {l : List α} {n : α} {k : Nat} (hk : k<l.length) (hall : ∀ i,i<k→l.getD i default≠n) (he : l.getD k default=n) : indexOf l n=k:=by
 have : l.idxOf? n=some k:=by
  rw [List.idxOf?_eq_some_iff];refine ⟨hk,by simpa [List.getD_eq_getElem?_getD,hk] using he,fun j hj=>?_⟩
  have:=hall j hj
  simpa [List.getD_eq_getElem?_getD,show j<l.length by omega] using this
 simp [indexOf,this]
theorem indexOf_miss {α : Type} [DecidableEq α] [Inhabited α] {l : List α} {n : α} (hall : ∀ i,i<l.length→l.getD i default≠n) : indexOf l n=-1:=by
 have : l.idxOf? n=none:=by
  rw [List.idxOf?_eq_none_iff]
  intro h; obtain ⟨i,hi,e⟩:=mem_getD.mp h; exact hall i hi e
 simp [indexOf,this]
end Go.AW
namespace Go.AW
theorem indexOf_bd {α : Type} [DecidableEq α] (l : List α) (n : α) : -1≤indexOf l n∧indexOf l n<l.length:=by
 unfold indexOf
 split
 ·rename_i i h
  rw [List.idxOf?_eq_some_iff] at h
  obtain ⟨hi,_⟩:=h;omega
 ·omega
end Go.AW
namespace Go.AW
theorem bnt (b : Bool) : ((!b)=true)=(b=false):=by simp
theorem bnf (b : Bool) : ((!b)=false)=(b=true):=by simp
theorem dect (p : Prop) : (dec p=true)=p:=propext dec_iff
theorem decf (p : Prop) : (dec p=false)=¬ p:=propext dec_niff
end Go.AW
namespace Go.AW
@[go_sem] theorem eq_nat (a b : Nat) : decide ((a : Int)=(b : Int))=decide (a=b):=by simp [Int.ofNat_inj]
@[go_sem] theorem le_nat (a b : Nat) : decide ((a : Int)≤(b : Int))=decide (a≤b):=by simp
def rc1 (n : Option Nat) (off : Nat) : Option MObj→Option AV
 | some (.cells _ cs _)=>match n with
  | none=>if off<cs.length then some (cs.getD off nv) else none
  | some n=>if off+n≤cs.length then some (.agg ((cs.drop off).take n)) else none
 | _=>none
@[go_sem] theorem rcV_ref (n : Option Nat) (id off : Nat) (H : Heap) : rcV n (some (.ref id off)) H=rc1 n off (H.get id):=by
 unfold rcV rc1
 cases n <;> (dsimp only; split <;> simp_all)
@[go_sem] theorem rc1_1 (off sz f : Nat) (cs : List AV) : rc1 none off (some (.cells sz cs f))=if off<cs.length then some (cs.getD off nv) else none:=rfl
@[go_sem] theorem rc1_n (n off sz f : Nat) (cs : List AV) : rc1 (some n) off (some (.cells sz cs f))=if off+n≤cs.length then some (.agg ((cs.drop off).take n)) else none:=rfl
theorem drop_cons {α : Type} [Inhabited α] (l : List α) {k : Nat} (h : k<l.length) : l.drop k=l.getD k default::l.drop (k+1):=by
 rw [List.drop_eq_getElem_cons h]; simp [List.getD_eq_getElem?_getD,h]
attribute [go_sem] List.drop_succ_cons List.drop_zero List.take_succ_cons List.take_zero List.getD_cons_zero List.getD_cons_succ List.length_cons List.length_nil List.set_cons_succ List.set_cons_zero
end Go.AW
namespace Go.AW
theorem rep_one (z : AV) : ∀ n,rep n [z]=List.replicate n z
 | 0=>rfl
 | n+1=>by simp [rep,rep_one z n,List.replicate_succ]
section
variable {α : Type} {f : α→AV} [One f] {H0 H : Heap} {l : List (Nat × MObj)} {K : Kont}
theorem mks_own {n : Nat} {z : AV} (f : α→AV) (h : Owns H0 H l) (hk : ∀ id H',Owns H0 H' ((id,.cells 1 (([] : List α).map f++List.replicate n z) 0)::l)→K (.buf id n) H') :
  newBuf n 1 (rep n [z]) K H:=by
 rw [rep_one]; exact newBuf_own h hk
theorem st_own {id off m : Nat} {z : AV} {A : List α} (a : α) {v : AV} (h : Owns H0 H ((id,.cells 1 (A.map f++List.replicate (m+1) z) 0)::l)) (hv : v=f a) (ho : off=A.length)
  (hk : ∀ H',Owns H0 H' ((id,.cells 1 ((A++[a]).map f++List.replicate m z) 0)::l)→K nv H') :
  st1 (H.get id) id off 1 [v] K H:=by
 subst hv ho
 have h0:=h.h0;simp only at h0;rw [h0,st1_c];refine ⟨⟨by omega,by simp,rfl,fun c hc=>?_⟩, ?_⟩
 ·rw [List.mem_singleton] at hc; subst hc; exact One.one a
 ·have e : wr (A.map f++List.replicate (m+1) z) A.length [f a]=(A++[a]).map f++List.replicate m z:=by
   simp only [wr,List.replicate_succ,List.map_append,List.map_cons,List.map_nil,List.append_assoc];rw [List.set_append_right _ _ (by simp)]
   simp
  rw [e];exact hk _ (h.put _)
theorem fz_made {t id n : Nat} {z : AV} {A : List α} {F : Env→Heap→Prop} {σ : Env} (h : Owns H0 H ((id,.cells 1 (A.map f++List.replicate 0 z) 0)::l)) (hn : n=A.length)
  (hk : ∀ H',Owns H0 H' l→F ((t,some (mL f A))::σ) H') : fz1 t id n F σ H (H.get id):=by
 rw [List.replicate_zero,List.append_nil] at h;exact fz_own h hn hk
end
theorem take_map_succ {α β : Type} [Inhabited α] (l : List α) (g : α→β) {k : Nat} (h : k<l.length) : (l.take (k+1)).map g=(l.take k).map g++[g (l.getD k default)]:=by
 rw [take_succ' l h]; simp
theorem range_succ_filter (p : Nat→Bool) (k : Nat) : (List.range (k+1)).filter p=(List.range k).filter p++if p k then [k] else []:=by
 rw [List.range_succ,List.filter_append]; simp [List.filter_cons]
end Go.AW
namespace Go.AW
theorem sub_set {H0 H : Heap} {i : Nat} {o : MObj} (h : H0.sub H) (n : H0.get i=none) : H0.sub (H.set i o):=by
 intro j x hx;rw [Heap.get_set_ne]
 ·exact h j x hx
 ·rintro rfl; rw [n] at hx; cases hx
attribute [go_sem] Heap.get_set_same
end Go.AW
namespace Go.AW
@[go_sem] theorem xor_tl (b : Bool) : (true ^^ b)=!b:=by simp
@[go_sem] theorem xor_fl (b : Bool) : (false ^^ b)=b:=by simp
@[go_sem] theorem and_dec (p q : Prop) [Decidable p] [Decidable q] : (decide p && decide q)=dec (p∧q):=by rw [← decide_dec]; simp
end Go.AW
namespace Go.AW
def faultK (P : Prop) (H0 : Heap) : Kont:=fun r H'=>H'=H0∧∃ k a b d : Int,r=.tup [.int .i64 k,.int .i64 a,.int .i64 b,.int .i64 d]∧(k=0↔P)
theorem fault_ret {P : Prop} {H0 H : Heap} {k a b d : Int} (h : k=0↔P) (hs : H0.sub H) : subW (faultK P H0) (.tup [.int .i64 k,.int .i64 a,.int .i64 b,.int .i64 d]) H :=
 ⟨H0,hs,rfl,k,a,b,d,rfl,h⟩
end Go.AW
namespace Go.Shf
open Go.AW
structure Cat where
 objs : Int
 frm : List Int
 to : List Int
 idn : List Int
 comp : List (List Int)
 deriving Inhabited
structure SF where
 shape : Cat
 sizes : List Int
 acts : List (List Int)
 deriving Inhabited
structure Top where
 shape : Cat
 covers : List (List (List Int))
 deriving Inhabited
structure SM where
 src : SF
 tgt : SF
 parts : List (List Int)
 deriving Inhabited
@[go_sem] def Cat.cells (c : Cat) : List AV:=[iI c.objs,iL c.frm,iL c.to,iL c.idn,iLL c.comp]
@[go_sem] def SF.cells (f : SF) : List AV:=[iI f.shape.objs,iL f.shape.frm,iL f.shape.to,iL f.shape.idn,iLL f.shape.comp,iL f.sizes,iLL f.acts]
@[go_sem] def Top.cells (j : Top) : List AV:=[iI j.shape.objs,iL j.shape.frm,iL j.shape.to,iL j.shape.idn,iLL j.shape.comp,iLLL j.covers]
@[go_sem] def SM.cells (m : SM) : List AV:=[iI m.src.shape.objs,iL m.src.shape.frm,iL m.src.shape.to,iL m.src.shape.idn,iLL m.src.shape.comp,iL m.src.sizes,iLL m.src.acts,
 iI m.tgt.shape.objs,iL m.tgt.shape.frm,iL m.tgt.shape.to,iL m.tgt.shape.idn,iLL m.tgt.shape.comp,iL m.tgt.sizes,iLL m.tgt.acts,iLL m.parts]
def cmp : List Int→List Int→Int
 | [],[]=>0
 | [],_::_=>-1
 | _::_,[]=>1
 | a::r,b::s=>if a=b then cmp r s else if a<b then -1 else 1
theorem cmp_zero : ∀ {a b : List Int},cmp a b=0↔a=b
 | [],[]=>by simp [cmp]
 | [],_::_=>by simp [cmp]
 | _::_,[]=>by simp [cmp]
 | a::r,b::s=>by
  unfold cmp
  split
  ·rename_i h; rw [cmp_zero]; simp [h]
  ·rename_i h; split <;> simp [h]
theorem cmp_neg : ∀ (a b : List Int),cmp a b=- cmp b a
 | [],[]=>by simp [cmp]
 | [],_::_=>by simp [cmp]
 | _::_,[]=>by simp [cmp]
 | a::r,b::s=>by
  unfold cmp
  by_cases h : a=b
  ·simp only [h,if_true]; exact cmp_neg r s
  ·have h3 : ¬ b=a:=fun e=>h e.symm;simp only [h,h3,if_false]
   by_cases h2 : a<b
   ·have h4 : ¬ b<a:=by omega
    simp [h2,h4]
   ·have h4 : b<a:=by omega
    simp [h2,h4]
theorem cmp_trans : ∀ {a b c : List Int},cmp a b<0→cmp b c<0→cmp a c<0
 | [],[],_,h,_=>by simp [cmp] at h
 | [],_::_,[],_,h=>by simp [cmp] at h
 | [],_::_,_::_,_,_=>by simp [cmp]
 | _::_,[],_,h,_=>by simp [cmp] at h
 | _::_,_::_,[],_,h=>by simp [cmp] at h
 | a::r,b::s,c::t,h,k=>by
  unfold cmp at h k ⊢
  by_cases e1 : a=b
  ·by_cases e2 : b=c
   ·simp only [e1,e2,if_true] at h k ⊢; exact cmp_trans h k
   ·subst e1; rw [if_neg e2] at k ⊢; exact k
  ·by_cases e2 : b=c
   ·subst e2; rw [if_neg e1] at h ⊢; exact h
   ·rw [if_neg e1] at h; rw [if_neg e2] at k
    split at h <;> split at k <;> first | omega | (rw [if_neg (by omega),if_pos (by omega)]; decide)
def Rising (l : List Int) : Prop:=∀ i,0<i→i<l.length→l.getD (i - 1) default<l.getD i default
def outs (c : Cat) (x : Int) : List Int:=((List.range c.frm.length).filter fun i=>c.frm.getD i default=x).map Int.ofNat
end Go.Shf
namespace Go.Shf
open Go.AW
structure Cat.Shape (c : Cat) : Prop where
 o : 0≤c.objs∧c.objs≤8
 m : c.frm.length≤40
 frm : ∀ y,y∈c.frm→0≤y∧y<c.objs
 tol : c.to.length=c.frm.length
 to : ∀ y,y∈c.to→0≤y∧y<c.objs
 cl : c.comp.length=c.frm.length
 il : (c.idn.length : Int)=c.objs
 idn : ∀ y,y∈c.idn→0≤y∧y<(c.frm.length : Int)
 ide : ∀ x : Nat,x<c.idn.length→ix c.frm (c.idn.getD x default)=x∧ix c.to (c.idn.getD x default)=x
 row : ∀ f : Nat,f<c.frm.length→(c.comp.getD f default).length=c.frm.length
 non : ∀ f g : Nat,f<c.frm.length→g<c.frm.length→c.to.getD f default≠c.frm.getD g default→(c.comp.getD f default).getD g default=-1
 yes : ∀ f g : Nat,f<c.frm.length→g<c.frm.length→c.to.getD f default=c.frm.getD g default →
  (0≤(c.comp.getD f default).getD g default∧(c.comp.getD f default).getD g default<c.frm.length) ∧
  ix c.frm ((c.comp.getD f default).getD g default)=c.frm.getD f default∧ix c.to ((c.comp.getD f default).getD g default)=c.to.getD g default
structure Cat.Laws (c : Cat) : Prop where
 idl : ∀ f : Nat,f<c.frm.length→ix (ix c.comp (ix c.idn (c.frm.getD f default))) f=f∧ix (c.comp.getD f default) (ix c.idn (c.to.getD f default))=f
 assoc : ∀ f g h : Nat,f<c.frm.length→g<c.frm.length→h<c.frm.length→c.to.getD f default=c.frm.getD g default→c.to.getD g default=c.frm.getD h default →
  ix (ix c.comp ((c.comp.getD f default).getD g default)) h=ix (c.comp.getD f default) ((c.comp.getD g default).getD h default)
def Cat.Is (c : Cat) : Prop:=c.Shape∧c.Laws
end Go.Shf
namespace Go.Shf
open Go.AW
theorem Cat.Shape.frm' {c : Cat} (s : c.Shape) {f : Nat} (h : f<c.frm.length) : 0≤c.frm.getD f default∧(c.frm.getD f default).toNat<c.idn.length:=by
 have:=s.frm _ (mem_getD.mpr ⟨f,h,rfl⟩); have:=s.il; omega
theorem Cat.Shape.to' {c : Cat} (s : c.Shape) {f : Nat} (h : f<c.frm.length) : 0≤c.to.getD f default∧(c.to.getD f default).toNat<c.idn.length:=by
 have:=s.to _ (mem_getD.mpr ⟨f,by have:=s.tol; omega,rfl⟩); have:=s.il; omega
theorem Cat.Shape.id' {c : Cat} (s : c.Shape) {x : Int} (h : x.toNat<c.idn.length) : 0≤ix c.idn x∧(ix c.idn x).toNat<c.frm.length:=by
 have:=s.idn _ (ix_mem h); omega
theorem Cat.Shape.row' {c : Cat} (s : c.Shape) {a : Int} (h : a.toNat<c.frm.length) : (ix c.comp a).length=c.frm.length:=s.row _ h
theorem Cat.Shape.pos {c : Cat} (s : c.Shape) {f g : Nat} (hf : f<c.frm.length) (hg : g<c.frm.length) : (0≤(c.comp.getD f default).getD g default)↔c.to.getD f default=c.frm.getD g default:=by
 constructor
 ·intro h; apply Classical.byContradiction; intro e; have:=s.non f g hf hg e; omega
 ·intro e; exact (s.yes f g hf hg e).1.1
theorem Cat.Shape.lt {c : Cat} (s : c.Shape) {f g : Nat} (hf : f<c.frm.length) (hg : g<c.frm.length) : ((c.comp.getD f default).getD g default).toNat<c.frm.length:=by
 by_cases e : c.to.getD f default=c.frm.getD g default
 ·have:=(s.yes f g hf hg e).1; omega
 ·have:=s.non f g hf hg e; omega
def Cat.IdAt (c : Cat) (f : Nat) : Prop:=ix (ix c.comp (ix c.idn (c.frm.getD f default))) f=f∧ix (c.comp.getD f default) (ix c.idn (c.to.getD f default))=f
def Cat.AssocAt (c : Cat) (f g h : Nat) : Prop:=c.to.getD f default=c.frm.getD g default→c.to.getD g default=c.frm.getD h default →
  ix (ix c.comp ((c.comp.getD f default).getD g default)) h=ix (c.comp.getD f default) ((c.comp.getD g default).getD h default)
end Go.Shf
namespace Go.Shf
open Go.AW
structure Cat.Sieve (c : Cat) (x : Int) (l : List Int) : Prop where
 ris : Rising l
 ran : ∀ y,y∈l→0≤y∧y<(c.frm.length : Int)
 src : ∀ y,y∈l→ix c.frm y=x
 cls : ∀ a,a∈l→∀ b : Nat,b<c.frm.length→ix c.to a=c.frm.getD b default→(ix c.comp a).getD b default∈l
theorem mem_outs {c : Cat} {x y : Int} : y∈outs c x↔0≤y∧y.toNat<c.frm.length∧ix c.frm y=x:=by
 simp only [outs,List.mem_map,List.mem_filter,List.mem_range,decide_eq_true_eq]
 constructor
 ·rintro ⟨b,⟨h1,h2⟩,rfl⟩; exact ⟨Int.natCast_nonneg b,by simpa using h1,by simpa [ix] using h2⟩
 ·rintro ⟨h1,h2,h3⟩; exact ⟨y.toNat,⟨h2,h3⟩,Int.toNat_of_nonneg h1⟩
end Go.Shf
namespace Go.Shf
open Go.AW
structure Top.Form (j : Top) : Prop where
 is : j.shape.Is
 len : (j.covers.length : Int)=j.shape.objs
 sv : ∀ x : Nat,x<j.covers.length→∀ k : Nat,k<(j.covers.getD x default).length→j.shape.Sieve x ((j.covers.getD x default).getD k default)
 ord : ∀ x : Nat,x<j.covers.length→∀ k : Nat,k+1<(j.covers.getD x default).length →
  cmp ((j.covers.getD x default).getD k default) ((j.covers.getD x default).getD (k+1) default)<0
end Go.Shf
namespace Go.Shf
open Go.AW
structure SF.Shape (f : SF) : Prop where
 is : f.shape.Is
 sl : (f.sizes.length : Int)=f.shape.objs
 al : f.acts.length=f.shape.frm.length
 sz : ∀ y,y∈f.sizes→0≤y∧y<17
 act : ∀ a : Nat,a<f.acts.length→((f.acts.getD a default).length : Int)=ix f.sizes (f.shape.frm.getD a default) ∧
  ∀ y,y∈f.acts.getD a default→0≤y∧y<ix f.sizes (f.shape.to.getD a default)
end Go.Shf
namespace Go.Shf
open Go.AW
structure SF.Laws (f : SF) : Prop where
 idl : ∀ x : Nat,x<f.shape.idn.length→∀ e : Nat,e<(ix f.acts (f.shape.idn.getD x default)).length→(ix f.acts (f.shape.idn.getD x default)).getD e default=e
 comp : ∀ a b : Nat,a<f.shape.frm.length→b<f.shape.frm.length→f.shape.to.getD a default=f.shape.frm.getD b default→∀ e : Nat,e<(f.acts.getD a default).length →
  (ix f.acts ((f.shape.comp.getD a default).getD b default)).getD e default=ix (f.acts.getD b default) ((f.acts.getD a default).getD e default)
def SF.CompAt (f : SF) (a b : Nat) : Prop:=f.shape.to.getD a default=f.shape.frm.getD b default→∀ e : Nat,e<(f.acts.getD a default).length →
  (ix f.acts ((f.shape.comp.getD a default).getD b default)).getD e default=ix (f.acts.getD b default) ((f.acts.getD a default).getD e default)
def SF.Is (f : SF) : Prop:=f.Shape∧f.Laws
theorem SF.Shape.actLen {f : SF} (s : f.Shape) {a : Int} (h : a.toNat<f.shape.frm.length) : ((ix f.acts a).length : Int)=ix f.sizes (ix f.shape.frm a):=(s.act a.toNat (by rw [s.al]; exact h)).1
theorem SF.Shape.idLen {f : SF} (s : f.Shape) {x : Nat} (h : x<f.shape.idn.length) : ((ix f.acts (f.shape.idn.getD x default)).length : Int)=f.sizes.getD x default:=by
 have h1:=s.is.1.idn _ (mem_getD.mpr ⟨x,h,rfl⟩);rw [s.actLen (by omega),(s.is.1.ide x h).1,ix_nat]
end Go.Shf
namespace Go.Shf
open Go.AW
def nats (p : Nat→Bool) (n : Nat) : List Int:=((List.range n).filter p).map Int.ofNat
theorem mem_nats {p : Nat→Bool} {n : Nat} {y : Int} : y∈nats p n↔0≤y∧y.toNat<n∧p y.toNat=true:=by
 simp only [nats,List.mem_map,List.mem_filter,List.mem_range]
 constructor
 ·rintro ⟨b,⟨h1,h2⟩,rfl⟩; exact ⟨Int.natCast_nonneg b,by simpa using h1,by simpa using h2⟩
 ·rintro ⟨h1,h2,h3⟩; exact ⟨y.toNat,⟨h2,h3⟩,Int.toNat_of_nonneg h1⟩
theorem nats_succ (p : Nat→Bool) (n : Nat) : nats p (n+1)=nats p n++if p n then [(n : Int)] else []:=by
 rw [nats,range_succ_filter,List.map_append]; congr 1; split <;> rfl
theorem nats_t {p : Nat→Bool} {n : Nat} (h : p n=true) : nats p (n+1)=nats p n++[(n : Int)]:=by rw [nats_succ,if_pos h]
theorem nats_f {p : Nat→Bool} {n : Nat} (h : p n=false) : nats p (n+1)=nats p n:=by rw [nats_succ,if_neg (by simp [h]),List.append_nil]
@[simp] theorem nats_0 (p : Nat→Bool) : nats p 0=[]:=rfl
theorem nats_len (p : Nat→Bool) (n : Nat) : (nats p n).length≤n:=by
 rw [nats,List.length_map]; exact Nat.le_trans (List.length_filter_le _ _) (by simp)
theorem outs_nats (c : Cat) (x : Int) : outs c x=nats (fun i=>c.frm.getD i default=x) c.frm.length:=rfl
theorem rising_pw {l : List Int} : Rising l↔l.Pairwise (·<·):=by
 constructor
 ·intro h;rw [List.pairwise_iff_getElem]
  intro i j hi hj hij
  have key : ∀ d i,i+d<l.length→0<d→l.getD i default<l.getD (i+d) default:=by
   intro d
   induction d with
   | zero=>intro i _ h; omega
   | succ d ih =>
    intro i hi _
    have h1:=h (i+d+1) (by omega) hi;simp only [Nat.add_sub_cancel] at h1
    by_cases hd : d=0
    ·subst hd; exact h1
    ·have:=ih i (by omega) (by omega); exact Int.lt_trans this h1
  have:=key (j - i) i (by omega) (by omega);rw [show i+(j - i)=j by omega] at this
  simpa [List.getD_eq_getElem?_getD,hi,hj] using this
 ·intro h i h0 hi;rw [List.pairwise_iff_getElem] at h
  have:=h (i - 1) i (by omega) hi (by omega)
  simpa [List.getD_eq_getElem?_getD,hi,show i - 1<l.length by omega] using this
theorem nats_rising (p : Nat→Bool) (n : Nat) : Rising (nats p n):=by
 rw [rising_pw,nats,List.pairwise_map];exact (List.pairwise_lt_range.filter _).imp fun {a b} h=>by simpa using h
theorem rising_ext {l r : List Int} (hl : Rising l) (hr : Rising r) (h : ∀ y,y∈l↔y∈r) : l=r:=by
 rw [rising_pw] at hl hr;refine List.Perm.eq_of_pairwise (le:=(·<·)) (fun a b _ _ h1 h2=>by omega) hl hr ?_;refine (List.perm_ext_iff_of_nodup ?_ ?_).mpr h
 ·exact hl.imp fun {a b} h=>by omega
 ·exact hr.imp fun {a b} h=>by omega
def pullP (c : Cat) (a : Int) (s : List Int) (b : Nat) : Bool:=decide (ix c.to a=c.frm.getD b default) && decide ((ix c.comp a).getD b default∈s)
def pullS (c : Cat) (a : Int) (s : List Int) : List Int:=nats (pullP c a s) c.frm.length
theorem pullP_t {c : Cat} {a : Int} {s : List Int} {b : Nat} (h1 : ix c.to a=c.frm.getD b default) (h2 : (ix c.comp a).getD b default∈s) : pullP c a s b=true:=by simp only [pullP,Bool.and_eq_true,decide_eq_true_eq]; exact ⟨h1,h2⟩
theorem pullP_f {c : Cat} {a : Int} {s : List Int} {b : Nat} (h : ¬ (ix c.to a=c.frm.getD b default∧(ix c.comp a).getD b default∈s)) : pullP c a s b=false:=by
 cases e : pullP c a s b with
 | false=>rfl
 | true=>simp only [pullP,Bool.and_eq_true,decide_eq_true_eq] at e; exact absurd e h
noncomputable def closeP (c : Cat) (l : List Int) (h : Nat) : Bool:=dec (∃ a,a∈l∧∃ b : Nat,b<c.frm.length∧ix c.to a=c.frm.getD b default∧(ix c.comp a).getD b default=(h : Int))
noncomputable def closeS (c : Cat) (l : List Int) : List Int:=nats (closeP c l) c.frm.length
section
variable {c : Cat}
theorem mem_pullS {a : Int} {s : List Int} {y : Int} : y∈pullS c a s↔(0≤y∧y.toNat<c.frm.length)∧ix c.to a=ix c.frm y∧ix (ix c.comp a) y∈s:=by
 simp only [pullS,pullP,mem_nats,Bool.and_eq_true,decide_eq_true_eq,and_assoc]; exact Iff.rfl
theorem mem_closeS {l : List Int} {y : Int} : y∈closeS c l↔(0≤y∧y.toNat<c.frm.length)∧∃ a,a∈l∧∃ b : Int,(0≤b∧b.toNat<c.frm.length)∧ix c.to a=ix c.frm b∧ix (ix c.comp a) b=y:=by
 simp only [closeS,closeP,mem_nats,dec_iff,and_assoc]
 constructor
 ·rintro ⟨h1,h2,a,ha,b,hb,e1,e2⟩;rw [Int.toNat_of_nonneg h1] at e2;exact ⟨h1,h2,a,ha,b,Int.natCast_nonneg b,by simpa using hb,by simpa [ix] using e1,by simpa [ix] using e2⟩
 ·rintro ⟨h1,h2,a,ha,b,hb0,hb,e1,e2⟩;refine ⟨h1,h2,a,ha,b.toNat,hb,e1, ?_⟩;rw [Int.toNat_of_nonneg h1]; exact e2
theorem Cat.Shape.comp (s : c.Shape) {a b : Int} (ha : 0≤a∧a.toNat<c.frm.length) (hb : 0≤b∧b.toNat<c.frm.length) (e : ix c.to a=ix c.frm b) :
  (0≤ix (ix c.comp a) b∧(ix (ix c.comp a) b).toNat<c.frm.length)∧ix c.frm (ix (ix c.comp a) b)=ix c.frm a∧ix c.to (ix (ix c.comp a) b)=ix c.to b:=by
 have:=s.yes a.toNat b.toNat ha.2 hb.2 e;refine ⟨⟨this.1.1, ?_⟩,this.2⟩
 have:=this.1; simp only [ix]; omega
theorem Cat.Is.assoc (h : c.Is) {f g k : Int} (hf : 0≤f∧f.toNat<c.frm.length) (hg : 0≤g∧g.toNat<c.frm.length) (hk : 0≤k∧k.toNat<c.frm.length)
  (e1 : ix c.to f=ix c.frm g) (e2 : ix c.to g=ix c.frm k) : ix (ix c.comp (ix (ix c.comp f) g)) k=ix (ix c.comp f) (ix (ix c.comp g) k):=by
 have:=h.2.assoc f.toNat g.toNat k.toNat hf.2 hg.2 hk.2 e1 e2
 simpa only [ix,Int.toNat_natCast] using this
theorem Cat.Shape.toObj (s : c.Shape) {f : Int} (hf : f.toNat<c.frm.length) : 0≤ix c.to f∧ix c.to f<c.objs:=s.to _ (ix_mem (by rw [s.tol]; exact hf))
theorem Cat.Shape.frmObj (s : c.Shape) {f : Int} (hf : f.toNat<c.frm.length) : 0≤ix c.frm f∧ix c.frm f<c.objs:=s.frm _ (ix_mem hf)
theorem Cat.Shape.idArr (s : c.Shape) {x : Int} (hx : 0≤x∧x<c.objs) : (0≤ix c.idn x∧(ix c.idn x).toNat<c.frm.length)∧ix c.frm (ix c.idn x)=x∧ix c.to (ix c.idn x)=x:=by
 have hl:=s.il
 have h1:=s.id' (x:=x) (by omega)
 have h2:=s.ide x.toNat (by omega);rw [Int.toNat_of_nonneg hx.1] at h2;exact ⟨h1,h2⟩
theorem Cat.Is.idr (h : c.Is) {f : Int} (hf : 0≤f∧f.toNat<c.frm.length) : ix (ix c.comp f) (ix c.idn (ix c.to f))=f:=by
 have:=(h.2.idl f.toNat hf.2).2;rw [Int.toNat_of_nonneg hf.1] at this; exact this
theorem Cat.Is.idl (h : c.Is) {f : Int} (hf : 0≤f∧f.toNat<c.frm.length) : ix (ix c.comp (ix c.idn (ix c.frm f))) f=f:=by
 have:=(h.2.idl f.toNat hf.2).1;rw [Int.toNat_of_nonneg hf.1] at this; exact this
theorem Cat.Sieve.arr {x : Int} {s : List Int} (h : c.Sieve x s) {a : Int} (ha : a∈s) : (0≤a∧a.toNat<c.frm.length)∧ix c.frm a=x:=by
 have:=h.ran a ha;exact ⟨⟨this.1,by omega⟩,h.src a ha⟩
theorem Cat.Sieve.cls' {x : Int} {s : List Int} (h : c.Sieve x s) {a b : Int} (ha : a∈s) (hb : 0≤b∧b.toNat<c.frm.length) (e : ix c.to a=ix c.frm b) : ix (ix c.comp a) b∈s :=
 h.cls a ha b.toNat hb.2 e
theorem Cat.Sieve.mk' {x : Int} {s : List Int} (hr : Rising s) (ha : ∀ a,a∈s→(0≤a∧a.toNat<c.frm.length)∧ix c.frm a=x)
  (hc : ∀ a b,a∈s→(0≤b∧b.toNat<c.frm.length)→ix c.to a=ix c.frm b→ix (ix c.comp a) b∈s) : c.Sieve x s :=
 ⟨hr,fun y hy=>⟨(ha y hy).1.1,by have:=(ha y hy).1; omega⟩,fun y hy=>(ha y hy).2,fun a hy b hb e=>by
  have:=hc a (b : Int) hy ⟨Int.natCast_nonneg b,by simpa using hb⟩ (by simpa [ix] using e)
  simpa [ix] using this⟩
theorem Cat.Sieve.ext {x : Int} {s t : List Int} (hs : c.Sieve x s) (ht : c.Sieve x t) (h : ∀ y,y∈s↔y∈t) : s=t:=rising_ext hs.ris ht.ris h
theorem outs_sieve (s : c.Shape) (x : Int) : c.Sieve x (outs c x) :=
 .mk' (outs_nats c x ▸ nats_rising _ _) (fun a ha=>by have:=mem_outs.mp ha; exact ⟨⟨this.1,this.2.1⟩,this.2.2⟩) fun a b ha hb e=>by
  have h:=mem_outs.mp ha
  have:=s.comp ⟨h.1,h.2.1⟩ hb e;exact mem_outs.mpr ⟨this.1.1,this.1.2,this.2.1.trans h.2.2⟩
theorem nil_sieve (x : Int) : c.Sieve x []:=.mk' (fun i _ h=>by simp at h) (fun a h=>by simp at h) fun a b h=>by simp at h
theorem pullS_sieve (h : c.Is) {a : Int} {s : List Int} (ha : 0≤a∧a.toNat<c.frm.length) (hs : c.Sieve (ix c.frm a) s) : c.Sieve (ix c.to a) (pullS c a s) :=
 .mk' (nats_rising _ _) (fun b hb=>by have:=mem_pullS.mp hb; exact ⟨this.1,this.2.1.symm⟩) fun b d hb hd e=>by
  have hb:=mem_pullS.mp hb
  have h1:=h.1.comp hb.1 hd e;refine mem_pullS.mpr ⟨h1.1,by rw [h1.2.1]; exact hb.2.1, ?_⟩;rw [← h.assoc ha hb.1 hd hb.2.1 e];exact hs.cls' hb.2.2 hd (by rw [(h.1.comp ha hb.1 hb.2.1).2.2]; exact e)
theorem closeS_sieve (h : c.Is) {x : Int} {l : List Int} (hl : ∀ a,a∈l→(0≤a∧a.toNat<c.frm.length)∧ix c.frm a=x) : c.Sieve x (closeS c l) :=
 .mk' (nats_rising _ _) (fun y hy=>by
  obtain ⟨h1,a,ha,b,hb,e1,e2⟩:=mem_closeS.mp hy;refine ⟨h1, ?_⟩;rw [← e2,(h.1.comp (hl a ha).1 hb e1).2.1]; exact (hl a ha).2) fun y d hy hd e=>by
  obtain ⟨h1,a,ha,b,hb,e1,e2⟩:=mem_closeS.mp hy
  have k1:=h.1.comp (hl a ha).1 hb e1
  have k2 : ix c.to b=ix c.frm d:=by rw [← k1.2.2,e2]; exact e
  have k3:=h.1.comp hb hd k2;refine mem_closeS.mpr ⟨(h.1.comp h1 hd e).1,a,ha,_,k3.1,by rw [k3.2.1]; exact e1, ?_⟩;rw [← h.assoc (hl a ha).1 hb hd e1 k2,e2]
theorem sub_closeS (h : c.Is) {l : List Int} {a : Int} (ha : a∈l) (hl : 0≤a∧a.toNat<c.frm.length) : a∈closeS c l:=by
 have h1:=h.1.idArr (h.1.toObj hl.2);exact mem_closeS.mpr ⟨hl,a,ha,_,h1.1,h1.2.1.symm,h.idr hl⟩
theorem closeS_sub {x : Int} {l s : List Int} (hs : c.Sieve x s) (h : ∀ a,a∈l→a∈s) {y : Int} (hy : y∈closeS c l) : y∈s:=by
 obtain ⟨_,a,ha,b,hb,e1,e2⟩:=mem_closeS.mp hy;rw [← e2]; exact hs.cls' (h a ha) hb e1
theorem closeS_self (h : c.Is) {x : Int} {s l : List Int} (hs : c.Sieve x s) (h1 : ∀ a,a∈l↔a∈s) : closeS c l=s:=by
 have hl : ∀ a,a∈l→(0≤a∧a.toNat<c.frm.length)∧ix c.frm a=x:=fun a ha=>hs.arr ((h1 a).mp ha);refine (closeS_sieve h hl).ext hs fun y=>⟨closeS_sub hs fun a ha=>(h1 a).mp ha,fun hy=>sub_closeS h ((h1 y).mpr hy) (hs.arr hy).1⟩
theorem all_sieves (h : c.Is) {x : Int} {L : List (List Int)} (h0 : []∈L) (hs : ∀ t,t∈L→c.Sieve x t) (hc : ∀ t,t∈L→∀ a,a∈outs c x→closeS c (t++[a])∈L) :
  ∀ s,c.Sieve x s→s∈L:=by
 intro s hS
 have key : ∀ n t,t∈L→(∀ a,a∈t→a∈s)→(s.filter fun a=>decide (a ∉ t)).length=n→s∈L:=by
  intro n
  induction n using Nat.strongRecOn with
  | _ n ih =>
   intro t ht hsub hn
   by_cases he : ∃ a,a∈s∧a ∉ t
   ·obtain ⟨a,ha,hat⟩:=he
    have hao:=hS.arr ha
    have hl : ∀ b,b∈t++[a]→(0≤b∧b.toNat<c.frm.length)∧ix c.frm b=x:=by
     intro b hb
     rcases List.mem_append.mp hb with hb | hb
     ·exact (hs t ht).arr hb
     ·rw [List.mem_singleton] at hb; subst hb; exact hao
    have hin:=hc t ht a (mem_outs.mpr ⟨hao.1.1,hao.1.2,hao.2⟩);refine ih _ ?_ _ hin (fun b hb=>closeS_sub hS (fun b hb=>?_) hb) rfl
    ·rw [← hn]
     have hsup : ∀ b,b∈t→b∈closeS c (t++[a]):=fun b hb=>sub_closeS h (by simp [hb]) (hl b (by simp [hb])).1
     have ha2 : a∈closeS c (t++[a]):=sub_closeS h (by simp) hao.1;rw [← List.countP_eq_length_filter,← List.countP_eq_length_filter]
     have h1 : List.countP (fun b=>decide (b ∉ closeS c (t++[a]))) s+1≤List.countP (fun b=>decide (b ∉ t)) s:=by
      obtain ⟨s1,s2,rfl⟩:=List.append_of_mem ha;simp only [List.countP_append,List.countP_cons]
      have i1 : List.countP (fun b=>decide (b ∉ closeS c (t++[a]))) s1≤List.countP (fun b=>decide (b ∉ t)) s1 :=
       List.countP_mono_left fun b _ hb=>by simp only [decide_eq_true_eq] at hb ⊢; exact fun h=>hb (hsup b h)
      have i2 : List.countP (fun b=>decide (b ∉ closeS c (t++[a]))) s2≤List.countP (fun b=>decide (b ∉ t)) s2 :=
       List.countP_mono_left fun b _ hb=>by simp only [decide_eq_true_eq] at hb ⊢; exact fun h=>hb (hsup b h)
      simp only [ha2,hat,not_true_eq_false,decide_false,not_false_eq_true,decide_true,if_true,Bool.false_eq_true,if_false];omega
     omega
    ·rcases List.mem_append.mp hb with hb | hb
     ·exact hsub b hb
     ·rw [List.mem_singleton] at hb; subst hb; exact ha
   ·have : t=s:=(hs t ht).ext hS fun y=>⟨hsub y,fun hy=>Classical.byContradiction fun hn=>he ⟨y,hy,hn⟩⟩;rw [← this]; exact ht
 exact key _ [] h0 (fun a ha=>by simp at ha) rfl
structure IsAll (c : Cat) (x : Int) (L : List (List Int)) : Prop where
 srt : L.Pairwise fun s t=>cmp s t<0
 mem : ∀ s,s∈L↔c.Sieve x s
theorem IsAll.uniq {x : Int} {L M : List (List Int)} (h : IsAll c x L) (k : IsAll c x M) : L=M:=by
 refine List.Perm.eq_of_pairwise (le:=fun s t=>cmp s t<0) (fun a b _ _ h1 h2=>?_) h.srt k.srt ?_
 ·have:=cmp_neg a b; omega
 ·refine (List.perm_ext_iff_of_nodup ?_ ?_).mpr fun s=>(h.mem s).trans (k.mem s).symm
  ·exact h.srt.imp fun {a b} h e=>by rw [cmp_zero.mpr e] at h; omega
  ·exact k.srt.imp fun {a b} h e=>by rw [cmp_zero.mpr e] at h; omega
theorem IsAll.nodup {x : Int} {L : List (List Int)} (h : IsAll c x L) : L.Nodup:=h.srt.imp fun {a b} h e=>by rw [cmp_zero.mpr e] at h; omega
def Few (c : Cat) (x : Int) : Prop:=∃ L,IsAll c x L∧L.length≤16
theorem Few.no {x : Int} {M : List (List Int)} (hn : M.Nodup) (hm : ∀ s,s∈M→c.Sieve x s) (hl : 16<M.length) : ¬ Few c x:=by
 rintro ⟨L,hL,h⟩
 have:=List.Nodup.length_le_of_subset hn fun s hs=>(hL.mem s).mpr (hm s hs);omega
open Classical in
noncomputable def allS (c : Cat) (x : Int) : List (List Int):=if h : Few c x then Classical.choose h else []
theorem allS_is {x : Int} (h : Few c x) : IsAll c x (allS c x)∧(allS c x).length≤16:=by
 rw [allS,dif_pos h]; exact Classical.choose_spec h
theorem allS_eq {x : Int} {L : List (List Int)} (h : IsAll c x L) (hl : L.length≤16) : Few c x∧allS c x=L :=
 have hf : Few c x:=⟨L,h,hl⟩
 ⟨hf,(allS_is hf).1.uniq h⟩
end
end Go.Shf
namespace Go.Shf
open Go.AW
def imgs (f : SF) (s : List Int) (e : Int) : List Int:=s.map fun a=>ix (ix f.acts a) e
def glueP (f : SF) (s t : List Int) (e : Nat) : Bool:=decide (imgs f s e=t)
def glue (f : SF) (x : Int) (s t : List Int) : List Int:=nats (glueP f s t) (ix f.sizes x).toNat
end Go.Shf
namespace Go.Shf
open Go.AW
def CloseR (c : Cat) (l : List Int) (i b h : Nat) : Prop:=ix c.to (l.getD i default)=c.frm.getD b default∧(ix c.comp (l.getD i default)).getD b default=(h : Int)
def CloseI (c : Cat) (l : List Int) (k b' : Nat) (A : List Bool) : Prop:=A.length=c.frm.length ∧
 ∀ h,h<c.frm.length→(A.getD h default=true↔(∃ i,i<k∧∃ b,b<c.frm.length∧CloseR c l i b h)∨∃ b,b<b'∧CloseR c l k b h)
theorem CloseI.zero (c : Cat) (l : List Int) : CloseI c l 0 0 (List.replicate c.frm.length false):=by
 refine ⟨by simp,fun h hh=>?_⟩;simp only [List.getD_eq_getElem?_getD,List.getElem?_replicate,hh,if_true,Option.getD_some]
 constructor
 ·intro e; cases e
 ·rintro (⟨i,hi,_⟩ | ⟨b,hb,_⟩) <;> omega
theorem CloseI.row {c : Cat} {l : List Int} {k : Nat} {A : List Bool} (h : CloseI c l k c.frm.length A) : CloseI c l (k+1) 0 A:=by
 refine ⟨h.1,fun x hx=>(h.2 x hx).trans ⟨?_, ?_⟩⟩
 ·rintro (⟨i,hi,e⟩ | ⟨b,hb,e⟩)
  ·exact .inl ⟨i,by omega,e⟩
  ·exact .inl ⟨k,by omega,b,hb,e⟩
 ·rintro (⟨i,hi,b,hb,e⟩ | ⟨b,hb,e⟩)
  ·by_cases e2 : i=k
   ·subst e2; exact .inr ⟨b,hb,e⟩
   ·exact .inl ⟨i,by omega,b,hb,e⟩
  ·omega
theorem CloseI.skip {c : Cat} {l : List Int} {k b' : Nat} {A : List Bool} (h : CloseI c l k b' A) (hn : ¬ ix c.to (l.getD k default)=c.frm.getD b' default) : CloseI c l k (b'+1) A:=by
 refine ⟨h.1,fun x hx=>(h.2 x hx).trans (or_congr_right ⟨?_, ?_⟩)⟩
 ·rintro ⟨b,hb,e⟩; exact ⟨b,by omega,e⟩
 ·rintro ⟨b,hb,e⟩
  by_cases e2 : b=b'
  ·subst e2; exact absurd e.1 hn
  ·exact ⟨b,by omega,e⟩
theorem getD_set {α : Type} (l : List α) (i j : Nat) (a d : α) : (l.set i a).getD j d=if i=j∧j<l.length then a else l.getD j d:=by
 rw [List.getD_eq_getElem?_getD,List.getElem?_set,List.getD_eq_getElem?_getD]
 by_cases h : i=j
 ·subst h
  by_cases h2 : i<l.length
  ·simp [h2]
  ·simp [h2,List.getElem?_eq_none (show l.length≤i by omega)]
 ·simp [h]
theorem CloseI.set {c : Cat} {l : List Int} {k b' : Nat} {A : List Bool} (h : CloseI c l k b' A) (he : ix c.to (l.getD k default)=c.frm.getD b' default)
  (hr : 0≤(ix c.comp (l.getD k default)).getD b' default) : CloseI c l k (b'+1) (A.set ((ix c.comp (l.getD k default)).getD b' default).toNat true):=by
 refine ⟨by rw [List.length_set]; exact h.1,fun x hx=>?_⟩
 by_cases e : ((ix c.comp (l.getD k default)).getD b' default).toNat=x
 ·have : (A.set ((ix c.comp (l.getD k default)).getD b' default).toNat true).getD x default=true:=by
   rw [getD_set,if_pos ⟨e,by rw [h.1]; exact hx⟩]
  rw [this];exact ⟨fun _=>.inr ⟨b',by omega,he,by omega⟩,fun _=>rfl⟩
 ·have : (A.set ((ix c.comp (l.getD k default)).getD b' default).toNat true).getD x default=A.getD x default:=by
   rw [getD_set,if_neg fun h=>e h.1]
  rw [this,h.2 x hx];refine or_congr_right ⟨?_, ?_⟩
  ·rintro ⟨b,hb,e⟩; exact ⟨b,by omega,e⟩
  ·rintro ⟨b,hb,e3⟩
   by_cases e2 : b=b'
   ·subst e2; exact absurd (by have:=e3.2; omega) e
   ·exact ⟨b,by omega,e3⟩
theorem CloseI.done {c : Cat} {l : List Int} {k : Nat} {A : List Bool} (h : CloseI c l k 0 A) (hk : k=l.length) : nats (fun i=>A.getD i default) A.length=closeS c l:=by
 subst hk;rw [closeS,h.1,nats,nats]
 congr 1
 refine List.filter_congr fun x hx=>?_;rw [List.mem_range] at hx;rw [Bool.eq_iff_iff,h.2 x hx,closeP,dec_iff]
 constructor
 ·rintro (⟨i,hi,b,hb,e⟩ | ⟨b,hb,e⟩)
  ·exact ⟨_,mem_getD.mpr ⟨i,hi,rfl⟩,b,hb,e⟩
  ·omega
 ·rintro ⟨a,ha,b,hb,e⟩
  obtain ⟨i,hi,rfl⟩:=mem_getD.mp ha;exact .inl ⟨i,hi,b,hb,e⟩
def CloseO (c : Cat) (l : List Int) (k j : Nat) (A : List Bool) : Prop:=A.length=c.frm.length ∧
 ∀ h,h<c.frm.length→(A.getD h default=true↔(∃ i,i<k∧∃ b,b<c.frm.length∧CloseR c l i b h) ∨
  ∃ i,i<j∧i<(outs c (ix c.to (l.getD k default))).length∧ix (ix c.comp (l.getD k default)) ((outs c (ix c.to (l.getD k default))).getD i default)=(h : Int))
theorem CloseI.out {c : Cat} {l : List Int} {k : Nat} {A : List Bool} (h : CloseI c l k 0 A) : CloseO c l k 0 A :=
 ⟨h.1,fun x hx=>(h.2 x hx).trans (or_congr_right ⟨fun ⟨b,hb,_⟩=>by omega,fun ⟨b,hb,_⟩=>by omega⟩)⟩
theorem CloseO.row {c : Cat} {l : List Int} {k j : Nat} {A : List Bool} (h : CloseO c l k j A) (hj : (outs c (ix c.to (l.getD k default))).length≤j) : CloseI c l (k+1) 0 A:=by
 refine CloseI.row ⟨h.1,fun x hx=>(h.2 x hx).trans (or_congr_right ⟨?_, ?_⟩)⟩
 ·rintro ⟨i,_,hi,e⟩
  have hm : (outs c (ix c.to (l.getD k default))).getD i default∈outs c (ix c.to (l.getD k default)):=mem_getD.mpr ⟨i,hi,rfl⟩
  have hm:=mem_outs.mp hm;exact ⟨_,hm.2.1,hm.2.2.symm,e⟩
 ·rintro ⟨b,hb,e1,e2⟩
  have hm : (b : Int)∈outs c (ix c.to (l.getD k default)):=mem_outs.mpr ⟨by omega,by simpa using hb,by rw [ix_nat]; exact e1.symm⟩
  obtain ⟨i,hi,e⟩:=mem_getD.mp hm;exact ⟨i,by omega,hi,by rw [e,ix_nat]; exact e2⟩
theorem CloseO.set {c : Cat} {l : List Int} {k j : Nat} {A : List Bool} (h : CloseO c l k j A) (hj : j<(outs c (ix c.to (l.getD k default))).length)
  (hr : 0≤ix (ix c.comp (l.getD k default)) ((outs c (ix c.to (l.getD k default))).getD j default)) :
  CloseO c l k (j+1) (A.set (ix (ix c.comp (l.getD k default)) ((outs c (ix c.to (l.getD k default))).getD j default)).toNat true):=by
 refine ⟨by rw [List.length_set]; exact h.1,fun x hx=>?_⟩;rw [getD_set]
 split
 ·rename_i e
  exact ⟨fun _=>.inr ⟨j,by omega,hj,by omega⟩,fun _=>rfl⟩
 ·rename_i e
  rw [h.2 x hx];refine or_congr_right ⟨?_, ?_⟩
  ·rintro ⟨i,h1,e1⟩; exact ⟨i,by omega,e1⟩
  ·rintro ⟨i,h1,h2,e1⟩
   by_cases e2 : i=j
   ·subst e2; exact absurd ⟨by rw [e1]; simp,by rw [h.1]; exact hx⟩ e
   ·exact ⟨i,by omega,h2,e1⟩
end Go.Shf
namespace Go.Shf
open Go.AW
structure GrowQ (c : Cat) (x : Int) (s : List Int) (found out : List (List Int)) : Prop where
 nd : out.Nodup
 sv : ∀ t,t∈out→c.Sieve x t
 le : out.length≤17
 sub : ∀ t,t∈found→t∈out
 all : 16<out.length∨(s∈out∧∀ t,t∈out→t ∉ found→∀ a,a∈outs c x→closeS c (t++[a])∈out)
structure GrowL (c : Cat) (x : Int) (s : List Int) (found : List (List Int)) (k : Nat) (out : List (List Int)) : Prop where
 nd : out.Nodup
 sv : ∀ t,t∈out→c.Sieve x t
 le : out.length≤17
 sub : ∀ t,t∈found→t∈out
 own : s∈out
 all : 16<out.length∨((∀ t,t∈out→t ∉ found→t≠s→∀ a,a∈outs c x→closeS c (t++[a])∈out)∧∀ i,i<k→i<(outs c x).length→closeS c (s++[(outs c x).getD i default])∈out)
section
variable {c : Cat} {x : Int} {s : List Int} {found out : List (List Int)}
theorem GrowQ.stop (nd : found.Nodup) (sv : ∀ t,t∈found→c.Sieve x t) (le : found.length≤17) (h : s∈found∨16<found.length) : GrowQ c x s found found :=
 ⟨nd,sv,le,fun _ h=>h,h.elim (fun h=>.inr ⟨h,fun t h1 h2=>absurd h1 h2⟩) .inl⟩
theorem GrowL.zero (nd : found.Nodup) (sv : ∀ t,t∈found→c.Sieve x t) (hs : c.Sieve x s) (h : s ∉ found) (hl : found.length≤16) : GrowL c x s found 0 (found++[s]):=by
 refine ⟨?_, ?_,by simp; omega,fun t ht=>by simp [ht],by simp,.inr ⟨fun t h1 h2 h3=>?_,fun i hi=>by omega⟩⟩
 ·rw [List.nodup_append];refine ⟨nd,by simp,fun a ha b hb=>?_⟩;rw [List.mem_singleton] at hb; subst hb
  rintro rfl; exact h ha
 ·intro t ht
  rcases List.mem_append.mp ht with ht | ht
  ·exact sv t ht
  ·rw [List.mem_singleton] at ht; subst ht; exact hs
 ·rcases List.mem_append.mp h1 with h1 | h1
  ·exact absurd h1 h2
  ·rw [List.mem_singleton] at h1; exact absurd h1 h3
theorem GrowL.skip {k : Nat} (h : GrowL c x s found k out) (hk : k<(outs c x).length) (hm : closeS c (s++[(outs c x).getD k default])=s) : GrowL c x s found (k+1) out :=
 ⟨h.nd,h.sv,h.le,h.sub,h.own,h.all.imp_right fun ⟨h1,h2⟩=>⟨h1,fun i hi hl=>by
  by_cases e : i=k
  ·subst e; rw [hm]; exact h.own
  ·exact h2 i (by omega) hl⟩⟩
theorem GrowL.step {k : Nat} {out' : List (List Int)} (h : GrowL c x s found k out) (hk : k<(outs c x).length) (q : GrowQ c x (closeS c (s++[(outs c x).getD k default])) out out') : GrowL c x s found (k+1) out':=by
 refine ⟨q.nd,q.sv,q.le,fun t ht=>q.sub t (h.sub t ht),q.sub s h.own, ?_⟩
 rcases h.all with h1 | ⟨h1,h2⟩
 ·left
  have:=List.Nodup.length_le_of_subset h.nd fun t ht=>q.sub t ht;omega
 ·refine q.all.imp_right fun ⟨q1,q2⟩=>⟨fun t ht hn hs a ha=>?_,fun i hi hl=>?_⟩
  ·by_cases e : t∈out
   ·exact q.sub _ (h1 t e hn hs a ha)
   ·exact q2 t ht e a ha
  ·by_cases e : i=k
   ·subst e; exact q1
   ·exact q.sub _ (h2 i (by omega) hl)
theorem GrowL.done {k : Nat} (h : GrowL c x s found k out) (hk : (outs c x).length≤k) : GrowQ c x s found out :=
 ⟨h.nd,h.sv,h.le,h.sub,h.all.imp_right fun ⟨h1,h2⟩=>⟨h.own,fun t ht hn a ha=>by
  by_cases e : t=s
  ·subst e
   obtain ⟨i,hi,rfl⟩:=mem_getD.mp ha;exact h2 i (by omega) hi
  ·exact h1 t ht hn e a ha⟩⟩
def missing (c : Cat) (x : Int) (s : List Int) : Nat:=(outs c x).countP fun a=>decide (a ∉ s)
theorem missing_lt (h : c.Is) (hs : c.Sieve x s) {a : Int} (ha : a∈outs c x) (hn : a ∉ s) : missing c x (closeS c (s++[a]))<missing c x s:=by
 have hao:=mem_outs.mp ha
 have hl : ∀ b,b∈s++[a]→(0≤b∧b.toNat<c.frm.length)∧ix c.frm b=x:=by
  intro b hb
  rcases List.mem_append.mp hb with hb | hb
  ·exact hs.arr hb
  ·rw [List.mem_singleton] at hb; subst hb; exact ⟨⟨hao.1,hao.2.1⟩,hao.2.2⟩
 have hsup : ∀ b,b∈s→b∈closeS c (s++[a]):=fun b hb=>sub_closeS h (by simp [hb]) (hl b (by simp [hb])).1
 have ha2 : a∈closeS c (s++[a]):=sub_closeS h (by simp) (hl a (by simp)).1;unfold missing
 obtain ⟨s1,s2,e⟩:=List.append_of_mem ha;rw [e];simp only [List.countP_append,List.countP_cons]
 have i1 : List.countP (fun b=>decide (b ∉ closeS c (s++[a]))) s1≤List.countP (fun b=>decide (b ∉ s)) s1 :=
  List.countP_mono_left fun b _ hb=>by simp only [decide_eq_true_eq] at hb ⊢; exact fun h=>hb (hsup b h)
 have i2 : List.countP (fun b=>decide (b ∉ closeS c (s++[a]))) s2≤List.countP (fun b=>decide (b ∉ s)) s2 :=
  List.countP_mono_left fun b _ hb=>by simp only [decide_eq_true_eq] at hb ⊢; exact fun h=>hb (hsup b h)
 simp only [ha2,hn,not_true_eq_false,decide_false,not_false_eq_true,decide_true,if_true,Bool.false_eq_true,if_false];omega
theorem add_sieve (h : c.Is) (hs : c.Sieve x s) {a : Int} (ha : a∈outs c x) : c.Sieve x (closeS c (s++[a])):=by
 have hao:=mem_outs.mp ha;refine closeS_sieve h fun b hb=>?_
 rcases List.mem_append.mp hb with hb | hb
 ·exact hs.arr hb
 ·rw [List.mem_singleton] at hb; subst hb; exact ⟨⟨hao.1,hao.2.1⟩,hao.2.2⟩
theorem add_self (h : c.Is) (hs : c.Sieve x s) {a : Int} (ha : a∈s) : closeS c (s++[a])=s :=
 closeS_self h hs fun b=>by
  rw [List.mem_append,List.mem_singleton];exact ⟨fun e=>e.elim id fun e=>e ▸ ha,.inl⟩
theorem all_of_grow (h : c.Is) {L M : List (List Int)} (nd : L.Nodup) (sv : ∀ t,t∈L→c.Sieve x t) (hp : M.Perm L) (hs : M.Pairwise fun s t=>cmp s t≤0)
  (ha : 16<L.length∨([]∈L∧∀ t,t∈L→∀ a,a∈outs c x→closeS c (t++[a])∈L)) : (L.length≤16↔Few c x)∧(Few c x→M=allS c x):=by
 by_cases hl : L.length≤16
 ·obtain ⟨h1,h2⟩:=ha.resolve_left (by omega)
  have hM : IsAll c x M:=by
   refine ⟨?_,fun s=>⟨fun hm=>sv s (hp.mem_iff.mp hm),fun hS=>hp.mem_iff.mpr (all_sieves h h1 sv h2 s hS)⟩⟩
   have hnd : M.Nodup:=hp.nodup_iff.mpr nd;refine (hs.and hnd).imp fun {a b} ⟨h3,h4⟩=>?_
   have:=mt cmp_zero.mp h4;omega
  have:=allS_eq hM (by rw [hp.length_eq]; exact hl);exact ⟨⟨fun _=>this.1,fun _=>hl⟩,fun _=>this.2.symm⟩
 ·have : ¬ Few c x:=Few.no nd sv (by omega);exact ⟨⟨fun h=>absurd h hl,fun h=>absurd h this⟩,fun h=>absurd h this⟩
end
structure SortI (l : List (List Int)) (i k : Nat) (A : List (List Int)) : Prop where
 pm : A.Perm l
 le : k≤i
 lt : i<l.length
 ord : ∀ a b,a<b→b≤i→b≠k→cmp (A.getD a default) (A.getD b default)≤0
theorem cmp_le_trans {a b c : List Int} (h : cmp a b≤0) (k : cmp b c≤0) : cmp a c≤0:=by
 by_cases h1 : cmp a b=0
 ·rw [cmp_zero.mp h1]; exact k
 ·by_cases h2 : cmp b c=0
  ·rw [← cmp_zero.mp h2]; exact h
  ·have:=cmp_trans (a:=a) (b:=b) (c:=c) (by omega) (by omega); omega
theorem SortI.swap {l A : List (List Int)} {i k : Nat} (h : SortI l i (k+1) A) (hc : cmp (A.getD (k+1) default) (A.getD k default)<0) :
  SortI l i k ((A.set (k+1) (A.getD k default)).set k (A.getD (k+1) default)):=by
 have hl:=h.pm.length_eq
 have hi:=h.lt
 have hk:=h.le
 have g : ∀ j,((A.set (k+1) (A.getD k default)).set k (A.getD (k+1) default)).getD j default=if j=k then A.getD (k+1) default else if j=k+1 then A.getD k default else A.getD j default:=by
  intro j;rw [getD_set,getD_set,List.length_set]
  by_cases e : j=k
  ·subst e; rw [if_pos ⟨rfl,by omega⟩,if_pos rfl]
  ·rw [if_neg fun h=>e h.1.symm,if_neg e]
   by_cases e2 : j=k+1
   ·subst e2; rw [if_pos ⟨rfl,by omega⟩,if_pos rfl]
   ·rw [if_neg fun h=>e2 h.1.symm,if_neg e2]
 refine ⟨?_,by omega,h.lt,fun a b hab hb hne=>?_⟩
 ·refine List.Perm.trans ?_ h.pm
  have:=List.set_set_perm (as:=A) (i:=k+1) (j:=k) (by omega) (by omega)
  simpa [List.getD_eq_getElem?_getD,show k<A.length by omega,show k+1<A.length by omega] using this
 ·rw [g,g];rw [if_neg hne]
  by_cases e1 : b=k+1
  ·subst e1;rw [if_pos rfl]
   by_cases e2 : a=k
   ·subst e2; rw [if_pos rfl]; omega
   ·rw [if_neg e2,if_neg (by omega)];exact h.ord a k (by omega) (by omega) (by omega)
  ·rw [if_neg e1]
   by_cases e2 : a=k
   ·subst e2; rw [if_pos rfl]; exact h.ord (a+1) b (by omega) hb e1
   ·rw [if_neg e2]
    by_cases e3 : a=k+1
    ·subst e3; rw [if_pos rfl]; exact h.ord k b (by omega) hb e1
    ·rw [if_neg e3]; exact h.ord a b hab hb e1
theorem SortI.stop {l A : List (List Int)} {i k : Nat} (h : SortI l i k A) (hc : k=0∨0<k∧¬ cmp (A.getD k default) (A.getD (k - 1) default)<0) : ∀ a b,a<b→b≤i→cmp (A.getD a default) (A.getD b default)≤0:=by
 intro a b hab hb
 by_cases e : b=k
 ·subst e
  rcases hc with rfl | ⟨h0,hc⟩
  ·omega
  ·have h1 : cmp (A.getD (b - 1) default) (A.getD b default)≤0:=by rw [cmp_neg]; omega
   by_cases e2 : a=b - 1
   ·subst e2; exact h1
   ·exact cmp_le_trans (h.ord a (b - 1) (by omega) (by omega) (by omega)) h1
 ·exact h.ord a b hab hb e
theorem sorted_getD {A : List (List Int)} (h : ∀ a b,a<b→b<A.length→cmp (A.getD a default) (A.getD b default)≤0) : A.Pairwise fun s t=>cmp s t≤0:=by
 rw [List.pairwise_iff_getElem]
 intro i j hi hj hij
 have:=h i j hij hj
 simpa [List.getD_eq_getElem?_getD,hi,hj] using this
theorem Cat.Sieve.len {c : Cat} {x : Int} {s : List Int} (h : c.Sieve x s) : s.length≤c.frm.length:=by
 have h1 : s.Nodup:=(rising_pw.mp h.ris).imp fun {a b} h=>by omega
 have:=List.Nodup.length_le_of_subset (l₂:=(List.range c.frm.length).map Int.ofNat) h1 fun y hy=>by
  have:=h.arr hy;rw [List.mem_map];exact ⟨y.toNat,List.mem_range.mpr this.1.2,Int.toNat_of_nonneg this.1.1⟩
 simpa using this
end Go.Shf
namespace Go.Shf
open Go.AW
def AllFew (c : Cat) : Prop:=∀ x : Nat,x<c.objs.toNat→Few c x
noncomputable def listsOf (c : Cat) : List (List (List Int)):=(List.range c.objs.toNat).map fun x : Nat=>allS c (x : Int)
open Classical in
noncomputable def tabS (c : Cat) : List (List (List Int)):=if AllFew c then listsOf c else []
theorem tabS_t {c : Cat} (h : AllFew c) : tabS c=listsOf c:=by rw [tabS,if_pos h]
theorem tabS_f {c : Cat} (h : ¬ AllFew c) : tabS c=[]:=by rw [tabS,if_neg h]
def rowP (c : Cat) (L : List (List (List Int))) (a : Nat) : List Int:=(L.getD (c.frm.getD a default).toNat default).map fun s=>indexOf (L.getD (c.to.getD a default).toNat default) (pullS c a s)
def pullsOf (c : Cat) (L : List (List (List Int))) : List (List Int):=(List.range c.frm.length).map (rowP c L)
def topOf (c : Cat) (L : List (List (List Int))) (x : Nat) : Int:=indexOf (L.getD x default) (outs c x)
def topsOf (c : Cat) (L : List (List (List Int))) : List Int:=(List.range L.length).map (topOf c L)
theorem map_range_succ {α : Type} (f : Nat→α) (k : Nat) : (List.range (k+1)).map f=(List.range k).map f++[f k]:=by rw [List.range_succ]; simp
theorem getD_map_range {α : Type} (f : Nat→α) (d : α) {n k : Nat} (h : k<n) : ((List.range n).map f).getD k d=f k:=by
 simp [List.getD_eq_getElem?_getD,h]
@[go_sem] def tabCells (c : Cat) (L : List (List (List Int))) : List AV:=[iI c.objs,iL c.frm,iL c.to,iL c.idn,iLL c.comp,iLLL L,iLL (pullsOf c L),iL (topsOf c L)]
@[go_sem] def tabZ : List AV:=[.int .i64 0,.nilsl,.nilsl,.nilsl,.nilsl,.nilsl,.nilsl,.nilsl]
open Classical in
noncomputable def tabA (c : Cat) : List AV:=if AllFew c then tabCells c (listsOf c) else tabZ
theorem tabA_t {c : Cat} (h : AllFew c) : tabA c=tabCells c (listsOf c):=by rw [tabA,if_pos h]
theorem tabA_f {c : Cat} (h : ¬ AllFew c) : tabA c=tabZ:=by rw [tabA,if_neg h]
structure TabOk (c : Cat) (L : List (List (List Int))) : Prop where
 is : c.Is
 len : (L.length : Int)=c.objs
 all : ∀ x : Nat,x<L.length→IsAll c x (L.getD x default)
 few : ∀ x : Nat,x<L.length→(L.getD x default).length≤16
theorem tabOk {c : Cat} (h : c.Is) (hf : AllFew c) : TabOk c (listsOf c):=by
 have ho:=h.1.o;refine ⟨h,by simp [listsOf]; omega,fun x hx=>?_,fun x hx=>?_⟩
 ·have hx : x<c.objs.toNat:=by simpa [listsOf] using hx
  rw [listsOf,getD_map_range _ _ hx]; exact (allS_is (hf x hx)).1
 ·have hx : x<c.objs.toNat:=by simpa [listsOf] using hx
  rw [listsOf,getD_map_range _ _ hx]; exact (allS_is (hf x hx)).2
theorem indexOf_in {α : Type} [DecidableEq α] [Inhabited α] {l : List α} {a : α} (h : a∈l) : 0≤indexOf l a∧(indexOf l a).toNat<l.length∧ix l (indexOf l a)=a:=by
 unfold indexOf
 split
 ·rename_i i e
  rw [List.idxOf?_eq_some_iff] at e
  obtain ⟨hi,e,_⟩:=e;refine ⟨by omega,by simpa using hi, ?_⟩
  simpa [ix,List.getD_eq_getElem?_getD,hi] using e
 ·rename_i e; rw [List.idxOf?_eq_none_iff] at e; exact absurd h e
theorem indexOf_nodup {α : Type} [DecidableEq α] [Inhabited α] {l : List α} (h : l.Nodup) {k : Nat} (hk : k<l.length) : indexOf l (l.getD k default)=k:=by
 refine indexOf_hit hk (fun i hi e=>?_) rfl
 have h1 : i<l.length:=by omega
 have:=(List.getElem_inj h (h₀:=h1) (h₁:=hk)).mp (by simpa [List.getD_eq_getElem?_getD,h1,hk] using e);omega
section
variable {c : Cat} {L : List (List (List Int))}
theorem TabOk.sv (t : TabOk c L) {x : Nat} (hx : x<L.length) {k : Nat} (hk : k<(L.getD x default).length) : c.Sieve x ((L.getD x default).getD k default) :=
 ((t.all x hx).mem _).mp (mem_getD.mpr ⟨k,hk,rfl⟩)
theorem TabOk.frm (t : TabOk c L) {a : Int} (h : 0≤a∧a.toNat<c.frm.length) : 0≤ix c.frm a∧(ix c.frm a).toNat<L.length:=by
 have:=t.is.1.frmObj h.2; have:=t.len; omega
theorem TabOk.to (t : TabOk c L) {a : Int} (h : 0≤a∧a.toNat<c.frm.length) : 0≤ix c.to a∧(ix c.to a).toNat<L.length:=by
 have:=t.is.1.toObj h.2; have:=t.len; omega
theorem TabOk.at (t : TabOk c L) {x : Int} (h0 : 0≤x) (hx : x.toNat<L.length) : IsAll c x (ix L x):=by
 have:=t.all x.toNat hx;rw [Int.toNat_of_nonneg h0] at this; exact this
theorem pulls_len : (pullsOf c L).length=c.frm.length:=by simp [pullsOf]
theorem pulls_get {a : Int} (h : 0≤a∧a.toNat<c.frm.length) : ix (pullsOf c L) a=(ix L (ix c.frm a)).map fun s=>indexOf (ix L (ix c.to a)) (pullS c a s):=by
 rw [ix,pullsOf,getD_map_range _ _ h.2];rw [rowP,Int.toNat_of_nonneg h.1]; rfl
theorem pulls_row {a : Int} (h : 0≤a∧a.toNat<c.frm.length) : (ix (pullsOf c L) a).length=(ix L (ix c.frm a)).length:=by rw [pulls_get h]; simp
theorem TabOk.pull (t : TabOk c L) {a : Int} (h : 0≤a∧a.toNat<c.frm.length) {k : Nat} (hk : k<(ix L (ix c.frm a)).length) :
  (0≤(ix (pullsOf c L) a).getD k default∧((ix (pullsOf c L) a).getD k default).toNat<(ix L (ix c.to a)).length) ∧
   ix (ix L (ix c.to a)) ((ix (pullsOf c L) a).getD k default)=pullS c a ((ix L (ix c.frm a)).getD k default):=by
 have hf:=t.frm h
 have ht:=t.to h
 have hs : c.Sieve (ix c.frm a) ((ix L (ix c.frm a)).getD k default):=((t.at hf.1 hf.2).mem _).mp (mem_getD.mpr ⟨k,hk,rfl⟩)
 have hp:=((t.at ht.1 ht.2).mem _).mpr (pullS_sieve t.is h hs)
 have e : (ix (pullsOf c L) a).getD k default=indexOf (ix L (ix c.to a)) (pullS c a ((ix L (ix c.frm a)).getD k default)):=by
  rw [pulls_get h]; simp [List.getD_eq_getElem?_getD,hk]
 rw [e]
 have:=indexOf_in hp;exact ⟨⟨this.1,this.2.1⟩,this.2.2⟩
theorem tops_len : (topsOf c L).length=L.length:=by simp [topsOf]
theorem TabOk.top (t : TabOk c L) {x : Nat} (hx : x<L.length) : (0≤(topsOf c L).getD x default∧((topsOf c L).getD x default).toNat<(L.getD x default).length)∧ix (L.getD x default) ((topsOf c L).getD x default)=outs c x:=by
 have h:=((t.all x hx).mem _).mpr (outs_sieve t.is.1 x)
 have e : (topsOf c L).getD x default=indexOf (L.getD x default) (outs c x):=by rw [topsOf,getD_map_range _ _ hx,topOf]
 rw [e]
 have:=indexOf_in h;exact ⟨⟨this.1,this.2.1⟩,this.2.2⟩
end
def mg (M : List (List Bool)) (x : Int) (k : Int) : Bool:=ix (ix M x) k
structure MarkOk (L : List (List (List Int))) (M : List (List Bool)) : Prop where
 len : M.length=L.length
 row : ∀ x : Nat,x<L.length→(M.getD x default).length=(L.getD x default).length
def LocP (c : Cat) (L : List (List (List Int))) (M : List (List Bool)) (x s k : Nat) : Prop :=
 ∀ i,i<((L.getD x default).getD s default).length→mg M (ix c.to (((L.getD x default).getD s default).getD i default)) ((ix (pullsOf c L) (((L.getD x default).getD s default).getD i default)).getD k default)=true
def AOk (c : Cat) (L : List (List (List Int))) (M : List (List Bool)) (x s a : Nat) : Prop:=c.frm.getD a default=x→mg M (c.to.getD a default) (((pullsOf c L).getD a default).getD s default)=true
def KOk (c : Cat) (L : List (List (List Int))) (M : List (List Bool)) (x s k : Nat) : Prop:=(M.getD x default).getD k default=true∨¬ LocP c L M x s k
def SOk (c : Cat) (L : List (List (List Int))) (M : List (List Bool)) (x s : Nat) : Prop:=(M.getD x default).getD s default=true →
 (∀ a,a<c.frm.length→AOk c L M x s a)∧∀ k,k<(M.getD x default).length→KOk c L M x s k
def XOk (c : Cat) (L : List (List (List Int))) (M : List (List Bool)) (x : Nat) : Prop:=mg M x ((topsOf c L).getD x default)=true∧∀ s,s<(M.getD x default).length→SOk c L M x s
def TopM (c : Cat) (L : List (List (List Int))) (M : List (List Bool)) : Prop:=∀ x,x<M.length→XOk c L M x
end Go.Shf
namespace Go.Shf
open Go.AW
theorem map_getD {α β : Type} [Inhabited α] (f : α→β) {l : List α} {k : Nat} {d : β} (h : k<l.length) : (l.map f).getD k d=f (l.getD k default):=by simp [List.getD_eq_getElem?_getD,h]
def markRow (S C : List (List Int)) : List Bool:=S.map fun s=>decide (s∈C)
def markAt (L C : List (List (List Int))) (x : Nat) : List Bool:=markRow (L.getD x default) (C.getD x default)
def marksOf (L C : List (List (List Int))) : List (List Bool):=(List.range L.length).map (markAt L C)
structure TopIs (c : Cat) (C : List (List (List Int))) : Prop where
 top : ∀ x : Nat,x<c.objs.toNat→outs c x∈C.getD x default
 pull : ∀ a : Nat,a<c.frm.length→∀ s,s∈C.getD (c.frm.getD a default).toNat default→pullS c a s∈C.getD (c.to.getD a default).toNat default
 loc : ∀ x : Nat,x<c.objs.toNat→∀ s,s∈C.getD x default→∀ t,c.Sieve x t→(∀ a,a∈s→pullS c a t∈C.getD (ix c.to a).toNat default)→t∈C.getD x default
section
variable {c : Cat} {L C : List (List (List Int))}
theorem marks_len : (marksOf L C).length=L.length:=by simp [marksOf]
theorem marks_get {x : Nat} (hx : x<L.length) : (marksOf L C).getD x default=(L.getD x default).map fun s=>decide (s∈C.getD x default):=by
 rw [marksOf,getD_map_range _ _ hx]; rfl
theorem marks_at {x k : Nat} (hx : x<L.length) (hk : k<(L.getD x default).length) : ((marksOf L C).getD x default).getD k default=decide ((L.getD x default).getD k default∈C.getD x default):=by
 rw [marks_get hx,map_getD _ hk]
theorem markOk : MarkOk L (marksOf L C):=⟨marks_len,fun x hx=>by rw [marks_get hx]; simp⟩
theorem mg_marks {x : Nat} {k : Int} (hx : x<L.length) (hk : k.toNat<(L.getD x default).length) : mg (marksOf L C) x k=decide (ix (L.getD x default) k∈C.getD x default):=by
 rw [mg,ix_nat,ix,marks_at hx hk]; rfl
theorem mg_marks' {x k : Int} (h0 : 0≤x) (hx : x.toNat<L.length) (hk : k.toNat<(ix L x).length) : mg (marksOf L C) x k=decide (ix (ix L x) k∈C.getD x.toNat default):=by
 have:=mg_marks (C:=C) (x:=x.toNat) (k:=k) hx hk;rw [Int.toNat_of_nonneg h0] at this; rw [this]; rfl
theorem topM_iff (t : TabOk c L) (hC : ∀ x : Nat,x<L.length→∀ s,s∈C.getD x default→c.Sieve x s) : TopM c L (marksOf L C)↔TopIs c C:=by
 have hLo:=t.len
 have ho:=t.is.1.o
 have loc : ∀ {x s k : Nat},x<L.length→s<(L.getD x default).length→k<(L.getD x default).length →
   (LocP c L (marksOf L C) x s k↔∀ a,a∈(L.getD x default).getD s default→pullS c a ((L.getD x default).getD k default)∈C.getD (ix c.to a).toNat default):=by
  intro x s k hx hs hk
  have hsv:=t.sv hx hs;rw [LocP,all_getD];refine forall_congr' fun i=>imp_congr_right fun hi=>?_
  have ha:=hsv.arr (mem_getD.mpr ⟨i,hi,rfl⟩)
  have hkr : k<(ix L (ix c.frm (((L.getD x default).getD s default).getD i default))).length:=by rw [ha.2,ix_nat]; exact hk
  have hp:=t.pull ha.1 hkr
  have ht:=t.to ha.1;rw [mg_marks' ht.1 ht.2 hp.1.2,hp.2,decide_eq_true_eq,ha.2,ix_nat]
 constructor
 ·intro h;refine ⟨fun x hx=>?_,fun a ha s hs=>?_,fun x hx s hs u hu hloc=>?_⟩
  ·have hx : x<L.length:=by omega
   have:=(h x (by rw [marks_len]; exact hx)).1
   have htop:=t.top hx;rw [mg_marks hx htop.1.2,htop.2,decide_eq_true_eq] at this;exact this
  ·have haa : 0≤(a : Int)∧(a : Int).toNat<c.frm.length:=⟨by omega,by simpa using ha⟩
   have hf:=t.frm haa
   have ht:=t.to haa;simp only [ix_nat] at hf ht
   have hm:=((t.all _ hf.2).mem s).mpr (hC _ hf.2 s hs)
   obtain ⟨k,hk,rfl⟩:=mem_getD.mp hm
   have hkr : k<(ix L (ix c.frm a)).length:=by rw [ix_nat]; exact hk
   have hp:=t.pull haa hkr
   have:=((h _ (by rw [marks_len]; exact hf.2)).2 k (by rw [markOk.row _ hf.2]; exact hk) (by rw [marks_at hf.2 hk,decide_eq_true_eq]; exact hs)).1 a ha (by rw [Int.toNat_of_nonneg hf.1]);simp only [ix_nat] at hp;rw [mg_marks' ht.1 ht.2 hp.1.2,hp.2,decide_eq_true_eq] at this;exact this
  ·have hx : x<L.length:=by omega
   have hm:=((t.all _ hx).mem s).mpr (hC _ hx s hs)
   obtain ⟨k,hk,rfl⟩:=mem_getD.mp hm
   obtain ⟨k',hk',rfl⟩:=mem_getD.mp (((t.all _ hx).mem u).mpr hu)
   have:=((h _ (by rw [marks_len]; exact hx)).2 k (by rw [markOk.row _ hx]; exact hk) (by rw [marks_at hx hk,decide_eq_true_eq]; exact hs)).2 k' (by rw [markOk.row _ hx]; exact hk')
   rcases this with e | e
   ·rw [marks_at hx hk',decide_eq_true_eq] at e; exact e
   ·exact absurd ((loc hx hk hk').mpr hloc) e
 ·intro h x hx;rw [marks_len] at hx
  have htop:=t.top hx;refine ⟨?_,fun s hs hsm=>⟨fun a ha e=>?_,fun k hk=>?_⟩⟩
  ·rw [mg_marks hx htop.1.2,htop.2,decide_eq_true_eq]; exact h.top x (by omega)
  ·rw [markOk.row _ hx] at hs;rw [marks_at hx hs,decide_eq_true_eq] at hsm
   have haa : 0≤(a : Int)∧(a : Int).toNat<c.frm.length:=⟨by omega,by simpa using ha⟩
   have ht:=t.to haa;simp only [ix_nat] at ht
   have hsr : s<(ix L (ix c.frm a)).length:=by rw [ix_nat,e,ix_nat]; exact hs
   have hp:=t.pull haa hsr;simp only [ix_nat] at hp;rw [mg_marks' ht.1 ht.2 hp.1.2,hp.2,decide_eq_true_eq];rw [e,ix_nat];refine h.pull a ha _ ?_;rw [e]; exact hsm
  ·rw [markOk.row _ hx] at hs hk;rw [marks_at hx hs,decide_eq_true_eq] at hsm
   by_cases hl : LocP c L (marksOf L C) x s k
   ·left
    rw [marks_at hx hk,decide_eq_true_eq];exact h.loc x (by omega) _ hsm _ (t.sv hx hk) ((loc hx hs hk).mp hl)
   ·exact .inr hl
end
def RowI (S C : List (List Int)) (k : Nat) (A : List Bool) : Prop:=A.length=S.length∧∀ i,i<S.length→(A.getD i default=true↔∃ j,j<k∧C.getD j default=S.getD i default)
theorem RowI.zero (S C : List (List Int)) : RowI S C 0 (List.replicate S.length false):=by
 refine ⟨by simp,fun i hi=>?_⟩;simp only [List.getD_eq_getElem?_getD,List.getElem?_replicate,hi,if_true,Option.getD_some];exact ⟨fun e=>(by cases e),fun ⟨j,hj,_⟩=>(by omega)⟩
theorem RowI.step {S C : List (List Int)} {k : Nat} {A : List Bool} (h : RowI S C k A) (hn : S.Nodup) (hm : C.getD k default∈S) : RowI S C (k+1) (A.set (indexOf S (C.getD k default)).toNat true):=by
 have hi:=indexOf_in hm;refine ⟨by rw [List.length_set]; exact h.1,fun i hil=>?_⟩;rw [getD_set]
 split
 ·rename_i e
  refine ⟨fun _=>⟨k,by omega, ?_⟩,fun _=>rfl⟩;rw [← hi.2.2,ix,e.1]
 ·rename_i e
  rw [h.2 i hil]
  constructor
  ·rintro ⟨j,hj,e2⟩; exact ⟨j,by omega,e2⟩
  ·rintro ⟨j,hj,e2⟩
   by_cases e3 : j=k
   ·subst e3
    exfalso; apply e
    refine ⟨?_,by rw [h.1]; exact hil⟩;rw [e2,indexOf_nodup hn hil]; simp
   ·exact ⟨j,by omega,e2⟩
theorem RowI.done {S C : List (List Int)} {A : List Bool} (h : RowI S C C.length A) : A=markRow S C:=by
 refine List.ext_getElem (by rw [markRow,List.length_map]; exact h.1) fun i h1 h2=>?_
 have hi : i<S.length:=by have:=h.1; omega
 have:=h.2 i hi;rw [Bool.eq_iff_iff]
 have e1 : A.getD i default=A[i]:=by simp [List.getD_eq_getElem?_getD,h1]
 rw [e1] at this;rw [this];simp only [markRow,List.getElem_map,decide_eq_true_eq]
 have e2 : S.getD i default=S[i]:=by simp [List.getD_eq_getElem?_getD,hi]
 rw [e2,mem_getD]
end Go.Shf
namespace Go.Shf
open Go.AW
def leastP (R : List (List Int)) (a : Int) : Bool:=decide (∀ s,s∈R→a∈s)
def leastAt (c : Cat) (C : List (List (List Int))) (x : Nat) : List Int:=(outs c x).filter (leastP (C.getD x default))
def leastL (c : Cat) (C : List (List (List Int))) : List (List Int):=(List.range C.length).map (leastAt c C)
theorem leastP_t {R : List (List Int)} {a : Int} (h : ∀ k,k<R.length→a∈R.getD k default) : leastP R a=true:=by
 rw [leastP,decide_eq_true_eq,all_getD]; exact h
theorem leastP_f {R : List (List Int)} {a : Int} {k : Nat} (hk : k<R.length) (h : a ∉ R.getD k default) : leastP R a=false:=by
 rw [leastP,decide_eq_false_iff_not,all_getD]; exact fun e=>h (e k hk)
end Go.Shf
namespace Go.Shf
open Go.AW
structure Lk where
 i : Int
 j : Int
 left : List Int
 right : List Int
 deriving Inhabited
def Fits (p : List Int) (l : Lk) : Prop:=0≤ix p l.i→0≤ix p l.j→ix l.left (ix p l.i)=ix l.right (ix p l.j)
def Cons (ls : List Lk) (p : List Int) : Prop:=∀ l,l∈ls→Fits p l
structure LksOk (sizes : List Int) (ls : List Lk) : Prop where
 i : ∀ l,l∈ls→0≤l.i∧l.i.toNat<sizes.length
 j : ∀ l,l∈ls→0≤l.j∧l.j.toNat<sizes.length
 left : ∀ l,l∈ls→(l.left.length : Int)=ix sizes l.i
 right : ∀ l,l∈ls→(l.right.length : Int)=ix sizes l.j
 sz : ∀ y,y∈sizes→0≤y∧y≤17
structure Ext (sizes : List Int) (ls : List Lk) (p t : List Int) : Prop where
 len : t.length=p.length
 new : ∀ n,n<p.length→p.getD n default=-1→0≤t.getD n default∧t.getD n default<sizes.getD n default
 old : ∀ n,n<p.length→p.getD n default≠-1→t.getD n default=p.getD n default
 cons : Cons ls t
def ChP (ls : List Lk) (p : List Int) (n : Nat) (e : Int) : Prop:=∀ l,l∈ls→l.i=n∨l.j=n→Fits (p.set n e) l
noncomputable def chP (ls : List Lk) (p : List Int) (n e : Nat) : Bool:=dec (ChP ls p n e)
noncomputable def choices (sizes : List Int) (ls : List Lk) (p : List Int) (n : Nat) : List Int:=nats (chP ls p n) (sizes.getD n default).toNat
def PartL (sizes : List Int) (p : List Int) : Prop:=p.length=sizes.length∧∀ n,n<p.length→p.getD n default<0∨(0≤p.getD n default∧p.getD n default<sizes.getD n default)
structure IsLex (S : List Int→Prop) (L : List (List Int)) : Prop where
 srt : L.Pairwise fun s t=>cmp s t<0
 mem : ∀ t,t∈L↔S t
theorem IsLex.uniq {S : List Int→Prop} {L M : List (List Int)} (h : IsLex S L) (k : IsLex S M) : L=M:=by
 refine List.Perm.eq_of_pairwise (le:=fun s t=>cmp s t<0) (fun a b _ _ h1 h2=>?_) h.srt k.srt ?_
 ·have:=cmp_neg a b; omega
 ·refine (List.perm_ext_iff_of_nodup ?_ ?_).mpr fun s=>(h.mem s).trans (k.mem s).symm
  ·exact h.srt.imp fun {a b} h e=>by rw [cmp_zero.mpr e] at h; omega
  ·exact k.srt.imp fun {a b} h e=>by rw [cmp_zero.mpr e] at h; omega
theorem cmp_first : ∀ {s t : List Int} {n : Nat},n<s.length→n<t.length→(∀ i,i<n→s.getD i default=t.getD i default)→s.getD n default<t.getD n default→cmp s t<0
 | [],_,n,h,_,_,_=>by simp at h
 | _::_,[],n,_,h,_,_=>by simp at h
 | a::s,b::t,0,_,_,_,h=>by
  simp only [List.getD_cons_zero] at h;unfold cmp;rw [if_neg (by omega),if_pos h]; decide
 | a::s,b::t,n+1,h1,h2,h3,h4=>by
  have h0:=h3 0 (by omega);simp only [List.getD_cons_zero] at h0;simp only [List.getD_cons_succ] at h4;unfold cmp;rw [if_pos h0];exact cmp_first (by simpa using h1) (by simpa using h2) (fun i hi=>by have:=h3 (i+1) (by omega); simpa using this) h4
section
variable {sizes : List Int} {ls : List Lk} {p t : List Int}
theorem ix_set (p : List Int) (n : Nat) (e i : Int) (h0 : 0≤i) : ix (p.set n e) i=if i=n∧n<p.length then e else ix p i:=by
 simp only [ix,getD_set]
 by_cases h : n=i.toNat∧i.toNat<p.length
 ·rw [if_pos h,if_pos ⟨by omega,by omega⟩]
 ·rw [if_neg h,if_neg fun h2=>h ⟨by omega,by omega⟩]
theorem Ext.choice (ok : LksOk sizes ls) (hp : p.length=sizes.length) (h : Ext sizes ls p t) {n : Nat} (hn : n<p.length) (h1 : p.getD n default=-1) :
  (0≤t.getD n default∧t.getD n default<sizes.getD n default)∧ChP ls p n (t.getD n default)∧Ext sizes ls (p.set n (t.getD n default)) t:=by
 have hr:=h.new n hn h1
 have key : ∀ i : Int,0≤i→i.toNat<p.length→0≤ix (p.set n (t.getD n default)) i→ix (p.set n (t.getD n default)) i=ix t i:=by
  intro i h0 hi h2;rw [ix_set _ _ _ _ h0] at h2 ⊢
  split
  ·rename_i e; simp only [ix]; rw [e.1,Int.toNat_natCast]
  ·rename_i e
   rw [if_neg e] at h2;simp only [ix] at h2 ⊢;exact (h.old _ hi (by omega)).symm
 refine ⟨hr,fun l hl _ h2 h3=>?_, ?_⟩
 ·have a:=ok.i l hl
  have b:=ok.j l hl;rw [key _ a.1 (by omega) h2] at *;rw [key _ b.1 (by omega) h3] at *;exact h.cons l hl h2 h3
 ·refine ⟨by rw [List.length_set]; exact h.len,fun m hm e=>?_,fun m hm e=>?_,h.cons⟩
  ·rw [List.length_set] at hm;rw [getD_set] at e
   split at e
   ·omega
   ·exact h.new m hm e
  ·rw [List.length_set] at hm;rw [getD_set] at e ⊢
   split
   ·rename_i e2; rw [e2.1]
   ·rename_i e2; rw [if_neg e2] at e; exact h.old m hm e
theorem Ext.of_set {n : Nat} (h1 : p.getD n default=-1) {e : Int} (he : 0≤e∧e<sizes.getD n default) (hn : n<p.length) (h : Ext sizes ls (p.set n e) t) : Ext sizes ls p t∧t.getD n default=e:=by
 have hte : t.getD n default=e:=by
  have:=h.old n (by rw [List.length_set]; exact hn);rw [getD_set,if_pos ⟨rfl,hn⟩] at this;exact this (by omega)
 refine ⟨⟨by rw [h.len,List.length_set],fun m hm e2=>?_,fun m hm e2=>?_,h.cons⟩,hte⟩
 ·by_cases e3 : n=m
  ·subst e3; rw [hte]; exact he
  ·have:=h.new m (by rw [List.length_set]; exact hm);rw [getD_set,if_neg fun h=>e3 h.1] at this;exact this e2
 ·have e3 : n≠m:=by rintro rfl; exact e2 h1
  have:=h.old m (by rw [List.length_set]; exact hm);rw [getD_set,if_neg fun h=>e3 h.1] at this;exact this e2
theorem cons_set (ok : LksOk sizes ls) {n : Nat} {e : Int} (hc : Cons ls p) (h : ChP ls p n e) : Cons ls (p.set n e):=by
 intro l hl
 by_cases ht : l.i=n∨l.j=n
 ·exact h l hl ht
 ·have a:=ok.i l hl
  have b:=ok.j l hl
  have:=hc l hl;simp only [Fits] at this ⊢;rw [ix_set _ _ _ _ a.1,ix_set _ _ _ _ b.1,if_neg fun h=>ht (.inl h.1),if_neg fun h=>ht (.inr h.1)];exact this
theorem lex_none (h : ∀ t,¬ Ext sizes ls p t) : IsLex (Ext sizes ls p) []:=⟨.nil,fun t=>by simp [h t]⟩
theorem lex_prune (ok : LksOk sizes ls) (hp : p.length=sizes.length) {n : Nat} (hn : n<p.length) (h1 : p.getD n default=-1) (h : choices sizes ls p n=[]) : IsLex (Ext sizes ls p) []:=by
 refine lex_none fun t ht=>?_
 have:=ht.choice ok hp hn h1
 have hm : t.getD n default∈choices sizes ls p n:=by
  rw [choices,mem_nats];refine ⟨this.1.1,by omega, ?_⟩;rw [chP,dec_iff,Int.toNat_of_nonneg this.1.1]; exact this.2.1
 rw [h] at hm; simp at hm
theorem lex_full (hc : Cons ls p) (h : ∀ n,n<p.length→p.getD n default≠-1) : IsLex (Ext sizes ls p) [p]:=by
 refine ⟨by simp,fun t=>?_⟩;rw [List.mem_singleton]
 constructor
 ·rintro rfl; exact ⟨rfl,fun n hn e=>absurd e (h n hn),fun n hn e=>rfl,hc⟩
 ·intro ht;refine List.ext_getElem ht.len fun i h1 h2=>?_
  have:=ht.old i h2 (h i h2)
  simpa [List.getD_eq_getElem?_getD,h1,h2] using this
theorem mem_choices {n : Nat} {e : Int} : e∈choices sizes ls p n↔(0≤e∧e<sizes.getD n default)∧ChP ls p n e:=by
 rw [choices,mem_nats,chP,dec_iff]
 constructor
 ·rintro ⟨h1,h2,h3⟩; rw [Int.toNat_of_nonneg h1] at h3; exact ⟨⟨h1,by omega⟩,h3⟩
 ·rintro ⟨⟨h1,h2⟩,h3⟩; exact ⟨h1,by omega,by rw [Int.toNat_of_nonneg h1]; exact h3⟩
theorem lex_step (ok : LksOk sizes ls) (hp : p.length=sizes.length) {n : Nat} (hn : n<p.length) (h1 : p.getD n default=-1) (hf : ∀ m,m<n→p.getD m default≠-1)
  (LL : Int→List (List Int)) (hL : ∀ e,e∈choices sizes ls p n→IsLex (Ext sizes ls (p.set n e)) (LL e)) : IsLex (Ext sizes ls p) ((choices sizes ls p n).flatMap LL):=by
 have hsub : ∀ e,e∈choices sizes ls p n→∀ t,t∈LL e→Ext sizes ls p t∧t.getD n default=e:=by
  intro e he t ht
  have h:=((hL e he).mem t).mp ht;exact h.of_set h1 (mem_choices.mp he).1 hn
 refine ⟨?_,fun t=>?_⟩
 ·have hr : (choices sizes ls p n).Pairwise (·<·):=rising_pw.mp (nats_rising _ _);rw [List.pairwise_flatMap];refine ⟨fun e he=>(hL e he).srt, ?_⟩
  have hmem : ∀ (l : List Int),l.Pairwise (·<·)→(∀ e,e∈l→e∈choices sizes ls p n)→l.Pairwise fun a b=>∀ x,x∈LL a→∀ y,y∈LL b→cmp x y<0:=by
   intro l hl
   induction hl with
   | nil=>intro _; exact .nil
   | cons h _ ih =>
    intro hs;refine .cons (fun b hb x hx y hy=>?_) (ih fun e he=>hs e (by simp [he]))
    have a1:=hsub _ (hs _ (by simp)) x hx
    have a2:=hsub _ (hs b (by simp [hb])) y hy;refine cmp_first (n:=n) (by rw [a1.1.len]; exact hn) (by rw [a2.1.len]; exact hn) (fun i hi=>?_) (by rw [a1.2,a2.2]; exact h b hb);rw [a1.1.old i (by omega) (hf i hi),a2.1.old i (by omega) (hf i hi)]
  exact hmem _ hr fun _ h=>h
 ·rw [List.mem_flatMap]
  constructor
  ·rintro ⟨e,he,ht⟩; exact (hsub e he t ht).1
  ·intro ht
   have:=ht.choice ok hp hn h1
   have hm:=mem_choices.mpr ⟨this.1,this.2.1⟩;exact ⟨_,hm,((hL _ hm).mem t).mpr this.2.2⟩
theorem Ext.part {q : List Int} (hq : q.length=sizes.length) (h : Ext sizes ls (List.replicate sizes.length (-1)) t) (hv : ∀ n,n<q.length→q.getD n default=-1∨q.getD n default=-2) (ok : LksOk sizes ls) :
  ∃ u,Ext sizes ls q u:=by
 have htl : t.length=sizes.length:=by rw [h.len]; simp
 refine ⟨(List.range q.length).map fun n=>if q.getD n default=-1 then t.getD n default else -2,by simp,fun n hn e=>?_,fun n hn e=>?_,fun l hl=>?_⟩
 ·rw [getD_map_range _ _ hn,if_pos e];exact h.new n (by simp; omega) (by simp [List.getD_eq_getElem?_getD,show n<sizes.length by omega])
 ·rw [getD_map_range _ _ hn,if_neg e];exact ((hv n hn).resolve_left e).symm
 ·have a:=ok.i l hl
  have b:=ok.j l hl
  have key : ∀ i : Int,0≤i→i.toNat<sizes.length→0≤ix ((List.range q.length).map fun n=>if q.getD n default=-1 then t.getD n default else -2) i →
    ix ((List.range q.length).map fun n=>if q.getD n default=-1 then t.getD n default else -2) i=ix t i:=by
   intro i h0 hi h2;simp only [ix] at h2 ⊢;rw [getD_map_range _ _ (by omega)] at h2 ⊢
   split
   ·rfl
   ·rename_i e; rw [if_neg e] at h2; omega
  intro h2 h3;rw [key _ a.1 a.2 h2] at *;rw [key _ b.1 b.2 h3] at *;exact h.cons l hl h2 h3
end
end Go.Shf
namespace Go.Shf
open Go.AW
section
variable {l : Lk} {p : List Int} {n : Nat} {e : Int}
theorem fits_A (hi : l.i=n) (hj : l.j=n) (hn : n<p.length) (he : 0≤e) : Fits (p.set n e) l↔ix l.left e=ix l.right e:=by
 have h1 : ix (p.set n e) l.i=e:=by rw [ix_set _ _ _ _ (by omega),if_pos ⟨hi,hn⟩]
 have h2 : ix (p.set n e) l.j=e:=by rw [ix_set _ _ _ _ (by omega),if_pos ⟨hj,hn⟩]
 rw [Fits,h1,h2]; exact ⟨fun h=>h he he,fun h _ _=>h⟩
theorem fits_B (hi : l.i=n) (hj : l.j≠n) (hj0 : 0≤l.j) (hn : n<p.length) (he : 0≤e) (hp : 0≤ix p l.j) : Fits (p.set n e) l↔ix l.left e=ix l.right (ix p l.j):=by
 have h1 : ix (p.set n e) l.i=e:=by rw [ix_set _ _ _ _ (by omega),if_pos ⟨hi,hn⟩]
 have h2 : ix (p.set n e) l.j=ix p l.j:=by rw [ix_set _ _ _ _ hj0,if_neg fun h=>hj h.1]
 rw [Fits,h1,h2]; exact ⟨fun h=>h he hp,fun h _ _=>h⟩
theorem fits_B' (hj : l.j≠n) (hj0 : 0≤l.j) (hp : ¬ 0≤ix p l.j) : Fits (p.set n e) l:=by
 have h2 : ix (p.set n e) l.j=ix p l.j:=by rw [ix_set _ _ _ _ hj0,if_neg fun h=>hj h.1]
 intro _ h; rw [h2] at h; exact absurd h hp
theorem fits_C (hj : l.j=n) (hi : l.i≠n) (hi0 : 0≤l.i) (hn : n<p.length) (he : 0≤e) (hp : 0≤ix p l.i) : Fits (p.set n e) l↔ix l.left (ix p l.i)=ix l.right e:=by
 have h1 : ix (p.set n e) l.j=e:=by rw [ix_set _ _ _ _ (by omega),if_pos ⟨hj,hn⟩]
 have h2 : ix (p.set n e) l.i=ix p l.i:=by rw [ix_set _ _ _ _ hi0,if_neg fun h=>hi h.1]
 rw [Fits,h1,h2]; exact ⟨fun h=>h hp he,fun h _ _=>h⟩
theorem fits_C' (hi : l.i≠n) (hi0 : 0≤l.i) (hp : ¬ 0≤ix p l.i) : Fits (p.set n e) l:=by
 have h2 : ix (p.set n e) l.i=ix p l.i:=by rw [ix_set _ _ _ _ hi0,if_neg fun h=>hi h.1]
 intro h; rw [h2] at h; exact absurd h hp
end
structure AtOk (sizes : List Int) (ls : List Lk) (at' : List (List Int)) : Prop where
 len : at'.length=sizes.length
 mem : ∀ n : Nat,n<sizes.length→∀ y,y∈at'.getD n default↔0≤y∧y.toNat<ls.length∧((ls.getD y.toNat default).i=n∨(ls.getD y.toNat default).j=n)
theorem chP_at {sizes : List Int} {ls : List Lk} {at' : List (List Int)} (h : AtOk sizes ls at') {p : List Int} {n : Nat} {e : Int} (hn : n<sizes.length) :
  ChP ls p n e↔∀ k,k<(at'.getD n default).length→Fits (p.set n e) (ix ls ((at'.getD n default).getD k default)):=by
 constructor
 ·intro hc k hk
  have:=(h.mem n hn _).mp (mem_getD.mpr ⟨k,hk,rfl⟩);exact hc _ (ix_mem this.2.1) this.2.2
 ·intro hc l hl ht
  obtain ⟨i,hi,rfl⟩:=mem_getD.mp hl
  have:=(h.mem n hn i).mpr ⟨by omega,by simpa using hi,by simpa using ht⟩
  obtain ⟨k,hk,e⟩:=mem_getD.mp this
  have:=hc k hk;rw [e,ix_nat] at this; exact this
end Go.Shf
namespace Go.Shf
open Go.AW
def unset (p : List Int) : Nat:=p.countP fun y=>decide (y=-1)
section
variable {sizes : List Int} {ls : List Lk} {p : List Int}
theorem unset_set {n : Nat} {e : Int} (hn : n<p.length) (h1 : p.getD n default=-1) (he : 0≤e) : unset (p.set n e)<unset p:=by
 have hg : p[n]=-1:=by simpa [List.getD_eq_getElem?_getD,hn] using h1
 have hpos : 0<unset p:=by
  rw [unset,List.countP_pos_iff]; exact ⟨p[n],List.getElem_mem hn,by simp [hg]⟩
 rw [unset,List.countP_set hn]
 have h2 : ¬ e=-1:=by omega
 simp only [hg,decide_true,if_true,h2,decide_false,Bool.false_eq_true,if_false];unfold unset at hpos ⊢; omega
theorem PartL.set {n : Nat} {e : Int} (h : PartL sizes p) (he : 0≤e∧e<sizes.getD n default) : PartL sizes (p.set n e):=by
 refine ⟨by rw [List.length_set]; exact h.1,fun m hm=>?_⟩;rw [List.length_set] at hm;rw [getD_set]
 split
 ·rename_i e2; rw [← e2.1]; exact .inr he
 ·exact h.2 m hm
theorem lex_ex (ok : LksOk sizes ls) : ∀ (n : Nat) (p : List Int),unset p=n→PartL sizes p→Cons ls p→∃ L,IsLex (Ext sizes ls p) L:=by
 intro n
 induction n using Nat.strongRecOn with
 | _ n ih =>
  intro p hn hp hc
  by_cases hf : ∃ m,m<p.length∧p.getD m default=-1
  ·have : ∃ f,(f<p.length∧p.getD f default=-1)∧∀ m,m<f→¬ (m<p.length∧p.getD m default=-1):=by
    have key : ∀ k,(∃ m,m≤k∧m<p.length∧p.getD m default=-1)→∃ f,(f<p.length∧p.getD f default=-1)∧∀ m,m<f→¬ (m<p.length∧p.getD m default=-1):=by
     intro k
     induction k with
     | zero=>rintro ⟨m,h0,h⟩; exact ⟨m,h,fun i hi=>by omega⟩
     | succ k ihk =>
      rintro ⟨m,h0,h⟩
      by_cases h2 : ∃ m,m≤k∧m<p.length∧p.getD m default=-1
      ·exact ihk h2
      ·exact ⟨m,h,fun i hi hh=>h2 ⟨i,by omega,hh⟩⟩
    obtain ⟨m,hm⟩:=hf;exact key m ⟨m,Nat.le_refl _,hm⟩
   obtain ⟨f,⟨hfl,h1⟩,hmin⟩:=this
   have hL : ∀ e,e∈choices sizes ls p f→∃ L,IsLex (Ext sizes ls (p.set f e)) L:=by
    intro e he
    have hm:=mem_choices.mp he;exact ih _ (hn ▸ unset_set hfl h1 hm.1.1) _ rfl (hp.set hm.1) (cons_set ok hc hm.2)
   have : ∃ LL : Int→List (List Int),∀ e,e∈choices sizes ls p f→IsLex (Ext sizes ls (p.set f e)) (LL e):=by
    refine ⟨fun e=>@dite _ (e∈choices sizes ls p f) (Classical.propDecidable _) (fun h=>Classical.choose (hL e h)) fun _=>[],fun e he=>?_⟩
    show IsLex _ (@dite _ (e∈choices sizes ls p f) (Classical.propDecidable _) (fun h=>Classical.choose (hL e h)) fun _=>[])
    rw [dif_pos he]; exact Classical.choose_spec (hL e he)
   obtain ⟨LL,hLL⟩:=this;exact ⟨_,lex_step ok hp.1 hfl h1 (fun m hm e=>hmin m hm ⟨by omega,e⟩) LL hLL⟩
  ·exact ⟨[p],lex_full hc fun m hm e=>hf ⟨m,hm,e⟩⟩
open Classical in
noncomputable def exS (sizes : List Int) (ls : List Lk) (p : List Int) : List (List Int):=if h : ∃ L,IsLex (Ext sizes ls p) L then Classical.choose h else []
theorem exS_eq {L : List (List Int)} (h : IsLex (Ext sizes ls p) L) : exS sizes ls p=L:=by
 have he : ∃ L,IsLex (Ext sizes ls p) L:=⟨L,h⟩;rw [exS,dif_pos he];exact (Classical.choose_spec he).uniq h
theorem exS_is (ok : LksOk sizes ls) (hp : PartL sizes p) (hc : Cons ls p) : IsLex (Ext sizes ls p) (exS sizes ls p):=by
 have he:=lex_ex ok _ p rfl hp hc;rw [exS,dif_pos he]; exact Classical.choose_spec he
theorem exS_step (ok : LksOk sizes ls) (hp : PartL sizes p) (hc : Cons ls p) {n : Nat} (hn : n<p.length) (h1 : p.getD n default=-1) (hf : ∀ m,m<n→p.getD m default≠-1) :
  exS sizes ls p=(choices sizes ls p n).flatMap fun e=>exS sizes ls (p.set n e) :=
 exS_eq (lex_step ok hp.1 hn h1 hf _ fun e he=>by
  have hm:=mem_choices.mp he;exact exS_is ok (hp.set hm.1) (cons_set ok hc hm.2))
end
def GoA (sizes : List Int) (ls : List Lk) (p : List Int) (k : Nat) (first : Int) (ch : List Int) : Prop :=
 (first=-1∧ch=[]∧∀ m,k≤m→m<p.length→p.getD m default≠-1) ∨
 ∃ f : Nat,first=f∧k≤f∧f<p.length∧p.getD f default=-1∧(∀ m,k≤m→m<f→p.getD m default≠-1)∧ch=choices sizes ls p f∧ch≠[]
theorem GoA.skip {sizes : List Int} {ls : List Lk} {p : List Int} {k : Nat} {first : Int} {ch : List Int} (h : GoA sizes ls p (k+1) first ch) (hk : p.getD k default≠-1) : GoA sizes ls p k first ch:=by
 rcases h with ⟨h1,h2,h3⟩ | ⟨f,h1,h2,h3,h4,h5,h6⟩
 ·exact .inl ⟨h1,h2,fun m hm hl=>by
   by_cases e : m=k
   ·subst e; exact hk
   ·exact h3 m (by omega) hl⟩
 ·exact .inr ⟨f,h1,by omega,h3,h4,fun m hm hl=>by
   by_cases e : m=k
   ·subst e; exact hk
   ·exact h5 m (by omega) hl,h6⟩
theorem GoA.hit {sizes : List Int} {ls : List Lk} {p : List Int} {k : Nat} (hl : k<p.length) (hk : p.getD k default=-1) (hc : choices sizes ls p k≠[]) : GoA sizes ls p k k (choices sizes ls p k) :=
 .inr ⟨k,rfl,Nat.le_refl _,hl,hk,fun m h1 h2=>by omega,rfl,hc⟩
end Go.Shf
namespace Go.Shf
open Go.AW
structure AtI (n : Nat) (ls : List Lk) (k : Nat) (As : List (List Int)) : Prop where
 len : As.length=n
 mem : ∀ m : Nat,m<n→∀ y,y∈As.getD m []↔0≤y∧y.toNat<k∧((ls.getD y.toNat default).i=m∨(ls.getD y.toNat default).j=m)
 lens : ∀ m : Nat,m<n→(As.getD m []).length≤k
theorem AtI.zero (n : Nat) (ls : List Lk) : AtI n ls 0 (List.replicate n []):=by
 refine ⟨by simp,fun m hm y=>?_,fun m hm=>?_⟩
 ·simp [List.getD_eq_getElem?_getD,hm]
 ·simp [List.getD_eq_getElem?_getD,hm]
theorem AtI.step {n : Nat} {ls : List Lk} {k : Nat} {As : List (List Int)} (h : AtI n ls k As) {i j : Nat} (hi : i<n) (hj : j<n) (ei : (ls.getD k default).i=i) (ej : (ls.getD k default).j=j) :
  AtI n ls (k+1) (if i=j then As.set i (As.getD i []++[(k : Int)]) else (As.set i (As.getD i []++[(k : Int)])).set j ((As.set i (As.getD i []++[(k : Int)])).getD j []++[(k : Int)])):=by
 have hl:=h.len
 have gm : ∀ m : Nat,m<n→(if i=j then As.set i (As.getD i []++[(k : Int)]) else (As.set i (As.getD i []++[(k : Int)])).set j ((As.set i (As.getD i []++[(k : Int)])).getD j []++[(k : Int)])).getD m [] =
   if m=i∨m=j then As.getD m []++[(k : Int)] else As.getD m []:=by
  intro m hm
  by_cases e : i=j
  ·subst e;rw [if_pos rfl,getD_set]
   by_cases e2 : i=m
   ·subst e2; rw [if_pos ⟨rfl,by omega⟩,if_pos (.inl rfl)]
   ·rw [if_neg fun h=>e2 h.1,if_neg]; rintro (h | h) <;> exact e2 h.symm
  ·rw [if_neg e,getD_set,List.length_set]
   by_cases e2 : j=m
   ·subst e2;rw [if_pos ⟨rfl,by omega⟩,if_pos (.inr rfl),getD_set,if_neg fun h=>e h.1]
   ·rw [if_neg fun h=>e2 h.1,getD_set]
    by_cases e3 : i=m
    ·subst e3; rw [if_pos ⟨rfl,by omega⟩,if_pos (.inl rfl)]
    ·rw [if_neg fun h=>e3 h.1,if_neg]; rintro (h | h)
     ·exact e3 h.symm
     ·exact e2 h.symm
 refine ⟨?_,fun m hm y=>?_,fun m hm=>?_⟩
 ·split <;> simp [hl]
 ·rw [gm m hm]
  have:=h.mem m hm y
  split
  ·rename_i e
   rw [List.mem_append,List.mem_singleton,this]
   constructor
   ·rintro (⟨h1,h2,h3⟩ | rfl)
    ·exact ⟨h1,by omega,h3⟩
    ·refine ⟨by omega,by simp, ?_⟩;rw [Int.toNat_natCast,ei,ej]
     rcases e with e | e
     ·exact .inl (by rw [e])
     ·exact .inr (by rw [e])
   ·rintro ⟨h1,h2,h3⟩
    by_cases e2 : y.toNat=k
    ·exact .inr (by omega)
    ·exact .inl ⟨h1,by omega,h3⟩
  ·rename_i e
   rw [this]
   constructor
   ·rintro ⟨h1,h2,h3⟩; exact ⟨h1,by omega,h3⟩
   ·rintro ⟨h1,h2,h3⟩;refine ⟨h1, ?_,h3⟩
    by_cases e2 : y.toNat=k
    ·exfalso; apply e
     rw [e2,ei,ej] at h3
     rcases h3 with h3 | h3
     ·exact .inl (by omega)
     ·exact .inr (by omega)
    ·omega
 ·rw [gm m hm]
  have:=h.lens m hm
  split
  ·rw [List.length_append,List.length_singleton]; omega
  ·omega
theorem AtI.ok {sizes : List Int} {ls : List Lk} {As : List (List Int)} (h : AtI sizes.length ls ls.length As) : AtOk sizes ls As:=⟨h.len,fun n hn y=>by
 have:=h.mem n hn y;exact this⟩
theorem cons_neg {ls : List Lk} {sizes p : List Int} (ok : LksOk sizes ls) (hl : p.length=sizes.length) (h : ∀ n,n<p.length→p.getD n default<0) : Cons ls p:=by
 intro l hm h1 _
 have:=ok.i l hm
 have:=h l.i.toNat (by omega);simp only [ix] at h1; omega
end Go.Shf
namespace Go.Shf
open Go.AW
def lkRow (c : Cat) (s : List Int) (i b : Nat) : List Int:=[(i : Int),(b : Int),indexOf s (ix (ix c.comp (s.getD i default)) b)]
def hitP (c : Cat) (s : List Int) (i b : Nat) : Bool:=decide (c.frm.getD b default=ix c.to (s.getD i default))
def rowsAt (c : Cat) (s : List Int) (i n : Nat) : List (List Int):=((List.range n).filter (hitP c s i)).map (lkRow c s i)
def rowsTo (c : Cat) (s : List Int) (k : Nat) : List (List Int):=(List.range k).flatMap fun i=>rowsAt c s i c.frm.length
theorem rowsAt_t {c : Cat} {s : List Int} {i n : Nat} (h : hitP c s i n=true) : rowsAt c s i (n+1)=rowsAt c s i n++[lkRow c s i n]:=by
 rw [rowsAt,range_succ_filter,if_pos h,List.map_append]; rfl
theorem rowsAt_f {c : Cat} {s : List Int} {i n : Nat} (h : hitP c s i n=false) : rowsAt c s i (n+1)=rowsAt c s i n:=by
 rw [rowsAt,range_succ_filter,if_neg (by simp [h]),List.map_append]; simp [rowsAt]
theorem rowsTo_succ (c : Cat) (s : List Int) (k : Nat) : rowsTo c s (k+1)=rowsTo c s k++rowsAt c s k c.frm.length:=by
 rw [rowsTo,List.range_succ,List.flatMap_append]; simp [rowsTo]
theorem rowsAt_len (c : Cat) (s : List Int) (i n : Nat) : (rowsAt c s i n).length≤n:=by
 rw [rowsAt,List.length_map]; exact Nat.le_trans (List.length_filter_le _ _) (by simp)
theorem rowsTo_len (c : Cat) (s : List Int) : ∀ k,(rowsTo c s k).length≤k*c.frm.length
 | 0=>by simp [rowsTo]
 | k+1=>by
  rw [rowsTo_succ,List.length_append,Nat.add_mul]
  have:=rowsTo_len c s k
  have:=rowsAt_len c s k c.frm.length;omega
def rowsOf (c : Cat) (s : List Int) : List (List Int):=rowsTo c s s.length
def famSizes (f : SF) (s : List Int) : List Int:=s.map fun a=>ix f.sizes (ix f.shape.to a)
def natsL (n : Int) : List Int:=(List.range n.toNat).map Int.ofNat
theorem natsL_ix {n y : Int} (h : 0≤y∧y<n) : ix (natsL n) y=y:=by
 rw [ix,natsL,getD_map_range _ _ (by omega)]; exact Int.toNat_of_nonneg h.1
def lkOf (f : SF) (s r : List Int) : Lk:=⟨r.getD 0 default,r.getD 2 default,ix f.acts (r.getD 1 default),natsL (ix (famSizes f s) (r.getD 2 default))⟩
def famLinks (f : SF) (s : List Int) : List Lk:=(rowsOf f.shape s).map (lkOf f s)
noncomputable def solS (sizes : List Int) (ls : List Lk) : List (List Int):=exS sizes ls (List.replicate sizes.length (-1))
noncomputable def famS (f : SF) (s : List Int) : List (List Int):=solS (famSizes f s) (famLinks f s)
structure Fam (f : SF) (s t : List Int) : Prop where
 len : t.length=s.length
 ran : ∀ i,i<s.length→0≤t.getD i default∧t.getD i default<ix f.sizes (ix f.shape.to (s.getD i default))
 link : ∀ i,i<s.length→∀ b : Nat,b<f.shape.frm.length→f.shape.frm.getD b default=ix f.shape.to (s.getD i default) →
  ix (f.acts.getD b default) (t.getD i default)=ix t (indexOf s (ix (ix f.shape.comp (s.getD i default)) b))
theorem mem_rowsOf {c : Cat} {s r : List Int} : r∈rowsOf c s↔∃ i,i<s.length∧∃ b,b<c.frm.length∧c.frm.getD b default=ix c.to (s.getD i default)∧r=lkRow c s i b:=by
 simp only [rowsOf,rowsTo,List.mem_flatMap,List.mem_range,rowsAt,List.mem_map,List.mem_filter,hitP,decide_eq_true_eq]
 constructor
 ·rintro ⟨i,hi,b,⟨hb,e⟩,rfl⟩; exact ⟨i,hi,b,hb,e,rfl⟩
 ·rintro ⟨i,hi,b,hb,e,rfl⟩; exact ⟨i,hi,b,⟨hb,e⟩,rfl⟩
section
variable {f : SF} {x : Int} {s : List Int}
theorem SF.Shape.sizeAt (h : f.Shape) {y : Int} (hy : 0≤y∧y<f.shape.objs) : 0≤ix f.sizes y∧ix f.sizes y≤16:=by
 have:=h.sl
 have:=h.sz _ (ix_mem (l:=f.sizes) (i:=y) (by omega)); omega
theorem fam_size (h : f.Shape) (hs : f.shape.Sieve x s) {i : Nat} (hi : i<s.length) : (famSizes f s).getD i default=ix f.sizes (ix f.shape.to (s.getD i default))∧0≤(famSizes f s).getD i default∧(famSizes f s).getD i default≤16:=by
 have e : (famSizes f s).getD i default=ix f.sizes (ix f.shape.to (s.getD i default)):=by rw [famSizes,map_getD _ hi]
 have ha:=hs.arr (mem_getD.mpr ⟨i,hi,rfl⟩)
 have:=h.sizeAt (h.is.1.toObj ha.1.2);exact ⟨e,by rw [e]; exact this⟩
theorem sieve_idx (h : f.Shape) (hs : f.shape.Sieve x s) {i b : Nat} (hi : i<s.length) (hb : b<f.shape.frm.length) (e : f.shape.frm.getD b default=ix f.shape.to (s.getD i default)) :
  (0≤indexOf s (ix (ix f.shape.comp (s.getD i default)) b)∧(indexOf s (ix (ix f.shape.comp (s.getD i default)) b)).toNat<s.length) ∧
   ix s (indexOf s (ix (ix f.shape.comp (s.getD i default)) b))=ix (ix f.shape.comp (s.getD i default)) b∧ix f.shape.to (ix (ix f.shape.comp (s.getD i default)) b)=f.shape.to.getD b default:=by
 have ha:=hs.arr (mem_getD.mpr ⟨i,hi,rfl⟩)
 have hbb : 0≤(b : Int)∧(b : Int).toNat<f.shape.frm.length:=⟨by omega,by simpa using hb⟩
 have hm:=hs.cls' (mem_getD.mpr ⟨i,hi,rfl⟩) hbb (by rw [ix_nat]; exact e.symm)
 have:=indexOf_in hm
 have hc:=h.is.1.comp ha.1 hbb (by rw [ix_nat]; exact e.symm);rw [ix_nat] at hc;exact ⟨⟨this.1,this.2.1⟩,this.2.2,hc.2.2⟩
theorem lksOk (h : f.Shape) (hs : f.shape.Sieve x s) : LksOk (famSizes f s) (famLinks f s):=by
 have hl : (famSizes f s).length=s.length:=by simp [famSizes]
 have key : ∀ l,l∈famLinks f s→∃ i b : Nat,i<s.length∧b<f.shape.frm.length∧f.shape.frm.getD b default=ix f.shape.to (s.getD i default) ∧
   l=⟨i,indexOf s (ix (ix f.shape.comp (s.getD i default)) b),f.acts.getD b default,natsL (ix (famSizes f s) (indexOf s (ix (ix f.shape.comp (s.getD i default)) b)))⟩:=by
  intro l hl
  obtain ⟨r,hr,rfl⟩:=List.mem_map.mp hl
  obtain ⟨i,hi,b,hb,e,rfl⟩:=mem_rowsOf.mp hr;exact ⟨i,b,hi,hb,e,by simp [lkOf,lkRow,ix_nat]⟩
 refine ⟨fun l hm=>?_,fun l hm=>?_,fun l hm=>?_,fun l hm=>?_,fun y hy=>?_⟩
 ·obtain ⟨i,b,hi,hb,e,rfl⟩:=key l hm;exact ⟨by simp,by rw [hl]; simpa using hi⟩
 ·obtain ⟨i,b,hi,hb,e,rfl⟩:=key l hm
  have:=(sieve_idx h hs hi hb e).1;exact ⟨this.1,by rw [hl]; exact this.2⟩
 ·obtain ⟨i,b,hi,hb,e,rfl⟩:=key l hm
  have:=(h.act b (by rw [h.al]; exact hb)).1;simp only [ix_nat];rw [this,e,(fam_size h hs hi).1]
 ·obtain ⟨i,b,hi,hb,e,rfl⟩:=key l hm
  have hx:=(sieve_idx h hs hi hb e).1
  have:=(fam_size h hs hx.2).2;simp only [natsL,List.length_map,List.length_range,ix] at this ⊢;omega
 ·obtain ⟨i,hi,rfl⟩:=mem_getD.mp hy
  have:=(fam_size h hs (i:=i) (by omega)).2;omega
theorem fam_iff (h : f.Shape) (hs : f.shape.Sieve x s) {t : List Int} : Ext (famSizes f s) (famLinks f s) (List.replicate (famSizes f s).length (-1)) t↔Fam f s t:=by
 have hl : (famSizes f s).length=s.length:=by simp [famSizes]
 have hrep : ∀ n,n<s.length→(List.replicate s.length (-1 : Int)).getD n default=-1:=fun n hn=>by simp [List.getD_eq_getElem?_getD,hn]
 rw [hl]
 constructor
 ·intro he
  have hlen : t.length=s.length:=by rw [he.len]; simp
  have hran : ∀ i,i<s.length→0≤t.getD i default∧t.getD i default<ix f.sizes (ix f.shape.to (s.getD i default)):=by
   intro i hi
   have:=he.new i (by simpa using hi) (hrep i hi);rw [(fam_size h hs hi).1] at this; exact this
  refine ⟨hlen,hran,fun i hi b hb e=>?_⟩
  have hx:=sieve_idx h hs hi hb e
  have:=he.cons (lkOf f s (lkRow f.shape s i b)) (List.mem_map.mpr ⟨_,mem_rowsOf.mpr ⟨i,hi,b,hb,e,rfl⟩,rfl⟩);simp only [Fits,lkOf,lkRow,List.getD_cons_zero,List.getD_cons_succ,ix_nat] at this
  have h2:=hran _ hx.1.2
  have:=this (hran i hi).1 (by simp only [ix]; exact h2.1);rw [this]
  have h3:=(fam_size h hs hx.1.2).1;refine natsL_ix ⟨h2.1, ?_⟩
  have h6:=h2.2;rw [← h3] at h6
  simpa only [ix,ix_nat,Int.toNat_natCast] using h6
 ·intro hf;refine ⟨by simp [hf.len],fun n hn e=>?_,fun n hn e=>?_,fun l hm=>?_⟩
  ·have hn : n<s.length:=by simpa using hn
   rw [(fam_size h hs hn).1]; exact hf.ran n hn
  ·exact absurd (hrep n (by simpa using hn)) e
  ·obtain ⟨r,hr,rfl⟩:=List.mem_map.mp hm
   obtain ⟨i,hi,b,hb,e,rfl⟩:=mem_rowsOf.mp hr
   have hx:=sieve_idx h hs hi hb e
   intro h1 h2;simp only [lkOf,lkRow,List.getD_cons_zero,List.getD_cons_succ,ix_nat] at h1 h2 ⊢;rw [hf.link i hi b hb e]
   have h3:=(fam_size h hs hx.1.2).1
   have h5:=hf.ran _ hx.1.2
   symm
   refine natsL_ix ⟨h5.1, ?_⟩
   have h6:=h5.2;rw [← h3] at h6
   simpa only [ix,ix_nat,Int.toNat_natCast] using h6
end
end Go.Shf
namespace Go.Shf
open Go.AW
structure CovOk (c : Cat) (V : List (List Int)) : Prop where
 len : (V.length : Int)=c.objs
 sv : ∀ x : Nat,x<V.length→c.Sieve x (V.getD x default)
 st : ∀ a : Int,0≤a∧a.toNat<c.frm.length→∀ b,b∈ix V (ix c.to a)→ix (ix c.comp a) b∈ix V (ix c.frm a)
def movedF (c : Cat) (V : List (List Int)) (a : Int) (t : List Int) : List Int:=(ix V (ix c.to a)).map fun b=>ix t (indexOf (ix V (ix c.frm a)) (ix (ix c.comp a) b))
noncomputable def famAt (f : SF) (V : List (List Int)) (x : Nat) : List (List Int):=famS f (V.getD x default)
noncomputable def famsOf (f : SF) (V : List (List Int)) : List (List (List Int)):=(List.range V.length).map (famAt f V)
noncomputable def sizeAt (f : SF) (V : List (List Int)) (x : Nat) : Int:=((famAt f V x).length : Int)
noncomputable def stepSizes (f : SF) (V : List (List Int)) : List Int:=(List.range V.length).map (sizeAt f V)
noncomputable def actAt (f : SF) (V : List (List Int)) (a : Nat) : List Int :=
 (famAt f V (f.shape.frm.getD a default).toNat).map fun t=>indexOf (famAt f V (f.shape.to.getD a default).toNat) (movedF f.shape V a t)
noncomputable def stepActs (f : SF) (V : List (List Int)) : List (List Int):=(List.range f.shape.frm.length).map (actAt f V)
noncomputable def stepSF (f : SF) (V : List (List Int)) : SF:=⟨f.shape,stepSizes f V,stepActs f V⟩
def StepFew (f : SF) (V : List (List Int)) : Prop:=∀ x,x<V.length→(famAt f V x).length≤16
def SF.CompL (f : SF) : Prop:=∀ a b : Int,(0≤a∧a.toNat<f.shape.frm.length)→(0≤b∧b.toNat<f.shape.frm.length)→ix f.shape.to a=ix f.shape.frm b→∀ e : Int,0≤e∧e.toNat<(ix f.acts a).length →
 ix (ix f.acts (ix (ix f.shape.comp a) b)) e=ix (ix f.acts b) (ix (ix f.acts a) e)
theorem SF.Is.compL {f : SF} (h : f.Is) : f.CompL:=fun a b ha hb e x hx=>by
 have:=h.2.comp a.toNat b.toNat ha.2 hb.2 e x.toNat hx.2;exact this
section
variable {f : SF} {x : Int} {s t : List Int}
theorem famS_is (h : f.Shape) (hs : f.shape.Sieve x s) : IsLex (Fam f s) (famS f s):=by
 have hl : (famSizes f s).length=s.length:=by simp [famSizes]
 have hr : ∀ n,n<(List.replicate (famSizes f s).length (-1 : Int)).length→(List.replicate (famSizes f s).length (-1 : Int)).getD n default<0:=fun n hn=>by
  rw [List.length_replicate] at hn
  simp [List.getD_eq_getElem?_getD,hn]
 have:=exS_is (lksOk h hs) (p:=List.replicate (famSizes f s).length (-1)) ⟨by simp,fun n hn=>.inl (hr n hn)⟩ (cons_neg (lksOk h hs) (by simp) hr);exact ⟨this.srt,fun t=>(this.mem t).trans (fam_iff h hs)⟩
theorem IsLex.nodup {S : List Int→Prop} {L : List (List Int)} (h : IsLex S L) : L.Nodup:=h.srt.imp fun {a b} h e=>by rw [cmp_zero.mpr e] at h; omega
def entry (s t : List Int) (a : Int) : Int:=ix t (indexOf s a)
theorem Fam.entry_ran (hf : Fam f s t) {a : Int} (ha : a∈s) : 0≤entry s t a∧entry s t a<ix f.sizes (ix f.shape.to a):=by
 have h1:=indexOf_in ha
 have:=hf.ran _ h1.2.1
 have e : s.getD (indexOf s a).toNat default=a:=h1.2.2;rw [e] at this; exact this
theorem Fam.entry_link (h : f.Shape) (hs : f.shape.Sieve x s) (hf : Fam f s t) {a b : Int} (ha : a∈s) (hb : 0≤b∧b.toNat<f.shape.frm.length) (e : ix f.shape.to a=ix f.shape.frm b) :
  ix (ix f.acts b) (entry s t a)=entry s t (ix (ix f.shape.comp a) b):=by
 have h1:=indexOf_in ha
 have e1 : s.getD (indexOf s a).toNat default=a:=h1.2.2
 have:=hf.link _ h1.2.1 b.toNat hb.2 (by rw [e1]; exact e.symm);rw [e1,Int.toNat_of_nonneg hb.1] at this;exact this
theorem fam_mk (h : f.Shape) (hs : f.shape.Sieve x s) (g : Int→Int) (hr : ∀ a,a∈s→0≤g a∧g a<ix f.sizes (ix f.shape.to a))
  (hl : ∀ a b,a∈s→(0≤b∧b.toNat<f.shape.frm.length)→ix f.shape.to a=ix f.shape.frm b→ix (ix f.acts b) (g a)=g (ix (ix f.shape.comp a) b)) : Fam f s (s.map g):=by
 refine ⟨by simp,fun i hi=>?_,fun i hi b hb e=>?_⟩
 ·rw [map_getD _ hi]; exact hr _ (mem_getD.mpr ⟨i,hi,rfl⟩)
 ·have hx:=sieve_idx h hs hi hb e;rw [map_getD _ hi]
  have:=hl (s.getD i default) b (mem_getD.mpr ⟨i,hi,rfl⟩) ⟨by omega,by simpa using hb⟩ (by rw [ix_nat]; exact e.symm);rw [ix_nat] at this;rw [this];rw [show ix (s.map g) (indexOf s (ix (ix f.shape.comp (s.getD i default)) b))=(s.map g).getD (indexOf s (ix (ix f.shape.comp (s.getD i default)) b)).toNat default from rfl,map_getD _ hx.1.2];exact congrArg g hx.2.1.symm
theorem entry_map {g : Int→Int} {a : Int} (ha : a∈s) : entry s (s.map g) a=g a:=by
 have h1:=indexOf_in ha;rw [entry,ix,map_getD _ h1.2.1];exact congrArg g h1.2.2
theorem fam_ext {u : List Int} (hnd : s.Nodup) (ht : t.length=s.length) (hu : u.length=s.length) (h : ∀ a,a∈s→entry s t a=entry s u a) : t=u:=by
 refine List.ext_getElem (by omega) fun i h1 h2=>?_
 have:=h (s.getD i default) (mem_getD.mpr ⟨i,by omega,rfl⟩);rw [entry,entry,indexOf_nodup hnd (by omega),ix_nat,ix_nat] at this
 simpa [List.getD_eq_getElem?_getD,h1,h2] using this
theorem Cat.Sieve.nodup {c : Cat} (hs : c.Sieve x s) : s.Nodup:=(rising_pw.mp hs.ris).imp fun {a b} h=>by omega
theorem imgs_fam (h : f.Shape) (hc : f.CompL) (hs : f.shape.Sieve x s) {e : Int} (he : 0≤e∧e<ix f.sizes x) : Fam f s (imgs f s e):=by
 have hal:=h.al;refine fam_mk h hs (fun a=>ix (ix f.acts a) e) (fun a ha=>?_) fun a b ha hb hab=>?_
 ·have hv:=hs.arr ha
  have h1:=h.actLen hv.1.2;rw [hv.2] at h1;exact (h.act a.toNat (by omega)).2 _ (ix_mem (l:=ix f.acts a) (by omega))
 ·have hv:=hs.arr ha
  have h1:=h.actLen hv.1.2;rw [hv.2] at h1;exact (hc a b hv.1 hb hab e ⟨he.1,by omega⟩).symm
end
section
variable {f : SF} {V : List (List Int)}
theorem CovOk.at {c : Cat} (v : CovOk c V) {x : Int} (h : 0≤x∧x<c.objs) : c.Sieve x (ix V x):=by
 have:=v.len
 have:=v.sv x.toNat (by omega);rw [Int.toNat_of_nonneg h.1] at this; exact this
theorem CovOk.frm {c : Cat} (hc : c.Is) (v : CovOk c V) {a : Int} (h : 0≤a∧a.toNat<c.frm.length) : c.Sieve (ix c.frm a) (ix V (ix c.frm a)):=v.at (hc.1.frmObj h.2)
theorem CovOk.to {c : Cat} (hc : c.Is) (v : CovOk c V) {a : Int} (h : 0≤a∧a.toNat<c.frm.length) : c.Sieve (ix c.to a) (ix V (ix c.to a)):=v.at (hc.1.toObj h.2)
theorem moved_entry {c : Cat} {a b : Int} {t : List Int} (hb : b∈ix V (ix c.to a)) : entry (ix V (ix c.to a)) (movedF c V a t) b=entry (ix V (ix c.frm a)) t (ix (ix c.comp a) b):=entry_map hb
theorem moved_fam (h : f.Shape) (v : CovOk f.shape V) {a : Int} (ha : 0≤a∧a.toNat<f.shape.frm.length) {t : List Int} (ht : Fam f (ix V (ix f.shape.frm a)) t) : Fam f (ix V (ix f.shape.to a)) (movedF f.shape V a t):=by
 have hst:=v.to h.is ha
 have hsf:=v.frm h.is ha;refine fam_mk h hst (fun b=>entry (ix V (ix f.shape.frm a)) t (ix (ix f.shape.comp a) b)) (fun b hb=>?_) fun b d hb hd e=>?_
 ·have hbv:=hst.arr hb
  have:=ht.entry_ran (v.st a ha b hb);rw [(h.is.1.comp ha hbv.1 hbv.2.symm).2.2] at this; exact this
 ·have hbv:=hst.arr hb
  have hab:=h.is.1.comp ha hbv.1 hbv.2.symm
  have:=ht.entry_link h hsf (v.st a ha b hb) hd (by rw [hab.2.2]; exact e);rw [this,h.is.assoc ha hbv.1 hd hbv.2.symm e]
theorem moved_comp (h : f.Shape) (v : CovOk f.shape V) {a b : Int} (ha : 0≤a∧a.toNat<f.shape.frm.length) (hb : 0≤b∧b.toNat<f.shape.frm.length) (e : ix f.shape.to a=ix f.shape.frm b) (t : List Int) :
  movedF f.shape V (ix (ix f.shape.comp a) b) t=movedF f.shape V b (movedF f.shape V a t):=by
 have hab:=h.is.1.comp ha hb e
 have hst:=v.to h.is hb;refine fam_ext (s:=ix V (ix f.shape.to b)) hst.nodup (by rw [movedF,List.length_map,hab.2.2]) (by rw [movedF,List.length_map]) fun d hd=>?_
 have hdv:=hst.arr hd
 have hbd:=v.st b hb d hd
 have h1:=moved_entry (c:=f.shape) (V:=V) (a:=ix (ix f.shape.comp a) b) (b:=d) (t:=t) (by rw [hab.2.2]; exact hd);rw [hab.2.2,hab.2.1] at h1;rw [h1,moved_entry hd];rw [← e] at hbd ⊢;rw [moved_entry hbd,h.is.assoc ha hb hdv.1 e hdv.2.symm]
theorem stepSizes_ix (v : CovOk f.shape V) {x : Int} (hx : 0≤x∧x<f.shape.objs) : ix (stepSizes f V) x=((famS f (ix V x)).length : Int):=by
 have:=v.len;rw [ix,stepSizes,getD_map_range _ _ (by omega)]; rfl
theorem stepActs_ix {a : Int} (ha : 0≤a∧a.toNat<f.shape.frm.length) : ix (stepActs f V) a=(famS f (ix V (ix f.shape.frm a))).map fun t=>indexOf (famS f (ix V (ix f.shape.to a))) (movedF f.shape V a t):=by
 rw [ix,stepActs,getD_map_range _ _ ha.2,actAt,Int.toNat_of_nonneg ha.1]; rfl
theorem step_act (h : f.Shape) (v : CovOk f.shape V) {a : Int} (ha : 0≤a∧a.toNat<f.shape.frm.length) {k : Int} (hk : 0≤k∧k.toNat<(famS f (ix V (ix f.shape.frm a))).length) :
  ix (ix (stepActs f V) a) k=indexOf (famS f (ix V (ix f.shape.to a))) (movedF f.shape V a (ix (famS f (ix V (ix f.shape.frm a))) k)) ∧
  movedF f.shape V a (ix (famS f (ix V (ix f.shape.frm a))) k)∈famS f (ix V (ix f.shape.to a)):=by
 refine ⟨by rw [stepActs_ix ha,ix,map_getD _ hk.2]; rfl, ?_⟩;refine ((famS_is h (v.to h.is ha)).mem _).mpr (moved_fam h v ha ?_);exact ((famS_is h (v.frm h.is ha)).mem _).mp (ix_mem hk.2)
theorem step_shape (h : f.Shape) (v : CovOk f.shape V) (hf : StepFew f V) : (stepSF f V).Shape:=by
 have hl:=v.len;refine ⟨h.is, ?_, ?_,fun y hy=>?_,fun a ha=>?_⟩
 ·show ((stepSizes f V).length : Int)=_
  simp [stepSizes]; exact hl
 ·show (stepActs f V).length=_
  simp [stepActs,stepSF]
 ·obtain ⟨x,hx,rfl⟩:=List.mem_map.mp (show y∈stepSizes f V from hy)
  have:=hf x (List.mem_range.mp hx);unfold sizeAt; omega
 ·have ha : a<f.shape.frm.length:=by
   have : (stepSF f V).acts.length=f.shape.frm.length:=by show (stepActs f V).length=_; simp [stepActs]
   omega
  have haa : 0≤(a : Int)∧(a : Int).toNat<f.shape.frm.length:=⟨by omega,by simpa using ha⟩
  have hfo:=h.is.1.frmObj haa.2
  have hto:=h.is.1.toObj haa.2
  have e:=stepActs_ix (f:=f) (V:=V) haa;simp only [ix_nat] at e hfo hto
  constructor
  ·show (((stepActs f V).getD a default).length : Int)=ix (stepSizes f V) (f.shape.frm.getD a default)
   rw [e,stepSizes_ix v hfo,List.length_map]
  ·intro y hy
   replace hy : y∈(stepActs f V).getD a default:=hy;rw [e] at hy
   obtain ⟨t,ht,rfl⟩:=List.mem_map.mp hy
   show _∧_<ix (stepSizes f V) (f.shape.to.getD a default)
   rw [stepSizes_ix v hto]
   have h1:=v.frm h.is haa
   have h2:=v.to h.is haa
   have hm:=moved_fam h v haa (t:=t) (by
    simp only [ix_nat] at h1 ⊢;exact ((famS_is h h1).mem _).mp ht)
   have:=((famS_is h h2).mem _).mpr hm;simp only [ix_nat] at this
   have:=indexOf_in this;omega
theorem step_comp (h : f.Shape) (v : CovOk f.shape V) (hf : StepFew f V) : (stepSF f V).CompL:=by
 intro a b ha hb e k hk
 replace hk : 0≤k∧k.toNat<(ix (stepActs f V) a).length:=hk
 replace e : ix f.shape.to a=ix f.shape.frm b:=e
 replace ha : 0≤a∧a.toNat<f.shape.frm.length:=ha
 replace hb : 0≤b∧b.toNat<f.shape.frm.length:=hb
 show ix (ix (stepActs f V) (ix (ix f.shape.comp a) b)) k=ix (ix (stepActs f V) b) (ix (ix (stepActs f V) a) k)
 rw [stepActs_ix ha,List.length_map] at hk
 have hab:=h.is.1.comp ha hb e
 have h1:=step_act h v ha hk
 have h2:=step_act h v hab.1 (k:=k) (by rw [hab.2.1]; exact hk)
 have hin:=indexOf_in h1.2
 have h3:=step_act h v hb (k:=ix (ix (stepActs f V) a) k) (by rw [h1.1,← e]; exact ⟨hin.1,hin.2.1⟩);rw [h2.1,h3.1,h1.1,← e,hin.2.2,hab.2.1,hab.2.2,moved_comp h v ha hb e]
end
theorem mem_least {c : Cat} {C : List (List (List Int))} {x : Nat} {a : Int} : a∈leastAt c C x↔a∈outs c x∧∀ s,s∈C.getD x default→a∈s:=by
 rw [leastAt,List.mem_filter,leastP,decide_eq_true_eq]
theorem leastL_ix {c : Cat} {C : List (List (List Int))} {x : Int} (h : x.toNat<C.length) : ix (leastL c C) x=leastAt c C x.toNat:=by
 rw [ix,leastL,getD_map_range _ _ h]
theorem least_cov {c : Cat} {C : List (List (List Int))} (hc : c.Is) (hl : (C.length : Int)=c.objs) (hs : ∀ x : Nat,x<C.length→∀ s,s∈C.getD x default→c.Sieve x s) (t : TopIs c C) : CovOk c (leastL c C):=by
 have hll : (leastL c C).length=C.length:=by simp [leastL]
 refine ⟨by rw [hll]; exact hl,fun x hx=>?_,fun a ha b hb=>?_⟩
 ·rw [hll] at hx
  have e : (leastL c C).getD x default=leastAt c C x:=by rw [leastL,getD_map_range _ _ hx]
  rw [e]
  have ho:=outs_sieve hc.1 (x:=(x : Int));refine .mk' ?_ (fun a ha=>ho.arr (mem_least.mp ha).1) fun a b ha hb e=>?_
  ·have:=rising_pw.mp ho.ris;rw [rising_pw,leastAt];exact this.filter _
  ·have:=mem_least.mp ha;exact mem_least.mpr ⟨ho.cls' this.1 hb e,fun s hsm=>(hs x hx s hsm).cls' (this.2 s hsm) hb e⟩
 ·have hf:=hc.1.frmObj ha.2
  have ht:=hc.1.toObj ha.2;rw [leastL_ix (by omega),mem_least] at hb ⊢;rw [Int.toNat_of_nonneg ht.1] at hb;rw [Int.toNat_of_nonneg hf.1]
  have hbo:=mem_outs.mp hb.1
  have hcmp:=hc.1.comp ha ⟨hbo.1,hbo.2.1⟩ hbo.2.2.symm;refine ⟨mem_outs.mpr ⟨hcmp.1.1,hcmp.1.2,hcmp.2.1⟩,fun s hsm=>?_⟩
  have hp:=t.pull a.toNat ha.2 s (by exact hsm);rw [Int.toNat_of_nonneg ha.1] at hp
  have:=hb.2 _ hp;exact (mem_pullS.mp this).2.2
end Go.Shf
namespace Go.Shf
open Go.AW
end Go.Shf
namespace Go.Shf
open Go.AW
def UniqG (f : SF) (x : Int) (s t : List Int) : Prop:=(glue f x s t).length=1
def CovGood (f : SF) (x : Int) (s : List Int) : Prop:=(famS f s).length≤16∧∀ t,t∈famS f s→UniqG f x s t
def LeastGood (f : SF) (x : Int) (s : List Int) : Prop:=(∀ e : Nat,e<(ix f.sizes x).toNat→UniqG f x s (imgs f s e))∧((famS f s).length : Int)=ix f.sizes x
section
variable {f : SF} {x : Int} {s t : List Int}
theorem mem_glue {e : Int} : e∈glue f x s t↔(0≤e∧e<ix f.sizes x)∧imgs f s e=t:=by
 rw [glue,mem_nats,glueP,decide_eq_true_eq]
 constructor
 ·rintro ⟨h1,h2,h3⟩; rw [Int.toNat_of_nonneg h1] at h3; exact ⟨⟨h1,by omega⟩,h3⟩
 ·rintro ⟨⟨h1,h2⟩,h3⟩; exact ⟨h1,by omega,by rw [Int.toNat_of_nonneg h1]; exact h3⟩
theorem uniq_iff : UniqG f x s t↔∃ e : Int,((0≤e∧e<ix f.sizes x)∧imgs f s e=t)∧∀ e' : Int,0≤e'∧e'<ix f.sizes x→imgs f s e'=t→e'=e:=by
 have hnd : (glue f x s t).Nodup:=(rising_pw.mp (nats_rising _ _)).imp fun {a b} h=>by omega
 rw [UniqG]
 constructor
 ·intro h
  obtain ⟨e,he⟩:=List.length_eq_one_iff.mp h;refine ⟨e,mem_glue.mp (by rw [he]; simp),fun e' h1 h2=>?_⟩
  have:=mem_glue.mpr ⟨h1,h2⟩;rw [he] at this
  simpa using this
 ·rintro ⟨e,h1,h2⟩
  have hm:=mem_glue.mpr h1
  have h3 : ∀ y,y∈glue f x s t→y=e:=fun y hy=>h2 y (mem_glue.mp hy).1 (mem_glue.mp hy).2
  generalize glue f x s t=L at *
  match L,hm,h3,hnd with
  | [a],_,_,_=>rfl
  | a::b::r,_,h3,hnd =>
   have h4:=h3 a (by simp)
   have h5:=h3 b (by simp);simp only [List.nodup_cons,List.mem_cons,not_or] at hnd;exact absurd (h4.trans h5.symm) hnd.1.1
theorem range_nodup {g : Nat→List Int} {n : Nat} (h : ∀ a b : Nat,a<n→b<n→g a=g b→a=b) : ((List.range n).map g).Nodup:=by
 rw [List.Nodup,List.pairwise_map];refine List.Pairwise.imp_of_mem ?_ List.nodup_range
 intro a b ha hb hne e;exact hne (h a b (List.mem_range.mp ha) (List.mem_range.mp hb) e)
theorem good_iff (h : f.Shape) (hc : f.CompL) (hs : f.shape.Sieve x s) (hx : 0≤x∧x<f.shape.objs) : CovGood f x s↔LeastGood f x s:=by
 have hz:=h.sizeAt hx
 have hfs:=famS_is h hs
 have himg : ∀ e : Nat,e<(ix f.sizes x).toNat→imgs f s e∈famS f s:=fun e he=>(hfs.mem _).mpr (imgs_fam h hc hs ⟨by omega,by omega⟩)
 constructor
 ·rintro ⟨h1,h2⟩
  have hu:=fun (e : Nat) he=>h2 _ (himg e he);refine ⟨hu, ?_⟩
  have a1 : ((List.range (ix f.sizes x).toNat).map fun e : Nat=>imgs f s e).length≤(famS f s).length:=by
   refine List.Nodup.length_le_of_subset (range_nodup fun a b ha hb e=>?_) fun t ht=>?_
   ·obtain ⟨e0,_,h4⟩:=uniq_iff.mp (hu a ha)
    have q1:=h4 a ⟨by omega,by omega⟩ rfl
    have q2:=h4 b ⟨by omega,by omega⟩ e.symm;omega
   ·obtain ⟨e,he,rfl⟩:=List.mem_map.mp ht;exact himg e (List.mem_range.mp he)
  have a2 : (famS f s).length≤((List.range (ix f.sizes x).toNat).map fun e : Nat=>imgs f s e).length:=by
   refine List.Nodup.length_le_of_subset hfs.nodup fun t ht=>?_
   obtain ⟨e,⟨h4,h5⟩,_⟩:=uniq_iff.mp (h2 t ht);exact List.mem_map.mpr ⟨e.toNat,List.mem_range.mpr (by omega),by rw [Int.toNat_of_nonneg h4.1]; exact h5⟩
  simp only [List.length_map,List.length_range] at a1 a2;omega
 ·rintro ⟨h1,h2⟩;refine ⟨by omega,fun t ht=>?_⟩
  have hnd : ((List.range (ix f.sizes x).toNat).map fun e : Nat=>imgs f s e).Nodup:=range_nodup fun a b ha hb e=>by
   obtain ⟨e0,_,h4⟩:=uniq_iff.mp (h1 a ha)
   have q1:=h4 a ⟨by omega,by omega⟩ rfl
   have q2:=h4 b ⟨by omega,by omega⟩ e.symm;omega
  have hmem : t∈(List.range (ix f.sizes x).toNat).map fun e : Nat=>imgs f s e:=by
   apply Classical.byContradiction; intro hn
   have:=List.Nodup.length_le_of_subset (l₁:=t::(List.range (ix f.sizes x).toNat).map fun e : Nat=>imgs f s e) (l₂:=famS f s) (List.nodup_cons.mpr ⟨hn,hnd⟩) fun u hu=>by
    rcases List.mem_cons.mp hu with rfl | hu
    ·exact ht
    ·obtain ⟨e,he,rfl⟩:=List.mem_map.mp hu;exact himg e (List.mem_range.mp he)
   simp only [List.length_cons,List.length_map,List.length_range] at this;omega
  obtain ⟨e,he,rfl⟩:=List.mem_map.mp hmem;exact h1 e (List.mem_range.mp he)
end
theorem good_up {f : SF} {V : List (List Int)} (h : f.Shape) (hc : f.CompL) (v : CovOk f.shape V) (hg : ∀ x : Int,0≤x∧x<f.shape.objs→CovGood f x (ix V x)) {x : Int} (hx : 0≤x∧x<f.shape.objs) {s : List Int} (hs : f.shape.Sieve x s)
  (hsub : ∀ a,a∈ix V x→a∈s) : CovGood f x s:=by
 have hz:=h.sizeAt hx
 have hv:=v.at hx
 have hfs:=famS_is h hs
 have hal:=h.al
 have key : ∀ t,t∈famS f s→UniqG f x s t:=by
  intro t ht
  have hft:=(hfs.mem t).mp ht
  have hr : Fam f (ix V x) ((ix V x).map (entry s t)):=fam_mk h hv _ (fun a ha=>hft.entry_ran (hsub a ha)) fun a b ha hb e=>hft.entry_link h hs (hsub a ha) hb e
  obtain ⟨e,⟨he1,he2⟩,he3⟩:=uniq_iff.mp ((hg x hx).2 _ (((famS_is h hv).mem _).mpr hr))
  have hact : ∀ a,(0≤a∧a.toNat<f.shape.frm.length)→ix f.shape.frm a=x→0≤ix (ix f.acts a) e∧ix (ix f.acts a) e<ix f.sizes (ix f.shape.to a):=fun a ha hfa=>by
   have h1:=h.actLen ha.2;rw [hfa] at h1;exact (h.act a.toNat (by omega)).2 _ (ix_mem (l:=ix f.acts a) (by omega))
  refine uniq_iff.mpr ⟨e,⟨he1, ?_⟩,fun e' h1 h2=>he3 e' h1 ?_⟩
  ·refine fam_ext (s:=s) hs.nodup (by simp [imgs]) hft.len fun a ha=>?_
   have hav:=hs.arr ha;rw [imgs,entry_map ha]
   have hto:=h.is.1.toObj hav.1.2
   have hvy:=v.at hto
   have r1:=hact a hav.1 hav.2
   have r2:=hft.entry_ran ha
   have hsame : imgs f (ix V (ix f.shape.to a)) (ix (ix f.acts a) e)=imgs f (ix V (ix f.shape.to a)) (entry s t a):=by
    rw [imgs,imgs];refine List.map_congr_left fun b hb=>?_
    have hbv:=hvy.arr hb
    have hab : ix (ix f.shape.comp a) b∈ix V x:=by
     have:=v.st a hav.1 b hb;rw [hav.2] at this; exact this
    have h1:=h.actLen hav.1.2;rw [hav.2] at h1
    have c1:=hc a b hav.1 hbv.1 hbv.2.symm e ⟨he1.1,by omega⟩
    have c2:=hft.entry_link h hs ha hbv.1 hbv.2.symm;rw [c2,← c1]
    have c3 : entry (ix V x) (imgs f (ix V x) e) (ix (ix f.shape.comp a) b)=entry (ix V x) ((ix V x).map (entry s t)) (ix (ix f.shape.comp a) b):=by rw [he2]
    rw [imgs,entry_map hab,entry_map hab] at c3;exact c3
   have hfam:=imgs_fam h hc hvy r2
   obtain ⟨e0,_,q⟩:=uniq_iff.mp ((hg _ hto).2 _ (((famS_is h hvy).mem _).mpr hfam));exact (q _ r1 hsame).trans (q _ r2 rfl).symm
  ·rw [← h2,imgs,imgs];exact List.map_congr_left fun a ha=>(entry_map (g:=fun a=>ix (ix f.acts a) e') (hsub a ha)).symm
 refine ⟨?_,key⟩
 have:=List.Nodup.length_le_of_subset (l₂:=(List.range (ix f.sizes x).toNat).map fun e : Nat=>imgs f s e) hfs.nodup fun t ht=>by
  obtain ⟨e,⟨h4,h5⟩,_⟩:=uniq_iff.mp (key t ht);exact List.mem_map.mpr ⟨e.toNat,List.mem_range.mpr (by omega),by rw [Int.toNat_of_nonneg h4.1]; exact h5⟩
 simp only [List.length_map,List.length_range] at this;omega
theorem least_mem {c : Cat} {C : List (List (List Int))} (hc : c.Is) (hl : (C.length : Int)=c.objs) (hs : ∀ x : Nat,x<C.length→∀ s,s∈C.getD x default→c.Sieve x s) (t : TopIs c C) {x : Nat} (hx : x<C.length) : leastAt c C x∈C.getD x default:=by
 have hxo : x<c.objs.toNat:=by omega
 have ho:=outs_sieve hc.1 (x:=(x : Int))
 suffices key : ∀ R : List (List Int),(∀ s,s∈R→s∈C.getD x default)→c.Sieve x ((outs c x).filter (leastP R))∧(outs c x).filter (leastP R)∈C.getD x default from (key _ fun s h=>h).2
 intro R
 have mem : ∀ (R : List (List Int)) (a : Int),a∈(outs c x).filter (leastP R)↔a∈outs c x∧∀ s,s∈R→a∈s:=fun R a=>by rw [List.mem_filter,leastP,decide_eq_true_eq]
 induction R with
 | nil =>
  intro _
  have e : (outs c x).filter (leastP [])=outs c x:=List.filter_eq_self.mpr fun a _=>by simp [leastP]
  rw [e];exact ⟨ho,t.top x hxo⟩
 | cons s R ih =>
  intro hR
  obtain ⟨i1,i2⟩:=ih fun u hu=>hR u (by simp [hu])
  have hsC:=hR s (by simp)
  have hss:=hs x hx s hsC
  have hsv : c.Sieve x ((outs c x).filter (leastP (s::R))):=by
   refine .mk' ?_ (fun a ha=>ho.arr ((mem _ a).mp ha).1) fun a b ha hb e=>?_
   ·have:=rising_pw.mp ho.ris;rw [rising_pw];exact this.filter _
   ·have:=(mem _ a).mp ha;refine (mem _ _).mpr ⟨ho.cls' this.1 hb e,fun u hu=>?_⟩
    rcases List.mem_cons.mp hu with rfl | hu'
    ·exact hss.cls' (this.2 _ (by simp)) hb e
    ·exact (hs x hx u (hR u hu)).cls' (this.2 u hu) hb e
  refine ⟨hsv,t.loc x hxo _ i2 _ hsv fun a ha=>?_⟩
  have hav:=i1.arr ha
  have hp:=t.pull a.toNat hav.1.2 s (by
   have e : c.frm.getD a.toNat default=x:=hav.2;rw [e]; simpa using hsC)
  rw [Int.toNat_of_nonneg hav.1.1] at hp
  have e2 : pullS c a ((outs c x).filter (leastP (s::R)))=pullS c a s:=by
   refine Cat.Sieve.ext (c:=c) (x:=ix c.to a) (pullS_sieve hc hav.1 (by rw [hav.2]; exact hsv)) (pullS_sieve hc hav.1 (by rw [hav.2]; exact hss)) fun b=>?_;rw [mem_pullS,mem_pullS];refine and_congr_right fun hb=>and_congr_right fun hab=>?_;rw [mem]
   constructor
   ·exact fun h=>h.2 s (by simp)
   ·intro h
    have hm:=(mem R a).mp ha;refine ⟨ho.cls' hm.1 hb hab,fun u hu=>?_⟩
    rcases List.mem_cons.mp hu with rfl | hu'
    ·exact h
    ·exact (hs x hx u (hR u hu)).cls' (hm.2 u hu') hb hab
  rw [e2];exact hp
def SheafAll (f : SF) (C : List (List (List Int))) : Prop:=∀ x : Nat,x<C.length→∀ s,s∈C.getD x default→CovGood f x s
def SheafLeast (f : SF) (V : List (List Int)) : Prop:=∀ x : Nat,x<V.length→LeastGood f x (V.getD x default)
theorem sheaf_iff {f : SF} {C : List (List (List Int))} (h : f.Shape) (hc : f.CompL) (hl : (C.length : Int)=f.shape.objs) (hs : ∀ x : Nat,x<C.length→∀ s,s∈C.getD x default→f.shape.Sieve x s) (t : TopIs f.shape C) :
  SheafAll f C↔SheafLeast f (leastL f.shape C):=by
 have v:=least_cov h.is hl hs t
 have hll : (leastL f.shape C).length=C.length:=by simp [leastL]
 have e : ∀ x : Nat,x<C.length→(leastL f.shape C).getD x default=leastAt f.shape C x:=fun x hx=>by rw [leastL,getD_map_range _ _ hx]
 constructor
 ·intro q x hx;rw [hll] at hx
  have hsv:=v.sv x (by omega);refine (good_iff h hc hsv ⟨by omega,by omega⟩).mp ?_;rw [e x hx];exact q x hx _ (least_mem h.is hl hs t hx)
 ·intro q x hx s hsm;refine good_up h hc v (fun y hy=>?_) (x:=(x : Int)) ⟨by omega,by omega⟩ (hs x hx s hsm) fun a ha=>?_
  ·have:=q y.toNat (by omega)
   have hsv:=v.at hy;refine (good_iff h hc hsv hy).mpr ?_;rw [Int.toNat_of_nonneg hy.1] at this;exact this
  ·rw [leastL_ix (by simpa using hx)] at ha;exact (mem_least.mp ha).2 s (by simpa using hsm)
end Go.Shf
namespace Go.Shf
open Go.AW
end Go.Shf
namespace Go.Shf
open Go.AW
def CovId (c : Cat) (V : List (List Int)) : Prop:=∀ x : Int,0≤x∧x<c.objs→∀ d,d∈ix V x→∃ a,a∈ix V x∧∃ b,b∈ix V (ix c.to a)∧ix (ix c.comp a) b=d
def SepL (f : SF) (V : List (List Int)) : Prop:=∀ x : Int,0≤x∧x<f.shape.objs→∀ e e' : Int,(0≤e∧e<ix f.sizes x)→(0≤e'∧e'<ix f.sizes x)→imgs f (ix V x) e=imgs f (ix V x) e'→e=e'
section
variable {c : Cat} {C : List (List (List Int))}
theorem TopIs.sup (t : TopIs c C) (hc : c.Is) (hl : (C.length : Int)=c.objs) (hs : ∀ x : Nat,x<C.length→∀ s,s∈C.getD x default→c.Sieve x s) {x : Nat} (hx : x<c.objs.toNat) {s u : List Int}
  (h : s∈C.getD x default) (hu : c.Sieve x u) (hsub : ∀ a,a∈s→a∈u) : u∈C.getD x default:=by
 refine t.loc x hx s h u hu fun a ha=>?_
 have hav:=(hs x (by omega) s h).arr ha
 have hto:=hc.1.toObj hav.1.2
 have e : pullS c a u=outs c (ix c.to a):=by
  refine Cat.Sieve.ext (c:=c) (x:=ix c.to a) (pullS_sieve hc hav.1 (by rw [hav.2]; exact hu)) (outs_sieve hc.1 _) fun b=>?_;rw [mem_pullS,mem_outs]
  constructor
  ·rintro ⟨h1,h2,_⟩; exact ⟨h1.1,h1.2,h2.symm⟩
  ·rintro ⟨h1,h2,h3⟩; exact ⟨⟨h1,h2⟩,h3.symm,hu.cls' (hsub a ha) ⟨h1,h2⟩ h3.symm⟩
 rw [e]
 have:=t.top (ix c.to a).toNat (by omega)
 rwa [Int.toNat_of_nonneg hto.1] at this
theorem least_id (hc : c.Is) (hl : (C.length : Int)=c.objs) (hs : ∀ x : Nat,x<C.length→∀ s,s∈C.getD x default→c.Sieve x s) (t : TopIs c C) : CovId c (leastL c C):=by
 have v:=least_cov hc hl hs t
 intro x hx d hd
 have hxl : x.toNat<C.length:=by omega
 have e0 : ix (leastL c C) x=leastAt c C x.toNat:=leastL_ix hxl
 have hm:=least_mem hc hl hs t hxl;rw [← e0] at hm
 let P : Nat→Bool:=fun i=>dec (∃ a,a∈ix (leastL c C) x∧∃ b,b∈ix (leastL c C) (ix c.to a)∧ix (ix c.comp a) b=(i : Int))
 have hP : ∀ y : Int,y∈nats P c.frm.length↔(0≤y∧y.toNat<c.frm.length)∧∃ a,a∈ix (leastL c C) x∧∃ b,b∈ix (leastL c C) (ix c.to a)∧ix (ix c.comp a) b=y:=by
  intro y;rw [mem_nats]
  constructor
  ·rintro ⟨h1,h2,h3⟩
   have:=dec_iff.mp h3;rw [Int.toNat_of_nonneg h1] at this;exact ⟨⟨h1,h2⟩,this⟩
  ·rintro ⟨⟨h1,h2⟩,h3⟩;refine ⟨h1,h2,dec_t ?_⟩;rw [Int.toNat_of_nonneg h1]; exact h3
 have hvx:=v.at hx
 have hu : c.Sieve x (nats P c.frm.length):=by
  refine .mk' (nats_rising _ _) (fun a ha=>?_) fun a b ha hb e=>?_
  ·obtain ⟨h1,a',ha',b',hb',rfl⟩:=(hP a).mp ha
   have hav:=hvx.arr ha'
   have hbv:=(v.to hc hav.1).arr hb';exact ⟨h1,(hc.1.comp hav.1 hbv.1 hbv.2.symm).2.1.trans hav.2⟩
  ·obtain ⟨h1,a',ha',b',hb',rfl⟩:=(hP a).mp ha
   have hav:=hvx.arr ha'
   have hvt:=v.to hc hav.1
   have hbv:=hvt.arr hb'
   have h2:=hc.1.comp hav.1 hbv.1 hbv.2.symm;rw [h2.2.2] at e
   have h3:=hc.1.comp hbv.1 hb e;refine (hP _).mpr ⟨(hc.1.comp h1 hb (by rw [h2.2.2]; exact e)).1,a',ha',_,hvt.cls' hb' hb e, ?_⟩;exact (hc.assoc hav.1 hbv.1 hb hbv.2.symm e).symm
 have hx' : (x.toNat : Int)=x:=Int.toNat_of_nonneg hx.1
 have hin : nats P c.frm.length∈C.getD x.toNat default:=by
  refine t.loc x.toNat (by omega) _ hm _ (by rw [hx']; exact hu) fun a ha=>?_
  have hav:=hvx.arr ha
  have hto:=hc.1.toObj hav.1.2
  have hml:=least_mem hc hl hs t (x:=(ix c.to a).toNat) (by omega);rw [← leastL_ix (by omega)] at hml
  have hto' : ((ix c.to a).toNat : Int)=ix c.to a:=Int.toNat_of_nonneg hto.1;refine t.sup hc hl hs (by omega) hml (by rw [hto']; exact pullS_sieve hc hav.1 (by rw [hav.2]; exact hu)) fun b hb=>?_
  have hbv:=(v.to hc hav.1).arr hb;exact mem_pullS.mpr ⟨hbv.1,hbv.2.symm,(hP _).mpr ⟨(hc.1.comp hav.1 hbv.1 hbv.2.symm).1,a,ha,b,hb,rfl⟩⟩
 rw [e0] at hd;exact ((hP d).mp ((mem_least.mp hd).2 _ hin)).2
end
section
variable {f : SF} {V : List (List Int)}
theorem fam_idx (h : f.Shape) (v : CovOk f.shape V) {x : Int} (hx : 0≤x∧x<f.shape.objs) {k : Int} (hk : 0≤k∧k.toNat<(famS f (ix V x)).length) : Fam f (ix V x) (ix (famS f (ix V x)) k)∧indexOf (famS f (ix V x)) (ix (famS f (ix V x)) k)=k:=by
 have hf:=famS_is h (v.at hx);refine ⟨(hf.mem _).mp (ix_mem hk.2), ?_⟩
 have:=indexOf_nodup hf.nodup hk.2;rw [Int.toNat_of_nonneg hk.1] at this;exact this
theorem idx_fam (h : f.Shape) (v : CovOk f.shape V) {x : Int} (hx : 0≤x∧x<f.shape.objs) {t : List Int} (ht : Fam f (ix V x) t) : (0≤indexOf (famS f (ix V x)) t∧(indexOf (famS f (ix V x)) t).toNat<(famS f (ix V x)).length)∧ix (famS f (ix V x)) (indexOf (famS f (ix V x)) t)=t:=by
 have:=indexOf_in (((famS_is h (v.at hx)).mem _).mpr ht);exact ⟨⟨this.1,this.2.1⟩,this.2.2⟩
theorem entry_imgs {s : List Int} {e a : Int} (ha : a∈s) : entry s (imgs f s e) a=ix (ix f.acts a) e:=entry_map ha
theorem step_sep (h : f.Shape) (v : CovOk f.shape V) (hi : CovId f.shape V) : SepL (stepSF f V) V:=by
 intro x hx k k' hk hk' e
 replace hx : 0≤x∧x<f.shape.objs:=hx
 replace hk : 0≤k∧k<ix (stepSizes f V) x:=hk
 replace hk' : 0≤k'∧k'<ix (stepSizes f V) x:=hk';rw [stepSizes_ix v hx] at hk hk'
 have hv:=v.at hx
 obtain ⟨f1,i1⟩:=fam_idx h v hx (k:=k) ⟨hk.1,by omega⟩
 obtain ⟨f2,i2⟩:=fam_idx h v hx (k:=k') ⟨hk'.1,by omega⟩
 suffices ht : ix (famS f (ix V x)) k=ix (famS f (ix V x)) k' by rw [← i1,← i2,ht]
 refine fam_ext hv.nodup f1.len f2.len fun d hd=>?_
 obtain ⟨a,ha,b,hb,rfl⟩:=hi x hx d hd
 have hav:=hv.arr ha
 have e1 : ix (ix (stepActs f V) a) k=ix (ix (stepActs f V) a) k':=by
  have:=congrArg (fun l=>entry (ix V x) l a) e;simp only [entry_imgs ha] at this;exact this
 have s1:=step_act h v hav.1 (k:=k) (by rw [hav.2]; exact ⟨hk.1,by omega⟩)
 have s2:=step_act h v hav.1 (k:=k') (by rw [hav.2]; exact ⟨hk'.1,by omega⟩);rw [s1.1,s2.1,hav.2] at e1;rw [hav.2] at s1 s2
 have e2 : movedF f.shape V a (ix (famS f (ix V x)) k)=movedF f.shape V a (ix (famS f (ix V x)) k'):=by rw [← (indexOf_in s1.2).2.2,← (indexOf_in s2.2).2.2,e1]
 have m1:=moved_entry (c:=f.shape) (V:=V) (a:=a) (b:=b) (t:=ix (famS f (ix V x)) k) hb
 have m2:=moved_entry (c:=f.shape) (V:=V) (a:=a) (b:=b) (t:=ix (famS f (ix V x)) k') hb;rw [hav.2] at m1 m2;rw [← m1,← m2,e2]
theorem least_of (h : f.Shape) (hc : f.CompL) {s : List Int} {x : Int} (hs : f.shape.Sieve x s) (hx : 0≤x∧x<f.shape.objs)
  (hi : ∀ e e' : Int,(0≤e∧e<ix f.sizes x)→(0≤e'∧e'<ix f.sizes x)→imgs f s e=imgs f s e'→e=e') (hj : ∀ t,Fam f s t→∃ e : Int,(0≤e∧e<ix f.sizes x)∧imgs f s e=t) : LeastGood f x s:=by
 have hz:=h.sizeAt hx
 have hfs:=famS_is h hs;refine (good_iff h hc hs hx).mp ⟨?_,fun t ht=>?_⟩
 ·have:=List.Nodup.length_le_of_subset (l₂:=(List.range (ix f.sizes x).toNat).map fun e : Nat=>imgs f s e) hfs.nodup fun t ht=>by
   obtain ⟨e,h4,h5⟩:=hj t ((hfs.mem _).mp ht);exact List.mem_map.mpr ⟨e.toNat,List.mem_range.mpr (by omega),by rw [Int.toNat_of_nonneg h4.1]; exact h5⟩
  simp only [List.length_map,List.length_range] at this;omega
 ·obtain ⟨e,h4,h5⟩:=hj t ((hfs.mem _).mp ht);exact uniq_iff.mpr ⟨e,⟨h4,h5⟩,fun e' h6 h7=>hi e' e h6 h4 (h7.trans h5.symm)⟩
theorem sheaf_mk (v : CovOk f.shape V) (hs : ∀ x : Int,0≤x∧x<f.shape.objs→LeastGood f x (ix V x)) : SheafLeast f V:=fun x hx=>by
 have hl:=v.len
 have:=hs x ⟨by omega,by omega⟩;rw [ix_nat] at this;exact this
theorem act_ran (h : f.Shape) {x a e : Int} (ha : 0≤a∧a.toNat<f.shape.frm.length) (hx : ix f.shape.frm a=x) (he : 0≤e∧e<ix f.sizes x) : 0≤ix (ix f.acts a) e∧ix (ix f.acts a) e<ix f.sizes (ix f.shape.to a):=by
 have hal:=h.al
 have h1:=h.actLen ha.2;rw [hx] at h1;exact (h.act a.toNat (by omega)).2 _ (ix_mem (l:=ix f.acts a) (by omega))
theorem act_len (h : f.Shape) {x a e : Int} (ha : 0≤a∧a.toNat<f.shape.frm.length) (hx : ix f.shape.frm a=x) (he : 0≤e∧e<ix f.sizes x) : 0≤e∧e.toNat<(ix f.acts a).length:=by
 have h1:=h.actLen ha.2;rw [hx] at h1;omega
theorem step_sheaf (h : f.Shape) (hc : f.CompL) (v : CovOk f.shape V) (hi : CovId f.shape V) (hf : StepFew f V) (hsep : SepL f V) : SheafLeast (stepSF f V) V:=by
 have hF:=step_shape h v hf
 have hFc:=step_comp h v hf;refine sheaf_mk (f:=stepSF f V) v fun x hx=>?_;refine least_of hF hFc (v.at hx) hx (step_sep h v hi x hx) fun T hT=>?_
 replace hx : 0≤x∧x<f.shape.objs:=hx
 have hv:=v.at hx
 have hto : ∀ a,a∈ix V x→0≤ix f.shape.to a∧ix f.shape.to a<f.shape.objs:=fun a ha=>h.is.1.toObj (hv.arr ha).1.2
 have hr : ∀ a,a∈ix V x→0≤entry (ix V x) T a∧(entry (ix V x) T a).toNat<(famS f (ix V (ix f.shape.to a))).length:=fun a ha=>by
  have h1:=hT.entry_ran ha
  replace h1 : 0≤entry (ix V x) T a∧entry (ix V x) T a<ix (stepSizes f V) (ix f.shape.to a):=h1;rw [stepSizes_ix v (hto a ha)] at h1;omega
 let τ : Int→List Int:=fun a=>ix (famS f (ix V (ix f.shape.to a))) (entry (ix V x) T a)
 have hτ : ∀ a,a∈ix V x→Fam f (ix V (ix f.shape.to a)) (τ a)∧indexOf (famS f (ix V (ix f.shape.to a))) (τ a)=entry (ix V x) T a:=fun a ha=>fam_idx h v (hto a ha) (hr a ha)
 have hmov : ∀ a b,a∈ix V x→(0≤b∧b.toNat<f.shape.frm.length)→ix f.shape.to a=ix f.shape.frm b→movedF f.shape V b (τ a)=τ (ix (ix f.shape.comp a) b):=fun a b ha hb e=>by
  have hd:=hv.cls' ha hb e
  have hcp:=h.is.1.comp (hv.arr ha).1 hb e
  have hlk:=hT.entry_link hF (v.at hx) ha hb e
  replace hlk : ix (ix (stepActs f V) b) (entry (ix V x) T a)=entry (ix V x) T (ix (ix f.shape.comp a) b):=hlk
  have s1:=step_act h v hb (k:=entry (ix V x) T a) (by rw [← e]; exact hr a ha);rw [← e] at s1;rw [s1.1] at hlk
  have q:=(indexOf_in s1.2).2.2;rw [hlk] at q
  show movedF f.shape V b (τ a)=ix (famS f (ix V (ix f.shape.to (ix (ix f.shape.comp a) b)))) (entry (ix V x) T (ix (ix f.shape.comp a) b))
  rw [hcp.2.2];exact q.symm
 have key : ∀ a b,a∈ix V x→b∈ix V (ix f.shape.to a)→imgs f (ix V (ix f.shape.to b)) (entry (ix V (ix f.shape.to a)) (τ a) b)=τ (ix (ix f.shape.comp a) b):=fun a b ha hb=>by
  have hvt:=v.at (hto a ha)
  have hbv:=hvt.arr hb
  have hcp:=h.is.1.comp (hv.arr ha).1 hbv.1 hbv.2.symm
  have hd:=hv.cls' ha hbv.1 hbv.2.symm
  have hvb:=v.at (h.is.1.toObj hbv.1.2)
  have hf2:=(hτ _ hd).1;rw [hcp.2.2] at hf2;refine fam_ext hvb.nodup (by simp [imgs]) hf2.len fun c hcm=>?_
  have hcv:=hvb.arr hcm;rw [entry_imgs hcm,(hτ a ha).1.entry_link h hvt hb hcv.1 hcv.2.symm,← hmov a b ha hbv.1 hbv.2.symm,moved_entry hcm,hbv.2]
 have hex : ∀ d,d∈ix V x→∃ e : Int,(0≤e∧e<ix f.sizes (ix f.shape.to d))∧imgs f (ix V (ix f.shape.to d)) e=τ d:=fun d hd=>by
  obtain ⟨a,ha,b,hb,rfl⟩:=hi x hx d hd
  have hbv:=(v.at (hto a ha)).arr hb
  have hcp:=h.is.1.comp (hv.arr ha).1 hbv.1 hbv.2.symm;rw [hcp.2.2];exact ⟨_,(hτ a ha).1.entry_ran hb,key a b ha hb⟩
 let g : Int→Int:=fun d=>@dite Int (d∈ix V x) (Classical.propDecidable _) (fun hd=>Classical.choose (hex d hd)) fun _=>0
 have hg : ∀ d,d∈ix V x→(0≤g d∧g d<ix f.sizes (ix f.shape.to d))∧imgs f (ix V (ix f.shape.to d)) (g d)=τ d:=fun d hd=>by
  have e : g d=Classical.choose (hex d hd):=dif_pos hd;rw [e]; exact Classical.choose_spec (hex d hd)
 have hgu : ∀ d,d∈ix V x→∀ e : Int,(0≤e∧e<ix f.sizes (ix f.shape.to d))→imgs f (ix V (ix f.shape.to d)) e=τ d→e=g d:=fun d hd e he h1=>hsep _ (hto d hd) e _ he (hg d hd).1 (h1.trans (hg d hd).2.symm)
 have ht : Fam f (ix V x) ((ix V x).map g):=fam_mk h hv g (fun a ha=>(hg a ha).1) fun a b ha hb e=>by
  have hd:=hv.cls' ha hb e
  have hcp:=h.is.1.comp (hv.arr ha).1 hb e
  have hga:=(hg a ha).1;rw [e] at hga
  have hrb:=act_ran h hb rfl hga;refine hgu _ hd _ (by rw [hcp.2.2]; exact hrb) ?_;rw [hcp.2.2]
  have hvb:=v.at (h.is.1.toObj hb.2)
  have hf2:=(hτ _ hd).1;rw [hcp.2.2] at hf2;refine fam_ext hvb.nodup (by simp [imgs]) hf2.len fun c hcm=>?_
  have hcv:=hvb.arr hcm;rw [entry_imgs hcm,← hc b c hb hcv.1 hcv.2.symm _ (act_len h hb rfl hga),← hmov a b ha hb e,moved_entry hcm]
  have hbc:=v.st b hb c hcm
  have:=congrArg (fun l=>entry (ix V (ix f.shape.to a)) l (ix (ix f.shape.comp b) c)) (hg a ha).2;rw [← e] at hbc ⊢;rw [entry_imgs hbc] at this;exact this
 have hin:=idx_fam h v hx ht;refine ⟨indexOf (famS f (ix V x)) ((ix V x).map g), ?_, ?_⟩
 ·show _∧_<ix (stepSizes f V) x
  rw [stepSizes_ix v hx]; omega
 ·refine fam_ext hv.nodup (by simp [imgs]) hT.len fun a ha=>?_;rw [entry_imgs ha]
  show ix (ix (stepActs f V) a) _=_
  have hav:=hv.arr ha
  have s1:=step_act h v hav.1 (k:=indexOf (famS f (ix V x)) ((ix V x).map g)) (by rw [hav.2]; exact hin.1);rw [s1.1,hav.2,hin.2,← (hτ a ha).2]
  congr 1
  have hvt:=v.at (hto a ha);refine fam_ext hvt.nodup (by simp [movedF]) (hτ a ha).1.len fun b hb=>?_
  have hbv:=hvt.arr hb
  have hd:=hv.cls' ha hbv.1 hbv.2.symm
  have hcp:=h.is.1.comp hav.1 hbv.1 hbv.2.symm;rw [moved_entry hb,hav.2,entry_map hd];refine (hgu _ hd _ ?_ ?_).symm
  ·rw [hcp.2.2]; exact (hτ a ha).1.entry_ran hb
  ·rw [hcp.2.2]; exact key a b ha hb
end
end Go.Shf
namespace Go.Shf
open Go.AW
variable {f : SF} {x : Int} {s t : List Int}
def rowOk (f : SF) (t r : List Int) : Prop:=ix (ix f.acts (r.getD 1 default)) (ix t (r.getD 0 default))=ix t (r.getD 2 default)
theorem fam_rows (h : f.Shape) (hs : f.shape.Sieve x s) : Fam f s t↔t.length=s.length∧(∀ i,i<s.length→0≤t.getD i default∧t.getD i default<ix f.sizes (ix f.shape.to (s.getD i default)))∧∀ r,r∈rowsOf f.shape s→rowOk f t r:=by
 constructor
 ·intro q;refine ⟨q.len,q.ran,fun r hr=>?_⟩
  obtain ⟨i,hi,b,hb,e,rfl⟩:=mem_rowsOf.mp hr
  have:=q.link i hi b hb e;simp only [rowOk,lkRow,List.getD_cons_zero,List.getD_cons_succ,ix_nat];exact this
 ·rintro ⟨h1,h2,h3⟩;refine ⟨h1,h2,fun i hi b hb e=>?_⟩
  have:=h3 _ (mem_rowsOf.mpr ⟨i,hi,b,hb,e,rfl⟩);simp only [rowOk,lkRow,List.getD_cons_zero,List.getD_cons_succ,ix_nat] at this;exact this
def rulOk (t : List Int) (l : Lk) : Prop:=ix t l.j=ix l.left (ix t l.i)
theorem fam_rules (h : f.Shape) (hs : f.shape.Sieve x s) : Fam f s t↔t.length=s.length∧(∀ i,i<s.length→0≤t.getD i default∧t.getD i default<(famSizes f s).getD i default)∧∀ l,l∈famLinks f s→rulOk t l:=by
 rw [fam_rows h hs];refine and_congr_right fun _=>and_congr (forall_congr' fun i=>⟨fun q hi=>?_,fun q hi=>?_⟩) ⟨fun q l hl=>?_,fun q r hr=>?_⟩
 ·rw [(fam_size h hs hi).1]; exact q hi
 ·rw [← (fam_size h hs hi).1]; exact q hi
 ·obtain ⟨r,hr,rfl⟩:=List.mem_map.mp hl;exact (q r hr).symm
 ·exact (q _ (List.mem_map.mpr ⟨r,hr,rfl⟩)).symm
theorem rule_at (h : f.Shape) (hs : f.shape.Sieve x s) {l : Lk} (hl : l∈famLinks f s) : (0≤l.i∧l.i.toNat<s.length)∧(0≤l.j∧l.j.toNat<s.length)∧(l.left.length : Int)=(famSizes f s).getD l.i.toNat default:=by
 obtain ⟨r,hr,rfl⟩:=List.mem_map.mp hl
 obtain ⟨i,hi,b,hb,e,rfl⟩:=mem_rowsOf.mp hr
 have hx:=sieve_idx h hs hi hb e
 have hal:=h.actLen (a:=(b : Int)) (by simpa using hb);simp only [lkOf,lkRow,List.getD_cons_zero,List.getD_cons_succ];refine ⟨⟨by omega,by simpa using hi⟩,hx.1, ?_⟩;rw [hal,Int.toNat_natCast,(fam_size h hs hi).1,ix_nat,e]
theorem row_at (h : f.Shape) (hs : f.shape.Sieve x s) {r : List Int} (hr : r∈rowsOf f.shape s) : r.length=3∧(0≤r.getD 0 default∧(r.getD 0 default).toNat<s.length)∧(0≤r.getD 1 default∧(r.getD 1 default).toNat<f.acts.length)∧(0≤r.getD 2 default∧(r.getD 2 default).toNat<s.length) ∧
  ((ix f.acts (r.getD 1 default)).length : Int)=ix f.sizes (ix f.shape.to (s.getD (r.getD 0 default).toNat default)):=by
 obtain ⟨i,hi,b,hb,e,rfl⟩:=mem_rowsOf.mp hr
 have hx:=sieve_idx h hs hi hb e
 have hal:=h.actLen (a:=(b : Int)) (by simpa using hb)
 have:=h.al;simp only [lkRow,List.getD_cons_zero,List.getD_cons_succ];refine ⟨rfl,⟨by omega,by simpa using hi⟩,⟨by omega,by simp; omega⟩,hx.1, ?_⟩;rw [hal,Int.toNat_natCast,ix_nat,e]
end Go.Shf
namespace Go.Shf
open Go.AW
structure SetQ (sizes : List Int) (ls : List Lk) (p : List Int) (i : Nat) (e : Int) (p' : List Int) (N : List Int) (ok : Bool) : Prop where
 len : p'.length=p.length
 ext : ∀ q,q<p.length→p.getD q default≠-1→p'.getD q default=p.getD q default
 part : ∀ q,q<p.length→p'.getD q default=-1∨(0≤p'.getD q default∧p'.getD q default<sizes.getD q default)
 new : ∀ y,y∈N↔0≤y∧y.toNat<p.length∧p.getD y.toNat default=-1∧p'.getD y.toNat default≠-1
 yes : ok=true→p'.getD i default=e∧(∀ y,y∈N→∀ l,l∈ls→l.i=y→ix p' l.j=ix l.left (ix p' y))∧∀ t,Ext sizes ls p t→t.getD i default=e→Ext sizes ls p' t
 no : ok=false→∀ t,Ext sizes ls p t→t.getD i default≠e
def PartN (sizes : List Int) (p : List Int) : Prop:=p.length=sizes.length∧∀ q,q<p.length→p.getD q default=-1∨(0≤p.getD q default∧p.getD q default<sizes.getD q default)
theorem PartN.part {sizes p : List Int} (h : PartN sizes p) : PartL sizes p:=⟨h.1,fun n hn=>(h.2 n hn).imp (fun e=>by omega) id⟩
def Closed (ls : List Lk) (p : List Int) : Prop:=∀ l,l∈ls→0≤ix p l.i→ix p l.j=ix l.left (ix p l.i)
structure LksId (sizes : List Int) (ls : List Lk) : Prop where
 ok : LksOk sizes ls
 rt : ∀ l,l∈ls→l.right=natsL (ix sizes l.j)
 lf : ∀ l,l∈ls→∀ y,y∈l.left→0≤y∧y<ix sizes l.j
section
variable {sizes : List Int} {ls : List Lk} {p : List Int}
theorem Closed.cons (h : LksId sizes ls) (hp : PartN sizes p) (hc : Closed ls p) : Cons ls p:=by
 intro l hl h1 h2
 have a:=h.ok.i l hl
 have b:=h.ok.j l hl;rw [h.rt l hl]
 have:=hp.2 l.j.toNat (by rw [hp.1]; exact b.2);rw [natsL_ix ⟨h2,by rcases this with e | e <;> simp only [ix] at h2 ⊢ <;> omega⟩]
 exact (hc l hl h1).symm
theorem Ext.link (h : LksId sizes ls) {t : List Int} (hp : PartN sizes p) (ht : Ext sizes ls p t) {l : Lk} (hl : l∈ls) : ix t l.j=ix l.left (ix t l.i):=by
 have a:=h.ok.i l hl
 have b:=h.ok.j l hl
 have full : ∀ q,q<p.length→0≤t.getD q default∧t.getD q default<sizes.getD q default:=by
  intro q hq
  rcases hp.2 q hq with e | e
  ·exact ht.new q hq e
  ·rw [ht.old q hq (by omega)]; exact e
 have h1:=full l.i.toNat (by rw [hp.1]; exact a.2)
 have h2:=full l.j.toNat (by rw [hp.1]; exact b.2)
 have:=ht.cons l hl h1.1 h2.1;rw [h.rt l hl,natsL_ix (n:=ix sizes l.j) (y:=ix t l.j) h2] at this;exact this.symm
theorem SetQ.old (hp : PartN sizes p) {i : Nat} {e : Int} (hi : i<p.length) (h : p.getD i default≠-1) : SetQ sizes ls p i e p [] (decide (p.getD i default=e)):=by
 refine ⟨rfl,fun _ _ _=>rfl,hp.2,fun y=>?_,fun ho=>⟨of_decide_eq_true ho,by simp,fun t ht _=>ht⟩,fun ho t ht hte=>?_⟩
 ·simp only [List.not_mem_nil,false_iff,not_and]; intro _ _ h1 h2; exact h2 h1
 ·rw [ht.old i hi h] at hte; exact of_decide_eq_false ho hte
structure SetL (sizes : List Int) (ls : List Lk) (p : List Int) (i : Nat) (e : Int) (rs : List Lk) (k : Nat) (p' : List Int) (N : List Int) : Prop where
 len : p'.length=p.length
 ext : ∀ q,q<p.length→p.getD q default≠-1→p'.getD q default=p.getD q default
 part : ∀ q,q<p.length→p'.getD q default=-1∨(0≤p'.getD q default∧p'.getD q default<sizes.getD q default)
 new : ∀ y,y∈N↔0≤y∧y.toNat<p.length∧p.getD y.toNat default=-1∧p'.getD y.toNat default≠-1
 own : p'.getD i default=e
 cl : ∀ y,y∈N→y≠i→∀ l,l∈ls→l.i=y→ix p' l.j=ix l.left (ix p' y)
 mine : ∀ j,j<k→j<rs.length→ix p' (rs.getD j default).j=ix (rs.getD j default).left e
 ex : ∀ t,Ext sizes ls p t→t.getD i default=e→Ext sizes ls p' t
theorem SetL.zero {rs : List Lk} (hp : PartN sizes p) {i : Nat} {e : Int} (hi : i<p.length) (h : p.getD i default=-1) (he : 0≤e∧e<sizes.getD i default) : SetL sizes ls p i e rs 0 (p.set i e) [(i : Int)]:=by
 refine ⟨by simp,fun q hq hne=>?_,fun q hq=>?_,fun y=>?_, ?_,fun y hy hne=>?_,fun j hj=>by omega,fun t ht hte=>?_⟩
 ·rw [getD_set,if_neg]; rintro ⟨rfl,_⟩; exact hne h
 ·rw [getD_set]
  split
  ·rename_i e2; rw [← e2.1]; exact .inr he
  ·exact hp.2 q hq
 ·rw [List.mem_singleton]
  constructor
  ·rintro rfl;refine ⟨by omega,by simpa using hi,by simpa using h, ?_⟩;rw [Int.toNat_natCast,getD_set,if_pos ⟨rfl,hi⟩]; omega
  ·rintro ⟨h1,h2,h3,h4⟩;rw [getD_set] at h4
   split at h4
   ·rename_i e2; omega
   ·exact absurd h3 h4
 ·rw [getD_set,if_pos ⟨rfl,hi⟩]
 ·rw [List.mem_singleton] at hy; exact absurd hy hne
 ·refine ⟨by rw [ht.len]; simp,fun q hq e2=>?_,fun q hq e2=>?_,ht.cons⟩
  ·rw [List.length_set] at hq;rw [getD_set] at e2
   split at e2
   ·omega
   ·exact ht.new q hq e2
  ·rw [List.length_set] at hq;rw [getD_set] at e2 ⊢
   split
   ·rename_i e3; rw [← e3.1]; exact hte
   ·rename_i e3; rw [if_neg e3] at e2; exact ht.old q hq e2
theorem SetL.partN {rs : List Lk} {i k : Nat} {e : Int} {p' N : List Int} (hp : PartN sizes p) (h : SetL sizes ls p i e rs k p' N) : PartN sizes p':=⟨by rw [h.len]; exact hp.1,fun q hq=>h.part q (by rw [← h.len]; exact hq)⟩
theorem SetL.step {rs : List Lk} {i k : Nat} {e : Int} {p' N p2 N2 : List Int} (hp : PartN sizes p) (hi : i<p.length) (h : SetL sizes ls p i e rs k p' N) (hk : k<rs.length) (hr : (rs.getD k default).j.toNat<p.length) (he : e≠-1) (hjn : 0≤(rs.getD k default).j)
  (q : SetQ sizes ls p' (rs.getD k default).j.toNat (ix (rs.getD k default).left e) p2 N2 true) (hjs : ∀ j,j<rs.length→0≤(rs.getD j default).j∧(rs.getD j default).j.toNat<p.length∧0≤ix (rs.getD j default).left e)
  (hm : ∀ j,j<rs.length→rs.getD j default∈ls∧(rs.getD j default).i=i) (hls : LksId sizes ls) : SetL sizes ls p i e rs (k+1) p2 (N++N2):=by
 obtain ⟨y1,y2,y3⟩:=q.yes rfl
 have hlen2 : p2.length=p.length:=by rw [q.len,h.len]
 have keep : ∀ r,r<p.length→p'.getD r default≠-1→p2.getD r default=p'.getD r default:=fun r hr hne=>q.ext r (by rw [h.len]; exact hr) hne;refine ⟨hlen2,fun r hr hne=>?_,fun r hr=>q.part r (by rw [h.len]; exact hr),fun y=>?_, ?_,fun y hy hne l hl e2=>?_,fun j hj hjl=>?_,fun t ht hte=>?_⟩
 ·have:=h.ext r hr hne; rw [keep r hr (by rw [this]; exact hne),this]
 ·rw [List.mem_append,h.new,q.new,h.len]
  constructor
  ·rintro (⟨h1,h2,h3,h4⟩ | ⟨h1,h2,h3,h4⟩)
   ·exact ⟨h1,h2,h3,by rw [keep _ h2 h4]; exact h4⟩
   ·refine ⟨h1,h2, ?_,h4⟩;apply Classical.byContradiction; intro hn;rw [h.ext _ h2 hn] at h3; exact hn h3
  ·rintro ⟨h1,h2,h3,h4⟩
   by_cases e2 : p'.getD y.toNat default=-1
   ·exact .inr ⟨h1,h2,e2,h4⟩
   ·exact .inl ⟨h1,h2,h3,e2⟩
 ·rw [keep i hi (by rw [h.own]; exact he),h.own]
 ·rcases List.mem_append.mp hy with hy | hy
  ·have hn:=(h.new y).mp hy
   have h1:=h.cl y hy hne l hl e2
   have hy2 : ix p2 y=ix p' y:=keep _ hn.2.1 hn.2.2.2
   have b:=hls.ok.j l hl
   have hj2 : ix p2 l.j=ix p' l.j:=by
    refine keep _ (by rw [hp.1]; exact b.2) ?_
    have a:=hls.ok.left l hl
    have hin : ix p' y<ix sizes l.i:=by
     rcases h.part _ hn.2.1 with e3 | e3
     ·exact absurd e3 hn.2.2.2
     ·rw [e2]; exact e3.2
    have h0 : 0≤ix p' y:=by
     rcases h.part _ hn.2.1 with e3 | e3
     ·exact absurd e3 hn.2.2.2
     ·exact e3.1
    have:=hls.lf l hl _ (ix_mem (i:=ix p' y) (l:=l.left) (by omega));rw [← h1] at this;simp only [ix] at this; omega
   rw [hj2,hy2]; exact h1
  ·exact y2 y hy l hl e2
 ·by_cases e2 : j=k
  ·subst e2; exact y1
  ·have h1:=h.mine j (by omega) hjl
   have hb:=hjs j hjl
   have : p'.getD (rs.getD j default).j.toNat default≠-1:=by
    simp only [ix] at h1; rw [h1]
    have:=hb.2.2;simp only [ix] at this; omega
   have hk2:=keep _ hb.2.1 this;simp only [ix] at h1 ⊢;rw [hk2]; exact h1
 ·refine y3 t (h.ex t ht hte) ?_
  have h1:=ht.link hls hp (hm k hk).1;rw [(hm k hk).2,ix_nat,hte] at h1;exact h1
theorem SetL.fail {rs : List Lk} {i k : Nat} {e : Int} {p' N p2 N2 : List Int} (hp : PartN sizes p) (hi : i<p.length) (h0 : p.getD i default=-1) (h : SetL sizes ls p i e rs k p' N) (hk : k<rs.length)
  (q : SetQ sizes ls p' (rs.getD k default).j.toNat (ix (rs.getD k default).left e) p2 N2 false) (he : e≠-1)
  (hm : ∀ j,j<rs.length→rs.getD j default∈ls∧(rs.getD j default).i=i) (hls : LksId sizes ls) : SetQ sizes ls p i e p2 (N++N2) false:=by
 have keep : ∀ r,r<p.length→p'.getD r default≠-1→p2.getD r default=p'.getD r default:=fun r hr hne=>q.ext r (by rw [h.len]; exact hr) hne;refine ⟨by rw [q.len,h.len],fun r hr hne=>?_,fun r hr=>q.part r (by rw [h.len]; exact hr),fun y=>?_,fun e=>(by cases e),fun _ t ht hte=>?_⟩
 ·have:=h.ext r hr hne; rw [keep r hr (by rw [this]; exact hne),this]
 ·rw [List.mem_append,h.new,q.new,h.len]
  constructor
  ·rintro (⟨h1,h2,h3,h4⟩ | ⟨h1,h2,h3,h4⟩)
   ·exact ⟨h1,h2,h3,by rw [keep _ h2 h4]; exact h4⟩
   ·refine ⟨h1,h2, ?_,h4⟩;apply Classical.byContradiction; intro hn;rw [h.ext _ h2 hn] at h3; exact hn h3
  ·rintro ⟨h1,h2,h3,h4⟩
   by_cases e2 : p'.getD y.toNat default=-1
   ·exact .inr ⟨h1,h2,e2,h4⟩
   ·exact .inl ⟨h1,h2,h3,e2⟩
 ·refine q.no rfl t (h.ex t ht hte) ?_
  have h1:=ht.link hls hp (hm k hk).1;rw [(hm k hk).2,ix_nat,hte] at h1;exact h1
theorem SetL.done {rs : List Lk} {i k : Nat} {e : Int} {p' N : List Int} (h : SetL sizes ls p i e rs k p' N) (hk : rs.length≤k)
  (hall : ∀ l,l∈ls→l.i=i→l∈rs) : SetQ sizes ls p i e p' N true:=by
 refine ⟨h.len,h.ext,h.part,h.new,fun _=>⟨h.own,fun y hy l hl e2=>?_,h.ex⟩,fun e=>(by cases e)⟩
 by_cases hy2 : y=i
 ·subst hy2
  obtain ⟨j,hj,rfl⟩:=mem_getD.mp (hall l hl e2);rw [h.mine j (by omega) hj,ix_nat,h.own]
 ·exact h.cl y hy hy2 l hl e2
theorem Closed.set (hls : LksId sizes ls) (hp : PartN sizes p) (hc : Closed ls p) {i : Nat} {e : Int} {p' N : List Int} (q : SetQ sizes ls p i e p' N true) : Closed ls p':=by
 intro l hl h0
 have a:=hls.ok.i l hl
 have b:=hls.ok.j l hl
 by_cases e2 : p.getD l.i.toNat default=-1
 ·exact (q.yes rfl).2.1 l.i ((q.new _).mpr ⟨a.1,by rw [hp.1]; exact a.2,e2,by simp only [ix] at h0; omega⟩) l hl rfl
 ·have h1 : ix p' l.i=ix p l.i:=q.ext _ (by rw [hp.1]; exact a.2) e2
  have h2:=hc l hl (by rw [← h1]; exact h0)
  have h3 : ix p' l.j=ix p l.j:=by
   refine q.ext _ (by rw [hp.1]; exact b.2) ?_
   have hl2:=hls.ok.left l hl
   have hr : ix p l.i<ix sizes l.i:=by
    rcases hp.2 l.i.toNat (by rw [hp.1]; exact a.2) with e3 | e3
    ·exact absurd e3 e2
    ·exact e3.2
   rw [h1] at h0
   have:=hls.lf l hl _ (ix_mem (i:=ix p l.i) (l:=l.left) (by omega));rw [← h2] at this;simp only [ix] at this; omega
  rw [h1,h3]; exact h2
theorem SetQ.ext_iff {i : Nat} {e : Int} {p' N : List Int} (hi : i<p.length) (h0 : p.getD i default=-1) (he : 0≤e∧e<sizes.getD i default) (q : SetQ sizes ls p i e p' N true) (t : List Int) : Ext sizes ls (p.set i e) t↔Ext sizes ls p' t:=by
 constructor
 ·intro h
  have:=h.of_set h0 he hi;exact (q.yes rfl).2.2 t this.1 this.2
 ·intro h;refine ⟨by rw [h.len,q.len]; simp,fun r hr e2=>?_,fun r hr e2=>?_,h.cons⟩
  ·rw [List.length_set] at hr;rw [getD_set] at e2
   split at e2
   ·omega
   ·by_cases e3 : p'.getD r default=-1
    ·exact h.new r (by rw [q.len]; exact hr) e3
    ·rw [h.old r (by rw [q.len]; exact hr) e3]
     rcases q.part r hr with e4 | e4
     ·exact absurd e4 e3
     ·exact e4
  ·rw [List.length_set] at hr;rw [getD_set] at e2 ⊢
   split
   ·rename_i e3
    rw [← e3.1,h.old i (by rw [q.len]; exact hi) (by rw [(q.yes rfl).1]; omega),(q.yes rfl).1]
   ·rename_i e3
    rw [if_neg e3] at e2;rw [h.old r (by rw [q.len]; exact hr) (by rw [q.ext r hr e2]; exact e2),q.ext r hr e2]
theorem SetQ.none {i : Nat} {e : Int} {p' N : List Int} (hi : i<p.length) (h0 : p.getD i default=-1) (he : 0≤e∧e<sizes.getD i default) (q : SetQ sizes ls p i e p' N false) : exS sizes ls (p.set i e)=[] :=
 exS_eq (lex_none fun t h=>by
  have:=h.of_set h0 he hi;exact q.no rfl t this.1 this.2)
theorem exS_congr {q : List Int} (h : ∀ t,Ext sizes ls p t↔Ext sizes ls q t) : exS sizes ls p=exS sizes ls q:=by
 have : Ext sizes ls p=Ext sizes ls q:=funext fun t=>propext (h t)
 by_cases he : ∃ L,IsLex (Ext sizes ls p) L
 ·obtain ⟨L,hL⟩:=he;rw [exS_eq hL,exS_eq (this ▸ hL)]
 ·rw [exS,dif_neg he,exS,dif_neg (by rw [← this]; exact he)]
theorem lex_filter {S T : List Int→Prop} {L : List (List Int)} (h : IsLex S L) (hs : ∀ t,T t→S t) : ∃ M,IsLex T M:=by
 classical
 refine ⟨L.filter fun t=>decide (T t),h.srt.filter _,fun t=>?_⟩;rw [List.mem_filter,decide_eq_true_eq,h.mem];exact ⟨fun e=>e.2,fun e=>⟨hs t e,e⟩⟩
theorem exS_all (hls : LksId sizes ls) (hp : PartN sizes p) (hc : Closed ls p) {n : Nat} (hn : n<p.length) (h1 : p.getD n default=-1) (hf : ∀ m,m<n→p.getD m default≠-1) :
  exS sizes ls p=((List.range (sizes.getD n default).toNat).map Int.ofNat).flatMap fun e=>exS sizes ls (p.set n e):=by
 have hcons:=hc.cons hls hp
 have hLp:=exS_is hls.ok hp.part hcons
 have hex : ∀ e : Int,0≤e∧e<sizes.getD n default→IsLex (Ext sizes ls (p.set n e)) (exS sizes ls (p.set n e)):=by
  intro e he
  obtain ⟨M,hM⟩:=lex_filter hLp (T:=Ext sizes ls (p.set n e)) fun t ht=>(ht.of_set h1 he hn).1;rw [exS_eq hM]; exact hM
 rw [exS_step hls.ok hp.part hcons hn h1 hf,choices,nats]
 generalize hN : (sizes.getD n default).toNat=N at *
 have key : ∀ k,k≤N→(((List.range k).filter (chP ls p n)).map Int.ofNat).flatMap (fun e=>exS sizes ls (p.set n e))=((List.range k).map Int.ofNat).flatMap fun e=>exS sizes ls (p.set n e):=by
  intro k
  induction k with
  | zero=>intro _; rfl
  | succ k ih =>
   intro hk;rw [range_succ_filter,List.map_append,List.flatMap_append,ih (by omega),List.range_succ,List.map_append,List.flatMap_append]
   congr 1
   by_cases hch : chP ls p n k=true
   ·rw [if_pos hch]
   ·rw [if_neg hch];simp only [List.map_nil,List.flatMap_nil,List.map_cons,List.flatMap_cons,List.append_nil]
    have he : (0 : Int)≤(k : Int)∧(k : Int)<sizes.getD n default:=by omega
    symm
    refine exS_eq (lex_none fun t ht=>hch ?_)
    have h2:=ht.of_set h1 he hn
    have h3:=h2.1.choice hls.ok hp.1 hn h1;rw [h2.2] at h3;rw [chP,dec_iff]; exact h3.2.1
 exact key N (Nat.le_refl _)
end
end Go.Shf
namespace Go.Shf
open Go.AW
end Go.Shf
namespace Go.Shf
open Go.AW
def undoL (p N : List Int) (k : Nat) : List Int:=(List.range p.length).map fun r : Nat=>if (r : Int)∈N.take k then -1 else p.getD r default
theorem undo_len (p N : List Int) (k : Nat) : (undoL p N k).length=p.length:=by simp [undoL]
theorem undo_zero (p N : List Int) : undoL p N 0=p:=by
 apply List.ext_getElem (by simp [undoL])
 intro i h1 h2
 simp [undoL,List.getD_eq_getElem?_getD,h2]
theorem undo_succ (p N : List Int) {k : Nat} (hk : k<N.length) (h0 : 0≤N.getD k default) : undoL p N (k+1)=(undoL p N k).set (N.getD k default).toNat (-1):=by
 apply List.ext_getElem (by simp [undoL])
 intro i h1 h2
 have hN : N[k]=N.getD k default:=by simp [List.getD_eq_getElem?_getD,hk]
 have ht : N.take (k+1)=N.take k++[N.getD k default]:=by rw [← hN]; exact (List.take_append_getElem hk).symm
 simp only [undoL,List.getElem_map,List.getElem_range,List.getElem_set,ht,List.mem_append,List.mem_singleton]
 by_cases e : (N.getD k default).toNat=i
 ·rw [if_pos (by right; omega),if_pos e]
 ·rw [if_neg e]
  have : ¬ (i : Int)=N.getD k default:=by omega
  simp only [this,or_false]
theorem SetQ.undo {sizes : List Int} {ls : List Lk} {p p' N : List Int} {i : Nat} {e : Int} {ok : Bool} (q : SetQ sizes ls p i e p' N ok) : undoL p' N N.length=p:=by
 apply List.ext_getElem (by rw [undo_len,q.len])
 intro r h1 h2;simp only [undoL,List.getElem_map,List.getElem_range,List.take_length]
 have hr : p[r]=p.getD r default:=by simp [List.getD_eq_getElem?_getD,h2]
 rw [hr]
 have:=q.new r;simp only [Int.toNat_natCast] at this
 split
 ·rename_i h
  exact (this.mp h).2.2.1.symm
 ·rename_i h
  by_cases e2 : p.getD r default=-1
  ·rw [e2];apply Classical.byContradiction; intro hn;exact h (this.mpr ⟨by omega,h2,e2,hn⟩)
  ·exact q.ext r h2 e2
theorem unset_lt {sizes : List Int} {ls : List Lk} {p p' N : List Int} {i : Nat} {e : Int} (q : SetQ sizes ls p i e p' N true) (hi : i<p.length) (h0 : p.getD i default=-1) (he : 0≤e) (h : N.length+unset p'≤unset p) : unset p'<unset p:=by
 have : (i : Int)∈N:=(q.new i).mpr ⟨by omega,by simpa using hi,by simpa using h0,by rw [Int.toNat_natCast,(q.yes rfl).1]; omega⟩
 have:=List.length_pos_of_mem this;omega
noncomputable def flatTo (sizes : List Int) (ls : List Lk) (p : List Int) (n k : Nat) : List (List Int):=((List.range k).map Int.ofNat).flatMap fun e=>exS sizes ls (p.set n e)
theorem flatTo_zero (sizes : List Int) (ls : List Lk) (p : List Int) (n : Nat) : flatTo sizes ls p n 0=[]:=rfl
theorem flatTo_succ (sizes : List Int) (ls : List Lk) (p : List Int) (n k : Nat) : flatTo sizes ls p n (k+1)=flatTo sizes ls p n k++exS sizes ls (p.set n k):=by
 rw [flatTo,List.range_succ,List.map_append,List.flatMap_append,flatTo]
 simp
theorem flatTo_pre (sizes : List Int) (ls : List Lk) (p : List Int) (n : Nat) {k m : Nat} (h : k≤m) : ∃ r,flatTo sizes ls p n m=flatTo sizes ls p n k++r:=by
 induction m with
 | zero =>
      obtain rfl : k=0:=by omega
      exact ⟨[],by simp⟩
 | succ m ih =>
  by_cases e : k=m+1
  ·subst e; exact ⟨[],by simp⟩
  ·obtain ⟨r,hr⟩:=ih (by omega);exact ⟨r++exS sizes ls (p.set n m),by rw [flatTo_succ,hr,List.append_assoc]⟩
end Go.Shf
namespace Go.Shf
open Go.AW
end Go.Shf
namespace Go.Shf
open Go.AW
end Go.Shf
namespace Go.Shf
open Go.AW
end Go.Shf
namespace Go.Shf
open Go.AW
end Go.Shf
namespace Go.Shf
open Go.AW
section
variable {f g : SF}
variable {p p' : List (List Int)} {x e d : Int} {k : Nat} {N : List (Int × Int)}
theorem take_one {α : Type} [Inhabited α] (l : List α) {k : Nat} (hk : k<l.length) : l.take (k+1)=l.take k++[l.getD k default]:=by
 have hN : l[k]=l.getD k default:=by simp [List.getD_eq_getElem?_getD,hk]
 rw [← hN]; exact (List.take_append_getElem hk).symm
theorem countP_less {α : Type} {P Q : α→Bool} {b : α} : ∀ {l : List α},(∀ a,a∈l→P a=true→Q a=true)→b∈l→P b=false→Q b=true→l.countP P<l.countP Q
 | [],_,hb,_,_=>by simp at hb
 | a::r,h,hb,hp,hq=>by
  have hle : r.countP P≤r.countP Q:=List.countP_mono_left fun a ha=>h a (List.mem_cons_of_mem _ ha);rw [List.countP_cons,List.countP_cons]
  by_cases e : b∈r
  ·have:=countP_less (fun a ha=>h a (List.mem_cons_of_mem _ ha)) e hp hq
   have ha:=h a List.mem_cons_self
   cases hpa : P a with
   | true=>rw [ha hpa]; simpa using this
   | false=>cases Q a <;> simp <;> omega
  ·rcases List.mem_cons.mp hb with rfl | hb
   ·rw [hp,hq]; simp; omega
   ·exact absurd hb e
variable {M M' : List (List (List Int))}
end
end Go.Shf
namespace Go.Shf
open Go.AW
theorem getD_setD {α : Type} [Inhabited α] (l : List α) {i : Nat} (a : α) (hi : i<l.length) {y : Nat} : (l.set i a).getD y default=if y=i then a else l.getD y default:=by
 simp only [List.getD_eq_getElem?_getD,List.getElem?_set]
 by_cases h : i=y
 ·subst h; simp [hi]
 ·rw [if_neg h,if_neg (Ne.symm h)]
structure SF.Pre (f : SF) (c : Cat) (N : Nat) : Prop where
 sh : f.shape=c
 sl : (f.sizes.length : Int)=c.objs
 al : f.acts.length=c.frm.length
 sz : ∀ y,y∈f.sizes→0≤y∧y≤N
 act : ∀ a : Nat,a<c.frm.length→((f.acts.getD a default).length : Int)=ix f.sizes (c.frm.getD a default)∧∀ y,y∈f.acts.getD a default→0≤y∧y<ix f.sizes (c.to.getD a default)
structure FreeI (c : Cat) (os : List Int) (k h : Nat) (LL : List (List (List Int))) : Prop where
 len : (LL.length : Int)=c.objs
 of : ∀ y : Nat,y<LL.length→∀ q,q∈LL.getD y default→∃ i j : Nat,q=[(i : Int),(j : Int)]∧i<os.length∧j<c.frm.length∧c.frm.getD j default=os.getD i default∧c.to.getD j default=y
 all : ∀ i j : Nat,(i<k∨(i=k∧j<h))→i<os.length→j<c.frm.length→c.frm.getD j default=os.getD i default→([(i : Int),(j : Int)] : List Int)∈LL.getD (c.to.getD j default).toNat default
 bd : ∀ y : Nat,(LL.getD y default).length≤k*c.frm.length+h
section
variable {c : Cat} {os : List Int} {k h : Nat} {LL : List (List (List Int))}
theorem FreeI.zero (hc : 0≤c.objs) : FreeI c os 0 0 (List.replicate c.objs.toNat []) where
 len:=by simp; omega
 of y hy q hq:=by
  rw [List.length_replicate] at hy
  simp [List.getD_eq_getElem?_getD,hy] at hq
 all i j h:=by omega
 bd y:=by
  by_cases hy : y<c.objs.toNat
  ·simp [List.getD_eq_getElem?_getD,hy]
  ·rw [List.getD_eq_getElem?_getD,List.getElem?_eq_none (by simp; omega)]
   simp
   rfl
theorem FreeI.skip (s : FreeI c os k h LL) (hn : c.frm.getD h default≠os.getD k default) : FreeI c os k (h+1) LL:=⟨s.len,s.of,fun i j hij hi hj e=>by
 by_cases e1 : i=k∧j=h
 ·rw [e1.1,e1.2] at e; exact absurd e hn
 ·exact s.all i j (by omega) hi hj e,fun y=>by have:=s.bd y; omega⟩
theorem FreeI.hit (s : FreeI c os k h LL) (hc : c.Shape) (hk : k<os.length) (hh : h<c.frm.length) (e : c.frm.getD h default=os.getD k default) :
  FreeI c os k (h+1) (LL.set (c.to.getD h default).toNat (LL.getD (c.to.getD h default).toNat default++[[(k : Int),(h : Int)]])):=by
 have ht:=hc.toObj (f:=(h : Int)) (by simpa using hh);rw [ix_nat] at ht
 have hl:=s.len
 have hin : (c.to.getD h default).toNat<LL.length:=by omega
 have hget : ∀ y : Nat,(LL.set (c.to.getD h default).toNat (LL.getD (c.to.getD h default).toNat default++[[(k : Int),(h : Int)]])).getD y default =
   if y=(c.to.getD h default).toNat then LL.getD y default++[[(k : Int),(h : Int)]] else LL.getD y default:=by
  intro y;rw [getD_setD _ _ hin]
  by_cases hy : y=(c.to.getD h default).toNat
  ·rw [if_pos hy,if_pos hy,hy]
  ·rw [if_neg hy,if_neg hy]
 refine ⟨by rw [List.length_set]; exact hl,fun y hy q hq=>?_,fun i j hij hi hj e1=>?_,fun y=>?_⟩
 ·rw [List.length_set] at hy;rw [hget] at hq
  split at hq
  ·rename_i hyy
   rcases List.mem_append.mp hq with hq | hq
   ·exact s.of y hy q hq
   ·rw [List.mem_singleton] at hq;exact ⟨k,h,hq,hk,hh,e,by rw [hyy]; omega⟩
  ·exact s.of y hy q hq
 ·rw [hget]
  by_cases e2 : i=k∧j=h
  ·rw [e2.1,e2.2,if_pos rfl]; simp
  ·have:=s.all i j (by omega) hi hj e1
   split
   ·exact List.mem_append_left _ this
   ·exact this
 ·rw [hget]
  have:=s.bd y
  split
  ·rw [List.length_append,List.length_singleton]; omega
  ·omega
theorem FreeI.next (s : FreeI c os k c.frm.length LL) : FreeI c os (k+1) 0 LL:=⟨s.len,s.of,fun i j hij hi hj e=>s.all i j (by omega) hi hj e,fun y=>by
 have:=s.bd y;rw [Nat.succ_mul]; omega⟩
def freeAct (c : Cat) (LL : List (List (List Int))) (a : Nat) : List Int:=(LL.getD (c.frm.getD a default).toNat default).map fun q=>indexOf (LL.getD (c.to.getD a default).toNat default) [ix q 0,(ix c.comp (ix q 1)).getD a default]
def freeF (c : Cat) (LL : List (List (List Int))) : SF:=⟨c,LL.map fun l=>(l.length : Int),(List.range c.frm.length).map (freeAct c LL)⟩
theorem free_pre (hc : c.Is) (s : FreeI c os os.length 0 LL) {N : Nat} (hN : os.length*c.frm.length≤N) : (freeF c LL).Pre c N where
 sh:=rfl
 sl:=by simp only [freeF,List.length_map]; exact s.len
 al:=by simp [freeF]
 sz y hy:=by
  obtain ⟨l,hl,rfl⟩:=List.mem_map.mp hy
  obtain ⟨i,hi,rfl⟩:=mem_getD.mp hl
  have:=s.bd i; omega
 act a ha:=by
  have hl:=s.len
  have hf:=hc.1.frmObj (f:=(a : Int)) (by simpa using ha)
  have ht:=hc.1.toObj (f:=(a : Int)) (by simpa using ha);rw [ix_nat] at hf ht
  have e1 : (freeF c LL).acts.getD a default=freeAct c LL a:=by rw [freeF]; exact getD_map_range _ _ ha
  have e2 : ∀ y : Int,0≤y∧y<c.objs→ix (freeF c LL).sizes y=((LL.getD y.toNat default).length : Int):=fun y hy=>by
   rw [ix,freeF]; exact map_getD _ (by omega)
  rw [e1,e2 _ hf,e2 _ ht];refine ⟨by simp [freeAct],fun y hy=>?_⟩
  obtain ⟨q,hq,rfl⟩:=List.mem_map.mp hy
  obtain ⟨i,j,rfl,hi,hj,e3,e4⟩:=s.of _ (by omega) q hq
  have h1 : (0 : Int)≤(j : Int)∧(j : Int).toNat<c.frm.length:=⟨by omega,by simpa using hj⟩
  have h2 : (0 : Int)≤(a : Int)∧(a : Int).toNat<c.frm.length:=⟨by omega,by simpa using ha⟩
  have hcm:=hc.1.comp h1 h2 (by rw [ix_nat,ix_nat,e4]; omega)
  obtain ⟨v,hv⟩ : ∃ v : Nat,ix (ix c.comp (j : Int)) (a : Int)=v:=⟨_,(Int.toNat_of_nonneg hcm.1.1).symm⟩;rw [hv] at hcm;simp only [ix_nat] at hcm
  have hall:=s.all i v (.inl hi) hi (by simpa using hcm.1.2) (by rw [hcm.2.1,e3]);rw [hcm.2.2] at hall
  have e5 : ([ix [(i : Int),(j : Int)] 0,(ix c.comp (ix [(i : Int),(j : Int)] 1)).getD a default] : List Int)=[(i : Int),(v : Int)]:=by
   have : (ix c.comp (j : Int)).getD a default=v:=by rw [← hv,ix_nat (ix c.comp (j : Int))]
   show [(i : Int),(ix c.comp (j : Int)).getD a default]=_
   rw [this]
  rw [e5]
  have:=indexOf_in hall;omega
end
def uneq (l : List Int) : Nat:=((List.range l.length).flatMap fun d=>(List.range l.length).map fun e=>(d,e)).countP fun q : Nat × Nat=>decide (l.getD q.1 default≠l.getD q.2 default)
theorem uneq_less {l m : List Int} (hl : m.length=l.length) (h : ∀ i j : Nat,i<l.length→j<l.length→l.getD i default=l.getD j default→m.getD i default=m.getD j default)
  {u v : Nat} (hu : u<l.length) (hv : v<l.length) (h1 : l.getD u default≠l.getD v default) (h2 : m.getD u default=m.getD v default) : uneq m<uneq l:=by
 unfold uneq;rw [hl];refine countP_less (b:=(u,v)) (fun q hq hq2=>?_) (by simp; exact ⟨hu,hv⟩) (decide_eq_false (by simpa using h2)) (decide_eq_true h1);simp only [List.mem_flatMap,List.mem_range,List.mem_map] at hq
 obtain ⟨i,hi,j,hj,rfl⟩:=hq
 have hq2:=of_decide_eq_true hq2;exact decide_eq_true fun e=>hq2 (h i j hi hj e)
def pot (C : List (List Int)) : Nat:=(C.map uneq).sum
theorem pot_set : ∀ (C : List (List Int)) (y : Nat) (m : List Int),y<C.length→uneq m<uneq (C.getD y default)→pot (C.set y m)<pot C
 | [],_,_,h,_=>by simp at h
 | a::C,0,m,_,h=>by
  simp only [pot,List.set_cons_zero,List.map_cons,List.sum_cons]
  have : uneq m<uneq a:=h;omega
 | a::C,y+1,m,hy,h=>by
  have:=pot_set C y m (by simpa using hy) (by simpa using h);simp only [pot,List.set_cons_succ,List.map_cons,List.sum_cons] at this ⊢;omega
def pairsOf (p : List Int) : List (List Int):=(List.range p.length).map fun i=>[indexOf p (p.getD i default),(i : Int)]
def Glued (ps : List (List Int)) (m : List Int) : Prop:=∀ q,q∈ps→ix m (ix q 0)=ix m (ix q 1)
theorem glued_less {l m : List Int} (hl : m.length=l.length) {u v : Int} (hu : 0≤u∧u.toNat<l.length) (hv : 0≤v∧v.toNat<l.length) (h1 : ix l u≠ix l v) (hg : Glued (pairsOf l++[[u,v]]) m) : uneq m<uneq l:=by
 refine uneq_less hl (fun i j hi hj e=>?_) hu.2 hv.2 h1 ?_
 ·have hp : ∀ i : Nat,i<l.length→m.getD (indexOf l (l.getD i default)).toNat default=m.getD i default:=fun i hi=>by
   have:=hg [indexOf l (l.getD i default),(i : Int)] (List.mem_append_left _ (List.mem_map.mpr ⟨i,List.mem_range.mpr hi,rfl⟩))
   have e : ix m (ix [indexOf l (l.getD i default),(i : Int)] 1)=m.getD i default:=ix_nat m i;rw [e] at this;exact this
  rw [← hp i hi,← hp j hj,e]
 ·exact hg [u,v] (List.mem_append_right _ (by simp))
theorem pairsOf_ok {l : List Int} {u v : Int} (hu : 0≤u∧u.toNat<l.length) (hv : 0≤v∧v.toNat<l.length) : ∀ q,q∈pairsOf l++[[u,v]]→2≤q.length∧(0≤q.getD 0 default∧(q.getD 0 default).toNat<l.length)∧(0≤q.getD 1 default∧(q.getD 1 default).toNat<l.length):=by
 intro q hq
 rcases List.mem_append.mp hq with hq | hq
 ·obtain ⟨i,hi,rfl⟩:=List.mem_map.mp hq;rw [List.mem_range] at hi
  have h:=indexOf_in (l:=l) (a:=l.getD i default) (mem_getD.mpr ⟨i,hi,rfl⟩);exact ⟨by simp,⟨h.1,h.2.1⟩,by simp,by simpa using hi⟩
 ·rw [List.mem_singleton] at hq;subst hq;exact ⟨by simp,hu,hv⟩
def relab (A : List Int) (a b : Int) : List Int:=A.map fun v=>if v=b then a else v
theorem relab_len (A : List Int) (a b : Int) : (relab A a b).length=A.length:=by simp [relab]
theorem relab_ix {A : List Int} {a b i : Int} (h : i.toNat<A.length) : ix (relab A a b) i=if ix A i=b then a else ix A i:=by
 rw [ix,relab,map_getD _ h]; rfl
theorem Glued.relab {ps : List (List Int)} {A : List Int} (hp : ∀ q,q∈ps→(ix q 0).toNat<A.length∧(ix q 1).toNat<A.length) (h : Glued ps A) (a b : Int) : Glued ps (relab A a b):=fun q hq=>by
 have h1:=hp q hq;rw [relab_ix h1.1,relab_ix h1.2,h q hq]
theorem Glued.step {ps : List (List Int)} {A : List Int} (hp : ∀ q,q∈ps→(ix q 0).toNat<A.length∧(ix q 1).toNat<A.length) {q : List Int} (hq : (ix q 0).toNat<A.length∧(ix q 1).toNat<A.length) (h : Glued ps A) :
  Glued (ps++[q]) (Go.Shf.relab A (ix A (ix q 0)) (ix A (ix q 1))):=fun r hr=>by
 rcases List.mem_append.mp hr with hr | hr
 ·exact h.relab hp _ _ r hr
 ·rw [List.mem_singleton] at hr;subst hr;rw [relab_ix hq.1,relab_ix hq.2,if_pos rfl]
  split <;> rfl
end Go.Shf
namespace Go.Shf
open Go.AW
theorem indexOf_appT {s : List Int} {u v : Int} (h : u∈s) : indexOf (s++[v]) u=indexOf s u:=by
 obtain ⟨h1,h2,h3⟩:=indexOf_in h;unfold indexOf
 have : (s++[v]).idxOf? u=s.idxOf? u:=by
  have hs : ∃ i,s.idxOf? u=some i:=by
   cases e : s.idxOf? u with
   | some i=>exact ⟨i,rfl⟩
   | none=>rw [List.idxOf?_eq_none_iff] at e; exact absurd h e
  obtain ⟨i,hi⟩:=hs;rw [hi];rw [List.idxOf?_eq_some_iff] at hi ⊢
  obtain ⟨k1,k2,k3⟩:=hi;refine ⟨by simp; omega,by rw [List.getElem_append_left k1]; exact k2,fun j hj=>?_⟩;rw [List.getElem_append_left (by omega)]; exact k3 j hj
 rw [this]
theorem indexOf_newT {s : List Int} {v : Int} (h : v ∉ s) : indexOf (s++[v]) v=s.length:=by
 refine indexOf_hit (k:=s.length) (by simp) (fun i hi e=>h ?_) (by simp [List.getD_eq_getElem?_getD]);rw [List.getD_eq_getElem?_getD,List.getElem?_append_left hi,← List.getD_eq_getElem?_getD] at e;exact mem_getD.mpr ⟨i,hi,e⟩
def seenL (l : List Int) : List Int:=l.foldl (fun s v=>if v∈s then s else s++[v]) []
theorem seenL_snoc (l : List Int) (v : Int) : seenL (l++[v])=if v∈seenL l then seenL l else seenL l++[v]:=by rw [seenL,List.foldl_append]; rfl
theorem mem_seenL : ∀ (k : Nat) (l : List Int),l.length=k→∀ v,v∈seenL l↔v∈l
 | 0,l,h,v=>by rw [List.length_eq_zero_iff] at h; subst h; simp [seenL]
 | k+1,l,h,v=>by
  have hne : l≠[]:=fun e=>by rw [e] at h; simp at h
  obtain ⟨r,x,rfl⟩ : ∃ r x,l=r++[x]:=⟨l.dropLast,l.getLast hne,(List.dropLast_concat_getLast hne).symm⟩
  have ih:=mem_seenL k r (by simpa using h);rw [seenL_snoc]
  by_cases hx : x∈seenL r
  ·rw [if_pos hx,ih];simp only [List.mem_append,List.mem_singleton];exact ⟨.inl,fun h=>h.elim id fun e=>e ▸ (ih x).mp hx⟩
  ·rw [if_neg hx];simp only [List.mem_append,List.mem_singleton,ih]
theorem seenL_len : ∀ (k : Nat) (l : List Int),l.length=k→(seenL l).length≤k
 | 0,l,h=>by rw [List.length_eq_zero_iff] at h; subst h; simp [seenL]
 | k+1,l,h=>by
  have hne : l≠[]:=fun e=>by rw [e] at h; simp at h
  obtain ⟨r,x,rfl⟩ : ∃ r x,l=r++[x]:=⟨l.dropLast,l.getLast hne,(List.dropLast_concat_getLast hne).symm⟩
  have ih:=seenL_len k r (by simpa using h);rw [seenL_snoc]
  split
  ·omega
  ·simp; omega
def classL (l : List Int) : List Int:=l.map fun v=>indexOf (seenL l) v
theorem classL_len (l : List Int) : (classL l).length=l.length:=by simp [classL]
theorem classL_snoc (l : List Int) (v : Int) : classL (l++[v])=classL l++[indexOf (seenL (l++[v])) v]:=by
 rw [classL,List.map_append,List.map_cons,List.map_nil]
 congr 1
 refine List.map_congr_left fun u hu=>?_
 have:=(mem_seenL _ l rfl u).mpr hu;rw [seenL_snoc]
 split
 ·rfl
 ·exact indexOf_appT this
theorem classL_ran {l : List Int} {v : Int} (h : v∈classL l) : 0≤v∧v<l.length:=by
 obtain ⟨u,hu,rfl⟩:=List.mem_map.mp h
 have:=indexOf_in ((mem_seenL _ l rfl u).mpr hu)
 have:=seenL_len _ l rfl;omega
theorem Glued.class {ps : List (List Int)} {l : List Int} (hp : ∀ q,q∈ps→(ix q 0).toNat<l.length∧(ix q 1).toNat<l.length) (h : Glued ps l) : Glued ps (classL l):=fun q hq=>by
 have h1:=hp q hq
 have key : ∀ i : Int,i.toNat<l.length→ix (classL l) i=indexOf (seenL l) (ix l i):=fun i hi=>by rw [ix,classL,map_getD _ hi]; rfl
 rw [key _ h1.1,key _ h1.2,h q hq]
def labs (n : Nat) (ps : List (List Int)) : List Int:=ps.foldl (fun A q=>relab A (ix A (ix q 0)) (ix A (ix q 1))) ((List.range n).map Int.ofNat)
theorem labs_snoc (n : Nat) (ps : List (List Int)) (q : List Int) : labs n (ps++[q])=relab (labs n ps) (ix (labs n ps) (ix q 0)) (ix (labs n ps) (ix q 1)):=by simp [labs,List.foldl_append]
theorem labs_succ (n : Nat) (ps : List (List Int)) {k : Nat} (hk : k<ps.length) : labs n (ps.take (k+1))=relab (labs n (ps.take k)) (ix (labs n (ps.take k)) (ix (ps.getD k default) 0)) (ix (labs n (ps.take k)) (ix (ps.getD k default) 1)):=by
 rw [take_one ps hk,labs_snoc]
theorem labs_fold (ps : List (List Int)) : ∀ (done : List (List Int)) (A : List Int),(∀ q,q∈done++ps→(ix q 0).toNat<A.length∧(ix q 1).toNat<A.length)→Glued done A →
  (ps.foldl (fun A q=>relab A (ix A (ix q 0)) (ix A (ix q 1))) A).length=A.length∧Glued (done++ps) (ps.foldl (fun A q=>relab A (ix A (ix q 0)) (ix A (ix q 1))) A):=by
 induction ps with
 | nil=>intro done A _ h; exact ⟨rfl,by simpa using h⟩
 | cons q r ih =>
  intro done A hr h
  have hq:=hr q (by simp)
  have h2:=h.step (fun q hq=>hr q (by simp [hq])) hq
  have:=ih (done++[q]) (relab A (ix A (ix q 0)) (ix A (ix q 1))) (fun p hp=>by
   rw [relab_len]; exact hr p (by simpa using hp)) h2
  rw [List.foldl_cons];rw [relab_len] at this;exact ⟨this.1,by simpa using this.2⟩
theorem labs_len (n : Nat) (ps : List (List Int)) : (labs n ps).length=n:=by
 have : ∀ (ps : List (List Int)) (A : List Int),(ps.foldl (fun A q=>relab A (ix A (ix q 0)) (ix A (ix q 1))) A).length=A.length:=by
  intro ps
  induction ps with
  | nil=>intro A; rfl
  | cons q r ih=>intro A; rw [List.foldl_cons,ih,relab_len]
 rw [labs,this]; simp
def joinL (n : Nat) (ps : List (List Int)) : List Int:=classL (labs n ps)
theorem joinL_len (n : Nat) (ps : List (List Int)) : (joinL n ps).length=n:=by rw [joinL,classL_len,labs_len]
theorem joinL_ran {n : Nat} {ps : List (List Int)} {v : Int} (h : v∈joinL n ps) : 0≤v∧v<n:=by
 have:=classL_ran h
 rwa [labs_len] at this
theorem joinL_glued {n : Nat} {ps : List (List Int)} (hp : ∀ q,q∈ps→(ix q 0).toNat<n∧(ix q 1).toNat<n) : Glued ps (joinL n ps):=by
 have hr : ∀ q,q∈ps→(ix q 0).toNat<((List.range n).map Int.ofNat).length∧(ix q 1).toNat<((List.range n).map Int.ofNat).length:=fun q hq=>by simpa using hp q hq
 have:=(labs_fold ps [] ((List.range n).map Int.ofNat) (by simpa using hr) (fun q hq=>by simp at hq)).2;refine Glued.class (fun q hq=>by rw [labs_len]; exact hp q hq) ?_
 simpa [labs] using this
def relabTo (A : List Int) (a b : Int) (i : Nat) : List Int:=relab (A.take i) a b++A.drop i
theorem relabTo_len (A : List Int) (a b : Int) {i : Nat} (hi : i≤A.length) : (relabTo A a b i).length=A.length:=by simp [relabTo,relab_len]; omega
theorem relabTo_zero (A : List Int) (a b : Int) : relabTo A a b 0=A:=by simp [relabTo,relab]
theorem relabTo_all (A : List Int) (a b : Int) : relabTo A a b A.length=relab A a b:=by simp [relabTo]
theorem relab_same (A : List Int) (a : Int) : relab A a a=A:=by
 rw [relab]
 have : ∀ v,v∈A→(if v=a then a else v)=v:=fun v _=>by split <;> simp_all
 rw [List.map_congr_left this,List.map_id']
theorem relabTo_get (A : List Int) (a b : Int) {i : Nat} (hi : i<A.length) : (relabTo A a b i).getD i default=A.getD i default:=by
 rw [relabTo,List.getD_eq_getElem?_getD,List.getElem?_append_right (by rw [relab_len,List.length_take]; omega),relab_len,List.length_take];rw [show i - min i A.length=0 by omega,List.getElem?_drop,List.getD_eq_getElem?_getD]; simp
theorem relabTo_succ (A : List Int) (a b : Int) {i : Nat} (hi : i<A.length) : relabTo A a b (i+1)=(relabTo A a b i).set i (if A.getD i default=b then a else A.getD i default):=by
 have hl : (relab (A.take i) a b).length=i:=by rw [relab_len,List.length_take]; omega
 rw [relabTo,relabTo,take_one A hi]
 have e1 : relab (A.take i++[A.getD i default]) a b=relab (A.take i) a b++[if A.getD i default=b then a else A.getD i default]:=by simp [relab]
 have e2 : A.drop i=A.getD i default::A.drop (i+1):=by
  rw [List.drop_eq_getElem_cons hi]; simp [List.getD_eq_getElem?_getD,hi]
 rw [e1,e2,List.set_append_right _ _ (by omega),hl,Nat.sub_self,List.set_cons_zero,List.append_assoc]; rfl
end Go.Shf
namespace Go.Shf
open Go.AW
structure ClsOk (sz : List Int) (CC : List (List Int)) : Prop where
 len : CC.length=sz.length
 row : ∀ x : Nat,x<sz.length→((CC.getD x default).length : Int)=sz.getD x default
 ran : ∀ x : Nat,x<sz.length→∀ v,v∈CC.getD x default→0≤v∧v<sz.getD x default
def clsAt (sz : List Int) (PP : List (List (List Int))) (x : Nat) : List Int:=joinL (sz.getD x default).toNat (PP.getD x default)
theorem cls_join {sz : List Int} (h : ∀ y,y∈sz→0≤y) (PP : List (List (List Int))) : ClsOk sz ((List.range sz.length).map (clsAt sz PP)) where
 len:=by simp
 row x hx:=by
  have:=h _ (mem_getD.mpr ⟨x,hx,rfl⟩);rw [getD_map_range _ _ hx,clsAt,joinL_len]; omega
 ran x hx v hv:=by
  have:=h _ (mem_getD.mpr ⟨x,hx,rfl⟩);rw [getD_map_range _ _ hx,clsAt] at hv
  have:=joinL_ran hv; omega
theorem ClsOk.set {sz : List Int} {CC : List (List Int)} (s : ClsOk sz CC) {y : Nat} (hy : y<sz.length) {m : List Int} (hm : (m.length : Int)=sz.getD y default) (hr : ∀ v,v∈m→0≤v∧v<sz.getD y default) : ClsOk sz (CC.set y m):=by
 have hg : ∀ x,(CC.set y m).getD x default=if x=y then m else CC.getD x default:=fun x=>getD_setD CC m (by rw [s.len]; exact hy)
 refine ⟨by rw [List.length_set]; exact s.len,fun x hx=>?_,fun x hx v hv=>?_⟩
 ·rw [hg]
  by_cases e : x=y
  ·rw [if_pos e,e]; exact hm
  ·rw [if_neg e]; exact s.row x hx
 ·rw [hg] at hv
  by_cases e : x=y
  ·rw [if_pos e] at hv; rw [e]; exact hr v hv
  ·rw [if_neg e] at hv; exact s.ran x hx v hv
def mxL (l : List Int) : Int:=l.foldl (fun n v=>if v+1 > n then v+1 else n) 0
theorem mxL_snoc (l : List Int) (v : Int) : mxL (l++[v])=if v+1 > mxL l then v+1 else mxL l:=by rw [mxL,List.foldl_append]; rfl
theorem mxL_succ (l : List Int) {k : Nat} (hk : k<l.length) : mxL (l.take (k+1))=if l.getD k default+1 > mxL (l.take k) then l.getD k default+1 else mxL (l.take k):=by rw [take_one l hk,mxL_snoc]
theorem mxL_all {l : List Int} {N : Int} (h0 : 0≤N) (h : ∀ v,v∈l→0≤v∧v<N) : ∀ k,k≤l.length→(0≤mxL (l.take k)∧mxL (l.take k)≤N)∧∀ i,i<k→l.getD i default<mxL (l.take k)
 | 0,_=>⟨by simpa [mxL] using h0,fun i hi=>by omega⟩
 | k+1,hk=>by
  have ih:=mxL_all h0 h k (by omega)
  have hv:=h _ (mem_getD.mpr ⟨k,hk,rfl⟩);rw [mxL_succ l hk];refine ⟨by split <;> omega,fun i hi=>?_⟩
  by_cases e : i=k
  ·subst e; split <;> omega
  ·have:=ih.2 i (by omega)
   split <;> omega
theorem mxL_bd {l : List Int} {N : Int} (h0 : 0≤N) (h : ∀ v,v∈l→0≤v∧v<N) : (0≤mxL l∧mxL l≤N)∧∀ v,v∈l→v<mxL l:=by
 have:=mxL_all h0 h l.length (Nat.le_refl _);rw [List.take_length] at this;exact ⟨this.1,fun v hv=>by obtain ⟨i,hi,rfl⟩:=mem_getD.mp hv; exact this.2 i hi⟩
end Go.Shf
namespace Go.AW
def IoOnly (a : AV) : Prop:=∀ (g g' : Gh) (v : Value),(∀ i p,g.io i=some p→g'.io i=some p)→VRel g a v→VRel g' a v
theorem IoOnly.int (k : IntKind) (n : Int) : IoOnly (.int k n):=fun g g' v _ h=>by cases h; exact .int k n
theorem IoOnly.bool (b : Bool) : IoOnly (.bool b):=fun g g' v _ h=>by cases h; exact .bool b
theorem IoOnly.buf (i n : Nat) : IoOnly (.buf i n):=fun g g' v hg h=>by
 cases h with
 | bufnil _ h=>exact .bufnil _ (hg _ _ h)
 | buf _ _ b cap h=>exact .buf _ _ b cap (hg _ _ h)
theorem IoOnly.nilsl : IoOnly .nilsl:=fun g g' v hg h=>by cases h; exact .nilsl
theorem IoOnly.agg {cs : List AV} (hc : ∀ c,c∈cs→IoOnly c) : IoOnly (.agg cs):=fun g g' v hg h=>by
 cases h with
 | agg _ vs hs hv =>
  refine .agg cs vs hs fun i hi=>hc _ ?_ g g' _ hg (hv i hi);rw [List.getD_eq_getElem?_getD,List.getElem?_eq_getElem hi]; simp
theorem IoOnly.tup {cs : List AV} (hc : ∀ c,c∈cs→IoOnly c) : IoOnly (.tup cs):=fun g g' v hg h=>by
 cases h with
 | tup _ vs hs hv =>
  refine .tup cs vs hs fun i hi=>hc _ ?_ g g' _ hg (hv i hi);rw [List.getD_eq_getElem?_getD,List.getElem?_eq_getElem hi]; simp
def MObj.plain : MObj→Prop
 | .cells _ cs _=>∀ c,c∈cs→IoOnly c
 | .map _ _=>False
def MObj.frz : MObj→MObj
 | .cells sz cs _=>.cells sz cs cs.length
 | o=>o
def MObj.isMap : MObj→Bool
 | .map _ _=>true
 | _=>false
def frzo : Option MObj→Option MObj
 | some (.cells sz cs _)=>some (.cells sz cs cs.length)
 | _=>none
def Heap.frz (H : Heap) : Heap:=(H.filter fun x=>!((H.get x.1).elim false MObj.isMap)).map fun x=>(x.1,x.2.frz)
theorem Heap.get_filter (H : Heap) (p : Nat→Bool) (i : Nat) : Heap.get (H.filter fun x=>p x.1) i=if p i then H.get i else none:=by
 induction H with
 | nil=>simp [Heap.get]
 | cons x r ih =>
  obtain ⟨j,o⟩:=x;simp only [Heap.get,List.filter_cons,List.lookup] at ih ⊢
  by_cases hp : p j
  ·simp only [hp,if_true,List.lookup]
   by_cases e : i=j
   ·subst e; simp [hp]
   ·have : (i == j)=false:=by simpa using e
    simp [this,ih]
  ·simp only [hp,Bool.false_eq_true,if_false]
   by_cases e : i=j
   ·subst e; rw [ih]; simp [hp]
   ·have : (i == j)=false:=by simpa using e
    simp [this,ih]
theorem Heap.get_map (H : Heap) (f : MObj→MObj) (i : Nat) : Heap.get (H.map fun x=>(x.1,f x.2)) i=(H.get i).map f:=by
 induction H with
 | nil=>rfl
 | cons x r ih =>
  obtain ⟨j,o⟩:=x;simp only [Heap.get,List.map_cons,List.lookup] at ih ⊢
  by_cases e : i=j
  ·subst e; simp
  ·have : (i == j)=false:=by simpa using e
   simp [this,ih]
theorem Heap.get_frz (H : Heap) (i : Nat) : H.frz.get i=frzo (H.get i):=by
 unfold Heap.frz;rw [Heap.get_map,Heap.get_filter H fun j=>!((H.get j).elim false MObj.isMap)]
 cases h : H.get i with
 | none=>simp [frzo]
 | some o=>cases o <;> simp [MObj.isMap,frzo,MObj.frz]
theorem frzo_some {o : Option MObj} {x : MObj} (h : frzo o=some x) : ∃ sz cs f,o=some (.cells sz cs f)∧x=.cells sz cs cs.length:=by
 unfold frzo at h
 split at h
 ·cases h; exact ⟨_,_,_,rfl,rfl⟩
 ·cases h
inductive Tr (H : Heap) : AV→AV→Prop
 | val (a : AV) : Tr H a a
 | buf (id f : Nat) (cs es : List AV) (h : H.get id=some (.cells 1 cs f)) (hl : es.length=cs.length) (h1 : ∀ i,i<cs.length→(es.getD i nv).cells=[es.getD i nv])
   (ht : ∀ i,i<cs.length→Tr H (cs.getD i nv) (es.getD i nv)) : Tr H (.buf id cs.length) (.sl es)
 | agg (cs es : List AV) (hl : es.length=cs.length) (ht : ∀ i,i<cs.length→Tr H (cs.getD i nv) (es.getD i nv)) : Tr H (.agg cs) (.agg es)
 | ref (id sz f : Nat) (cs es : List AV) (h : H.get id=some (.cells sz cs f)) (hl : es.length=cs.length) (ht : ∀ i,i<cs.length→Tr H (cs.getD i nv) (es.getD i nv)) : Tr H (.ref id 0) (.ptr es)
def mapEs : Option Obj→Option (Array MapEntry)
 | some (.map es _)=>some es
 | _=>none
noncomputable def Gh.lend (g : Gh) (H : Heap) (w : World) : Gh :=
 {
  fz:=fun b o=>@ite _ (∃ id cap sz cs f,H.get id=some (.cells sz cs f)∧g.io id=some (.blk b cap)∧o<cs.length) (Classical.propDecidable _) (w.cell? ⟨b,o,none⟩) (g.fz b o)
  fm:=fun b=>@ite _ (∃ id ks vs,H.get id=some (.map ks vs)∧g.io id=some (.mp b)) (Classical.propDecidable _) (mapEs w.heap[b]?) (g.fm b)
  io:=g.io }
theorem Gh.le_lend {g : Gh} {B : Nat} {H : Heap} {w : World} (h : WRel g B H w) : g.le (g.lend H w):=by
 refine ⟨fun b o v e=>?_,fun b es e=>?_,fun _ _ h=>h⟩
 ·simp only [Gh.lend]
  split
  ·exact h.fz b o v e
  ·exact e
 ·simp only [Gh.lend]
  split
  ·obtain ⟨clk,hc⟩:=h.fm b es e;rw [hc]; rfl
  ·exact e
theorem WRel.lend {g : Gh} {B : Nat} {H : Heap} {w : World} (h : WRel g B H w) : WRel (g.lend H w) B H.frz w:=by
 have hle:=Gh.le_lend h
 have hsome : ∀ i,(H.frz.get i).isSome→(H.get i).isSome:=by
  intro i e
  obtain ⟨o,e⟩:=Option.isSome_iff_exists.1 e;rw [Heap.get_frz] at e
  obtain ⟨sz,cs,f,e,_⟩:=frzo_some e
  simp [e]
 constructor
 ·intro b o v e;simp only [Gh.lend] at e
  split at e
  ·exact e
  ·exact h.fz b o v e
 ·intro b es e;simp only [Gh.lend] at e
  split at e
  ·unfold mapEs at e
   split at e
   ·rename_i es' clk hc; cases e; exact ⟨clk,hc⟩
   ·cases e
  ·exact h.fm b es e
 ·intro i o e;rw [Heap.get_frz] at e
  obtain ⟨sz,cs,f,e1,rfl⟩:=frzo_some e;clear e
  obtain ⟨p,hp,hr⟩:=h.ob i _ e1;refine ⟨p,hp, ?_⟩
  cases p with
  | nil=>simp only [ObjRel] at hr ⊢; simp [hr.1]
  | blk b cap =>
   simp only [ObjRel] at hr ⊢
   obtain ⟨h1,h2,h3,h4,c,el,h5,h6,h7,h8⟩:=hr;refine ⟨h1,Nat.le_refl _,h3,fun x hx=>?_,c,el,h5,h6,h7,fun i hi=>(h8 i hi).mono hle⟩;simp only [Gh.lend];rw [if_neg,h4 x (by omega)]
   rintro ⟨id,cap',sz',cs',f',a1,a2,a3⟩
   by_cases hid : id=i
   ·subst hid; rw [e1] at a1; cases a1; omega
   ·exact h.inj id i b cap' cap hid (by simp [a1]) (by simp [e1]) a2 hp
  | mp b=>simp [ObjRel] at hr
 ·intro i j b c c' n e1 e2;exact h.inj i j b c c' n (hsome i e1) (hsome j e2)
 ·intro i j b n e1 e2;exact h.injm i j b n (hsome i e1) (hsome j e2)
 ·exact h.base
 ·exact h.fin
theorem Tr.vrel {g : Gh} {B : Nat} {H : Heap} {w : World} (hW : WRel g B H w) {a e : AV} (t : Tr H a e) : ∀ v,VRel g a v→VRel (g.lend H w) e v:=by
 induction t with
 | val a=>intro v h; exact h.mono (Gh.le_lend hW)
 | buf id f cs es h hl h1 ht ih =>
  intro v hv
  obtain ⟨p,hp,hr⟩:=hW.ob id _ h
  generalize hn : cs.length=n at *
  cases hv with
  | bufnil _ hq =>
   have : es=[]:=List.eq_nil_of_length_eq_zero hl;subst this;exact .slnil none 0
  | buf _ _ b cap hq =>
   rw [hp] at hq; cases hq;simp only [ObjRel] at hr
   obtain ⟨r1,r2,r3,r4,c,el,r5,r6,r7,r8⟩:=hr
   have hl' : es.length=cs.length:=by omega
   have key : ∀ i j,i<es.length→j<1→i*1+j=i:=by intro i j _ hj; omega
   refine hl ▸ VRel.sl es b 0 1 cap (fun i=>c.getD i undef) (by omega) (by omega) (fun i hi=>?_) (fun i j hi hj=>?_) (fun i j hi hj=>?_)
   ·rw [h1 i (by omega)]; rfl
   ·rw [key i j hi hj,Nat.zero_add];simp only [Gh.lend];rw [if_pos ⟨id,cap,1,cs,f,h,hp,by omega⟩];rw [cell_of_row w b i c el (0,0) r5]
    have : i<c.size:=by omega
    simp [Array.getD,this]
   ·rw [key i j hi hj,h1 i (by omega)]
    obtain rfl : j=0:=by omega
    exact ih i (by omega) _ (r8 i (by omega))
 | agg cs es hl ht ih =>
  intro v hv
  cases hv with
  | agg _ vs hs hv=>exact .agg es vs (by omega) fun i hi=>ih i (by omega) _ (hv i (by omega))
 | ref id sz f cs es h hl ht ih =>
  intro v hv
  obtain ⟨p,hp,hr⟩:=hW.ob id _ h
  cases hv with
  | ref _ _ b cap hq =>
   rw [hp] at hq; cases hq;simp only [ObjRel] at hr
   obtain ⟨r1,r2,r3,r4,c,el,r5,r6,r7,r8⟩:=hr;refine .ptr es b 0 (fun i=>c.getD i undef) (fun i hi=>?_) (fun i hi=>ih i (by omega) _ (r8 i (by omega)));rw [Nat.zero_add];simp only [Gh.lend];rw [if_pos ⟨id,cap,sz,cs,f,h,hp,by omega⟩];rw [cell_of_row w b i c el (0,0) r5]
   have : i<c.size:=by omega
   simp [Array.getD,this]
theorem Heap.get_append (l H : Heap) (i : Nat) : Heap.get (l++H) i=(Heap.get l i).or (H.get i):=by
 induction l with
 | nil=>simp [Heap.get]
 | cons x r ih =>
  obtain ⟨j,o⟩:=x;simp only [Heap.get,List.cons_append,List.lookup] at ih ⊢
  by_cases e : i=j
  ·subst e; simp
  ·have : (i == j)=false:=by simpa using e
   simp [this,ih]
theorem Heap.get_mem {l : Heap} {i : Nat} {o : MObj} (h : Heap.get l i=some o) : (i,o)∈l:=by
 induction l with
 | nil=>simp [Heap.get] at h
 | cons x r ih =>
  obtain ⟨j,o'⟩:=x;simp only [Heap.get,List.lookup] at ih h
  by_cases e : i=j
  ·subst e; simp at h; simp [h]
  ·have : (i == j)=false:=by simpa using e
   simp only [this] at h;exact List.mem_cons_of_mem _ (ih h)
theorem Heap.mem_get {l : Heap} (nd : (l.map Prod.fst).Nodup) {x : Nat × MObj} (h : x∈l) : Heap.get l x.1=some x.2:=by
 induction l with
 | nil=>simp at h
 | cons y r ih =>
  obtain ⟨j,o'⟩:=y;simp only [List.map_cons,List.nodup_cons] at nd;simp only [Heap.get,List.lookup]
  rcases List.mem_cons.mp h with rfl | hm
  ·simp
  ·have : (x.1 == j)=false:=by
    simp only [beq_eq_false_iff_ne,ne_eq]
    intro e; exact nd.1 (e ▸ List.mem_map_of_mem hm)
   simp only [this];exact ih nd.2 hm
theorem WRel.giveBack {g g' : Gh} {B : Nat} {H H' l : Heap} {w w' : World} (h : WRel g B H w) (hg : (g.lend H w).le g')
  (h' : WRel g' B H' w') (ho : Owns H.frz H' l) (hl : ∀ x,x∈l→x.2.plain∧H.get x.1=none) : g.le { g with io:=g'.io }∧WRel { g with io:=g'.io } B (l++H) w':=by
 have hle0:=(Gh.le_lend h).trans hg
 have hle : g.le { g with io:=g'.io }:=⟨fun _ _ _ h=>h,fun _ _ h=>h,hle0.io⟩
 have fzn : ∀ b o,g'.fz b o=none→g.fz b o=none:=by
  intro b o e
  cases e2 : g.fz b o with
  | none=>rfl
  | some v=>rw [hle0.fz _ _ _ e2] at e; cases e
 have hio : ∀ i o,H.get i=some o→∃ p,g.io i=some p∧g'.io i=some p∧ObjRel g B w p o:=by
  intro i o e
  obtain ⟨p,hp,hr⟩:=h.ob i o e;exact ⟨p,hp,hle0.io _ _ hp,hr⟩
 have cases : ∀ i,(Heap.get (l++H) i).isSome→(∃ sz cs f,H'.get i=some (.cells sz cs f))∨∃ ks vs,H.get i=some (.map ks vs):=by
  intro i e;rw [Heap.get_append] at e
  cases e1 : Heap.get l i with
  | some o =>
   have hm:=Heap.get_mem e1
   have h1:=ho.get _ hm
   have h2:=(hl _ hm).1;simp only at h1 h2
   cases o with
   | cells sz cs f=>exact .inl ⟨_,_,_,h1⟩
   | map ks vs=>exact absurd h2 (by simp [MObj.plain])
  | none =>
   rw [e1,Option.none_or] at e
   obtain ⟨o,e⟩:=Option.isSome_iff_exists.1 e
   cases o with
   | cells sz cs f =>
    have : H.frz.get i=some (.cells sz cs cs.length):=by rw [Heap.get_frz,e]; rfl
    exact .inl ⟨_,_,_,ho.sub _ _ this⟩
   | map ks vs=>exact .inr ⟨_,_,e⟩
 refine ⟨hle, ?_⟩
 constructor
 ·intro b o v e; exact h'.fz _ _ _ (hle0.fz _ _ _ e)
 ·intro b es e; exact h'.fm _ _ (hle0.fm _ _ e)
 ·intro i o e;rw [Heap.get_append] at e
  cases e1 : Heap.get l i with
  | some o1 =>
   rw [e1,Option.some_or] at e; cases e
   have hm:=Heap.get_mem e1
   obtain ⟨p,hpp,hr⟩:=h'.ob i o (ho.get _ hm)
   have hpl:=(hl _ hm).1;refine ⟨p,hpp, ?_⟩
   cases o with
   | map ks vs=>exact absurd hpl (by simp [MObj.plain])
   | cells sz cs f =>
    cases p with
    | nil=>exact hr
    | mp b=>simp [ObjRel] at hr
    | blk b cap =>
     simp only [ObjRel] at hr ⊢
     obtain ⟨r1,r2,r3,r4,c,el,r5,r6,r7,r8⟩:=hr;refine ⟨r1,r2,r3,fun o ho=>fzn _ _ (r4 o ho),c,el,r5,r6,r7,fun i hi=>hpl _ ?_ g' _ _ (fun _ _ h=>h) (r8 i hi)⟩;rw [List.getD_eq_getElem?_getD,List.getElem?_eq_getElem hi]; simp
  | none =>
   rw [e1,Option.none_or] at e
   obtain ⟨p,hp0,hp1,hr0⟩:=hio i o e;refine ⟨p,hp1, ?_⟩
   cases o with
   | map ks vs =>
    cases p with
    | nil=>simp [ObjRel] at hr0
    | blk b cap=>simp [ObjRel] at hr0
    | mp b =>
     simp only [ObjRel] at hr0 ⊢
     obtain ⟨q1,q2,es,clk,q3,q4,q5,q6,q7⟩:=hr0
     have hfm : (g.lend H w).fm b=some es:=by
      simp only [Gh.lend];rw [if_pos ⟨i,ks,vs,e,hp0⟩,q3]; rfl
     obtain ⟨clk',hc⟩:=h'.fm _ _ (hg.fm _ _ hfm);exact ⟨q1,q2,es,clk',hc,q4,q5,fun i hi=>(q6 i hi).mono hle,fun i hi=>(q7 i hi).mono hle⟩
   | cells sz cs f =>
    have e2 : H.frz.get i=some (.cells sz cs cs.length):=by rw [Heap.get_frz,e]; rfl
    obtain ⟨p',hpp,hr⟩:=h'.ob i _ (ho.sub _ _ e2);rw [hp1] at hpp; cases hpp
    cases p with
    | nil=>exact hr0
    | mp b=>simp [ObjRel] at hr0
    | blk b cap =>
     simp only [ObjRel] at hr hr0 ⊢
     obtain ⟨q1,q2,q3,q4,c0,el0,q5,q6,q7,q8⟩:=hr0
     obtain ⟨r1,r2,r3,r4,c,el,r5,r6,r7,r8⟩:=hr;refine ⟨r1,q2,r3,q4,c,el,r5,r6,r7,fun j hj=>?_⟩
     have h1 : w.cell? ⟨b,j,none⟩=some (c0.getD j undef):=by
      rw [cell_of_row w b j c0 el0 (0,0) q5]
      have : j<c0.size:=by omega
      simp [Array.getD,this]
     have h2 : w'.cell? ⟨b,j,none⟩=some (c0.getD j undef):=by
      refine h'.fz _ _ _ (hg.fz _ _ _ ?_);simp only [Gh.lend];rw [if_pos ⟨i,cap,sz,cs,f,e,hp0,hj⟩]; exact h1
     rw [cell_of_row w' b j c el (0,0) r5] at h2
     have h3 : c.getD j undef=c0.getD j undef:=by
      have hj' : j<c.size:=by omega
      rw [Array.getElem?_eq_getElem hj'] at h2;rw [← Option.some.inj h2]; simp [Array.getD,hj']
     rw [h3]; exact (q8 j hj).mono hle
 ·intro i j b c c' n e1 e2 e3 e4
  rcases cases i e1 with ⟨sz,cs,f,k1⟩ | ⟨ks,vs,k1⟩
  ·rcases cases j e2 with ⟨sz',cs',f',k2⟩ | ⟨ks,vs,k2⟩
   ·exact h'.inj i j b c c' n (by simp [k1]) (by simp [k2]) e3 e4
   ·obtain ⟨p,hp0,hp1,hr0⟩:=hio j _ k2;simp only at e4; rw [hp1] at e4; cases e4; simp [ObjRel] at hr0
  ·obtain ⟨p,hp0,hp1,hr0⟩:=hio i _ k1;simp only at e3; rw [hp1] at e3; cases e3; simp [ObjRel] at hr0
 ·intro i j b n e1 e2 e3 e4
  rcases cases i e1 with ⟨sz,cs,f,k1⟩ | ⟨ks,vs,k1⟩
  ·obtain ⟨p,hp,hr⟩:=h'.ob i _ k1;simp only at e3; rw [hp] at e3; cases e3; simp [ObjRel] at hr
  ·rcases cases j e2 with ⟨sz',cs',f',k2⟩ | ⟨ks',vs',k2⟩
   ·obtain ⟨p,hp,hr⟩:=h'.ob j _ k2;simp only at e4; rw [hp] at e4; cases e4; simp [ObjRel] at hr
   ·obtain ⟨p,hp0,hp1,_⟩:=hio i _ k1
    obtain ⟨q,hq0,hq1,_⟩:=hio j _ k2;simp only at e3 e4;rw [hp1] at e3; cases e3;rw [hq1] at e4; cases e4;exact h.injm i j b n (by simp [k1]) (by simp [k2]) hp0 hq0
 ·exact h'.base
 ·exact h'.fin
theorem WRel.lendNew {g g' : Gh} {B : Nat} {H H' l : Heap} {w w' : World} (h : WRel g B H w) (hg : (g.lend H w).le g') (h' : WRel g' B H' w') (ho : Owns H.frz H' l) (hl : ∀ x,x∈l→x.2.plain) :
  ∀ x,x∈l→H.get x.1=none:=by
 intro x hx
 have h1:=ho.out x hx
 have h2:=ho.get x hx
 have h3:=hl x hx;rw [Heap.get_frz] at h1
 cases e : H.get x.1 with
 | none=>rfl
 | some o =>
  rw [e] at h1
  cases o with
  | cells sz cs f=>simp [frzo] at h1
  | map ks vs =>
   obtain ⟨p,hp,hr⟩:=h.ob _ _ e
   cases p with
   | nil=>simp [ObjRel] at hr
   | blk b cap=>simp [ObjRel] at hr
   | mp b =>
    have hp':=((Gh.le_lend h).trans hg).io _ _ hp
    obtain ⟨q,hq,hr2⟩:=h'.ob _ _ h2;rw [hp'] at hq; cases hq
    cases ho2 : x.2 with
    | cells sz cs f=>rw [ho2] at hr2; simp [ObjRel] at hr2
    | map ks vs=>rw [ho2] at h3; simp [MObj.plain] at h3
theorem CallH.borrow {P : Program} {B : Nat} {f : FuncId} {args es : List AV} {H : Heap} {K0 K : Kont} (hl : es.length=args.length)
  (ht : ∀ i,i<args.length→∀ g w v,WRel g B H w→VRel g (args.getD i nv) v→VRel (g.lend H w) (es.getD i nv) v)
  (h : CallH P B f es H.frz K0) (hk : ∀ r H',K0 r H'→∃ l,Owns H.frz H' l∧(∀ x,x∈l→x.2.plain)∧IoOnly r∧((∀ x,x∈l→H.get x.1=none)→K r (l++H))) : CallH P B f args H K:=by
 refine ⟨h.1,fun g w vs hW hv=>?_⟩;refine (h.2 _ w vs hW.lend ⟨by rw [hv.1,hl],fun i hi=>ht i (by omega) g w _ hW (hv.2 i (by omega))⟩).mono fun e w' ⟨v,he,g',r,H',a,b,c,d,k⟩=>?_
 obtain ⟨l,ho,hpl,hio,hK⟩:=hk r H' b
 have hn:=hW.lendNew a d ho hpl
 obtain ⟨q1,q2⟩:=hW.giveBack a d ho fun x hx=>⟨hpl x hx,hn x hx⟩;exact ⟨v,he,_,r,_,q1,hK hn,hio g' _ _ (fun _ _ h=>h) c,q2,k⟩
theorem CallH.lentPure {P : Program} {B : Nat} {f : FuncId} {args es : List AV} {H : Heap} {K : Kont} {r : AV} (hr : IoOnly r) (hl : es.length=args.length)
  (ht : ∀ i,i<args.length→∀ g w v,WRel g B H w→VRel g (args.getD i nv) v→VRel (g.lend H w) (es.getD i nv) v)
  (h : PureF P B f es r) (hk : K r H) : CallH P B f args H K :=
 CallH.borrow hl ht (h _) fun r' H' ⟨e1,e2⟩=>⟨[],e2 ▸ .nil _,by simp,e1 ▸ hr,fun _=>by rw [e1]; exact hk⟩
theorem Tr.arg {B : Nat} {H : Heap} {a e : AV} (t : Tr H a e) : ∀ g w v,WRel g B H w→VRel g a v→VRel (g.lend H w) e v:=fun g w v hW hv=>t.vrel hW v hv
theorem val_arg {B : Nat} {H : Heap} (a : AV) : ∀ g w v,WRel g B H w→VRel g a v→VRel (g.lend H w) a v:=fun g w v hW hv=>hv.mono (Gh.le_lend hW)
theorem Owns.frz {H H' l : Heap} (h : Owns H.frz H' l) (hn : ∀ x,x∈l→H.get x.1=none) : Owns H (l++H) l:=by
 refine ⟨fun i o e=>?_,fun x hx=>?_,h.nd,hn⟩
 ·rw [Heap.get_append]
  cases e1 : Heap.get l i with
  | some o1=>have:=hn _ (Heap.get_mem e1); simp only at this; rw [this] at e; cases e
  | none=>simpa using e
 ·rw [Heap.get_append,Heap.mem_get h.nd hx]; rfl
theorem lent_arg {α : Type} [Inhabited α] {f : α→AV} [One f] {B : Nat} {H0 H : Heap} {l : List (Nat × MObj)} {id n fr : Nat} {A : List α} (o : Owns H0 H ((id,.cells 1 (A.map f) fr)::l)) (hn : n=A.length) :
  ∀ g w v,WRel g B H w→VRel g (.buf id n) v→VRel (g.lend H w) (mL f A) v:=by
 subst hn
 have h0:=o.h0;simp only at h0
 have:=Tr.buf (H:=H) id fr (A.map f) (A.map f) h0 rfl (fun i hi=>by rw [List.length_map] at hi; rw [getD_map A hi]; exact one_cells _) (fun i _=>.val _);rw [List.length_map] at this;exact this.arg
theorem call_lent {α : Type} [Inhabited α] {f : α→AV} [One f] {P : Program} {B : Nat} {fn : FuncId} {args : List AV} {H0 H : Heap} {l : List (Nat × MObj)} {K : Kont} {id n fr : Nat} {A : List α} {r : AV} (t : Nat)
  (ha : args[t]? = some (.buf id n)) (o : Owns H0 H ((id,.cells 1 (A.map f) fr)::l)) (hn : n=A.length) (hr : IoOnly r) (h : PureF P B fn (args.set t (mL f A)) r) (hk : K r H) : CallH P B fn args H K:=by
 refine CallH.lentPure hr (by simp) (fun i hi=>?_) h hk
 by_cases e : i=t
 ·subst e
  have e1 : args.getD i nv=.buf id n:=by rw [List.getD_eq_getElem?_getD,ha]; rfl
  have e2 : (args.set i (mL f A)).getD i nv=mL f A:=by simp [List.getD_eq_getElem?_getD,hi]
  rw [e1,e2];exact lent_arg o hn
 ·have e2 : (args.set t (mL f A)).getD i nv=args.getD i nv:=by
   rw [List.getD_eq_getElem?_getD,List.getElem?_set_ne (by omega),← List.getD_eq_getElem?_getD]
  rw [e2]; exact val_arg _
theorem Owns.trans {H0 H H' base l : Heap} (h : Owns H0 H base) (k : Owns H H' l) : Owns H0 H' (l++base):=by
 refine ⟨h.sub.trans k.sub,fun x hx=>?_, ?_,fun x hx=>?_⟩
 ·rcases List.mem_append.mp hx with hx | hx
  ·exact k.get x hx
  ·exact k.sub _ _ (h.get x hx)
 ·rw [List.map_append,List.nodup_append];refine ⟨k.nd,h.nd,fun a ha b hb=>?_⟩
  obtain ⟨x,hx,rfl⟩:=List.mem_map.mp ha
  obtain ⟨y,hy,rfl⟩:=List.mem_map.mp hb
  intro e
  have h1:=k.out x hx
  have h2:=h.get y hy;rw [← e,h1] at h2; cases h2
 ·rcases List.mem_append.mp hx with hx | hx
  ·cases e : H0.get x.1 with
   | none=>rfl
   | some o=>have:=h.sub _ _ e; rw [k.out x hx] at this; cases this
  ·exact h.out x hx
end Go.AW
namespace Go.AW
attribute [go_sem] Nat.mul_one Bool.not_true Bool.not_false
section
variable {α : Type} [Inhabited α] {f : α→AV} [One f] {H0 H : Heap} {l : List (Nat × MObj)} {K : Kont}
omit [Inhabited α] in
theorem mks_list {n : Nat} {z : AV} (f : α→AV) (a : α) (hz : z=f a) (h : Owns H0 H l) (hk : ∀ id H',Owns H0 H' ((id,.cells 1 ((List.replicate n a).map f) 0)::l)→K (.buf id n) H') :
  newBuf n 1 (rep n [z]) K H:=by
 rw [rep_one]; subst hz;refine newBuf_own h fun id H' o=>hk id H' ?_;rw [List.map_replicate]; exact o
omit [One f] in
theorem rd_own {id off fr sz : Nat} {A : List α} (h : Owns H0 H ((id,.cells sz (A.map f) fr)::l)) (ho : off<A.length) (hk : K (f (A.getD off default)) H) :
  rd1 (H.get id) none off K H:=by
 have h0:=h.h0;simp only at h0;rw [h0,rd1_1];refine ⟨by simpa using ho, ?_⟩;rw [getD_map A ho]; exact hk
omit [Inhabited α] in
theorem set_own {id off : Nat} {A : List α} (a : α) {v : AV} (h : Owns H0 H ((id,.cells 1 (A.map f) 0)::l)) (hv : v=f a) (ho : off<A.length)
  (hk : ∀ H',Owns H0 H' ((id,.cells 1 ((A.set off a).map f) 0)::l)→K nv H') : st1 (H.get id) id off 1 [v] K H:=by
 subst hv
 have h0:=h.h0;simp only at h0;rw [h0,st1_c];refine ⟨⟨by omega,by rw [List.length_map]; omega,rfl,fun c hc=>?_⟩, ?_⟩
 ·rw [List.mem_singleton] at hc; subst hc; exact One.one a
 ·have e : wr (A.map f) off [f a]=(A.set off a).map f:=by
   simp only [wr,List.map_set]
  rw [e];exact hk _ (h.put _)
end
theorem filt_t {α : Type} [Inhabited α] {p : α→Bool} {l : List α} {k : Nat} (h : k<l.length) (hp : p (l.getD k default)=true) : (l.take (k+1)).filter p=(l.take k).filter p++[l.getD k default]:=by
 rw [take_succ' l h,List.filter_append]; simp only [List.filter_cons,hp,if_true,List.filter_nil]
theorem filt_f {α : Type} [Inhabited α] {p : α→Bool} {l : List α} {k : Nat} (h : k<l.length) (hp : p (l.getD k default)=false) : (l.take (k+1)).filter p=(l.take k).filter p:=by
 rw [take_succ' l h,List.filter_append]; simp only [List.filter_cons,hp,Bool.false_eq_true,if_false,List.filter_nil,List.append_nil]
theorem filt_len {α : Type} (p : α→Bool) (l : List α) (k : Nat) : ((l.take k).filter p).length≤k:=Nat.le_trans (List.length_filter_le _ _) (by rw [List.length_take]; omega)
theorem Wk.call {P : Program} {B : Nat} {fn : FuncId} {args args' : List AV} {H H' : Heap} {K : Kont} (hl : args'.length=args.length)
  (hw : ∀ g w vs,WRel g B H w→VRels g args vs→∃ g',g.le g'∧WRel g' B H' w∧VRels g' args' vs) (h : CallH P B fn args' H' K) : CallH P B fn args H K:=by
 refine ⟨h.1,fun g w vs hW hv=>?_⟩
 obtain ⟨g',q1,q2,q3⟩:=hw g w vs hW hv;exact (h.2 g' w vs q2 q3).mono fun e w' ⟨v,he,g2,r,H2,a,b⟩=>⟨v,he,g2,r,H2,q1.trans a,b⟩
theorem call_fz {α : Type} [Inhabited α] {f : α→AV} [One f] {P : Program} {B : Nat} {fn : FuncId} {args : List AV} {H0 H : Heap} {l : List (Nat × MObj)} {K : Kont} {id n fr : Nat} {A : List α} (t : Nat)
  (ha : args[t]? = some (.buf id n)) (o : Owns H0 H ((id,.cells 1 (A.map f) fr)::l)) (hn : n=A.length)
  (hk : ∀ H',Owns H0 H' l→CallH P B fn (args.set t (mL f A)) H' K) : CallH P B fn args H K:=by
 subst hn
 have h0:=o.h0;simp only at h0
 have ht : t<args.length:=by
  rcases Nat.lt_or_ge t args.length with h | h
  ·exact h
  ·rw [List.getElem?_eq_none h] at ha; cases ha
 have hone : ∀ c,c∈A.map f→c.one=true:=by
  intro c hc; obtain ⟨a,_,rfl⟩:=List.mem_map.mp hc; exact One.one a
 refine Wk.call (by simp) (fun g w vs hW hv=>?_) (hk _ (o.put (.cells 1 (A.map f) (A.map f).length)).tl)
 obtain ⟨σ',H',hwk,rfl,rfl⟩:=fz_wk (t:=t) (σ:=[(t,some (.buf id A.length))]) (H:=H) (F:=fun σ' H'=>σ'=Env.put [(t,some (.buf id A.length))] t (.sl (A.map f))∧H'=H.set id (.cells 1 (A.map f) (A.map f).length)) (by
  have : Env.get [(t,some (AV.buf id A.length))] t=some (.buf id A.length):=by simp [Env.get]
  rw [this];simp only [fzW,h0,fz1];refine ⟨⟨by simp,by omega,hone⟩, ?_,trivial⟩;rw [chunk_one _ _ (by simp)])
 obtain ⟨g',q1,q2,q3⟩:=hwk g B w vs hW (fun s v e=>by
  simp only [Env.get] at e
  split at e
  ·rename_i e2; subst e2; cases e
   have:=hv.2 s ht;rw [List.getD_eq_getElem?_getD,ha] at this;exact ⟨by rw [hv.1]; exact ht,this⟩
  ·cases e)
 refine ⟨g',q1,q2,by rw [hv.1]; simp,fun i hi=>?_⟩;rw [List.length_set] at hi
 by_cases e : i=t
 ·subst e
  have:=(q3 i (.sl (A.map f)) (by simp [Env.put,Env.get])).2
  have e2 : (args.set i (mL f A)).getD i nv=.sl (A.map f):=by simp [List.getD_eq_getElem?_getD,hi,mL]
  rw [e2]; exact this
 ·have e2 : (args.set t (mL f A)).getD i nv=args.getD i nv:=by
   rw [List.getD_eq_getElem?_getD,List.getElem?_set_ne (by omega),← List.getD_eq_getElem?_getD]
  rw [e2]; exact (hv.2 i hi).mono q1
end Go.AW
