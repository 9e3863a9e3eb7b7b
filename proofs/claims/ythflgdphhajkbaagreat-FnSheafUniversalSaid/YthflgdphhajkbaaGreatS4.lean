/- Objects of ours. -/
import Derived.Test.YthflgdphhajkbaaGreatS3
set_option linter.unusedVariables false
set_option linter.unusedSimpArgs false
set_option linter.unusedSectionVars false
namespace Go.AW
@[go_sem] theorem vx {P : Program} {B : Nat} {Q : AQ} {σ : Env} {H : AB} (c : SC) : FW P B (.wk c) Q σ H=Gj (FW P B c Q) σ H:=rfl
theorem AY {F : Env→AB→Prop} {σ : Env} {H : AB} (h : F σ H) : Gj F σ H:=⟨σ,H,Wk.refl σ H,h⟩
theorem Da {F : Env→AB→Prop} {σ σ1 : Env} {H H1 : AB} (h : Wk σ H σ1 H1) (k : Gj F σ1 H1) : Gj F σ H:=by
 obtain ⟨σ2,H2,h2,k⟩:=k;refine ⟨σ2,H2,fun g B w tm a b=>?_,k⟩
 obtain ⟨g1,q1,q2,q3⟩:=h g B w tm a b
 obtain ⟨g2,r1,r2,r3⟩:=h2 g1 B w tm q2 q3;exact ⟨g2,q1.trans r1,r2,r3⟩
theorem Ao.XN {g : Gh} {B : Nat} {H : AB} {w : World} (h : Ao g B H w) {i sz f : Nat} {cs cs' : List AV} (hi : H.get i=some (.cells sz cs f)) (hl : cs'.length=cs.length)
  (hv : ∀ k v,k<cs.length→Ab g (cs.getD k nv) v→Ab g (cs'.getD k nv) v) : Ao g B (H.set i (.cells sz cs' f)) w:=by
 have hs : ∀ j,((H.set i (.cells sz cs' f)).get j).isSome→(H.get j).isSome:=by
  intro j hj
  by_cases e : j=i
  ·subst e; simp [hi]
  ·rwa [AB.B1 _ _ e] at hj
 constructor
 ·exact h.fz
 ·exact h.fm
 ·intro j o e
  by_cases hj : j=i
  ·subst hj
   simp at e; subst e
   obtain ⟨p,hp,hr⟩:=h.ob _ _ hi;refine ⟨p,hp, ?_⟩
   cases p with
   | nil =>
    simp only [Aj] at hr ⊢;refine ⟨?_,hr.2⟩;rw [hr.1] at hl; exact List.eq_nil_of_length_eq_zero hl
   | mp b=>simp [Aj] at hr
   | HC b cap =>
    simp only [Aj] at hr ⊢
    obtain ⟨h1,h2,h3,h4,c,el,h5,h6,h7,h8⟩:=hr;exact ⟨h1,by omega,by omega,h4,c,el,h5,h6,by omega,fun k hk=>hv k _ (by omega) (h8 k (by omega))⟩
  ·rw [AB.B1 _ _ hj] at e; exact h.ob j o e
 ·intro a b x y z n e1 e2; exact h.inj a b x y z n (hs a e1) (hs b e2)
 ·intro a b x n e1 e2; exact h.HK a b x n (hs a e1) (hs b e2)
 ·exact h.base
 ·exact h.fin
theorem Ao.mS {α : Type} [Inhabited α] {f : α→AV} [One f] {g : Gh} {B : Nat} {H : AB} {w : World} (h : Ao g B H w) {i fr : Nat} {A : List α} (hi : H.get i=some (.cells 1 (A.map f) fr)) :
  ∃ g',g.le g'∧Ao g' B (H.set i (.cells 1 (A.map f) A.length)) w∧∀ g2 v,g'.le g2→Ab g2 (.buf i A.length) v→Ab g2 (mL f A) v:=by
 obtain ⟨p,hp,hr⟩:=h.ob i _ hi
 cases p with
 | nil =>
  simp only [Aj] at hr
  have hA : A=[]:=List.map_eq_nil_iff.mp hr.1;subst hA
  have h0:=hr.2;subst h0;refine ⟨g,.refl g,h.sub ?_,fun g2 v hg hv=>?_⟩
  ·intro k o e
   by_cases hk : k=i
   ·subst hk; simp at e; subst e; exact hi
   ·rwa [AB.B1 _ _ hk] at e
  ·cases hv with
   | DX _ _=>exact .slnil none 0
   | buf _ _ b cap _=>exact .slnil _ _
 | mp b=>simp [Aj] at hr
 | HC b cap =>
  obtain ⟨c,g',r1,r2,r3,r4,r5,r6⟩:=h.Zb i b cap 1 _ fr hi hp
  have ub : (A.map f).length≤AL:=by simp only [Aj] at hr; exact hr.2.2.1
  rw [List.length_map] at *;refine ⟨g',r1,r2,fun g2 v hg hv=>?_⟩
  have D3:=hg.io _ _ (r1.io _ _ hp)
  generalize hn : A.length=n at *
  cases hv with
  | DX _ hq=>rw [hq] at D3; cases D3
  | buf _ _ b' cap' hq =>
   rw [hq] at D3; cases D3
   have key : ∀ i j,i<n→j<1→i*1+j=i:=by intro i j _ hj; omega
   have hl : (A.map f).length=n:=by simp [hn]
   refine hl ▸ Ab.sl (A.map f) b 0 1 cap (fun i=>c.getD i undef) (by omega) (by omega) (fun i hi=>?_) (fun i j hi hj=>?_) (fun i j hi hj=>?_)
   ·rw [getD_map A (by omega),CW]; rfl
   ·rw [key i j (by omega) hj,Nat.zero_add]; exact hg.fz _ _ _ (r5 i (by omega))
   ·rw [key i j (by omega) hj,getD_map A (by omega),CW]
    obtain rfl : j=0:=by omega
    have:=r6 i (by omega);rw [getD_map A (by omega)] at this;exact this.mono hg
theorem B5 {α : Type} [Inhabited α] {f : α→AV} [One f] {F : Env→AB→Prop} {σ : Env} {H0 H : AB} {l : List (Nat × AF)} {id sz fr ER n fr2 : Nat} {cs : List AV} {A : List α} (k : Nat)
  (o : AA H0 H ((id,.cells sz cs fr)::(ER,.cells 1 (A.map f) fr2)::l)) (hc : cs[k]? = some (.buf ER n)) (hn : n=A.length)
  (hk : ∀ H',AA H0 H' ((id,.cells sz (cs.set k (mL f A)) fr)::l)→Gj F σ H') : Gj F σ H:=by
 subst hn
 have h1:=o.h0
 have h2:=o.tl.h0;simp only at h1 h2
 have Bp : id≠ER:=by
  have:=o.nd;simp only [List.map_cons,List.nodup_cons,List.mem_cons,not_or] at this;exact this.1.1
 have o2:=((o.swap.put (.cells 1 (A.map f) A.length)).tl).put (.cells sz (cs.set k (mL f A)) fr);refine Da (σ1:=σ) ?_ (hk _ o2)
 intro g B w tm hW hE
 obtain ⟨g',q1,q2,q3⟩:=hW.mS h2;refine ⟨g',q1, ?_,hE.mono q1⟩;refine q2.XN (by rw [AB.B1 _ _ Bp]; exact h1) (by simp) fun j v hj hv=>?_
 by_cases e : j=k
 ·subst e
  have e1 : cs.getD j nv=.buf ER A.length:=by rw [gE,hc]; rfl
  have e2 : (cs.set j (mL f A)).getD j nv=mL f A:=by simp [gE,hj]
  rw [e1] at hv;rw [e2]; exact q3 g' v (.refl _) hv
 ·have e2 : (cs.set k (mL f A)).getD j nv=cs.getD j nv:=by
   rw [gE,List.getElem?_set_ne (by omega),← gE]
  rw [e2]; exact hv
theorem Sq {α : Type} [Inhabited α] {f : α→AV} [One f] {F : Env→AB→Prop} {σ : Env} {H0 : AB} {l : List (Nat × AF)} {id sz fr : Nat} : ∀ (ms : List (Nat × List α)) (dn : List (List α)) (H : AB),
  AA H0 H ((id,.cells sz (dn.map (mL f)++ms.map fun m=>.buf m.1 m.2.length) fr)::((ms.map fun m=>(m.1,.cells 1 (m.2.map f) 0))++l)) →
  (∀ H',AA H0 H' ((id,.cells sz ((dn++ms.map Prod.snd).map (mL f)) fr)::l)→Gj F σ H')→Gj F σ H
 | [],dn,H,o,hk=>hk H (by simpa using o)
 | (i,A)::ms,dn,H,o,hk=>by
  refine B5 (ER:=i) (A:=A) (f:=f) dn.length o ?_ rfl fun H' o'=>?_
  ·rw [List.getElem?_append_right (by simp)]; simp
  ·refine Sq (f:=f) (H0:=H0) (l:=l) (id:=id) (sz:=sz) (fr:=fr) ms (dn++[A]) H' ?_ fun H2 o2=>hk H2 ?_
   ·have e : (dn.map (mL f)++(AV.buf i A.length::ms.map fun m=>.buf m.1 m.2.length)).set dn.length (mL f A)=(dn++[A]).map (mL f)++ms.map fun m=>.buf m.1 m.2.length:=by
     rw [List.set_append_right _ _ (by simp)]; simp
    rw [← e]; exact o'
   ·simpa using o2
theorem D8 {F : Env→AB→Prop} {σ : Env} {H0 H : AB} {l : List (Nat × AF)} {id sz fr : Nat} {cs : List AV} (t : Nat) (o : AA H0 H ((id,.cells sz cs fr)::l)) (ht : σ.get t=some (.ref id 0))
  (hk : ∀ H',AA H0 H' l→Gj F ((t,some (.ptr cs))::σ) H') : Gj F σ H:=by
 have h1:=o.h0;simp only at h1;refine Da (σ1:=(t,some (.ptr cs))::σ) ?_ (hk _ (o.put (.cells sz cs cs.length)).tl)
 intro g B w tm hW hE
 obtain ⟨q1,q2⟩:=hE t _ ht
 generalize hu : tm.getD t undef=u at q2
 cases q2 with
 | ref _ _ b cap D3 =>
  obtain ⟨c,g',r1,r2,r3,r4,r5,r6⟩:=hW.Zb id b cap sz cs fr h1 D3;refine ⟨g',r1,r2,fun s x e=>?_⟩;simp only [Env.get] at e
  split at e
  ·rename_i hs; cases e; subst hs
   refine ⟨q1, ?_⟩;rw [hu];exact .ptr cs b 0 (fun k=>c.getD k undef) (fun i hi=>by rw [Nat.zero_add]; exact r5 i hi) r6
  ·obtain ⟨z1,z2⟩:=hE s x e; exact ⟨z1,z2.mono r1⟩
section
variable {H0 H : AB} {l : List (Nat × AF)} {K : Am}
theorem Ap {id sz off n : Nat} {cs vs : List AV} (o : AA H0 H ((id,.cells sz cs 0)::l)) (h1 : off+n≤cs.length) (h2 : vs.length=n) (h3 : ∀ c,c∈vs→c.one=true)
  (hk : ∀ H',AA H0 H' ((id,.cells sz (wr cs off vs) 0)::l)→K nv H') : OZ (H.get id) id off n vs K H:=by
 have h0:=o.h0;simp only at h0;rw [h0,Mk];exact ⟨⟨by omega,h1,h2,h3⟩,hk _ (o.put _)⟩
theorem stc {id sz off n : Nat} {cs vs : List AV} (o : AA H0 H ((id,.cells sz cs 0)::l))
 (hk : ∀ H',AA H0 H' ((id,.cells sz (wr cs off vs) 0)::l)→K nv H') (h1 : off+n≤cs.length:=by simp) (h2 : vs.length=n:=by (try simp only [go_sem]); (try simp)) (h3 : ∀ c,c∈vs→c.one=true:=by first | (simp only [go_sem]; done) | ((try simp only [go_sem]); simp [AV.one,EP])) : OZ (H.get id) id off n vs K H :=
 Ap o h1 h2 h3 hk
theorem AK {id sz off fr : Nat} {cs : List AV} (o : AA H0 H ((id,.cells sz cs fr)::l)) (h1 : off<cs.length) (hk : K (cs.getD off nv) H) : M3 (H.get id) none off K H:=by
 have h0:=o.h0;simp only at h0;rw [h0,YL];exact ⟨h1,hk⟩
theorem Ac {id sz off fr n : Nat} {cs : List AV} (o : AA H0 H ((id,.cells sz cs fr)::l)) (h1 : off+n≤cs.length) (hk : K (.agg ((cs.drop off).take n)) H) : M3 (H.get id) (some n) off K H:=by
 have h0:=o.h0;simp only at h0;rw [h0,mP];exact ⟨h1,hk⟩
end
def CZ {α : Type} (f : α→AV) (H0 H : AB) (l : List (Nat × AF)) (X : AV) (A : List α) : Prop :=
 (X=.A1∧A=[]∧AA H0 H l)∨∃ id,X=.buf id A.length∧AA H0 H ((id,.cells 1 (A.map f) 0)::l)
section
variable {α : Type} [Inhabited α] {f : α→AV} [One f] {H0 H : AB} {l : List (Nat × AF)} {K : Am}
theorem CZ.app {X : AV} {A : List α} (a : α) {v : AV} (h : CZ f H0 H l X A) (hv : v=f a) (hm : A.length+1≤AL)
  (hk : ∀ CT H',AA H0 H' ((CT,.cells 1 ((A++[a]).map f) 0)::l)→K (.buf CT (A++[a]).length) H') : DW 1 (some X) (some (.sl [v])) K H:=by
 rcases h with ⟨rfl,rfl,o⟩ | ⟨id,rfl,o⟩
 ·exact j0 a o hv hk
 ·exact Ad a o hv rfl hm hk
end
theorem Wj {F : Env→AB→Prop} {σ : Env} {H0 H : AB} {l : List (Nat × AF)} {id sz fr : Nat} {cs : List AV} (k : Nat)
  (o : AA H0 H ((id,.cells sz cs fr)::l)) (hc : cs[k]? = some .A1) (hk : ∀ H',AA H0 H' ((id,.cells sz (cs.set k (.sl [])) fr)::l)→Gj F σ H') : Gj F σ H:=by
 have h1:=o.h0;simp only at h1;refine Da (σ1:=σ) ?_ (hk _ (o.put (.cells sz (cs.set k (.sl [])) fr)))
 intro g B w tm hW hE;refine ⟨g,.refl g,hW.XN h1 (by simp) fun j v hj hv=>?_,hE⟩
 by_cases e : j=k
 ·subst e
  have e1 : cs.getD j nv=.A1:=by rw [gE,hc]; rfl
  have e2 : (cs.set j (.sl [])).getD j nv=.sl []:=by simp [gE,hj]
  rw [e1] at hv; rw [e2]
  cases hv; exact .slnil none 0
 ·have e2 : (cs.set k (.sl [])).getD j nv=cs.getD j nv:=by
   rw [gE,List.getElem?_set_ne (by omega),← gE]
  rw [e2]; exact hv
theorem Ec {α : Type} [Inhabited α] {f : α→AV} [One f] {F : Env→AB→Prop} {σ : Env} {H0 H : AB} {l : List (Nat × AF)} {id sz fr : Nat} {cs : List AV} {X : AV} {A : List α} (k : Nat)
  (o : CZ f H0 H ((id,.cells sz cs fr)::l) X A) (hc : cs[k]? = some X)
  (hk : ∀ H',AA H0 H' ((id,.cells sz (cs.set k (mL f A)) fr)::l)→Gj F σ H') : Gj F σ H:=by
 rcases o with ⟨rfl,rfl,o⟩ | ⟨ER,rfl,o⟩
 ·exact Wj k o hc hk
 ·exact B5 k o.swap hc rfl hk
theorem CZ.obj {α : Type} {f : α→AV} {H0 H : AB} {l : List (Nat × AF)} {X : AV} {A : List α} {id : Nat} {o : AF} (h : CZ f H0 H ((id,o)::l) X A) : H.get id=some o:=by
 rcases h with ⟨_,_,h⟩ | ⟨_,_,h⟩
 ·exact h.h0
 ·exact h.tl.h0
theorem Af {H : AB} {K : Am} {id sz off fr : Nat} {cs : List AV} (h : H.get id=some (.cells sz cs fr)) (h1 : off<cs.length) (hk : K (cs.getD off nv) H) : M3 (H.get id) none off K H:=by
 rw [h,YL];exact ⟨h1,hk⟩
def QA {α : Type} (f : α→AV) (p : List (Nat × AF)) (X : AV) (A : List α) : Prop :=
 (p=[]∧X=.A1∧A=[])∨∃ id,p=[(id,.cells 1 (A.map f) 0)]∧X=.buf id A.length
theorem CZ.split {α : Type} {f : α→AV} {H0 H : AB} {l : List (Nat × AF)} {X : AV} {A : List α} (h : CZ f H0 H l X A) : ∃ p,AA H0 H (p++l)∧QA f p X A:=by
 rcases h with ⟨h1,h2,h⟩ | ⟨id,h1,h⟩
 ·exact ⟨[],h,.inl ⟨rfl,h1,h2⟩⟩
 ·exact ⟨[_],h,.inr ⟨id,rfl,h1⟩⟩
theorem CZ.mk {α : Type} {f : α→AV} {H0 H : AB} {l p : List (Nat × AF)} {X : AV} {A : List α} (o : AA H0 H (p++l)) (h : QA f p X A) : CZ f H0 H l X A:=by
 rcases h with ⟨rfl,h1,h2⟩ | ⟨id,rfl,h1⟩
 ·exact .inl ⟨h1,h2,o⟩
 ·exact .inr ⟨id,h1,o⟩
end Go.AW
namespace Go.AW
def CM {α : Type} (m : Nat × List α) : AV:=.buf m.1 m.2.length
instance {α : Type} : One (CM (α:=α)):=⟨fun _=>rfl,fun _=>rfl⟩
def inner {α : Type} (f : α→AV) (ms : List (Nat × List α)) : List (Nat × AF):=ms.map fun m=>(m.1,.cells 1 (m.2.map f) 0)
@[go_sem] theorem fe {α : Type} (k : IntKind) (i : Int) {d : Option Nat} {F : Env→AB→Prop} {σ : Env} {H : AB} (m : Nat × List α) :
  pE d F σ H (Hy 1 (some (CM m)) (some (.int k i)))=((0≤i∧i.toNat<m.2.length)∧DN d F σ (.ref m.1 i.toNat) H):=by
 simp [CM,Hy,pE,pW]
@[go_sem] theorem u7 {α : Type} (m : Nat × List α) : Ee (some (CM m))=some (True,.int .i64 m.2.length):=rfl
section
variable {α : Type} [Inhabited α] {f : α→AV} [One f] {H0 H : AB} {l : List (Nat × AF)} {K : Am}
theorem AA.FF {id fr : Nat} {ms : List (Nat × List α)} (o : AA H0 H ((id,.cells 1 (ms.map CM) fr)::(inner f ms++l))) {x : Nat} (hx : x<ms.length) :
  H.get (ms.getD x default).1=some (.cells 1 ((ms.getD x default).2.map f) 0):=by
 refine o.get ((ms.getD x default).1,.cells 1 ((ms.getD x default).2.map f) 0) ?_;refine List.mem_cons_of_mem _ (List.mem_append_left _ ?_);rw [inner,List.mem_map];exact ⟨_,AE.mpr ⟨x,hx,rfl⟩,rfl⟩
omit [Inhabited α] [One f] in
theorem Bo {id off fr : Nat} {A : List α} [Inhabited α] (h : H.get id=some (.cells 1 (A.map f) fr)) (ho : off<A.length) (hk : K (f (A.getD off default)) H) : M3 (H.get id) none off K H:=by
 rw [h,YL];refine ⟨by simpa using ho, ?_⟩;rw [getD_map A ho]; exact hk
theorem Qz {B id fr n : Nat} {ms : List (Nat × List α)} (o : AA H0 H ((id,.cells 1 (ms.map CM) fr)::(inner f ms++l))) (hn : n=ms.length) :
  ∀ g w v,Ao g B H w→Ab g (.buf id n) v→Ab (g.EB H w) (mL (mL f) (ms.map Prod.snd)) v:=by
 subst hn
 have h0:=o.h0;simp only at h0
 have e : ∀ i,i<(ms.map CM).length→((ms.map Prod.snd).map (mL f)).getD i nv=mL f (ms.getD i default).2:=by
  intro i hi;rw [List.length_map] at hi;rw [getD_map _ (by simpa using hi)]
  simp [gE,hi]
 have:=Tr.buf (H:=H) id fr (ms.map CM) ((ms.map Prod.snd).map (mL f)) h0 (by simp) (fun i hi=>by rw [e i hi]; rfl) (fun i hi=>by
  rw [e i hi];rw [List.length_map] at hi;rw [getD_map ms hi,CM]
  have:=Tr.buf (H:=H) (ms.getD i default).1 0 ((ms.getD i default).2.map f) ((ms.getD i default).2.map f) (o.FF hi) rfl (fun j hj=>by rw [List.length_map] at hj; rw [getD_map _ hj]; exact CW _) (fun j _=>.val _);rw [List.length_map] at this;exact this)
 rw [List.length_map] at this;exact this.arg
end
end Go.AW
namespace Go.AW
theorem AA.C7 {H0 H : AB} {l : List (Nat × AF)} (o : AA H0 H l) {x : Nat × AF} (hx : x∈l) (v : AF) : H0.sub (H.set x.1 v):=Go.AW.C7 o.sub (o.out x hx)
theorem AA.MJ {α : Type} [Inhabited α] {f : α→AV} {H0 H : AB} {l : List (Nat × AF)} {id fr : Nat} {ms : List (Nat × List α)} (o : AA H0 H ((id,.cells 1 (ms.map CM) fr)::(inner f ms++l))) {x : Nat} (hx : x<ms.length) (v : AF) :
  H0.sub (H.set (ms.getD x default).1 v) :=
 o.C7 (x:=((ms.getD x default).1,.cells 1 ((ms.getD x default).2.map f) 0)) (List.mem_cons_of_mem _ (List.mem_append_left _ (by rw [inner,List.mem_map]; exact ⟨_,AE.mpr ⟨x,hx,rfl⟩,rfl⟩))) v
end Go.AW
namespace Go.AW
@[go_sem] theorem fzW_mL {α : Type} (f : α→AV) (t : Nat) (l : List α) {F : Env→AB→Prop} {σ : Env} {H : AB} : dM t F σ H (some (mL f l))=F σ H:=rfl
theorem Ao.dg {g : Gh} {B : Nat} {H : AB} {w : World} (h : Ao g B H w) {i sz f k b cap : Nat} {cs : List AV} (hi : H.get i=some (.cells sz cs f)) (hp : g.io i=some (.HC b cap)) (hk : f≤k) (Hm : k≤cs.length) :
  Ao g B (H.set i (.cells sz cs k)) w:=by
 have hs : ∀ j,((H.set i (.cells sz cs k)).get j).isSome→(H.get j).isSome:=by
  intro j hj
  by_cases e : j=i
  ·subst e; simp [hi]
  ·rwa [AB.B1 _ _ e] at hj
 constructor
 ·exact h.fz
 ·exact h.fm
 ·intro j o e
  by_cases hj : j=i
  ·subst hj
   simp at e; subst e
   obtain ⟨p,NZ,hr⟩:=h.ob _ _ hi;rw [hp] at NZ; cases NZ;refine ⟨_,hp, ?_⟩;simp only [Aj] at hr ⊢
   obtain ⟨h1,h2,h3,h4,c,el,h5,h6,h7,h8⟩:=hr;exact ⟨h1,Hm,h3,fun x hx=>h4 x (by omega),c,el,h5,h6,h7,h8⟩
  ·rw [AB.B1 _ _ hj] at e; exact h.ob j o e
 ·intro a b x y z n e1 e2; exact h.inj a b x y z n (hs a e1) (hs b e2)
 ·intro a b x n e1 e2; exact h.HK a b x n (hs a e1) (hs b e2)
 ·exact h.base
 ·exact h.fin
theorem lG {F : Env→AB→Prop} {σ : Env} {H0 H : AB} {l : List (Nat × AF)} {id sz : Nat} {cs : List AV} (t k : Nat) (hk : k≤cs.length) (o : AA H0 H ((id,.cells sz cs 0)::l)) (ht : σ.get t=some (.ref id 0))
  (hF : ∀ H',AA H0 H' ((id,.cells sz cs k)::l)→Gj F ((t,some (.Gd (cs.take k) id))::σ) H') : Gj F σ H:=by
 have h1:=o.h0;simp only at h1;refine Da (σ1:=(t,some (.Gd (cs.take k) id))::σ) ?_ (hF _ (o.put (.cells sz cs k)))
 intro g B w tm hW hE
 obtain ⟨q1,q2⟩:=hE t _ ht
 generalize hu : tm.getD t undef=u at q2
 cases q2 with
 | ref _ _ b cap D3 =>
  have mG:=hW.dg h1 D3 (Nat.zero_le k) hk
  obtain ⟨p,hp,hr⟩:=hW.ob _ _ h1;rw [D3] at hp; cases hp;simp only [Aj] at hr
  obtain ⟨r1,r2,r3,r4,c,el,r5,r6,r7,r8⟩:=hr
  obtain ⟨g1,g2⟩:=mG.Hu b k c el (0,0) r5 fun i p o e hp VS=>by
   by_cases K9 : i=id
   ·subst K9;rw [D3] at hp; cases hp
    simp at e;exact ⟨_,_,_,e.symm,Nat.le_refl _⟩
   ·exfalso
    cases p with
    | nil=>cases VS
    | HC b' cap' =>
     cases VS;exact mG.inj i id b cap' cap K9 (by simp [e]) (by simp) hp D3
    | mp b' =>
     cases VS
     obtain ⟨q,hq,hr⟩:=mG.ob _ _ e;rw [hp] at hq; cases hq
     cases o with
     | cells sz' cs' f'=>simp [Aj] at hr
     | map ks vs =>
      simp only [Aj] at hr
      obtain ⟨_,_,es,clk,h5,_⟩:=hr;rw [r5] at h5; cases h5
  refine ⟨_,g1,g2,fun s x e=>?_⟩;simp only [Env.get] at e
  split at e
  ·rename_i hs; cases e; subst hs
   refine ⟨q1, ?_⟩;rw [hu]
   have D1 : (cs.take k).length=k:=by rw [List.length_take]; omega
   refine .Gd _ id b cap (fun i=>c.getD i undef) (g1.io _ _ D3) (fun i hi=>?_) (fun i hi=>?_)
   ·rw [D1] at hi;simp only [Gh.Hu]
    have : i<c.size:=by omega
    simp [hi,Array.getD,this]
   ·rw [D1] at hi
    have e2 : (cs.take k).getD i nv=cs.getD i nv:=by simp [gE,hi]
    rw [e2]; exact (r8 i (by omega)).mono g1
  ·obtain ⟨z1,z2⟩:=hE s x e; exact ⟨z1,z2.mono g1⟩
end Go.AW
namespace Go.AW
class ON (n : Nat) {α : Type} (f : α→AV) : Prop where
 two : 2≤n
 agg : ∀ a,f a=.agg (f a).cells
 len : ∀ a,(f a).cells.length=n
 one : ∀ a c,c∈(f a).cells→c.one=true
section
variable {α : Type} {f : α→AV} {n : Nat} [h : ON n f] {H0 H : AB} {l : List (Nat × AF)} {K : Am}
theorem OX (l : List α) : DK n (l.map f):=by
 intro e he
 obtain ⟨a,_,rfl⟩:=List.mem_map.mp he;exact ⟨h.len a,h.one a⟩
theorem HX (l : List α) : (flat (l.map f)).length=l.length*n:=by
 induction l with
 | nil=>simp [flat]
 | cons a r ih=>simp only [List.map_cons,flat,List.length_append,h.len a,ih,List.length_cons,Nat.add_mul]; omega
theorem R1 (n : Nat) [h : ON n f] (l : List α) : ∀ c,c∈flat (l.map f)→c.one=true:=by
 induction l with
 | nil=>simp [flat]
 | cons a r ih =>
  intro c hc;simp only [List.map_cons,flat,List.mem_append] at hc;exact hc.elim (h.one a c) (ih c)
theorem Kt (l r : List AV) : flat (l++r)=flat l++flat r:=by
 induction l with
 | nil=>rfl
 | cons a s ih=>simp [flat,ih]
theorem PK (l : List α) : chunk n l.length (flat (l.map f))=l.map f:=by
 induction l with
 | nil=>rfl
 | cons a r ih =>
  have h2:=h.two;simp only [List.length_cons,List.map_cons,flat,chunk];rw [if_neg (by omega),List.take_left' (h.len a),List.drop_left' (h.len a),ih,← h.agg a]
theorem Pp [Inhabited α] (l : List α) (k : IntKind) (i : Int) {d : Option Nat} {F : Env→AB→Prop} {σ : Env} {H : AB} :
  pE d F σ H (Hy n (some (mL f l)) (some (.int k i)))=((0≤i∧i.toNat<l.length)∧DN d F σ (.ptr (f (ix l i)).cells) H):=by
 simp only [mL,Hy,pE,pW,List.length_map,eq_iff_iff]
 constructor
 ·rintro ⟨⟨h1,h2,h3⟩,h4⟩;rw [getD_map l h2] at h4;exact ⟨⟨h1,h2⟩,h4⟩
 ·rintro ⟨⟨h1,h2⟩,h4⟩;rw [getD_map l h2];exact ⟨⟨h1,h2,h.len _⟩,h4⟩
theorem J1 {id m : Nat} {out : List α} (a : α) {v : AV} (o : AA H0 H ((id,.cells n (flat (out.map f)) 0)::l)) (hv : v=f a) (hn : m=out.length) (hm : (out.length+1)*n≤AL)
  (hk : ∀ CT H',AA H0 H' ((CT,.cells n (flat ((out++[a]).map f)) 0)::l)→K (.buf CT (out++[a]).length) H') :
  DW n (some (.buf id m)) (some (.sl [v])) K H:=by
 subst hv hn
 have h0:=o.h0;simp only at h0
 have h2:=h.two;simp only [DW,h0,Ct,Gc]
 have hle : out.length+1≤AL:=Nat.le_trans (Nat.le_mul_of_pos_right _ (by omega)) hm;refine ⟨⟨trivial,HX out,hle,hm,OX [a]⟩,fun CT hn=>?_⟩
 have:=o.mv hn (.cells n (flat ((out++[a]).map f)) 0)
 have e : flat (out.map f)++flat [f a]=flat ((out++[a]).map f):=by rw [List.map_append,Kt]; rfl
 rw [e]
 have:=hk CT _ this
 simpa using this
theorem Ru {t id m fr : Nat} {out : List α} {F : Env→AB→Prop} {σ : Env} (o : AA H0 H ((id,.cells n (flat (out.map f)) fr)::l)) (hn : m=out.length)
  (hk : ∀ H',AA H0 H' l→F ((t,some (mL f out))::σ) H') : YC t id m F σ H (H.get id):=by
 subst hn
 have h0:=o.h0;simp only at h0
 have h2:=h.two;rw [h0];simp only [YC];refine ⟨⟨HX out,by omega,R1 n out⟩, ?_⟩;rw [PK];exact hk _ (o.put _).tl
end
open Go.Shf
@[go_sem] def iO (l : Lk) : AV:=.agg [iI l.i,iI l.j,iL l.left,iL l.right]
instance : ON 4 iO:=⟨by omega,fun _=>rfl,fun _=>rfl,fun a c hc=>by
 simp only [iO,AV.cells,List.mem_cons,List.not_mem_nil,or_false] at hc
 rcases hc with rfl | rfl | rfl | rfl <;> rfl⟩
@[go_sem] theorem pb (l : List Lk) (k : IntKind) (i : Int) {d : Option Nat} {F : Env→AB→Prop} {σ : Env} {H : AB} :
  pE d F σ H (Hy 4 (some (mL iO l)) (some (.int k i)))=((0≤i∧i.toNat<l.length)∧DN d F σ (.ptr [iI (ix l i).i,iI (ix l i).j,iL (ix l i).left,iL (ix l i).right]) H):=Pp (f:=iO) l k i
inductive Et {α : Type} (f : α→AV) : List AV→List (List α)→List (Nat × AF)→Prop
 | nil : Et f [] [] []
 | cons {p o : List (Nat × AF)} {X : AV} {Xs : List AV} {A : List α} {As : List (List α)} (h : QA f p X A) (t : Et f Xs As o) : Et f (X::Xs) (A::As) (p++o)
theorem Et.rep {α : Type} (f : α→AV) : ∀ n,Et f (List.replicate n .A1) (List.replicate n []) []
 | 0=>.nil
 | n+1=>.cons (p:=[]) (.inl ⟨rfl,rfl,rfl⟩) (Et.rep f n)
theorem Et.len {α : Type} {f : α→AV} {Xs : List AV} {As : List (List α)} {o : List (Nat × AF)} (h : Et f Xs As o) : Xs.length=As.length:=by
 induction h with
 | nil=>rfl
 | cons _ _ ih=>simp [ih]
theorem Et.split {α : Type} {f : α→AV} {Xs : List AV} {As : List (List α)} {o : List (Nat × AF)} (h : Et f Xs As o) : ∀ i,i<Xs.length→∃ p r,o.Perm (p++r)∧QA f p (Xs.getD i nv) (As.getD i []) ∧
  ∀ X A p',QA f p' X A→∃ o',Et f (Xs.set i X) (As.set i A) o'∧o'.Perm (p'++r):=by
 induction h with
 | nil=>intro i hi; simp at hi
 | @cons p o X Xs A As h t ih =>
  intro i hi
  cases i with
  | zero =>
   refine ⟨p,o,.refl _,h,fun X' A' p' h'=>⟨p'++o,.cons h' t,.refl _⟩⟩
  | succ i =>
   obtain ⟨q,r,h1,h2,h3⟩:=ih i (by simpa using hi);refine ⟨q,p++r, ?_,by simpa using h2,fun X' A' p' h'=>?_⟩
   ·refine (List.Perm.append_left p h1).trans ?_;rw [← List.append_assoc,← List.append_assoc];exact List.Perm.append_right r List.perm_append_comm
   ·obtain ⟨o',k1,k2⟩:=h3 X' A' p' h';refine ⟨p++o',by simpa using Et.cons h k1, ?_⟩;refine (List.Perm.append_left p k2).trans ?_;rw [← List.append_assoc,← List.append_assoc];exact List.Perm.append_right r List.perm_append_comm
theorem Cy {α : Type} [Inhabited α] {f : α→AV} [One f] {F : Env→AB→Prop} {σ : Env} {H0 : AB} {l : List (Nat × AF)} {id sz fr : Nat} {Xs : List AV} {As : List (List α)} {ob : List (Nat × AF)} (h : Et f Xs As ob) :
  ∀ (dn : List (List α)) (H : AB),AA H0 H ((id,.cells sz (dn.map (mL f)++Xs) fr)::(ob++l)) →
  (∀ H',AA H0 H' ((id,.cells sz ((dn++As).map (mL f)) fr)::l)→Gj F σ H')→Gj F σ H:=by
 induction h with
 | nil=>intro dn H o hk; exact hk H (by simpa using o)
 | @cons p ob X Xs A As h t ih =>
  intro dn H o hk
  have e : (dn.map (mL f)++(X::Xs)).set dn.length (mL f A)=(dn++[A]).map (mL f)++Xs:=by
   rw [List.set_append_right _ _ (by simp)]; simp
  have hX : (dn.map (mL f)++(X::Xs))[dn.length]? = some X:=by rw [List.getElem?_append_right (by simp)]; simp
  refine Ec (f:=f) (A:=A) (X:=X) (l:=ob++l) dn.length ?_ hX fun H' o'=>ih (dn++[A]) H' (by rw [← e]; exact o') fun H2 o2=>hk H2 (by simpa using o2);refine CZ.mk (p:=p) (o.perm ?_) h;rw [List.append_assoc];exact (List.perm_middle (a:=(id,AF.cells sz (dn.map (mL f)++(X::Xs)) fr)) (l₁:=p) (l₂:=ob++l)).symm
end Go.AW
namespace Go.AW
theorem rF {α : Type} [Inhabited α] {f : α→AV} [One f] {H0 H : AB} {l : List (Nat × AF)} {K : Am} (a : α) {v : AV} (h : AA H0 H l) (hv : v=f a)
  (hk : ∀ CT H',AA H0 H' ((CT,.cells 1 ([a].map f) 0)::l)→K (.buf CT [a].length) H') : DW 1 (some .FG) (some (.sl [v])) K H:=by
 subst hv;simp only [DW,Ct,fR];refine ⟨⟨by simp,by simp [AL],by simp [AL],MC a⟩,fun id hn=>?_⟩
 have:=hk id _ (h.new hn (.cells 1 ([a].map f) 0))
 simpa [flat,CW] using this
def uX {α : Type} (f : α→AV) (H0 H : AB) (l : List (Nat × AF)) (X : AV) (A : List α) : Prop :=
 (X=.FG∧A=[]∧AA H0 H l)∨∃ id,X=.buf id A.length∧AA H0 H ((id,.cells 1 (A.map f) 0)::l)
theorem uX.app {α : Type} [Inhabited α] {f : α→AV} [One f] {H0 H : AB} {l : List (Nat × AF)} {K : Am} {X : AV} {A : List α} (a : α) {v : AV} (h : uX f H0 H l X A) (hv : v=f a) (hm : A.length+1≤AL)
  (hk : ∀ CT H',AA H0 H' ((CT,.cells 1 ((A++[a]).map f) 0)::l)→K (.buf CT (A++[a]).length) H') : DW 1 (some X) (some (.sl [v])) K H:=by
 rcases h with ⟨rfl,rfl,o⟩ | ⟨id,rfl,o⟩
 ·exact rF a o hv hk
 ·exact Ad a o hv rfl hm hk
theorem YH {α : Type} [Inhabited α] {f : α→AV} [One f] {F : Env→AB→Prop} {σ : Env} {H0 H : AB} {l : List (Nat × AF)} {X : AV} {A : List α} (t : Nat) (h : uX f H0 H l X A) (ht : σ.get t=some X)
  (hk : ∀ H',AA H0 H' l→Gj F ((t,some (mL f A))::σ) H') : Gj F σ H:=by
 rcases h with ⟨rfl,rfl,o⟩ | ⟨id,rfl,o⟩
 ·refine Da (σ1:=(t,some (mL f []))::σ) (fun g B w tm hW hE=>⟨g,.refl g,hW,fun s x e=>?_⟩) (hk H o);simp only [Env.get] at e
  split at e
  ·rename_i hs; cases e; subst hs
   obtain ⟨q1,q2⟩:=hE s _ ht;refine ⟨q1, ?_⟩
   generalize tm.getD s undef=u at q2
   cases q2; exact .slnil _ 0
  ·exact hE s x e
 ·have h0:=o.h0;simp only at h0
  have Iq : ∀ c,c∈A.map f→c.one=true:=by
   intro c hc; obtain ⟨a,_,rfl⟩:=List.mem_map.mp hc; exact One.one a
  obtain ⟨σ',H',aH,rfl,rfl⟩:=cJ (t:=t) (σ:=σ) (H:=H) (F:=fun σ' H'=>σ'=σ.put t (.sl (A.map f))∧H'=H.set id (.cells 1 (A.map f) (A.map f).length)) (by
   rw [ht];simp only [dM,h0,YC];refine ⟨⟨by simp,by omega,Iq⟩, ?_,trivial⟩;rw [G6 _ _ (by simp)])
  exact Da aH (hk _ (o.put _).tl)
end Go.AW
namespace Go.AW
theorem CZ.get {α : Type} {f : α→AV} {H0 H : AB} {l : List (Nat × AF)} {X : AV} {A : List α} (h : CZ f H0 H l X A) {x : Nat × AF} (hx : x∈l) : H.get x.1=some x.2:=by
 obtain ⟨p,o,_⟩:=h.split;exact o.get x (List.mem_append_right _ hx)
theorem CZ.Ee {α : Type} {f : α→AV} {H0 H : AB} {l : List (Nat × AF)} {X : AV} {A : List α} (h : CZ f H0 H l X A) : Ee (some X)=some (True,.int .i64 A.length):=by
 rcases h with ⟨rfl,rfl,_⟩ | ⟨id,rfl,_⟩ <;> rfl
theorem Zu {α : Type} (A C : List α) (m : Nat) (h : A.length<m) : A.take m++C.take (m - (A.take m).length)=(A++C).take m:=by
 have e : A.take m=A:=List.take_of_length_le (by omega);rw [List.take_append,e]
end Go.AW
namespace Go.AW
theorem Ha {α : Type} [Inhabited α] {f : α→AV} [One f] {H0 H : AB} {l : List (Nat × AF)} {K : Am} {id i : Nat} {Xs : List AV} {As : List (List α)} {ob : List (Nat × AF)} (o : AA H0 H ((id,.cells 1 Xs 0)::(ob++l)))
  (h : Et f Xs As ob) (hi : i<Xs.length) (y : α) {v : AV} (hv : v=f y) (hm : (As.getD i []).length+1≤AL)
  (hk : ∀ X' o' H',X'.one=true→Et f (Xs.set i X') (As.set i (As.getD i []++[y])) o'→AA H0 H' ((id,.cells 1 Xs 0)::(o'++l))→K X' H') : DW 1 (some (Xs.getD i nv)) (some (.sl [v])) K H:=by
 obtain ⟨p,r,h1,h2,h3⟩:=h.split i hi
 have o1 : AA H0 H (p++((id,.cells 1 Xs 0)::(r++l))):=by
  refine o.perm (List.Perm.trans ?_ (List.perm_middle (a:=(id,AF.cells 1 Xs 0)) (l₁:=p)).symm);refine List.Perm.cons _ ?_;rw [← List.append_assoc];exact List.Perm.append_right l h1
 refine (CZ.mk o1 h2).app y hv hm fun CT H' o2=>?_
 obtain ⟨o',k1,k2⟩:=h3 (.buf CT (As.getD i []++[y]).length) (As.getD i []++[y]) [(CT,.cells 1 ((As.getD i []++[y]).map f) 0)] (.inr ⟨CT,rfl,rfl⟩);refine hk _ o' H' rfl k1 (o2.perm ?_);refine (List.Perm.swap _ _ _).trans (List.Perm.cons _ ?_);refine List.Perm.trans ?_ (List.Perm.append_right l k2.symm)
 simp
end Go.AW
namespace Go.AW
theorem AA.pull {H0 H : AB} (l1 : List (Nat × AF)) {a : Nat × AF} {l2 : List (Nat × AF)} (o : AA H0 H (l1++a::l2)) : AA H0 H (a::(l1++l2)):=o.perm List.perm_middle
theorem AA.push {H0 H : AB} (l1 : List (Nat × AF)) {a : Nat × AF} {l2 : List (Nat × AF)} (o : AA H0 H (a::(l1++l2))) : AA H0 H (l1++a::l2):=o.perm List.perm_middle.symm
end Go.AW
namespace Go.AW
theorem Rl {H : AB} {K : Am} {id sz off fr n : Nat} {cs : List AV} (h : H.get id=some (.cells sz cs fr)) (h1 : off+n≤cs.length) (hk : K (.agg ((cs.drop off).take n)) H) : M3 (H.get id) (some n) off K H:=by
 rw [h,mP];exact ⟨h1,hk⟩
end Go.AW
namespace Go.AW
open Go.Shf
@[go_sem] def Q9 (l : Lk) : AV:=.agg [iI l.i,iI l.j,iL l.left]
instance : ON 3 Q9:=⟨by omega,fun _=>rfl,fun _=>rfl,fun a c hc=>by
 simp only [Q9,AV.cells,List.mem_cons,List.not_mem_nil,or_false] at hc
 rcases hc with rfl | rfl | rfl <;> rfl⟩
@[go_sem] theorem pe (l : List Lk) (k : IntKind) (i : Int) {d : Option Nat} {F : Env→AB→Prop} {σ : Env} {H : AB} :
  pE d F σ H (Hy 3 (some (mL Q9 l)) (some (.int k i)))=((0≤i∧i.toNat<l.length)∧DN d F σ (.ptr [iI (ix l i).i,iI (ix l i).j,iL (ix l i).left]) H):=Pp (f:=Q9) l k i
def W3 {α : Type} (n : Nat) (f : α→AV) (p : List (Nat × AF)) (X : AV) (A : List α) : Prop :=
 (p=[]∧X=.A1∧A=[])∨∃ id,p=[(id,.cells n (flat (A.map f)) 0)]∧X=.buf id A.length
inductive JM {α : Type} (n : Nat) (f : α→AV) : List AV→List (List α)→List (Nat × AF)→Prop
 | nil : JM n f [] [] []
 | cons {p o : List (Nat × AF)} {X : AV} {Xs : List AV} {A : List α} {As : List (List α)} (h : W3 n f p X A) (t : JM n f Xs As o) : JM n f (X::Xs) (A::As) (p++o)
theorem JM.len {α : Type} {n : Nat} {f : α→AV} {Xs : List AV} {As : List (List α)} {o : List (Nat × AF)} (h : JM n f Xs As o) : Xs.length=As.length:=by
 induction h with
 | nil=>rfl
 | cons _ _ ih=>simp [ih]
theorem JM.snoc {α : Type} {n : Nat} {f : α→AV} {Xs : List AV} {As : List (List α)} {o : List (Nat × AF)} (h : JM n f Xs As o) {p : List (Nat × AF)} {X : AV} {A : List α} (hp : W3 n f p X A) :
  JM n f (Xs++[X]) (As++[A]) (o++p):=by
 induction h with
 | nil=>simpa using JM.cons hp .nil
 | cons h _ ih=>rw [List.append_assoc]; exact .cons h ih
theorem JM.split {α : Type} {n : Nat} {f : α→AV} {Xs : List AV} {As : List (List α)} {o : List (Nat × AF)} (h : JM n f Xs As o) : ∀ i,i<Xs.length→∃ p r,o.Perm (p++r)∧W3 n f p (Xs.getD i nv) (As.getD i []) ∧
  ∀ X A p',W3 n f p' X A→∃ o',JM n f (Xs.set i X) (As.set i A) o'∧o'.Perm (p'++r):=by
 induction h with
 | nil=>intro i hi; simp at hi
 | @cons p o X Xs A As h t ih =>
  intro i hi
  cases i with
  | zero=>exact ⟨p,o,.refl _,h,fun X' A' p' h'=>⟨p'++o,.cons h' t,.refl _⟩⟩
  | succ i =>
   obtain ⟨q,r,h1,h2,h3⟩:=ih i (by simpa using hi);refine ⟨q,p++r, ?_,by simpa using h2,fun X' A' p' h'=>?_⟩
   ·refine (List.Perm.append_left p h1).trans ?_;rw [← List.append_assoc,← List.append_assoc];exact List.Perm.append_right r List.perm_append_comm
   ·obtain ⟨o',k1,k2⟩:=h3 X' A' p' h';refine ⟨p++o',by simpa using JM.cons h k1, ?_⟩;refine (List.Perm.append_left p k2).trans ?_;rw [← List.append_assoc,← List.append_assoc];exact List.Perm.append_right r List.perm_append_comm
section
variable {α : Type} {n : Nat} {f : α→AV} [ON n f] {H0 H : AB} {l p : List (Nat × AF)} {K : Am}
theorem W3.app {X : AV} {A : List α} (hp : W3 n f p X A) (o : AA H0 H (p++l)) (a : α) {v : AV} (hv : v=f a) (hm : (A.length+1)*n≤AL)
  (hk : ∀ CT H',AA H0 H' ((CT,.cells n (flat ((A++[a]).map f)) 0)::l)→K (.buf CT (A++[a]).length) H') : DW n (some X) (some (.sl [v])) K H:=by
 rcases hp with ⟨rfl,rfl,rfl⟩ | ⟨id,rfl,rfl⟩
 ·subst hv
  have h2:=ON.two (n:=n) (f:=f);simp only [DW,Ct,Sd]
  have hm' : n≤AL:=by simpa using hm
  refine ⟨⟨by simp [AL],by simpa using hm',OX [a]⟩,fun id hn=>?_⟩;exact hk id _ (AA.new o hn (.cells n (flat (([]++[a]).map f)) 0))
 ·exact J1 a o hv rfl hm hk
end
theorem Ao.cm {g : Gh} {B : Nat} {H : AB} {w : World} (h : Ao g B H w) {i : Nat} {ks vs vs' : List AV} (hi : H.get i=some (.map ks vs)) (hl : vs'.length=vs.length)
  (hv : ∀ k v,k<vs.length→Ab g (vs.getD k nv) v→Ab g (vs'.getD k nv) v) : Ao g B (H.set i (.map ks vs')) w:=by
 have hs : ∀ j,((H.set i (.map ks vs')).get j).isSome→(H.get j).isSome:=by
  intro j hj
  by_cases e : j=i
  ·subst e; simp [hi]
  ·rwa [AB.B1 _ _ e] at hj
 constructor
 ·exact h.fz
 ·exact h.fm
 ·intro j o e
  by_cases hj : j=i
  ·subst hj
   simp at e; subst e
   obtain ⟨p,hp,hr⟩:=h.ob _ _ hi;refine ⟨p,hp, ?_⟩
   cases p with
   | nil=>simp [Aj] at hr
   | HC b cap=>simp [Aj] at hr
   | mp b =>
    simp only [Aj] at hr ⊢
    obtain ⟨h1,h2,es,clk,h3,h4,h5,h6,h7⟩:=hr;exact ⟨h1,h2,es,clk,h3,h4,by omega,h6,fun k hk=>hv k _ (by omega) (h7 k hk)⟩
  ·rw [AB.B1 _ _ hj] at e; exact h.ob j o e
 ·intro a b x y z n e1 e2; exact h.inj a b x y z n (hs a e1) (hs b e2)
 ·intro a b x n e1 e2; exact h.HK a b x n (hs a e1) (hs b e2)
 ·exact h.base
 ·exact h.fin
theorem Ao.o9 {α : Type} {n : Nat} {f : α→AV} [h2 : ON n f] {g : Gh} {B : Nat} {H : AB} {w : World} (h : Ao g B H w) {i fr : Nat} {A : List α} (hi : H.get i=some (.cells n (flat (A.map f)) fr)) :
  ∃ g',g.le g'∧Ao g' B (H.set i (.cells n (flat (A.map f)) (flat (A.map f)).length)) w∧∀ g2 v,g'.le g2→Ab g2 (.buf i A.length) v→Ab g2 (mL f A) v:=by
 have two:=h2.two
 have Fc:=HX (f:=f) (n:=n) A
 obtain ⟨p,hp,hr⟩:=h.ob i _ hi
 cases p with
 | nil =>
  simp only [Aj] at hr
  have hA : A=[]:=by
   cases A with
   | nil=>rfl
   | cons a r =>
    exfalso
    rw [hr.1] at Fc;simp only [List.length_nil,List.length_cons,Nat.add_mul] at Fc;omega
  subst hA
  have h0:=hr.2;subst h0;refine ⟨g,.refl g,h.sub ?_,fun g2 v hg hv=>?_⟩
  ·intro k o e
   by_cases hk : k=i
   ·subst hk; simp at e; subst e; exact hi
   ·rwa [AB.B1 _ _ hk] at e
  ·cases hv with
   | DX _ _=>exact .slnil none 0
   | buf _ _ b cap _=>exact .slnil _ _
 | mp b=>simp [Aj] at hr
 | HC b cap =>
  obtain ⟨c,g',r1,r2,r3,r4,r5,r6⟩:=h.Zb i b cap n _ fr hi hp
  have ub : (flat (A.map f)).length≤AL:=by simp only [Aj] at hr; exact hr.2.2.1
  have hcp : A.length≤cap:=by
   simp only [Aj] at hr
   obtain ⟨_,_,_,_,c0,el0,_,h6,h7,_⟩:=hr;rw [h6,Fc] at h7;exact Nat.le_of_mul_le_mul_right h7 (by omega)
  refine ⟨g',r1,r2,fun g2 v hg hv=>?_⟩
  have D3:=hg.io _ _ (r1.io _ _ hp)
  generalize hn : A.length=m at *
  cases hv with
  | DX _ hq=>rw [hq] at D3; cases D3
  | buf _ _ b' cap' hq =>
   rw [hq] at D3; cases D3
   have hl : (A.map f).length=m:=by simp [hn]
   have rW:=PK (n:=n) (f:=f) A
   have Iq:=R1 (f:=f) n A
   have D1 : ∀ i j,i<m→j<n→i*n+j<(flat (A.map f)).length:=by
    intro i j hi hj;rw [Fc]
    have : (i+1)*n≤m*n:=Nat.mul_le_mul_right _ hi;rw [Nat.add_mul] at this; omega
   have Ih : ∀ i,i<m→((A.map f).getD i nv).cells.length=n∧∀ j,j<n→((A.map f).getD i nv).cells.getD j nv=(flat (A.map f)).getD (i*n+j) nv:=by
    intro i hi
    have:=H6 (sz:=n) (by omega) A.length (flat (A.map f)) i (by omega) (by rw [Fc,hn]; exact Nat.le_refl _) Iq;rw [rW] at this; exact this
   refine hl ▸ Ab.sl (A.map f) b 0 n cap (fun i=>c.getD i undef) ?_ (by omega) (fun i hi=>?_) (fun i j hi hj=>?_) (fun i j hi hj=>?_)
   ·rw [hl]
    have : m*1≤m*n:=Nat.mul_le_mul_left _ (by omega);omega
   ·rw [hl] at hi; exact (Ih i hi).1
   ·rw [hl] at hi;rw [Nat.zero_add]; exact hg.fz _ _ _ (r5 _ (D1 i j hi hj))
   ·rw [hl] at hi;rw [(Ih i hi).2 j hj];exact (r6 _ (D1 i j hi hj)).mono hg
theorem pZ {α : Type} {n : Nat} {f : α→AV} [ON n f] {F : Env→AB→Prop} {σ : Env} {H0 : AB} {l : List (Nat × AF)} {id : Nat} {ks Xs : List AV} {As : List (List α)} {ob : List (Nat × AF)} (h : JM n f Xs As ob) :
  ∀ (dn : List (List α)) (H : AB),AA H0 H ((id,.map ks (dn.map (mL f)++Xs))::(ob++l)) →
  (∀ H',AA H0 H' ((id,.map ks ((dn++As).map (mL f)))::l)→Gj F σ H')→Gj F σ H:=by
 induction h with
 | nil=>intro dn H o hk; exact hk H (by simpa using o)
 | @cons p ob X Xs A As h t ih =>
  intro dn H o hk
  have Hk : (dn.map (mL f)++(X::Xs)).set dn.length (mL f A)=(dn++[A]).map (mL f)++Xs:=by
   rw [List.set_append_right _ _ (by simp)]; simp
  have hlen : (dn.map (mL f)++(X::Xs)).length=dn.length+Xs.length+1:=by simp; omega
  have hX : (dn.map (mL f)++(X::Xs)).getD dn.length nv=X:=by
   rw [gE,List.getElem?_append_right (by simp)]; simp
  have key : ∀ {g : Gh} {w : World} {B : Nat} {H : AB},Ao g B H w→H.get id=some (.map ks (dn.map (mL f)++(X::Xs)))→(∀ v,Ab g X v→Ab g (mL f A) v) →
    Ao g B (H.set id (.map ks ((dn++[A]).map (mL f)++Xs))) w:=by
   intro g w B H hW hg hv;rw [← Hk];refine hW.cm hg (by simp) fun j v hj hjv=>?_
   by_cases e : j=dn.length
   ·subst e;rw [hX] at hjv
    have e2 : ((dn.map (mL f)++(X::Xs)).set dn.length (mL f A)).getD dn.length nv=mL f A:=by simp [gE]
    rw [e2]; exact hv v hjv
   ·have e2 : ((dn.map (mL f)++(X::Xs)).set dn.length (mL f A)).getD j nv=(dn.map (mL f)++(X::Xs)).getD j nv:=by
     rw [gE,List.getElem?_set_ne (by omega),← gE]
    rw [e2]; exact hjv
  rcases h with ⟨rfl,rfl,rfl⟩ | ⟨ER,rfl,rfl⟩
  ·have o':=o.put (.map ks ((dn++[[]]).map (mL f)++Xs));refine Da (σ1:=σ) (fun g B w tm hW hE=>⟨g,.refl g,key hW o.h0 fun v hv=>?_,hE⟩) (ih (dn++[[]]) _ o' fun H2 o2=>hk H2 (by simpa using o2))
   cases hv; exact .slnil none 0
  ·have h1:=o.h0
   have h2:=o.tl.h0;simp only at h1 h2
   have Bp : id≠ER:=by
    have:=o.nd;simp only [List.map_cons,List.cons_append,List.nodup_cons,List.mem_cons,not_or] at this;exact this.1.1
   have o':=((o.swap.put (.cells n (flat (A.map f)) (flat (A.map f)).length)).tl).put (.map ks ((dn++[A]).map (mL f)++Xs));refine Da (σ1:=σ) (fun g B w tm hW hE=>?_) (ih (dn++[A]) _ o' fun H2 o2=>hk H2 (by simpa using o2))
   obtain ⟨g',q1,q2,q3⟩:=hW.o9 h2;exact ⟨g',q1,key q2 (by rw [AB.B1 _ _ Bp]; exact h1) fun v hv=>q3 g' v (.refl _) hv,hE.mono q1⟩
end Go.AW
namespace Go.AW
theorem AA.nC {H0 H : AB} (q : List (Nat × AF)) {a b : Nat × AF} {l : List (Nat × AF)} (o : AA H0 H (q++a::b::l)) : AA H0 H (b::(q++a::l)) :=
 o.perm ((List.Perm.append_left q (List.Perm.swap _ _ _)).trans List.perm_middle)
theorem AA.nL {H0 H : AB} (q : List (Nat × AF)) {a b : Nat × AF} {l : List (Nat × AF)} (o : AA H0 H (b::(q++a::l))) : AA H0 H (q++a::b::l) :=
 o.perm (List.perm_middle.symm.trans (List.Perm.append_left q (List.Perm.swap _ _ _)))
theorem Su : ∀ {ks : List Int} {vs : List AV},vs.length=ks.length→∀ i,JG (iI i) (ks.map iI) vs=vs[ks.idxOf i]?
 | [],vs,h,i=>by
  have : vs=[]:=List.eq_nil_of_length_eq_zero h;subst this; rfl
 | k::ks,[],h,i=>by simp at h
 | k::ks,v::vs,h,i=>by
  simp only [List.map_cons,JG,AV.T5,decide_eq_true_eq,List.idxOf_cons]
  by_cases e : i=k
  ·subst e; simp
  ·have h2 : (k == i)=false:=by simpa using fun h=>e h.symm
   rw [if_neg e,Su (by simpa using h),h2]; simp
theorem Sm (x : AV) (i : Int) : ∀ {ks : List Int} {vs : List AV},vs.length=ks.length→Il (iI i) x (ks.map iI) vs=if i∈ks then (ks.map iI,vs.set (ks.idxOf i) x) else ((ks++[i]).map iI,vs++[x])
 | [],vs,h=>by
  have : vs=[]:=List.eq_nil_of_length_eq_zero h;subst this; rfl
 | k::ks,[],h=>by simp at h
 | k::ks,v::vs,h=>by
  simp only [List.map_cons,Il,AV.T5,decide_eq_true_eq,List.idxOf_cons,List.mem_cons]
  by_cases e : i=k
  ·subst e; simp
  ·have h2 : (k == i)=false:=by simpa using fun h=>e h.symm
   rw [if_neg e,Sm x i (by simpa using h),h2]
   by_cases h3 : i∈ks
   ·simp [h3]
   ·simp [h3,e]
theorem Lb (i : Int) (ks : List Int) : Li 0 (iI i) (ks.map iI):=by
 refine ⟨rfl,fun a ha=>?_⟩
 obtain ⟨k,_,rfl⟩:=List.mem_map.mp ha
 rfl
@[go_sem] theorem lkR_f (z : AV) (r : Option AV) : mX false z r=r.getD z:=rfl
end Go.AW
namespace Go.AW
theorem Ao.UH {g : Gh} {B : Nat} {H : AB} {w : World} (h : Ao g B H w) {i b : Nat} {ks vs : List AV} (hi : H.get i=some (.map ks vs)) (hp : g.io i=some (.mp b)) :
  ∃ g',g.le g'∧Ao g' B (H.del i) w∧Ab g' (.IU ks vs) (.map (some b)):=by
 obtain ⟨p,Er,hr⟩:=h.ob i _ hi;rw [hp] at Er; cases Er;simp only [Aj] at hr
 obtain ⟨r1,r2,es,clk,r3,r4,r5,r6,r7⟩:=hr
 have hle : g.le (g.UH b es):=by
  refine ⟨fun _ _ _ h=>h,fun b' v e=>?_,fun _ _ h=>h⟩;simp only [Gh.UH]
  split
  ·rename_i hb; subst hb; rw [r2] at e; cases e
  ·exact e
 have hs : ∀ j,((H.del i).get j).isSome→j≠i∧(H.get j).isSome:=by
  intro j hj
  have Bp : j≠i:=by rintro rfl; rw [AB.Cf] at hj; cases hj
  exact ⟨Bp,by rwa [AB.C3 _ Bp] at hj⟩
 refine ⟨g.UH b es,hle, ?_,.IU ks vs b es (by simp [Gh.UH]) r4 r5 (fun k hk=>(r6 k hk).mono hle) (fun k hk=>(r7 k hk).mono hle)⟩
 constructor
 ·exact h.fz
 ·intro b' es' e;simp only [Gh.UH] at e
  split at e
  ·rename_i hb; subst hb; cases e; exact ⟨clk,r3⟩
  ·exact h.fm _ _ e
 ·intro j o e
  have hj:=hs j (by simp [e]);rw [AB.C3 _ hj.1] at e
  obtain ⟨q,hq,Mh⟩:=h.ob j o e;refine ⟨q,hq,Mh.B6 hle (fun _ _=>rfl) (fun _ _ _ hx=>hx) (fun b' Nb hn=>?_)⟩;simp only [Gh.UH];rw [if_neg]
  ·exact hn
  ·rintro rfl
   cases q with
   | nil=>cases Nb
   | mp b2=>cases Nb; exact h.HK j i _ hj.1 (by simp [e]) (by simp [hi]) hq hp
   | HC b2 c2 =>
    cases Nb
    cases o with
    | map ks vs=>simp [Aj] at Mh
    | cells sz cs f =>
     simp only [Aj] at Mh
     obtain ⟨_,_,_,_,c,el,h5,_⟩:=Mh;rw [r3] at h5; cases h5
 ·intro a b' x y z n e1 e2;exact h.inj a b' x y z n (hs a e1).2 (hs b' e2).2
 ·intro a b' x n e1 e2;exact h.HK a b' x n (hs a e1).2 (hs b' e2).2
 ·exact h.base
 ·exact h.fin
theorem AA.del {H0 H : AB} {l : List (Nat × AF)} {id : Nat} {o : AF} (h : AA H0 H ((id,o)::l)) : AA H0 (H.del id) l:=by
 have Hq:=h.nd;simp only [List.map_cons,List.nodup_cons] at Hq
 have Bp : ∀ x,x∈l→x.1≠id:=fun x hx e=>Hq.1 (e ▸ List.mem_map_of_mem hx)
 have ho:=h.out (id,o) (by simp);refine ⟨fun i x hx=>?_,fun x hx=>?_,Hq.2,fun x hx=>h.out x (by simp [hx])⟩
 ·rw [AB.C3]; exact h.sub i x hx
  rintro rfl; simp only at ho; rw [ho] at hx; cases hx
 ·rw [AB.C3 _ (Bp x hx)]; exact h.get x (by simp [hx])
theorem lN {F : Env→AB→Prop} {σ : Env} {H0 H : AB} {l : List (Nat × AF)} {id : Nat} {ks vs : List AV} (t : Nat) (o : AA H0 H ((id,.map ks vs)::l)) (ht : σ.get t=some (.Gg id))
  (hk : ∀ H',AA H0 H' l→Gj F ((t,some (.IU ks vs))::σ) H') : Gj F σ H:=by
 have h1:=o.h0;simp only at h1;refine Da (σ1:=(t,some (.IU ks vs))::σ) ?_ (hk _ o.del)
 intro g B w tm hW hE
 obtain ⟨q1,q2⟩:=hE t _ ht
 generalize hu : tm.getD t undef=u at q2
 cases q2 with
 | Gg _ b D3 =>
  obtain ⟨g',p1,p2,p3⟩:=hW.UH h1 D3;refine ⟨g',p1,p2,fun s x e=>?_⟩;simp only [Env.get] at e
  split at e
  ·rename_i hs; cases e; subst hs
   exact ⟨q1,by rw [hu]; exact p3⟩
  ·obtain ⟨z1,z2⟩:=hE s x e; exact ⟨z1,z2.mono p1⟩
end Go.AW
namespace Go.AW
open Go.RowKit
abbrev Ob:=List (Nat × AF)
section
variable {α : Type}
inductive Bd (O : Ob→AV→α→Prop) : List AV→List α→Ob→Prop
 | nil : Bd O [] [] []
 | cons {p o : Ob} {X : AV} {Xs : List AV} {a : α} {As : List α} (h : O p X a) (t : Bd O Xs As o) : Bd O (X::Xs) (a::As) (p++o)
def OI (p : Ob) (X : AV) (n : Int) : Prop:=p=[]∧X=iI n
def T6 (O : Ob→AV→α→Prop) (p : Ob) (X : AV) (A : List α) : Prop :=
 (p=[]∧X=.A1∧A=[])∨∃ id Xs o,p=(id,.cells 1 Xs 0)::o∧X=.buf id Xs.length∧Bd O Xs A o
theorem Bd.len {O : Ob→AV→α→Prop} {Xs : List AV} {As : List α} {o : Ob} (h : Bd O Xs As o) : Xs.length=As.length:=by
 induction h with
 | nil=>rfl
 | cons _ _ ih=>simp [ih]
theorem Bd.app {O : Ob→AV→α→Prop} {Xs Ys : List AV} {As Bs : List α} {o p : Ob} (h : Bd O Xs As o) (k : Bd O Ys Bs p) : Bd O (Xs++Ys) (As++Bs) (o++p):=by
 induction h with
 | nil=>exact k
 | cons h _ ih=>rw [List.append_assoc]; exact .cons h ih
theorem Bd.split {O : Ob→AV→α→Prop} [Inhabited α] {Xs : List AV} {As : List α} {o : Ob} (h : Bd O Xs As o) : ∀ i,i<Xs.length→∃ p r,o.Perm (p++r)∧O p (Xs.getD i nv) (As.getD i default) ∧
  ∀ X A p',O p' X A→∃ o',Bd O (Xs.set i X) (As.set i A) o'∧o'.Perm (p'++r):=by
 induction h with
 | nil=>intro i hi; simp at hi
 | @cons p o X Xs A As h t ih =>
  intro i hi
  cases i with
  | zero=>exact ⟨p,o,.refl _,h,fun X' A' p' h'=>⟨p'++o,.cons h' t,.refl _⟩⟩
  | succ i =>
   obtain ⟨q,r,h1,h2,h3⟩:=ih i (by simpa using hi);refine ⟨q,p++r, ?_,by simpa using h2,fun X' A' p' h'=>?_⟩
   ·refine (List.Perm.append_left p h1).trans ?_;rw [← List.append_assoc,← List.append_assoc];exact List.Perm.append_right r List.perm_append_comm
   ·obtain ⟨o',k1,k2⟩:=h3 X' A' p' h';refine ⟨p++o',by simpa using Bd.cons h k1, ?_⟩;refine (List.Perm.append_left p k2).trans ?_;rw [← List.append_assoc,← List.append_assoc];exact List.Perm.append_right r List.perm_append_comm
structure Ow (O : Ob→AV→α→Prop) (f : α→AV) : Prop where
 io : ∀ p X a,O p X a→Cp X
 pl : ∀ p X a,O p X a→∀ x,x∈p→x.2.plain
 ln : ∀ p X a,O p X a→∀ g B H w v,Ao g B H w→(∀ x,x∈p→H.get x.1=some x.2)→Ab g X v→Ab (g.EB H w) (f a) v
 fz : ∀ p X a,O p X a→∀ g B H0 H l w,Ao g B H w→AA H0 H (p++l)→∃ g' H',g.le g'∧Ao g' B H' w∧AA H0 H' l∧∀ v,Ab g X v→Ab g' (f a) v
theorem Ow.int : Ow OI iI where
 io p X a h:=by rw [h.2]; exact .int _ _
 pl p X a h x hx:=by rw [h.1] at hx; simp at hx
 ln p X a h g B H w v hW _ hv:=by rw [h.2] at hv; exact hv.mono (Gh.IM hW)
 fz p X a h g B H0 H l w hW o:=by
  obtain ⟨rfl,rfl⟩:=h;exact ⟨g,H,.refl g,hW,o,fun v hv=>hv⟩
theorem Bd.io {O : Ob→AV→α→Prop} {f : α→AV} (hO : Ow O f) {Xs : List AV} {As : List α} {o : Ob} (h : Bd O Xs As o) : ∀ c,c∈Xs→Cp c:=by
 induction h with
 | nil=>simp
 | cons h _ ih=>simp only [List.mem_cons,forall_eq_or_imp]; exact ⟨hO.io _ _ _ h,ih⟩
theorem Bd.pl {O : Ob→AV→α→Prop} {f : α→AV} (hO : Ow O f) {Xs : List AV} {As : List α} {o : Ob} (h : Bd O Xs As o) : ∀ x,x∈o→x.2.plain:=by
 induction h with
 | nil=>simp
 | cons h _ ih =>
  intro x hx
  rcases List.mem_append.mp hx with hx | hx
  ·exact hO.pl _ _ _ h x hx
  ·exact ih x hx
theorem Bd.ln {O : Ob→AV→α→Prop} {f : α→AV} (hO : Ow O f) {g : Gh} {B : Nat} {H : AB} {w : World} (hW : Ao g B H w) {Xs : List AV} {As : List α} {o : Ob} (h : Bd O Xs As o) :
  (∀ x,x∈o→H.get x.1=some x.2)→∀ i,i<Xs.length→∀ v,Ab g (Xs.getD i nv) v→Ab (g.EB H w) ((As.map f).getD i nv) v:=by
 induction h with
 | nil=>intro _ i hi; simp at hi
 | cons h _ ih =>
  intro hx i hi v hv
  cases i with
  | zero=>simpa using hO.ln _ _ _ h g B H w v hW (fun x IX=>hx x (List.mem_append_left _ IX)) (by simpa using hv)
  | succ i =>
   have:=ih (fun x IX=>hx x (List.mem_append_right _ IX)) i (by simpa using hi) v (by simpa using hv)
   simpa using this
theorem Bd.fz {O : Ob→AV→α→Prop} {f : α→AV} (hO : Ow O f) {B : Nat} {w : World} {H0 : AB} {Xs : List AV} {As : List α} {o : Ob} (h : Bd O Xs As o) :
  ∀ (g : Gh) (H : AB) (l : Ob),Ao g B H w→AA H0 H (o++l)→∃ g' H',g.le g'∧Ao g' B H' w∧AA H0 H' l∧∀ i,i<Xs.length→∀ v,Ab g (Xs.getD i nv) v→Ab g' ((As.map f).getD i nv) v:=by
 induction h with
 | nil=>intro g H l hW o; exact ⟨g,H,.refl g,hW,o,fun i hi=>by simp at hi⟩
 | @cons p o X Xs a As h _ ih =>
  intro g H l hW ow;rw [List.append_assoc] at ow
  obtain ⟨g1,H1,q1,q2,q3,q4⟩:=hO.fz _ _ _ h g B H0 H _ w hW ow
  obtain ⟨g2,H2,r1,r2,r3,r4⟩:=ih g1 H1 l q2 q3;refine ⟨g2,H2,q1.trans r1,r2,r3,fun i hi v hv=>?_⟩
  cases i with
  | zero=>simpa using (q4 v (by simpa using hv)).mono r1
  | succ i =>
   have:=r4 i (by simpa using hi) v ((by simpa using hv : Ab g (Xs.getD i nv) v).mono q1)
   simpa using this
theorem Ow.ls {O : Ob→AV→α→Prop} {f : α→AV} (hO : Ow O f) [h1 : One f] : Ow (T6 O) (mL f) where
 io p X a h:=by
  rcases h with ⟨_,rfl,_⟩ | ⟨id,Xs,o,_,rfl,_⟩
  ·exact .A1
  ·exact .buf _ _
 pl p X a h x hx:=by
  rcases h with ⟨rfl,_,_⟩ | ⟨id,Xs,o,rfl,_,hr⟩
  ·simp at hx
  ·rcases List.mem_cons.mp hx with rfl | hx
   ·exact hr.io hO
   ·exact hr.pl hO x hx
 ln p X a h g B H w v hW hx hv:=by
  rcases h with ⟨rfl,rfl,rfl⟩ | ⟨id,Xs,o,rfl,rfl,hr⟩
  ·cases hv; exact .slnil none 0
  ·have h0 : H.get id=some (.cells 1 Xs 0):=hx (id,.cells 1 Xs 0) (by simp)
   have hl:=hr.len
   obtain ⟨p,hp,F3⟩:=hW.ob id _ h0
   generalize hn : Xs.length=n at hv
   cases hv with
   | DX _ hq =>
    have : Xs=[]:=List.eq_nil_of_length_eq_zero hn;subst this
    have : a=[]:=List.eq_nil_of_length_eq_zero hl.symm;subst this;exact .slnil none 0
   | buf _ _ b cap hq =>
    subst hn;rw [hp] at hq; cases hq;simp only [Aj] at F3
    obtain ⟨r1,r2,r3,r4,c,el,r5,r6,r7,r8⟩:=F3
    have key : ∀ i j,i<(a.map f).length→j<1→i*1+j=i:=by intro i j _ hj; omega
    have E6 : (a.map f).length=Xs.length:=by simp [hl]
    rw [← E6];refine Ab.sl (a.map f) b 0 1 cap (fun i=>c.getD i undef) (by omega) (by omega) (fun i hi=>?_) (fun i j hi hj=>?_) (fun i j hi hj=>?_)
    ·have Fh : i<a.length:=by simpa using hi
     have : (a.map f).getD i nv=f a[i]:=by simp [gE,Fh]
     rw [this,h1.cells]; rfl
    ·rw [key i j hi hj,Nat.zero_add];simp only [Gh.EB];rw [if_pos ⟨id,cap,1,Xs,0,h0,hp,by omega⟩];rw [cell_of_row w b i c el (0,0) r5]
     have : i<c.size:=by omega
     simp [Array.getD,this]
    ·rw [key i j hi hj]
     obtain rfl : j=0:=by omega
     have Fh : i<a.length:=by simpa using hi
     have e : (a.map f).getD i nv=f a[i]:=by simp [gE,Fh]
     have:=hr.ln hO hW (fun x IX=>hx x (List.mem_cons_of_mem _ IX)) i (by omega) _ (r8 i (by omega));rw [e] at this ⊢;rw [h1.cells]; exact this
 fz p X a h g B H0 H l w hW ow:=by
  rcases h with ⟨rfl,rfl,rfl⟩ | ⟨id,Xs,o,rfl,rfl,hr⟩
  ·exact ⟨g,H,.refl g,hW,ow,fun v hv=>by cases hv; exact .slnil none 0⟩
  ·have h0 : H.get id=some (.cells 1 Xs 0):=ow.h0
   have hl:=hr.len
   obtain ⟨p,hp,F3⟩:=hW.ob id _ h0
   cases p with
   | nil =>
    simp only [Aj] at F3
    obtain ⟨rfl,_⟩:=F3
    cases hr with
    | nil =>
     refine ⟨g,H,.refl g,hW,ow.tl,fun v hv=>?_⟩
     generalize hn : ([] : List AV).length=n at hv
     cases hv with
     | DX _ hq=>exact .slnil none 0
     | buf _ _ b cap hq=>rw [hp] at hq; cases hq
   | mp b=>simp [Aj] at F3
   | HC b cap =>
    simp only [Aj] at F3
    obtain ⟨r1,r2,r3,r4,c,el,r5,r6,r7,r8⟩:=F3
    obtain ⟨g1,H1,q1,q2,q3,q4⟩:=hr.fz hO g H ((id,.cells 1 Xs 0)::l) hW (ow.perm List.perm_middle.symm)
    have h0' : H1.get id=some (.cells 1 Xs 0):=q3.h0
    have Io:=q1.io _ _ hp
    obtain ⟨c2,g2,s1,s2,s3,s4,s5,s6⟩:=q2.Zb id b cap 1 Xs 0 h0' Io
    have hc : ∀ i,i<Xs.length→c2.getD i undef=c.getD i undef:=by
     intro i hi
     have:=s2.fz _ _ _ (s5 i hi);rw [cell_of_row w b i c el (0,0) r5] at this
     have Fh : i<c.size:=by omega
     rw [Array.getElem?_eq_getElem Fh] at this;rw [← Option.some.inj this]; simp [Array.getD,Fh]
    refine ⟨g2,_,q1.trans s1,s2,(q3.put _).tl,fun v hv=>?_⟩
    generalize hn : Xs.length=n at hv
    cases hv with
    | DX _ hq=>rw [hp] at hq; cases hq
    | buf _ _ b' cap' hq =>
     rw [hp] at hq; cases hq;subst hn
     have key : ∀ i j,i<(a.map f).length→j<1→i*1+j=i:=by intro i j _ hj; omega
     have E6 : (a.map f).length=Xs.length:=by simp [hl]
     rw [← E6];refine Ab.sl (a.map f) b 0 1 cap (fun i=>c.getD i undef) (by omega) (by omega) (fun i hi=>?_) (fun i j hi hj=>?_) (fun i j hi hj=>?_)
     ·have Fh : i<a.length:=by simpa using hi
      have : (a.map f).getD i nv=f a[i]:=by simp [gE,Fh]
      rw [this,h1.cells]; rfl
     ·rw [key i j hi hj,Nat.zero_add,s5 i (by omega),hc i (by omega)]
     ·rw [key i j hi hj]
      obtain rfl : j=0:=by omega
      have Fh : i<a.length:=by simpa using hi
      have e : (a.map f).getD i nv=f a[i]:=by simp [gE,Fh]
      have:=(q4 i (by omega) _ (r8 i (by omega))).mono s1;rw [e] at this ⊢;rw [h1.cells]; exact this
end
abbrev OL:=T6 OI
abbrev N0:=T6 OL
theorem vD : Ow OL iL:=Ow.int.ls
theorem fQ : Ow N0 BA:=vD.ls
theorem T6.one {α : Type} {O : Ob→AV→α→Prop} {p : Ob} {X : AV} {A : List α} (h : T6 O p X A) : X.one=true:=by
 rcases h with ⟨_,rfl,_⟩ | ⟨id,Xs,o,_,rfl,_⟩ <;> rfl
inductive FR : List AV→List AV→Ob→Prop
 | nil : FR [] [] []
 | cons {α : Type} {O : Ob→AV→α→Prop} {f : α→AV} (hO : Ow O f) {p o : Ob} {X : AV} {a : α} {Xs Es : List AV} (h : O p X a) (t : FR Xs Es o) : FR (X::Xs) (f a::Es) (p++o)
theorem FR.len {Xs Es : List AV} {o : Ob} (h : FR Xs Es o) : Xs.length=Es.length:=by
 induction h with
 | nil=>rfl
 | cons _ _ _ ih=>simp [ih]
theorem FR.io {Xs Es : List AV} {o : Ob} (h : FR Xs Es o) : ∀ c,c∈Xs→Cp c:=by
 induction h with
 | nil=>simp
 | cons hO h _ ih=>simp only [List.mem_cons,forall_eq_or_imp]; exact ⟨hO.io _ _ _ h,ih⟩
theorem FR.pl {Xs Es : List AV} {o : Ob} (h : FR Xs Es o) : ∀ x,x∈o→x.2.plain:=by
 induction h with
 | nil=>simp
 | cons hO h _ ih =>
  intro x hx
  rcases List.mem_append.mp hx with hx | hx
  ·exact hO.pl _ _ _ h x hx
  ·exact ih x hx
theorem FR.ln {g : Gh} {B : Nat} {H : AB} {w : World} (hW : Ao g B H w) {Xs Es : List AV} {o : Ob} (h : FR Xs Es o) :
  (∀ x,x∈o→H.get x.1=some x.2)→∀ i,i<Xs.length→∀ v,Ab g (Xs.getD i nv) v→Ab (g.EB H w) (Es.getD i nv) v:=by
 induction h with
 | nil=>intro _ i hi; simp at hi
 | cons hO h _ ih =>
  intro hx i hi v hv
  cases i with
  | zero=>simpa using hO.ln _ _ _ h g B H w v hW (fun x IX=>hx x (List.mem_append_left _ IX)) (by simpa using hv)
  | succ i =>
   have:=ih (fun x IX=>hx x (List.mem_append_right _ IX)) i (by simpa using hi) v (by simpa using hv)
   simpa using this
theorem FR.fz {B : Nat} {w : World} {H0 : AB} {Xs Es : List AV} {o : Ob} (h : FR Xs Es o) :
  ∀ (g : Gh) (H : AB) (l : Ob),Ao g B H w→AA H0 H (o++l)→∃ g' H',g.le g'∧Ao g' B H' w∧AA H0 H' l∧∀ i,i<Xs.length→∀ v,Ab g (Xs.getD i nv) v→Ab g' (Es.getD i nv) v:=by
 induction h with
 | nil=>intro g H l hW o; exact ⟨g,H,.refl g,hW,o,fun i hi=>by simp at hi⟩
 | @cons α O f hO p o X a Xs Es h _ ih =>
  intro g H l hW ow;rw [List.append_assoc] at ow
  obtain ⟨g1,H1,q1,q2,q3,q4⟩:=hO.fz _ _ _ h g B H0 H _ w hW ow
  obtain ⟨g2,H2,r1,r2,r3,r4⟩:=ih g1 H1 l q2 q3;refine ⟨g2,H2,q1.trans r1,r2,r3,fun i hi v hv=>?_⟩
  cases i with
  | zero=>simpa using (q4 v (by simpa using hv)).mono r1
  | succ i =>
   have:=r4 i (by simpa using hi) v ((by simpa using hv : Ab g (Xs.getD i nv) v).mono q1)
   simpa using this
def OA {α : Type} (e : α→List AV) (p : Ob) (X : AV) (a : α) : Prop:=∃ Xs,X=.agg Xs∧FR Xs (e a) p
theorem Ow.agg {α : Type} (e : α→List AV) : Ow (OA e) (fun a=>.agg (e a)) where
 io p X a h:=by obtain ⟨Xs,rfl,h⟩:=h; exact .agg h.io
 pl p X a h:=by obtain ⟨Xs,rfl,h⟩:=h; exact h.pl
 ln p X a h g B H w v hW hx hv:=by
  obtain ⟨Xs,rfl,h⟩:=h
  cases hv with
  | agg _ vs hs hv=>exact .agg _ vs (by rw [hs,h.len]) fun i hi=>h.ln hW hx i (by rw [h.len]; exact hi) _ (hv i (by rw [h.len]; exact hi))
 fz p X a h g B H0 H l w hW ow:=by
  obtain ⟨Xs,rfl,h⟩:=h
  obtain ⟨g',H',q1,q2,q3,q4⟩:=h.fz g H l hW ow;refine ⟨g',H',q1,q2,q3,fun v hv=>?_⟩
  cases hv with
  | agg _ vs hs hv=>exact .agg _ vs (by rw [hs,h.len]) fun i hi=>q4 i (by rw [h.len]; exact hi) _ (hv i (by rw [h.len]; exact hi))
def OT {α : Type} (e : α→List AV) (p : Ob) (X : AV) (a : α) : Prop:=∃ Xs,X=.CG Xs∧FR Xs (e a) p
theorem Ow.CG {α : Type} (e : α→List AV) : Ow (OT e) (fun a=>.CG (e a)) where
 io p X a h:=by obtain ⟨Xs,rfl,h⟩:=h; exact .CG h.io
 pl p X a h:=by obtain ⟨Xs,rfl,h⟩:=h; exact h.pl
 ln p X a h g B H w v hW hx hv:=by
  obtain ⟨Xs,rfl,h⟩:=h
  cases hv with
  | CG _ vs hs hv=>exact .CG _ vs (by rw [hs,h.len]) fun i hi=>h.ln hW hx i (by rw [h.len]; exact hi) _ (hv i (by rw [h.len]; exact hi))
 fz p X a h g B H0 H l w hW ow:=by
  obtain ⟨Xs,rfl,h⟩:=h
  obtain ⟨g',H',q1,q2,q3,q4⟩:=h.fz g H l hW ow;refine ⟨g',H',q1,q2,q3,fun v hv=>?_⟩
  cases hv with
  | CG _ vs hs hv=>exact .CG _ vs (by rw [hs,h.len]) fun i hi=>q4 i (by rw [h.len]; exact hi) _ (hv i (by rw [h.len]; exact hi))
section
variable {α : Type} {O : Ob→AV→α→Prop} {f : α→AV} {P : Program} {B : Nat} {fn : FuncId} {args es : List AV} {a : α}
structure Gk (P : Program) (B : Nat) (fn : FuncId) (args : List AV) (O : Ob→AV→Prop) : Prop where
 run : ∀ H,B7 P B fn args H fun r H'=>∃ p,O p r∧AA H H' p
theorem Gk.pur (hO : Ow O f) (h : Gk P B fn args fun p X=>O p X a) : oZ P B fn args (f a):=by
 refine ⟨fun H=>⟨(h.run H).1,fun g w vs hW hv=>?_⟩⟩;refine ((h.run H).2 g w vs hW hv).mono fun e w' ⟨v,he,g',r,H',q1,⟨p,q2,q3⟩,q4,q5,q6⟩=>?_
 have q3' : AA H H' (p++[]):=by rw [List.append_nil]; exact q3
 obtain ⟨g2,H2,r1,r2,r3,r4⟩:=hO.fz p r a q2 g' B H H' [] w' q5 q3';exact ⟨v,he,g2,f a,H,q1.trans r1,⟨rfl,rfl⟩,r4 v q4,r2.sub r3.sub,q6⟩
theorem Gk.call {O : Ob→AV→Prop} {H0 H : AB} {l : Ob} {K : Am} (h : Gk P B fn args O) (o : AA H0 H l) (hk : ∀ r p H',O p r→AA H0 H' (p++l)→K r H') : B7 P B fn args H K :=
 (h.run H).mono fun r H' ⟨p,q1,q2⟩=>hk r p H' q1 (o.trans q2)
theorem Gk.xu {H0 H : AB} {l : Ob} {K : Am} (hO : Ow O f) (h : Gk P B fn es fun p X=>O p X a) (o : AA H0 H l) (hl : es.length=args.length)
  (ht : ∀ i,i<args.length→∀ g w v,Ao g B H w→Ab g (args.getD i nv) v→Ab (g.EB H w) (es.getD i nv) v)
  (hk : ∀ r p H',O p r a→AA H0 H' (p++l)→K r H') : B7 P B fn args H K :=
 B7.borrow hl ht (h.run H.Ov) fun r H' ⟨p,q1,q2⟩=>⟨p,q2,hO.pl _ _ _ q1,hO.io _ _ _ q1,fun hn=>hk r p _ q1 (o.trans (AA.Ov q2 hn))⟩
theorem Ow.arg {H0 H : AB} {l p : Ob} {X : AV} (hO : Ow O f) (h : O p X a) (o : AA H0 H l) (hp : ∀ x,x∈p→x∈l) : ∀ g w v,Ao g B H w→Ab g X v→Ab (g.EB H w) (f a) v :=
 fun g w v hW hv=>hO.ln p X a h g B H w v hW (fun x hx=>o.get x (hp x hx)) hv
end
end Go.AW
namespace Go.AW
open Go.Shf
theorem Ow.of {α : Type} {O O' : Ob→AV→α→Prop} {f : α→AV} (h : ∀ p X a,O p X a→O' p X a) (k : Ow O' f) : Ow O f where
 io p X a q:=k.io p X a (h _ _ _ q)
 pl p X a q:=k.pl p X a (h _ _ _ q)
 ln p X a q:=k.ln p X a (h _ _ _ q)
 fz p X a q:=k.fz p X a (h _ _ _ q)
def OCat (p : Ob) (X : AV) (c : Ay) : Prop:=∃ X1 X2 X3 X4 p1 p2 p3 p4,X=.agg [iI c.AO,X1,X2,X3,X4]∧p=p1++(p2++(p3++p4)) ∧
 OL p1 X1 c.AJ∧OL p2 X2 c.to∧OL p3 X3 c.Av∧N0 p4 X4 c.comp
def aU (p : Ob) (X : AV) (f : SF) : Prop:=∃ X1 X2 X3 X4 X5 X6 p1 p2 p3 p4 p5 p6,X=.agg [iI f.shape.AO,X1,X2,X3,X4,X5,X6]∧p=p1++(p2++(p3++(p4++(p5++p6)))) ∧
 OL p1 X1 f.shape.AJ∧OL p2 X2 f.shape.to∧OL p3 X3 f.shape.Av∧N0 p4 X4 f.shape.comp∧OL p5 X5 f.A4∧N0 p6 X6 f.AU
theorem fq (n : Int) {Xs Es : List AV} {o : Ob} (t : FR Xs Es o) : FR (iI n::Xs) (iI n::Es) o:=FR.cons (p:=[]) Ow.int ⟨rfl,rfl⟩ t
def lJ (p : Ob) (X : AV) (m : SM) : Prop:=∃ Xs Ys Z p1 p2 p3,X=.agg (Xs++(Ys++[Z]))∧p=p1++(p2++p3)∧aU p1 (.agg Xs) m.src∧aU p2 (.agg Ys) m.CA∧N0 p3 Z m.parts
theorem FR.app {Xs Es Ys Fs : List AV} {o p : Ob} (h : FR Xs Es o) (k : FR Ys Fs p) : FR (Xs++Ys) (Es++Fs) (o++p):=by
 induction h with
 | nil=>exact k
 | cons hO h _ ih=>rw [List.append_assoc]; exact .cons hO h ih
theorem aU.fi {p : Ob} {Xs : List AV} {f : SF} (h : aU p (.agg Xs) f) : FR Xs f.cells p:=by
 obtain ⟨X1,X2,X3,X4,X5,X6,p1,p2,p3,p4,p5,p6,e,ep,h1,h2,h3,h4,h5,h6⟩:=h;subst ep
 injection e with e
 subst e;refine fq _ (.cons vD h1 (.cons vD h2 (.cons vD h3 (.cons fQ h4 (.cons vD h5 ?_)))))
 have:=FR.cons fQ h6 .nil;rw [List.append_nil] at this; exact this
theorem yY : Ow lJ fun m=>.agg m.cells:=(Ow.agg SM.cells).of fun p X m ⟨Xs,Ys,Z,p1,p2,p3,e,ep,h1,h2,h3⟩=>by
 subst e ep
 have:=FR.cons fQ h3 .nil;rw [List.append_nil] at this;exact ⟨_,rfl,h1.fi.app (h2.fi.app this)⟩
theorem mJ : ∀ (l : List Int),Bd OI (l.map iI) l []
 | []=>.nil
 | a::r=>.cons (p:=[]) ⟨rfl,rfl⟩ (mJ r)
end Go.AW
