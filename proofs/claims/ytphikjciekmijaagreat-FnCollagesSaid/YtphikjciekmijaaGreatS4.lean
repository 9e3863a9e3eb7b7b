/- Objects of ours. -/
import Derived.Test.YtphikjciekmijaaGreatS3
set_option linter.unusedVariables false
set_option linter.unusedSimpArgs false
set_option linter.unusedSectionVars false
namespace Go.AW
@[go_sem] theorem qi {P : Program} {B : Nat} {Q : AQ} {σ : Env} {H : AA} (c : SC) : Dx P B (.wk c) Q σ H=EX (Dx P B c Q) σ H:=rfl
theorem AX {F : Env→AA→Prop} {σ : Env} {H : AA} (h : F σ H) : EX F σ H:=⟨σ,H,Wk.refl σ H,h⟩
theorem D5 {F : Env→AA→Prop} {σ σ1 : Env} {H H1 : AA} (h : Wk σ H σ1 H1) (k : EX F σ1 H1) : EX F σ H:=by
 obtain ⟨σ2,H2,h2,k⟩:=k;refine ⟨σ2,H2,fun g B w tm a b=>?_,k⟩
 obtain ⟨g1,q1,q2,q3⟩:=h g B w tm a b
 obtain ⟨g2,r1,r2,r3⟩:=h2 g1 B w tm q2 q3;exact ⟨g2,q1.trans r1,r2,r3⟩
theorem Ao.Tp {g : Gh} {B : Nat} {H : AA} {w : World} (h : Ao g B H w) {i sz f : Nat} {cs cs' : List AV} (hi : H.get i=some (.cells sz cs f)) (hl : cs'.length=cs.length)
  (hv : ∀ k v,k<cs.length→Aa g (cs.getD k nv) v→Aa g (cs'.getD k nv) v) : Ao g B (H.set i (.cells sz cs' f)) w:=by
 have hs : ∀ j,((H.set i (.cells sz cs' f)).get j).isSome→(H.get j).isSome:=by
  intro j hj
  by_cases e : j=i
  ·subst e; simp [hi]
  ·rwa [AA.Aw _ _ e] at hj
 constructor
 ·exact h.fz
 ·exact h.fm
 ·intro j o e
  by_cases hj : j=i
  ·subst hj
   simp at e; subst e
   obtain ⟨p,hp,hr⟩:=h.ob _ _ hi;refine ⟨p,hp, ?_⟩
   cases p with
   | nil =>
    simp only [Ah] at hr ⊢;refine ⟨?_,hr.2⟩;rw [hr.1] at hl; exact List.eq_nil_of_length_eq_zero hl
   | mp b=>simp [Ah] at hr
   | GA b cap =>
    simp only [Ah] at hr ⊢
    obtain ⟨h1,h2,h3,h4,c,el,h5,h6,h7,h8⟩:=hr;exact ⟨h1,by omega,by omega,h4,c,el,h5,h6,by omega,fun k hk=>hv k _ (by omega) (h8 k (by omega))⟩
  ·rw [AA.Aw _ _ hj] at e; exact h.ob j o e
 ·intro a b x y z n e1 e2; exact h.inj a b x y z n (hs a e1) (hs b e2)
 ·intro a b x n e1 e2; exact h.G9 a b x n (hs a e1) (hs b e2)
 ·exact h.base
 ·exact h.fin
theorem Ao.fO {α : Type} [Inhabited α] {f : α→AV} [One f] {g : Gh} {B : Nat} {H : AA} {w : World} (h : Ao g B H w) {i fr : Nat} {A : List α} (hi : H.get i=some (.cells 1 (A.map f) fr)) :
  ∃ g',g.le g'∧Ao g' B (H.set i (.cells 1 (A.map f) A.length)) w∧∀ g2 v,g'.le g2→Aa g2 (.buf i A.length) v→Aa g2 (mL f A) v:=by
 obtain ⟨p,hp,hr⟩:=h.ob i _ hi
 cases p with
 | nil =>
  simp only [Ah] at hr
  have hA : A=[]:=List.map_eq_nil_iff.mp hr.1;subst hA
  have h0:=hr.2;subst h0;refine ⟨g,.refl g,h.sub ?_,fun g2 v hg hv=>?_⟩
  ·intro k o e
   by_cases hk : k=i
   ·subst hk; simp at e; subst e; exact hi
   ·rwa [AA.Aw _ _ hk] at e
  ·cases hv with
   | CN _ _=>exact .slnil none 0
   | buf _ _ b cap _=>exact .slnil _ _
 | mp b=>simp [Ah] at hr
 | GA b cap =>
  obtain ⟨c,g',r1,r2,r3,r4,r5,r6⟩:=h.ZI i b cap 1 _ fr hi hp
  have iw : (A.map f).length≤AN:=by simp only [Ah] at hr; exact hr.2.2.1
  rw [List.length_map] at *;refine ⟨g',r1,r2,fun g2 v hg hv=>?_⟩
  have CA:=hg.io _ _ (r1.io _ _ hp)
  generalize hn : A.length=n at *
  cases hv with
  | CN _ hq=>rw [hq] at CA; cases CA
  | buf _ _ b' cap' hq =>
   rw [hq] at CA; cases CA
   have key : ∀ i j,i<n→j<1→i*1+j=i:=by intro i j _ hj; omega
   have hl : (A.map f).length=n:=by simp [hn]
   refine hl ▸ Aa.sl (A.map f) b 0 1 cap (fun i=>c.getD i undef) (by omega) (by omega) (fun i hi=>?_) (fun i j hi hj=>?_) (fun i j hi hj=>?_)
   ·rw [getD_map A (by omega),C7]; rfl
   ·rw [key i j (by omega) hj,Nat.zero_add]; exact hg.fz _ _ _ (r5 i (by omega))
   ·rw [key i j (by omega) hj,getD_map A (by omega),C7]
    obtain rfl : j=0:=by omega
    have:=r6 i (by omega);rw [getD_map A (by omega)] at this;exact this.mono hg
theorem B6 {α : Type} [Inhabited α] {f : α→AV} [One f] {F : Env→AA→Prop} {σ : Env} {H0 H : AA} {l : List (Nat × AG)} {id sz fr GD n fr2 : Nat} {cs : List AV} {A : List α} (k : Nat)
  (o : A9 H0 H ((id,.cells sz cs fr)::(GD,.cells 1 (A.map f) fr2)::l)) (hc : cs[k]? = some (.buf GD n)) (hn : n=A.length)
  (hk : ∀ H',A9 H0 H' ((id,.cells sz (cs.set k (mL f A)) fr)::l)→EX F σ H') : EX F σ H:=by
 subst hn
 have h1:=o.h0
 have h2:=o.tl.h0;simp only at h1 h2
 have Bg : id≠GD:=by
  have:=o.nd;simp only [List.map_cons,List.nodup_cons,List.mem_cons,not_or] at this;exact this.1.1
 have o2:=((o.swap.put (.cells 1 (A.map f) A.length)).tl).put (.cells sz (cs.set k (mL f A)) fr);refine D5 (σ1:=σ) ?_ (hk _ o2)
 intro g B w tm hW hE
 obtain ⟨g',q1,q2,q3⟩:=hW.fO h2;refine ⟨g',q1, ?_,hE.mono q1⟩;refine q2.Tp (by rw [AA.Aw _ _ Bg]; exact h1) (by simp) fun j v hj hv=>?_
 by_cases e : j=k
 ·subst e
  have e1 : cs.getD j nv=.buf GD A.length:=by rw [Go.AW.gE,hc]; rfl
  have e2 : (cs.set j (mL f A)).getD j nv=mL f A:=by simp [Go.AW.gE,hj]
  rw [e1] at hv;rw [e2]; exact q3 g' v (.refl _) hv
 ·have e2 : (cs.set k (mL f A)).getD j nv=cs.getD j nv:=by
   rw [Go.AW.gE,List.getElem?_set_ne (by omega),← Go.AW.gE]
  rw [e2]; exact hv
theorem V9 {α : Type} [Inhabited α] {f : α→AV} [One f] {F : Env→AA→Prop} {σ : Env} {H0 : AA} {l : List (Nat × AG)} {id sz fr : Nat} : ∀ (ms : List (Nat × List α)) (dn : List (List α)) (H : AA),
  A9 H0 H ((id,.cells sz (dn.map (mL f)++ms.map fun m=>.buf m.1 m.2.length) fr)::((ms.map fun m=>(m.1,.cells 1 (m.2.map f) 0))++l)) →
  (∀ H',A9 H0 H' ((id,.cells sz ((dn++ms.map Prod.snd).map (mL f)) fr)::l)→EX F σ H')→EX F σ H
 | [],dn,H,o,hk=>hk H (by simpa using o)
 | (i,A)::ms,dn,H,o,hk=>by
  refine B6 (GD:=i) (A:=A) (f:=f) dn.length o ?_ rfl fun H' o'=>?_
  ·rw [List.getElem?_append_right (by simp)]; simp
  ·refine V9 (f:=f) (H0:=H0) (l:=l) (id:=id) (sz:=sz) (fr:=fr) ms (dn++[A]) H' ?_ fun H2 o2=>hk H2 ?_
   ·have e : (dn.map (mL f)++(AV.buf i A.length::ms.map fun m=>.buf m.1 m.2.length)).set dn.length (mL f A)=(dn++[A]).map (mL f)++ms.map fun m=>.buf m.1 m.2.length:=by
     rw [List.set_append_right _ _ (by simp)]; simp
    rw [← e]; exact o'
   ·simpa using o2
theorem Ca {F : Env→AA→Prop} {σ : Env} {H0 H : AA} {l : List (Nat × AG)} {id sz fr : Nat} {cs : List AV} (t : Nat) (o : A9 H0 H ((id,.cells sz cs fr)::l)) (ht : σ.get t=some (.ref id 0))
  (hk : ∀ H',A9 H0 H' l→EX F ((t,some (.ptr cs))::σ) H') : EX F σ H:=by
 have h1:=o.h0;simp only at h1;refine D5 (σ1:=(t,some (.ptr cs))::σ) ?_ (hk _ (o.put (.cells sz cs cs.length)).tl)
 intro g B w tm hW hE
 obtain ⟨q1,q2⟩:=hE t _ ht
 generalize hu : tm.getD t undef=u at q2
 cases q2 with
 | ref _ _ b cap CA =>
  obtain ⟨c,g',r1,r2,r3,r4,r5,r6⟩:=hW.ZI id b cap sz cs fr h1 CA;refine ⟨g',r1,r2,fun s x e=>?_⟩;simp only [Env.get] at e
  split at e
  ·rename_i hs; cases e; subst hs
   refine ⟨q1, ?_⟩;rw [hu];exact .ptr cs b 0 (fun k=>c.getD k undef) (fun i hi=>by rw [Nat.zero_add]; exact r5 i hi) r6
  ·obtain ⟨z1,z2⟩:=hE s x e; exact ⟨z1,z2.mono r1⟩
section
variable {H0 H : AA} {l : List (Nat × AG)} {K : Ak}
theorem AS {id sz off n : Nat} {cs vs : List AV} (o : A9 H0 H ((id,.cells sz cs 0)::l)) (h1 : off+n≤cs.length) (h2 : vs.length=n) (h3 : ∀ c,c∈vs→c.one=true)
  (hk : ∀ H',A9 H0 H' ((id,.cells sz (wr cs off vs) 0)::l)→K nv H') : Ka (H.get id) id off n vs K H:=by
 have h0:=o.h0;simp only at h0;rw [h0,VV];exact ⟨⟨by omega,h1,h2,h3⟩,hk _ (o.put _)⟩
theorem kT {id sz off n : Nat} {cs vs : List AV} (o : A9 H0 H ((id,.cells sz cs 0)::l))
 (hk : ∀ H',A9 H0 H' ((id,.cells sz (wr cs off vs) 0)::l)→K nv H') (h1 : off+n≤cs.length:=by simp) (h2 : vs.length=n:=by (try simp only [go_sem]); (try simp)) (h3 : ∀ c,c∈vs→c.one=true:=by first | (simp only [go_sem]; done) | ((try simp only [go_sem]); simp [AV.one,Ay])) : Ka (H.get id) id off n vs K H :=
 AS o h1 h2 h3 hk
theorem AH {id sz off fr : Nat} {cs : List AV} (o : A9 H0 H ((id,.cells sz cs fr)::l)) (h1 : off<cs.length) (hk : K (cs.getD off nv) H) : Jd (H.get id) none off K H:=by
 have h0:=o.h0;simp only at h0;rw [h0,Ve];exact ⟨h1,hk⟩
theorem AO {id sz off fr n : Nat} {cs : List AV} (o : A9 H0 H ((id,.cells sz cs fr)::l)) (h1 : off+n≤cs.length) (hk : K (.agg ((cs.drop off).take n)) H) : Jd (H.get id) (some n) off K H:=by
 have h0:=o.h0;simp only at h0;rw [h0,fJ];exact ⟨h1,hk⟩
end
def CP {α : Type} (f : α→AV) (H0 H : AA) (l : List (Nat × AG)) (X : AV) (A : List α) : Prop :=
 (X=.A0∧A=[]∧A9 H0 H l)∨∃ id,X=.buf id A.length∧A9 H0 H ((id,.cells 1 (A.map f) 0)::l)
section
variable {α : Type} [Inhabited α] {f : α→AV} [One f] {H0 H : AA} {l : List (Nat × AG)} {K : Ak}
theorem CP.app {X : AV} {A : List α} (a : α) {v : AV} (h : CP f H0 H l X A) (hv : v=f a) (hm : A.length+1≤AN)
  (hk : ∀ Bz H',A9 H0 H' ((Bz,.cells 1 ((A++[a]).map f) 0)::l)→K (.buf Bz (A++[a]).length) H') : Co 1 (some X) (some (.sl [v])) K H:=by
 rcases h with ⟨rfl,rfl,o⟩ | ⟨id,rfl,o⟩
 ·exact iR a o hv hk
 ·exact Ae a o hv rfl hm hk
end
theorem UY {F : Env→AA→Prop} {σ : Env} {H0 H : AA} {l : List (Nat × AG)} {id sz fr : Nat} {cs : List AV} (k : Nat)
  (o : A9 H0 H ((id,.cells sz cs fr)::l)) (hc : cs[k]? = some .A0) (hk : ∀ H',A9 H0 H' ((id,.cells sz (cs.set k (.sl [])) fr)::l)→EX F σ H') : EX F σ H:=by
 have h1:=o.h0;simp only at h1;refine D5 (σ1:=σ) ?_ (hk _ (o.put (.cells sz (cs.set k (.sl [])) fr)))
 intro g B w tm hW hE;refine ⟨g,.refl g,hW.Tp h1 (by simp) fun j v hj hv=>?_,hE⟩
 by_cases e : j=k
 ·subst e
  have e1 : cs.getD j nv=.A0:=by rw [Go.AW.gE,hc]; rfl
  have e2 : (cs.set j (.sl [])).getD j nv=.sl []:=by simp [Go.AW.gE,hj]
  rw [e1] at hv; rw [e2]
  cases hv; exact .slnil none 0
 ·have e2 : (cs.set k (.sl [])).getD j nv=cs.getD j nv:=by
   rw [Go.AW.gE,List.getElem?_set_ne (by omega),← Go.AW.gE]
  rw [e2]; exact hv
theorem FK {α : Type} [Inhabited α] {f : α→AV} [One f] {F : Env→AA→Prop} {σ : Env} {H0 H : AA} {l : List (Nat × AG)} {id sz fr : Nat} {cs : List AV} {X : AV} {A : List α} (k : Nat)
  (o : CP f H0 H ((id,.cells sz cs fr)::l) X A) (hc : cs[k]? = some X)
  (hk : ∀ H',A9 H0 H' ((id,.cells sz (cs.set k (mL f A)) fr)::l)→EX F σ H') : EX F σ H:=by
 rcases o with ⟨rfl,rfl,o⟩ | ⟨GD,rfl,o⟩
 ·exact UY k o hc hk
 ·exact B6 k o.swap hc rfl hk
theorem CP.obj {α : Type} {f : α→AV} {H0 H : AA} {l : List (Nat × AG)} {X : AV} {A : List α} {id : Nat} {o : AG} (h : CP f H0 H ((id,o)::l) X A) : H.get id=some o:=by
 rcases h with ⟨_,_,h⟩ | ⟨_,_,h⟩
 ·exact h.h0
 ·exact h.tl.h0
theorem Aj {H : AA} {K : Ak} {id sz off fr : Nat} {cs : List AV} (h : H.get id=some (.cells sz cs fr)) (h1 : off<cs.length) (hk : K (cs.getD off nv) H) : Jd (H.get id) none off K H:=by
 rw [h,Ve];exact ⟨h1,hk⟩
def Lp {α : Type} (f : α→AV) (p : List (Nat × AG)) (X : AV) (A : List α) : Prop :=
 (p=[]∧X=.A0∧A=[])∨∃ id,p=[(id,.cells 1 (A.map f) 0)]∧X=.buf id A.length
theorem CP.split {α : Type} {f : α→AV} {H0 H : AA} {l : List (Nat × AG)} {X : AV} {A : List α} (h : CP f H0 H l X A) : ∃ p,A9 H0 H (p++l)∧Lp f p X A:=by
 rcases h with ⟨h1,h2,h⟩ | ⟨id,h1,h⟩
 ·exact ⟨[],h,.inl ⟨rfl,h1,h2⟩⟩
 ·exact ⟨[_],h,.inr ⟨id,rfl,h1⟩⟩
theorem CP.mk {α : Type} {f : α→AV} {H0 H : AA} {l p : List (Nat × AG)} {X : AV} {A : List α} (o : A9 H0 H (p++l)) (h : Lp f p X A) : CP f H0 H l X A:=by
 rcases h with ⟨rfl,h1,h2⟩ | ⟨id,rfl,h1⟩
 ·exact .inl ⟨h1,h2,o⟩
 ·exact .inr ⟨id,h1,o⟩
end Go.AW
namespace Go.AW
def De {α : Type} (m : Nat × List α) : AV:=.buf m.1 m.2.length
instance {α : Type} : One (De (α:=α)):=⟨fun _=>rfl,fun _=>rfl⟩
def inner {α : Type} (f : α→AV) (ms : List (Nat × List α)) : List (Nat × AG):=ms.map fun m=>(m.1,.cells 1 (m.2.map f) 0)
@[go_sem] theorem uB {α : Type} (k : IntKind) (i : Int) {d : Option Nat} {F : Env→AA→Prop} {σ : Env} {H : AA} (m : Nat × List α) :
  pE d F σ H (Gn 1 (some (De m)) (some (.int k i)))=((0≤i∧i.toNat<m.2.length)∧CR d F σ (.ref m.1 i.toNat) H):=by
 simp [De,Gn,pE,pW]
@[go_sem] theorem nH {α : Type} (m : Nat × List α) : Ds (some (De m))=some (True,.int .i64 m.2.length):=rfl
section
variable {α : Type} [Inhabited α] {f : α→AV} [One f] {H0 H : AA} {l : List (Nat × AG)} {K : Ak}
theorem A9.PH {id fr : Nat} {ms : List (Nat × List α)} (o : A9 H0 H ((id,.cells 1 (ms.map De) fr)::(inner f ms++l))) {x : Nat} (hx : x<ms.length) :
  H.get (ms.getD x default).1=some (.cells 1 ((ms.getD x default).2.map f) 0):=by
 refine o.get ((ms.getD x default).1,.cells 1 ((ms.getD x default).2.map f) 0) ?_;refine List.mem_cons_of_mem _ (List.mem_append_left _ ?_);rw [inner,List.mem_map];exact ⟨_,AE.mpr ⟨x,hx,rfl⟩,rfl⟩
omit [Inhabited α] [One f] in
theorem D1 {id off fr : Nat} {A : List α} [Inhabited α] (h : H.get id=some (.cells 1 (A.map f) fr)) (ho : off<A.length) (hk : K (f (A.getD off default)) H) : Jd (H.get id) none off K H:=by
 rw [h,Ve];refine ⟨by simpa using ho, ?_⟩;rw [getD_map A ho]; exact hk
end
end Go.AW
namespace Go.AW
@[go_sem] theorem kr {α : Type} (f : α→AV) (t : Nat) (l : List α) {F : Env→AA→Prop} {σ : Env} {H : AA} : YI t F σ H (some (mL f l))=F σ H:=rfl
theorem Ao.uJ {g : Gh} {B : Nat} {H : AA} {w : World} (h : Ao g B H w) {i sz f k b cap : Nat} {cs : List AV} (hi : H.get i=some (.cells sz cs f)) (hp : g.io i=some (.GA b cap)) (hk : f≤k) (TS : k≤cs.length) :
  Ao g B (H.set i (.cells sz cs k)) w:=by
 have hs : ∀ j,((H.set i (.cells sz cs k)).get j).isSome→(H.get j).isSome:=by
  intro j hj
  by_cases e : j=i
  ·subst e; simp [hi]
  ·rwa [AA.Aw _ _ e] at hj
 constructor
 ·exact h.fz
 ·exact h.fm
 ·intro j o e
  by_cases hj : j=i
  ·subst hj
   simp at e; subst e
   obtain ⟨p,Nv,hr⟩:=h.ob _ _ hi;rw [hp] at Nv; cases Nv;refine ⟨_,hp, ?_⟩;simp only [Ah] at hr ⊢
   obtain ⟨h1,h2,h3,h4,c,el,h5,h6,h7,h8⟩:=hr;exact ⟨h1,TS,h3,fun x hx=>h4 x (by omega),c,el,h5,h6,h7,h8⟩
  ·rw [AA.Aw _ _ hj] at e; exact h.ob j o e
 ·intro a b x y z n e1 e2; exact h.inj a b x y z n (hs a e1) (hs b e2)
 ·intro a b x n e1 e2; exact h.G9 a b x n (hs a e1) (hs b e2)
 ·exact h.base
 ·exact h.fin
theorem cZ {F : Env→AA→Prop} {σ : Env} {H0 H : AA} {l : List (Nat × AG)} {id sz : Nat} {cs : List AV} (t k : Nat) (hk : k≤cs.length) (o : A9 H0 H ((id,.cells sz cs 0)::l)) (ht : σ.get t=some (.ref id 0))
  (hF : ∀ H',A9 H0 H' ((id,.cells sz cs k)::l)→EX F ((t,some (.FX (cs.take k) id))::σ) H') : EX F σ H:=by
 have h1:=o.h0;simp only at h1;refine D5 (σ1:=(t,some (.FX (cs.take k) id))::σ) ?_ (hF _ (o.put (.cells sz cs k)))
 intro g B w tm hW hE
 obtain ⟨q1,q2⟩:=hE t _ ht
 generalize hu : tm.getD t undef=u at q2
 cases q2 with
 | ref _ _ b cap CA =>
  have dT:=hW.uJ h1 CA (Nat.zero_le k) hk
  obtain ⟨p,hp,hr⟩:=hW.ob _ _ h1;rw [CA] at hp; cases hp;simp only [Ah] at hr
  obtain ⟨r1,r2,r3,r4,c,el,r5,r6,r7,r8⟩:=hr
  obtain ⟨g1,g2⟩:=dT.Gt b k c el (0,0) r5 fun i p o e hp TK=>by
   by_cases GC : i=id
   ·subst GC;rw [CA] at hp; cases hp
    simp at e;exact ⟨_,_,_,e.symm,Nat.le_refl _⟩
   ·exfalso
    cases p with
    | nil=>cases TK
    | GA b' cap' =>
     cases TK;exact dT.inj i id b cap' cap GC (by simp [e]) (by simp) hp CA
    | mp b' =>
     cases TK
     obtain ⟨q,hq,hr⟩:=dT.ob _ _ e;rw [hp] at hq; cases hq
     cases o with
     | cells sz' cs' f'=>simp [Ah] at hr
     | map ks vs =>
      simp only [Ah] at hr
      obtain ⟨_,_,es,clk,h5,_⟩:=hr;rw [r5] at h5; cases h5
  refine ⟨_,g1,g2,fun s x e=>?_⟩;simp only [Env.get] at e
  split at e
  ·rename_i hs; cases e; subst hs
   refine ⟨q1, ?_⟩;rw [hu]
   have CF : (cs.take k).length=k:=by rw [List.length_take]; omega
   refine .FX _ id b cap (fun i=>c.getD i undef) (g1.io _ _ CA) (fun i hi=>?_) (fun i hi=>?_)
   ·rw [CF] at hi;simp only [Gh.Gt]
    have : i<c.size:=by omega
    simp [hi,Array.getD,this]
   ·rw [CF] at hi
    have e2 : (cs.take k).getD i nv=cs.getD i nv:=by simp [Go.AW.gE,hi]
    rw [e2]; exact (r8 i (by omega)).mono g1
  ·obtain ⟨z1,z2⟩:=hE s x e; exact ⟨z1,z2.mono g1⟩
end Go.AW
namespace Go.AW
class Lq (n : Nat) {α : Type} (f : α→AV) : Prop where
 two : 2≤n
 agg : ∀ a,f a=.agg (f a).cells
 len : ∀ a,(f a).cells.length=n
 one : ∀ a c,c∈(f a).cells→c.one=true
section
variable {α : Type} {f : α→AV} {n : Nat} [h : Lq n f] {H0 H : AA} {l : List (Nat × AG)} {K : Ak}
theorem Mm (l : List α) : Cc n (l.map f):=by
 intro e he
 obtain ⟨a,_,rfl⟩:=List.mem_map.mp he;exact ⟨h.len a,h.one a⟩
theorem GF (l : List α) : (flat (l.map f)).length=l.length*n:=by
 induction l with
 | nil=>simp [flat]
 | cons a r ih=>simp only [List.map_cons,flat,List.length_append,h.len a,ih,List.length_cons,Nat.add_mul]; omega
theorem PI (n : Nat) [h : Lq n f] (l : List α) : ∀ c,c∈flat (l.map f)→c.one=true:=by
 induction l with
 | nil=>simp [flat]
 | cons a r ih =>
  intro c hc;simp only [List.map_cons,flat,List.mem_append] at hc;exact hc.elim (h.one a c) (ih c)
theorem Jw (l r : List AV) : flat (l++r)=flat l++flat r:=by
 induction l with
 | nil=>rfl
 | cons a s ih=>simp [flat,ih]
theorem NC (l : List α) : chunk n l.length (flat (l.map f))=l.map f:=by
 induction l with
 | nil=>rfl
 | cons a r ih =>
  have h2:=h.two;simp only [List.length_cons,List.map_cons,flat,chunk];rw [if_neg (by omega),List.take_left' (h.len a),List.drop_left' (h.len a),ih,← h.agg a]
theorem NI [Inhabited α] (l : List α) (k : IntKind) (i : Int) {d : Option Nat} {F : Env→AA→Prop} {σ : Env} {H : AA} :
  pE d F σ H (Gn n (some (mL f l)) (some (.int k i)))=((0≤i∧i.toNat<l.length)∧CR d F σ (.ptr (f (ix l i)).cells) H):=by
 simp only [mL,Gn,pE,pW,List.length_map,eq_iff_iff]
 constructor
 ·rintro ⟨⟨h1,h2,h3⟩,h4⟩;rw [getD_map l h2] at h4;exact ⟨⟨h1,h2⟩,h4⟩
 ·rintro ⟨⟨h1,h2⟩,h4⟩;rw [getD_map l h2];exact ⟨⟨h1,h2,h.len _⟩,h4⟩
theorem Kt (f : α→AV) (o : A9 H0 H l) (hk : ∀ id H',A9 H0 H' ((id,.cells n (flat (([] : List α).map f)) 0)::l)→K (.buf id ([] : List α).length) H') : DX 0 n [] K H :=
 AP o hk
theorem GS {id m : Nat} {out : List α} (a : α) {v : AV} (o : A9 H0 H ((id,.cells n (flat (out.map f)) 0)::l)) (hv : v=f a) (hn : m=out.length) (hm : (out.length+1)*n≤AN)
  (hk : ∀ Bz H',A9 H0 H' ((Bz,.cells n (flat ((out++[a]).map f)) 0)::l)→K (.buf Bz (out++[a]).length) H') :
  Co n (some (.buf id m)) (some (.sl [v])) K H:=by
 subst hv hn
 have h0:=o.h0;simp only at h0
 have h2:=h.two;simp only [Co,h0,C5,Fh]
 have hle : out.length+1≤AN:=Nat.le_trans (Nat.le_mul_of_pos_right _ (by omega)) hm;refine ⟨⟨trivial,GF out,hle,hm,Mm [a]⟩,fun Bz hn=>?_⟩
 have:=o.mv hn (.cells n (flat ((out++[a]).map f)) 0)
 have e : flat (out.map f)++flat [f a]=flat ((out++[a]).map f):=by rw [List.map_append,Jw]; rfl
 rw [e]
 have:=hk Bz _ this
 simpa using this
theorem Qr {t id m fr : Nat} {out : List α} {F : Env→AA→Prop} {σ : Env} (o : A9 H0 H ((id,.cells n (flat (out.map f)) fr)::l)) (hn : m=out.length)
  (hk : ∀ H',A9 H0 H' l→F ((t,some (mL f out))::σ) H') : Vq t id m F σ H (H.get id):=by
 subst hn
 have h0:=o.h0;simp only at h0
 have h2:=h.two;rw [h0];simp only [Vq];refine ⟨⟨GF out,by omega,PI n out⟩, ?_⟩;rw [NC];exact hk _ (o.put _).tl
end
open Go.Shf
@[go_sem] def TX (l : Lk) : AV:=.agg [iI l.i,iI l.j,iL l.left,iL l.right]
instance : Lq 4 TX:=⟨by omega,fun _=>rfl,fun _=>rfl,fun a c hc=>by
 simp only [TX,AV.cells,List.mem_cons,List.not_mem_nil,or_false] at hc
 rcases hc with rfl | rfl | rfl | rfl <;> rfl⟩
@[go_sem] theorem bu (l : List Lk) (k : IntKind) (i : Int) {d : Option Nat} {F : Env→AA→Prop} {σ : Env} {H : AA} :
  pE d F σ H (Gn 4 (some (mL TX l)) (some (.int k i)))=((0≤i∧i.toNat<l.length)∧CR d F σ (.ptr [iI (ix l i).i,iI (ix l i).j,iL (ix l i).left,iL (ix l i).right]) H):=NI (f:=TX) l k i
inductive ED {α : Type} (f : α→AV) : List AV→List (List α)→List (Nat × AG)→Prop
 | nil : ED f [] [] []
 | cons {p o : List (Nat × AG)} {X : AV} {Xs : List AV} {A : List α} {As : List (List α)} (h : Lp f p X A) (t : ED f Xs As o) : ED f (X::Xs) (A::As) (p++o)
theorem ED.rep {α : Type} (f : α→AV) : ∀ n,ED f (List.replicate n .A0) (List.replicate n []) []
 | 0=>.nil
 | n+1=>.cons (p:=[]) (.inl ⟨rfl,rfl,rfl⟩) (ED.rep f n)
theorem ED.len {α : Type} {f : α→AV} {Xs : List AV} {As : List (List α)} {o : List (Nat × AG)} (h : ED f Xs As o) : Xs.length=As.length:=by
 induction h with
 | nil=>rfl
 | cons _ _ ih=>simp [ih]
theorem ED.split {α : Type} {f : α→AV} {Xs : List AV} {As : List (List α)} {o : List (Nat × AG)} (h : ED f Xs As o) : ∀ i,i<Xs.length→∃ p r,o.Perm (p++r)∧Lp f p (Xs.getD i nv) (As.getD i []) ∧
  ∀ X A p',Lp f p' X A→∃ o',ED f (Xs.set i X) (As.set i A) o'∧o'.Perm (p'++r):=by
 induction h with
 | nil=>intro i hi; simp at hi
 | @cons p o X Xs A As h t ih =>
  intro i hi
  cases i with
  | zero =>
   refine ⟨p,o,.refl _,h,fun X' A' p' h'=>⟨p'++o,.cons h' t,.refl _⟩⟩
  | succ i =>
   obtain ⟨q,r,h1,h2,h3⟩:=ih i (by simpa using hi);refine ⟨q,p++r, ?_,by simpa using h2,fun X' A' p' h'=>?_⟩
   ·refine (List.Perm.append_left p h1).trans ?_;rw [← List.append_assoc,← List.append_assoc];exact List.Perm.append_right r List.perm_append_comm
   ·obtain ⟨o',k1,k2⟩:=h3 X' A' p' h';refine ⟨p++o',by simpa using ED.cons h k1, ?_⟩;refine (List.Perm.append_left p k2).trans ?_;rw [← List.append_assoc,← List.append_assoc];exact List.Perm.append_right r List.perm_append_comm
theorem EA {α : Type} [Inhabited α] {f : α→AV} [One f] {F : Env→AA→Prop} {σ : Env} {H0 : AA} {l : List (Nat × AG)} {id sz fr : Nat} {Xs : List AV} {As : List (List α)} {ob : List (Nat × AG)} (h : ED f Xs As ob) :
  ∀ (dn : List (List α)) (H : AA),A9 H0 H ((id,.cells sz (dn.map (mL f)++Xs) fr)::(ob++l)) →
  (∀ H',A9 H0 H' ((id,.cells sz ((dn++As).map (mL f)) fr)::l)→EX F σ H')→EX F σ H:=by
 induction h with
 | nil=>intro dn H o hk; exact hk H (by simpa using o)
 | @cons p ob X Xs A As h t ih =>
  intro dn H o hk
  have e : (dn.map (mL f)++(X::Xs)).set dn.length (mL f A)=(dn++[A]).map (mL f)++Xs:=by
   rw [List.set_append_right _ _ (by simp)]; simp
  have hX : (dn.map (mL f)++(X::Xs))[dn.length]? = some X:=by rw [List.getElem?_append_right (by simp)]; simp
  refine FK (f:=f) (A:=A) (X:=X) (l:=ob++l) dn.length ?_ hX fun H' o'=>ih (dn++[A]) H' (by rw [← e]; exact o') fun H2 o2=>hk H2 (by simpa using o2);refine CP.mk (p:=p) (o.perm ?_) h;rw [List.append_assoc];exact (List.perm_middle (a:=(id,AG.cells sz (dn.map (mL f)++(X::Xs)) fr)) (l₁:=p) (l₂:=ob++l)).symm
end Go.AW
namespace Go.AW
theorem kE {α : Type} [Inhabited α] {f : α→AV} [One f] {H0 H : AA} {l : List (Nat × AG)} {K : Ak} (a : α) {v : AV} (h : A9 H0 H l) (hv : v=f a)
  (hk : ∀ Bz H',A9 H0 H' ((Bz,.cells 1 ([a].map f) 0)::l)→K (.buf Bz [a].length) H') : Co 1 (some .Dg) (some (.sl [v])) K H:=by
 subst hv;simp only [Co,C5,YU];refine ⟨⟨by simp,by simp [AN],by simp [AN],Km a⟩,fun id hn=>?_⟩
 have:=hk id _ (h.new hn (.cells 1 ([a].map f) 0))
 simpa [flat,C7] using this
def oI {α : Type} (f : α→AV) (H0 H : AA) (l : List (Nat × AG)) (X : AV) (A : List α) : Prop :=
 (X=.Dg∧A=[]∧A9 H0 H l)∨∃ id,X=.buf id A.length∧A9 H0 H ((id,.cells 1 (A.map f) 0)::l)
theorem oI.app {α : Type} [Inhabited α] {f : α→AV} [One f] {H0 H : AA} {l : List (Nat × AG)} {K : Ak} {X : AV} {A : List α} (a : α) {v : AV} (h : oI f H0 H l X A) (hv : v=f a) (hm : A.length+1≤AN)
  (hk : ∀ Bz H',A9 H0 H' ((Bz,.cells 1 ((A++[a]).map f) 0)::l)→K (.buf Bz (A++[a]).length) H') : Co 1 (some X) (some (.sl [v])) K H:=by
 rcases h with ⟨rfl,rfl,o⟩ | ⟨id,rfl,o⟩
 ·exact kE a o hv hk
 ·exact Ae a o hv rfl hm hk
theorem cJ {α : Type} [Inhabited α] {f : α→AV} [One f] {F : Env→AA→Prop} {σ : Env} {H0 H : AA} {l : List (Nat × AG)} {X : AV} {A : List α} (t : Nat) (h : oI f H0 H l X A) (ht : σ.get t=some X)
  (hk : ∀ H',A9 H0 H' l→EX F ((t,some (mL f A))::σ) H') : EX F σ H:=by
 rcases h with ⟨rfl,rfl,o⟩ | ⟨id,rfl,o⟩
 ·refine D5 (σ1:=(t,some (mL f []))::σ) (fun g B w tm hW hE=>⟨g,.refl g,hW,fun s x e=>?_⟩) (hk H o);simp only [Env.get] at e
  split at e
  ·rename_i hs; cases e; subst hs
   obtain ⟨q1,q2⟩:=hE s _ ht;refine ⟨q1, ?_⟩
   generalize tm.getD s undef=u at q2
   cases q2; exact .slnil _ 0
  ·exact hE s x e
 ·have h0:=o.h0;simp only at h0
  have HY : ∀ c,c∈A.map f→c.one=true:=by
   intro c hc; obtain ⟨a,_,rfl⟩:=List.mem_map.mp hc; exact One.one a
  obtain ⟨σ',H',XR,rfl,rfl⟩:=YK (t:=t) (σ:=σ) (H:=H) (F:=fun σ' H'=>σ'=σ.put t (.sl (A.map f))∧H'=H.set id (.cells 1 (A.map f) (A.map f).length)) (by
   rw [ht];simp only [YI,h0,Vq];refine ⟨⟨by simp,by omega,HY⟩, ?_,trivial⟩;rw [Ez _ _ (by simp)])
  exact D5 XR (hk _ (o.put _).tl)
end Go.AW
namespace Go.AW
theorem CP.get {α : Type} {f : α→AV} {H0 H : AA} {l : List (Nat × AG)} {X : AV} {A : List α} (h : CP f H0 H l X A) {x : Nat × AG} (hx : x∈l) : H.get x.1=some x.2:=by
 obtain ⟨p,o,_⟩:=h.split;exact o.get x (List.mem_append_right _ hx)
theorem CP.Ds {α : Type} {f : α→AV} {H0 H : AA} {l : List (Nat × AG)} {X : AV} {A : List α} (h : CP f H0 H l X A) : Ds (some X)=some (True,.int .i64 A.length):=by
 rcases h with ⟨rfl,rfl,_⟩ | ⟨id,rfl,_⟩ <;> rfl
theorem WR {α : Type} (A C : List α) (m : Nat) (h : A.length<m) : A.take m++C.take (m - (A.take m).length)=(A++C).take m:=by
 have e : A.take m=A:=List.take_of_length_le (by omega);rw [List.take_append,e]
end Go.AW
namespace Go.AW
theorem Hv {α : Type} [Inhabited α] {f : α→AV} [One f] {H0 H : AA} {l : List (Nat × AG)} {K : Ak} {id i : Nat} {Xs : List AV} {As : List (List α)} {ob : List (Nat × AG)} (o : A9 H0 H ((id,.cells 1 Xs 0)::(ob++l)))
  (h : ED f Xs As ob) (hi : i<Xs.length) (y : α) {v : AV} (hv : v=f y) (hm : (As.getD i []).length+1≤AN)
  (hk : ∀ X' o' H',X'.one=true→ED f (Xs.set i X') (As.set i (As.getD i []++[y])) o'→A9 H0 H' ((id,.cells 1 Xs 0)::(o'++l))→K X' H') : Co 1 (some (Xs.getD i nv)) (some (.sl [v])) K H:=by
 obtain ⟨p,r,h1,h2,h3⟩:=h.split i hi
 have o1 : A9 H0 H (p++((id,.cells 1 Xs 0)::(r++l))):=by
  refine o.perm (List.Perm.trans ?_ (List.perm_middle (a:=(id,AG.cells 1 Xs 0)) (l₁:=p)).symm);refine List.Perm.cons _ ?_;rw [← List.append_assoc];exact List.Perm.append_right l h1
 refine (CP.mk o1 h2).app y hv hm fun Bz H' o2=>?_
 obtain ⟨o',k1,k2⟩:=h3 (.buf Bz (As.getD i []++[y]).length) (As.getD i []++[y]) [(Bz,.cells 1 ((As.getD i []++[y]).map f) 0)] (.inr ⟨Bz,rfl,rfl⟩);refine hk _ o' H' rfl k1 (o2.perm ?_);refine (List.Perm.swap _ _ _).trans (List.Perm.cons _ ?_);refine List.Perm.trans ?_ (List.Perm.append_right l k2.symm)
 simp
end Go.AW
namespace Go.AW
theorem A9.pull {H0 H : AA} (l1 : List (Nat × AG)) {a : Nat × AG} {l2 : List (Nat × AG)} (o : A9 H0 H (l1++a::l2)) : A9 H0 H (a::(l1++l2)):=o.perm List.perm_middle
end Go.AW
namespace Go.AW
theorem VZ {H : AA} {K : Ak} {id sz off fr n : Nat} {cs : List AV} (h : H.get id=some (.cells sz cs fr)) (h1 : off+n≤cs.length) (hk : K (.agg ((cs.drop off).take n)) H) : Jd (H.get id) (some n) off K H:=by
 rw [h,fJ];exact ⟨h1,hk⟩
end Go.AW
namespace Go.AW
open Go.Shf
@[go_sem] def Lh (l : Lk) : AV:=.agg [iI l.i,iI l.j,iL l.left]
instance : Lq 3 Lh:=⟨by omega,fun _=>rfl,fun _=>rfl,fun a c hc=>by
 simp only [Lh,AV.cells,List.mem_cons,List.not_mem_nil,or_false] at hc
 rcases hc with rfl | rfl | rfl <;> rfl⟩
@[go_sem] theorem dm (l : List Lk) (k : IntKind) (i : Int) {d : Option Nat} {F : Env→AA→Prop} {σ : Env} {H : AA} :
  pE d F σ H (Gn 3 (some (mL Lh l)) (some (.int k i)))=((0≤i∧i.toNat<l.length)∧CR d F σ (.ptr [iI (ix l i).i,iI (ix l i).j,iL (ix l i).left]) H):=NI (f:=Lh) l k i
def UT {α : Type} (n : Nat) (f : α→AV) (p : List (Nat × AG)) (X : AV) (A : List α) : Prop :=
 (p=[]∧X=.A0∧A=[])∨∃ id,p=[(id,.cells n (flat (A.map f)) 0)]∧X=.buf id A.length
inductive Hy {α : Type} (n : Nat) (f : α→AV) : List AV→List (List α)→List (Nat × AG)→Prop
 | nil : Hy n f [] [] []
 | cons {p o : List (Nat × AG)} {X : AV} {Xs : List AV} {A : List α} {As : List (List α)} (h : UT n f p X A) (t : Hy n f Xs As o) : Hy n f (X::Xs) (A::As) (p++o)
theorem Hy.len {α : Type} {n : Nat} {f : α→AV} {Xs : List AV} {As : List (List α)} {o : List (Nat × AG)} (h : Hy n f Xs As o) : Xs.length=As.length:=by
 induction h with
 | nil=>rfl
 | cons _ _ ih=>simp [ih]
theorem Hy.snoc {α : Type} {n : Nat} {f : α→AV} {Xs : List AV} {As : List (List α)} {o : List (Nat × AG)} (h : Hy n f Xs As o) {p : List (Nat × AG)} {X : AV} {A : List α} (hp : UT n f p X A) :
  Hy n f (Xs++[X]) (As++[A]) (o++p):=by
 induction h with
 | nil=>simpa using Hy.cons hp .nil
 | cons h _ ih=>rw [List.append_assoc]; exact .cons h ih
theorem Hy.split {α : Type} {n : Nat} {f : α→AV} {Xs : List AV} {As : List (List α)} {o : List (Nat × AG)} (h : Hy n f Xs As o) : ∀ i,i<Xs.length→∃ p r,o.Perm (p++r)∧UT n f p (Xs.getD i nv) (As.getD i []) ∧
  ∀ X A p',UT n f p' X A→∃ o',Hy n f (Xs.set i X) (As.set i A) o'∧o'.Perm (p'++r):=by
 induction h with
 | nil=>intro i hi; simp at hi
 | @cons p o X Xs A As h t ih =>
  intro i hi
  cases i with
  | zero=>exact ⟨p,o,.refl _,h,fun X' A' p' h'=>⟨p'++o,.cons h' t,.refl _⟩⟩
  | succ i =>
   obtain ⟨q,r,h1,h2,h3⟩:=ih i (by simpa using hi);refine ⟨q,p++r, ?_,by simpa using h2,fun X' A' p' h'=>?_⟩
   ·refine (List.Perm.append_left p h1).trans ?_;rw [← List.append_assoc,← List.append_assoc];exact List.Perm.append_right r List.perm_append_comm
   ·obtain ⟨o',k1,k2⟩:=h3 X' A' p' h';refine ⟨p++o',by simpa using Hy.cons h k1, ?_⟩;refine (List.Perm.append_left p k2).trans ?_;rw [← List.append_assoc,← List.append_assoc];exact List.Perm.append_right r List.perm_append_comm
section
variable {α : Type} {n : Nat} {f : α→AV} [Lq n f] {H0 H : AA} {l p : List (Nat × AG)} {K : Ak}
theorem UT.app {X : AV} {A : List α} (hp : UT n f p X A) (o : A9 H0 H (p++l)) (a : α) {v : AV} (hv : v=f a) (hm : (A.length+1)*n≤AN)
  (hk : ∀ Bz H',A9 H0 H' ((Bz,.cells n (flat ((A++[a]).map f)) 0)::l)→K (.buf Bz (A++[a]).length) H') : Co n (some X) (some (.sl [v])) K H:=by
 rcases hp with ⟨rfl,rfl,rfl⟩ | ⟨id,rfl,rfl⟩
 ·subst hv
  have h2:=Lq.two (n:=n) (f:=f);simp only [Co,C5,RN]
  have hm' : n≤AN:=by simpa using hm
  refine ⟨⟨by simp [AN],by simpa using hm',Mm [a]⟩,fun id hn=>?_⟩;exact hk id _ (A9.new o hn (.cells n (flat (([]++[a]).map f)) 0))
 ·exact GS a o hv rfl hm hk
end
theorem Ao.rO {g : Gh} {B : Nat} {H : AA} {w : World} (h : Ao g B H w) {i : Nat} {ks vs vs' : List AV} (hi : H.get i=some (.map ks vs)) (hl : vs'.length=vs.length)
  (hv : ∀ k v,k<vs.length→Aa g (vs.getD k nv) v→Aa g (vs'.getD k nv) v) : Ao g B (H.set i (.map ks vs')) w:=by
 have hs : ∀ j,((H.set i (.map ks vs')).get j).isSome→(H.get j).isSome:=by
  intro j hj
  by_cases e : j=i
  ·subst e; simp [hi]
  ·rwa [AA.Aw _ _ e] at hj
 constructor
 ·exact h.fz
 ·exact h.fm
 ·intro j o e
  by_cases hj : j=i
  ·subst hj
   simp at e; subst e
   obtain ⟨p,hp,hr⟩:=h.ob _ _ hi;refine ⟨p,hp, ?_⟩
   cases p with
   | nil=>simp [Ah] at hr
   | GA b cap=>simp [Ah] at hr
   | mp b =>
    simp only [Ah] at hr ⊢
    obtain ⟨h1,h2,es,clk,h3,h4,h5,h6,h7⟩:=hr;exact ⟨h1,h2,es,clk,h3,h4,by omega,h6,fun k hk=>hv k _ (by omega) (h7 k hk)⟩
  ·rw [AA.Aw _ _ hj] at e; exact h.ob j o e
 ·intro a b x y z n e1 e2; exact h.inj a b x y z n (hs a e1) (hs b e2)
 ·intro a b x n e1 e2; exact h.G9 a b x n (hs a e1) (hs b e2)
 ·exact h.base
 ·exact h.fin
theorem Ao.jZ {α : Type} {n : Nat} {f : α→AV} [h2 : Lq n f] {g : Gh} {B : Nat} {H : AA} {w : World} (h : Ao g B H w) {i fr : Nat} {A : List α} (hi : H.get i=some (.cells n (flat (A.map f)) fr)) :
  ∃ g',g.le g'∧Ao g' B (H.set i (.cells n (flat (A.map f)) (flat (A.map f)).length)) w∧∀ g2 v,g'.le g2→Aa g2 (.buf i A.length) v→Aa g2 (mL f A) v:=by
 have two:=h2.two
 have HB:=GF (f:=f) (n:=n) A
 obtain ⟨p,hp,hr⟩:=h.ob i _ hi
 cases p with
 | nil =>
  simp only [Ah] at hr
  have hA : A=[]:=by
   cases A with
   | nil=>rfl
   | cons a r =>
    exfalso
    rw [hr.1] at HB;simp only [List.length_nil,List.length_cons,Nat.add_mul] at HB;omega
  subst hA
  have h0:=hr.2;subst h0;refine ⟨g,.refl g,h.sub ?_,fun g2 v hg hv=>?_⟩
  ·intro k o e
   by_cases hk : k=i
   ·subst hk; simp at e; subst e; exact hi
   ·rwa [AA.Aw _ _ hk] at e
  ·cases hv with
   | CN _ _=>exact .slnil none 0
   | buf _ _ b cap _=>exact .slnil _ _
 | mp b=>simp [Ah] at hr
 | GA b cap =>
  obtain ⟨c,g',r1,r2,r3,r4,r5,r6⟩:=h.ZI i b cap n _ fr hi hp
  have iw : (flat (A.map f)).length≤AN:=by simp only [Ah] at hr; exact hr.2.2.1
  have hcp : A.length≤cap:=by
   simp only [Ah] at hr
   obtain ⟨_,_,_,_,c0,el0,_,h6,h7,_⟩:=hr;rw [h6,HB] at h7;exact Nat.le_of_mul_le_mul_right h7 (by omega)
  refine ⟨g',r1,r2,fun g2 v hg hv=>?_⟩
  have CA:=hg.io _ _ (r1.io _ _ hp)
  generalize hn : A.length=m at *
  cases hv with
  | CN _ hq=>rw [hq] at CA; cases CA
  | buf _ _ b' cap' hq =>
   rw [hq] at CA; cases CA
   have hl : (A.map f).length=m:=by simp [hn]
   have tA:=NC (n:=n) (f:=f) A
   have HY:=PI (f:=f) n A
   have CF : ∀ i j,i<m→j<n→i*n+j<(flat (A.map f)).length:=by
    intro i j hi hj;rw [HB]
    have : (i+1)*n≤m*n:=Nat.mul_le_mul_right _ hi;rw [Nat.add_mul] at this; omega
   have JA : ∀ i,i<m→((A.map f).getD i nv).cells.length=n∧∀ j,j<n→((A.map f).getD i nv).cells.getD j nv=(flat (A.map f)).getD (i*n+j) nv:=by
    intro i hi
    have:=G0 (sz:=n) (by omega) A.length (flat (A.map f)) i (by omega) (by rw [HB,hn]; exact Nat.le_refl _) HY;rw [tA] at this; exact this
   refine hl ▸ Aa.sl (A.map f) b 0 n cap (fun i=>c.getD i undef) ?_ (by omega) (fun i hi=>?_) (fun i j hi hj=>?_) (fun i j hi hj=>?_)
   ·rw [hl]
    have : m*1≤m*n:=Nat.mul_le_mul_left _ (by omega);omega
   ·rw [hl] at hi; exact (JA i hi).1
   ·rw [hl] at hi;rw [Nat.zero_add]; exact hg.fz _ _ _ (r5 _ (CF i j hi hj))
   ·rw [hl] at hi;rw [(JA i hi).2 j hj];exact (r6 _ (CF i j hi hj)).mono hg
theorem j5 {α : Type} {n : Nat} {f : α→AV} [Lq n f] {F : Env→AA→Prop} {σ : Env} {H0 : AA} {l : List (Nat × AG)} {id : Nat} {ks Xs : List AV} {As : List (List α)} {ob : List (Nat × AG)} (h : Hy n f Xs As ob) :
  ∀ (dn : List (List α)) (H : AA),A9 H0 H ((id,.map ks (dn.map (mL f)++Xs))::(ob++l)) →
  (∀ H',A9 H0 H' ((id,.map ks ((dn++As).map (mL f)))::l)→EX F σ H')→EX F σ H:=by
 induction h with
 | nil=>intro dn H o hk; exact hk H (by simpa using o)
 | @cons p ob X Xs A As h t ih =>
  intro dn H o hk
  have Iv : (dn.map (mL f)++(X::Xs)).set dn.length (mL f A)=(dn++[A]).map (mL f)++Xs:=by
   rw [List.set_append_right _ _ (by simp)]; simp
  have hlen : (dn.map (mL f)++(X::Xs)).length=dn.length+Xs.length+1:=by simp; omega
  have hX : (dn.map (mL f)++(X::Xs)).getD dn.length nv=X:=by
   rw [Go.AW.gE,List.getElem?_append_right (by simp)]; simp
  have key : ∀ {g : Gh} {w : World} {B : Nat} {H : AA},Ao g B H w→H.get id=some (.map ks (dn.map (mL f)++(X::Xs)))→(∀ v,Aa g X v→Aa g (mL f A) v) →
    Ao g B (H.set id (.map ks ((dn++[A]).map (mL f)++Xs))) w:=by
   intro g w B H hW hg hv;rw [← Iv];refine hW.rO hg (by simp) fun j v hj zo=>?_
   by_cases e : j=dn.length
   ·subst e;rw [hX] at zo
    have e2 : ((dn.map (mL f)++(X::Xs)).set dn.length (mL f A)).getD dn.length nv=mL f A:=by simp [Go.AW.gE]
    rw [e2]; exact hv v zo
   ·have e2 : ((dn.map (mL f)++(X::Xs)).set dn.length (mL f A)).getD j nv=(dn.map (mL f)++(X::Xs)).getD j nv:=by
     rw [Go.AW.gE,List.getElem?_set_ne (by omega),← Go.AW.gE]
    rw [e2]; exact zo
  rcases h with ⟨rfl,rfl,rfl⟩ | ⟨GD,rfl,rfl⟩
  ·have o':=o.put (.map ks ((dn++[[]]).map (mL f)++Xs));refine D5 (σ1:=σ) (fun g B w tm hW hE=>⟨g,.refl g,key hW o.h0 fun v hv=>?_,hE⟩) (ih (dn++[[]]) _ o' fun H2 o2=>hk H2 (by simpa using o2))
   cases hv; exact .slnil none 0
  ·have h1:=o.h0
   have h2:=o.tl.h0;simp only at h1 h2
   have Bg : id≠GD:=by
    have:=o.nd;simp only [List.map_cons,List.cons_append,List.nodup_cons,List.mem_cons,not_or] at this;exact this.1.1
   have o':=((o.swap.put (.cells n (flat (A.map f)) (flat (A.map f)).length)).tl).put (.map ks ((dn++[A]).map (mL f)++Xs));refine D5 (σ1:=σ) (fun g B w tm hW hE=>?_) (ih (dn++[A]) _ o' fun H2 o2=>hk H2 (by simpa using o2))
   obtain ⟨g',q1,q2,q3⟩:=hW.jZ h2;exact ⟨g',q1,key q2 (by rw [AA.Aw _ _ Bg]; exact h1) fun v hv=>q3 g' v (.refl _) hv,hE.mono q1⟩
end Go.AW
namespace Go.AW
theorem A9.fI {H0 H : AA} (q : List (Nat × AG)) {a b : Nat × AG} {l : List (Nat × AG)} (o : A9 H0 H (q++a::b::l)) : A9 H0 H (b::(q++a::l)) :=
 o.perm ((List.Perm.append_left q (List.Perm.swap _ _ _)).trans List.perm_middle)
theorem A9.fT {H0 H : AA} (q : List (Nat × AG)) {a b : Nat × AG} {l : List (Nat × AG)} (o : A9 H0 H (b::(q++a::l))) : A9 H0 H (q++a::b::l) :=
 o.perm (List.perm_middle.symm.trans (List.Perm.append_left q (List.Perm.swap _ _ _)))
theorem Q5 : ∀ {ks : List Int} {vs : List AV},vs.length=ks.length→∀ i,Hw (iI i) (ks.map iI) vs=vs[ks.idxOf i]?
 | [],vs,h,i=>by
  have : vs=[]:=List.eq_nil_of_length_eq_zero h;subst this; rfl
 | k::ks,[],h,i=>by simp at h
 | k::ks,v::vs,h,i=>by
  simp only [List.map_cons,Hw,AV.QH,decide_eq_true_eq,List.idxOf_cons]
  by_cases e : i=k
  ·subst e; simp
  ·have h2 : (k == i)=false:=by simpa using fun h=>e h.symm
   rw [if_neg e,Q5 (by simpa using h),h2]; simp
theorem QY (x : AV) (i : Int) : ∀ {ks : List Int} {vs : List AV},vs.length=ks.length→HT (iI i) x (ks.map iI) vs=if i∈ks then (ks.map iI,vs.set (ks.idxOf i) x) else ((ks++[i]).map iI,vs++[x])
 | [],vs,h=>by
  have : vs=[]:=List.eq_nil_of_length_eq_zero h;subst this; rfl
 | k::ks,[],h=>by simp at h
 | k::ks,v::vs,h=>by
  simp only [List.map_cons,HT,AV.QH,decide_eq_true_eq,List.idxOf_cons,List.mem_cons]
  by_cases e : i=k
  ·subst e; simp
  ·have h2 : (k == i)=false:=by simpa using fun h=>e h.symm
   rw [if_neg e,QY x i (by simpa using h),h2]
   by_cases h3 : i∈ks
   ·simp [h3]
   ·simp [h3,e]
theorem Jo (i : Int) (ks : List Int) : KH 0 (iI i) (ks.map iI):=by
 refine ⟨rfl,fun a ha=>?_⟩
 obtain ⟨k,_,rfl⟩:=List.mem_map.mp ha
 rfl
@[go_sem] theorem lkR_f (z : AV) (r : Option AV) : eJ false z r=r.getD z:=rfl
end Go.AW
namespace Go.AW
theorem A9.del {H0 H : AA} {l : List (Nat × AG)} {id : Nat} {o : AG} (h : A9 H0 H ((id,o)::l)) : A9 H0 (H.del id) l:=by
 have OO:=h.nd;simp only [List.map_cons,List.nodup_cons] at OO
 have Bg : ∀ x,x∈l→x.1≠id:=fun x hx e=>OO.1 (e ▸ List.mem_map_of_mem hx)
 have ho:=h.out (id,o) (by simp);refine ⟨fun i x hx=>?_,fun x hx=>?_,OO.2,fun x hx=>h.out x (by simp [hx])⟩
 ·rw [AA.Bd]; exact h.sub i x hx
  rintro rfl; simp only at ho; rw [ho] at hx; cases hx
 ·rw [AA.Bd _ (Bg x hx)]; exact h.get x (by simp [hx])
end Go.AW
namespace Go.AW
open Go.RowKit
abbrev Ob:=List (Nat × AG)
section
variable {α : Type} {O : Ob→AV→α→Prop} {f : α→AV} {P : Program} {B : Nat} {fn : FuncId} {args es : List AV} {a : α}
structure ID (P : Program) (B : Nat) (fn : FuncId) (args : List AV) (O : Ob→AV→Prop) : Prop where
 run : ∀ H,B9 P B fn args H fun r H'=>∃ p,O p r∧A9 H H' p
end
end Go.AW
