/- Objects of ours. -/
import Derived.Test.YtnpimpkmgmnhhaaGreatA3
set_option linter.unusedVariables false
set_option linter.unusedSimpArgs false
set_option linter.unusedSectionVars false
namespace Go.AW
@[go_sem] theorem awp_wk {P : Program} {B : Nat} {Q : AQ} {σ : Env} {H : Heap} (c : SC) : awp P B (.wk c) Q σ H=wkW (awp P B c Q) σ H:=rfl
theorem wkW_done {F : Env→Heap→Prop} {σ : Env} {H : Heap} (h : F σ H) : wkW F σ H:=⟨σ,H,Wk.refl σ H,h⟩
theorem wkW_step {F : Env→Heap→Prop} {σ σ1 : Env} {H H1 : Heap} (h : Wk σ H σ1 H1) (k : wkW F σ1 H1) : wkW F σ H:=by
 obtain ⟨σ2,H2,h2,k⟩:=k;refine ⟨σ2,H2,fun g B w tm a b=>?_,k⟩
 obtain ⟨g1,q1,q2,q3⟩:=h g B w tm a b
 obtain ⟨g2,r1,r2,r3⟩:=h2 g1 B w tm q2 q3;exact ⟨g2,q1.trans r1,r2,r3⟩
theorem WRel.recell {g : Gh} {B : Nat} {H : Heap} {w : World} (h : WRel g B H w) {i sz f : Nat} {cs cs' : List AV} (hi : H.get i=some (.cells sz cs f)) (hl : cs'.length=cs.length)
  (hv : ∀ k v,k<cs.length→VRel g (cs.getD k nv) v→VRel g (cs'.getD k nv) v) : WRel g B (H.set i (.cells sz cs' f)) w:=by
 have hs : ∀ j,((H.set i (.cells sz cs' f)).get j).isSome→(H.get j).isSome:=by
  intro j hj
  by_cases e : j=i
  ·subst e; simp [hi]
  ·rwa [Heap.get_set_ne _ _ e] at hj
 constructor
 ·exact h.fz
 ·exact h.fm
 ·intro j o e
  by_cases hj : j=i
  ·subst hj
   simp at e; subst e
   obtain ⟨p,hp,hr⟩:=h.ob _ _ hi;refine ⟨p,hp, ?_⟩
   cases p with
   | nil =>
    simp only [ObjRel] at hr ⊢;refine ⟨?_,hr.2⟩;rw [hr.1] at hl; exact List.eq_nil_of_length_eq_zero hl
   | mp b=>simp [ObjRel] at hr
   | blk b cap =>
    simp only [ObjRel] at hr ⊢
    obtain ⟨h1,h2,h3,h4,c,el,h5,h6,h7,h8⟩:=hr;exact ⟨h1,by omega,by omega,h4,c,el,h5,h6,by omega,fun k hk=>hv k _ (by omega) (h8 k (by omega))⟩
  ·rw [Heap.get_set_ne _ _ hj] at e; exact h.ob j o e
 ·intro a b x y z n e1 e2; exact h.inj a b x y z n (hs a e1) (hs b e2)
 ·intro a b x n e1 e2; exact h.injm a b x n (hs a e1) (hs b e2)
 ·exact h.base
 ·exact h.fin
theorem WRel.gaveV {α : Type} [Inhabited α] {f : α→AV} [One f] {g : Gh} {B : Nat} {H : Heap} {w : World} (h : WRel g B H w) {i fr : Nat} {A : List α} (hi : H.get i=some (.cells 1 (A.map f) fr)) :
  ∃ g',g.le g'∧WRel g' B (H.set i (.cells 1 (A.map f) A.length)) w∧∀ g2 v,g'.le g2→VRel g2 (.buf i A.length) v→VRel g2 (mL f A) v:=by
 obtain ⟨p,hp,hr⟩:=h.ob i _ hi
 cases p with
 | nil =>
  simp only [ObjRel] at hr
  have hA : A=[]:=List.map_eq_nil_iff.mp hr.1;subst hA
  have h0:=hr.2;subst h0;refine ⟨g,.refl g,h.sub ?_,fun g2 v hg hv=>?_⟩
  ·intro k o e
   by_cases hk : k=i
   ·subst hk; simp at e; subst e; exact hi
   ·rwa [Heap.get_set_ne _ _ hk] at e
  ·cases hv with
   | bufnil _ _=>exact .slnil none 0
   | buf _ _ b cap _=>exact .slnil _ _
 | mp b=>simp [ObjRel] at hr
 | blk b cap =>
  obtain ⟨c,g',r1,r2,r3,r4,r5,r6⟩:=h.give i b cap 1 _ fr hi hp
  have hmx : (A.map f).length≤maxL:=by simp only [ObjRel] at hr; exact hr.2.2.1
  rw [List.length_map] at *;refine ⟨g',r1,r2,fun g2 v hg hv=>?_⟩
  have hio:=hg.io _ _ (r1.io _ _ hp)
  generalize hn : A.length=n at *
  cases hv with
  | bufnil _ hq=>rw [hq] at hio; cases hio
  | buf _ _ b' cap' hq =>
   rw [hq] at hio; cases hio
   have key : ∀ i j,i<n→j<1→i*1+j=i:=by intro i j _ hj; omega
   have hl : (A.map f).length=n:=by simp [hn]
   refine hl ▸ VRel.sl (A.map f) b 0 1 cap (fun i=>c.getD i undef) (by omega) (by omega) (fun i hi=>?_) (fun i j hi hj=>?_) (fun i j hi hj=>?_)
   ·rw [getD_map A (by omega),one_cells]; rfl
   ·rw [key i j (by omega) hj,Nat.zero_add]; exact hg.fz _ _ _ (r5 i (by omega))
   ·rw [key i j (by omega) hj,getD_map A (by omega),one_cells]
    obtain rfl : j=0:=by omega
    have:=r6 i (by omega);rw [getD_map A (by omega)] at this;exact this.mono hg
theorem wk_cell {α : Type} [Inhabited α] {f : α→AV} [One f] {F : Env→Heap→Prop} {σ : Env} {H0 H : Heap} {l : List (Nat × MObj)} {id sz fr id2 n fr2 : Nat} {cs : List AV} {A : List α} (k : Nat)
  (o : Owns H0 H ((id,.cells sz cs fr)::(id2,.cells 1 (A.map f) fr2)::l)) (hc : cs[k]? = some (.buf id2 n)) (hn : n=A.length)
  (hk : ∀ H',Owns H0 H' ((id,.cells sz (cs.set k (mL f A)) fr)::l)→wkW F σ H') : wkW F σ H:=by
 subst hn
 have h1:=o.h0
 have h2:=o.tl.h0;simp only at h1 h2
 have hne : id≠id2:=by
  have:=o.nd;simp only [List.map_cons,List.nodup_cons,List.mem_cons,not_or] at this;exact this.1.1
 have o2:=((o.swap.put (.cells 1 (A.map f) A.length)).tl).put (.cells sz (cs.set k (mL f A)) fr);refine wkW_step (σ1:=σ) ?_ (hk _ o2)
 intro g B w tm hW hE
 obtain ⟨g',q1,q2,q3⟩:=hW.gaveV h2;refine ⟨g',q1, ?_,hE.mono q1⟩;refine q2.recell (by rw [Heap.get_set_ne _ _ hne]; exact h1) (by simp) fun j v hj hv=>?_
 by_cases e : j=k
 ·subst e
  have e1 : cs.getD j nv=.buf id2 A.length:=by rw [List.getD_eq_getElem?_getD,hc]; rfl
  have e2 : (cs.set j (mL f A)).getD j nv=mL f A:=by simp [List.getD_eq_getElem?_getD,hj]
  rw [e1] at hv;rw [e2]; exact q3 g' v (.refl _) hv
 ·have e2 : (cs.set k (mL f A)).getD j nv=cs.getD j nv:=by
   rw [List.getD_eq_getElem?_getD,List.getElem?_set_ne (by omega),← List.getD_eq_getElem?_getD]
  rw [e2]; exact hv
theorem wk_nest {α : Type} [Inhabited α] {f : α→AV} [One f] {F : Env→Heap→Prop} {σ : Env} {H0 : Heap} {l : List (Nat × MObj)} {id sz fr : Nat} : ∀ (ms : List (Nat × List α)) (dn : List (List α)) (H : Heap),
  Owns H0 H ((id,.cells sz (dn.map (mL f)++ms.map fun m=>.buf m.1 m.2.length) fr)::((ms.map fun m=>(m.1,.cells 1 (m.2.map f) 0))++l)) →
  (∀ H',Owns H0 H' ((id,.cells sz ((dn++ms.map Prod.snd).map (mL f)) fr)::l)→wkW F σ H')→wkW F σ H
 | [],dn,H,o,hk=>hk H (by simpa using o)
 | (i,A)::ms,dn,H,o,hk=>by
  refine wk_cell (id2:=i) (A:=A) (f:=f) dn.length o ?_ rfl fun H' o'=>?_
  ·rw [List.getElem?_append_right (by simp)]; simp
  ·refine wk_nest (f:=f) (H0:=H0) (l:=l) (id:=id) (sz:=sz) (fr:=fr) ms (dn++[A]) H' ?_ fun H2 o2=>hk H2 ?_
   ·have e : (dn.map (mL f)++(AV.buf i A.length::ms.map fun m=>.buf m.1 m.2.length)).set dn.length (mL f A)=(dn++[A]).map (mL f)++ms.map fun m=>.buf m.1 m.2.length:=by
     rw [List.set_append_right _ _ (by simp)]; simp
    rw [← e]; exact o'
   ·simpa using o2
theorem wk_ref {F : Env→Heap→Prop} {σ : Env} {H0 H : Heap} {l : List (Nat × MObj)} {id sz fr : Nat} {cs : List AV} (t : Nat) (o : Owns H0 H ((id,.cells sz cs fr)::l)) (ht : σ.get t=some (.ref id 0))
  (hk : ∀ H',Owns H0 H' l→wkW F ((t,some (.ptr cs))::σ) H') : wkW F σ H:=by
 have h1:=o.h0;simp only at h1;refine wkW_step (σ1:=(t,some (.ptr cs))::σ) ?_ (hk _ (o.put (.cells sz cs cs.length)).tl)
 intro g B w tm hW hE
 obtain ⟨q1,q2⟩:=hE t _ ht
 generalize hu : tm.getD t undef=u at q2
 cases q2 with
 | ref _ _ b cap hio =>
  obtain ⟨c,g',r1,r2,r3,r4,r5,r6⟩:=hW.give id b cap sz cs fr h1 hio;refine ⟨g',r1,r2,fun s x e=>?_⟩;simp only [Env.get] at e
  split at e
  ·rename_i hs; cases e; subst hs
   refine ⟨q1, ?_⟩;rw [hu];exact .ptr cs b 0 (fun k=>c.getD k undef) (fun i hi=>by rw [Nat.zero_add]; exact r5 i hi) r6
  ·obtain ⟨z1,z2⟩:=hE s x e; exact ⟨z1,z2.mono r1⟩
section
variable {H0 H : Heap} {l : List (Nat × MObj)} {K : Kont}
theorem st_cells {id sz off n : Nat} {cs vs : List AV} (o : Owns H0 H ((id,.cells sz cs 0)::l)) (h1 : off+n≤cs.length) (h2 : vs.length=n) (h3 : ∀ c,c∈vs→c.one=true)
  (hk : ∀ H',Owns H0 H' ((id,.cells sz (wr cs off vs) 0)::l)→K nv H') : st1 (H.get id) id off n vs K H:=by
 have h0:=o.h0;simp only at h0;rw [h0,st1_c];exact ⟨⟨by omega,h1,h2,h3⟩,hk _ (o.put _)⟩
theorem stc {id sz off n : Nat} {cs vs : List AV} (o : Owns H0 H ((id,.cells sz cs 0)::l))
 (hk : ∀ H',Owns H0 H' ((id,.cells sz (wr cs off vs) 0)::l)→K nv H') (h1 : off+n≤cs.length:=by simp) (h2 : vs.length=n:=by (try simp only [go_sem]); (try simp)) (h3 : ∀ c,c∈vs→c.one=true:=by first | (simp only [go_sem]; done) | ((try simp only [go_sem]); simp [AV.one,one_mL])) : st1 (H.get id) id off n vs K H :=
 st_cells o h1 h2 h3 hk
theorem rd_cells {id sz off fr : Nat} {cs : List AV} (o : Owns H0 H ((id,.cells sz cs fr)::l)) (h1 : off<cs.length) (hk : K (cs.getD off nv) H) : rd1 (H.get id) none off K H:=by
 have h0:=o.h0;simp only at h0;rw [h0,rd1_1];exact ⟨h1,hk⟩
theorem rd_celln {id sz off fr n : Nat} {cs : List AV} (o : Owns H0 H ((id,.cells sz cs fr)::l)) (h1 : off+n≤cs.length) (hk : K (.agg ((cs.drop off).take n)) H) : rd1 (H.get id) (some n) off K H:=by
 have h0:=o.h0;simp only at h0;rw [h0,rd1_n];exact ⟨h1,hk⟩
end
def LsO {α : Type} (f : α→AV) (H0 H : Heap) (l : List (Nat × MObj)) (X : AV) (A : List α) : Prop :=
 (X=.nilsl∧A=[]∧Owns H0 H l)∨∃ id,X=.buf id A.length∧Owns H0 H ((id,.cells 1 (A.map f) 0)::l)
section
variable {α : Type} [Inhabited α] {f : α→AV} [One f] {H0 H : Heap} {l : List (Nat × MObj)} {K : Kont}
theorem LsO.app {X : AV} {A : List α} (a : α) {v : AV} (h : LsO f H0 H l X A) (hv : v=f a) (hm : A.length+1≤maxL)
  (hk : ∀ id' H',Owns H0 H' ((id',.cells 1 ((A++[a]).map f) 0)::l)→K (.buf id' (A++[a]).length) H') : appW 1 (some X) (some (.sl [v])) K H:=by
 rcases h with ⟨rfl,rfl,o⟩ | ⟨id,rfl,o⟩
 ·exact nil_own a o hv hk
 ·exact app_own a o hv rfl hm hk
end
theorem wk_nil {F : Env→Heap→Prop} {σ : Env} {H0 H : Heap} {l : List (Nat × MObj)} {id sz fr : Nat} {cs : List AV} (k : Nat)
  (o : Owns H0 H ((id,.cells sz cs fr)::l)) (hc : cs[k]? = some .nilsl) (hk : ∀ H',Owns H0 H' ((id,.cells sz (cs.set k (.sl [])) fr)::l)→wkW F σ H') : wkW F σ H:=by
 have h1:=o.h0;simp only at h1;refine wkW_step (σ1:=σ) ?_ (hk _ (o.put (.cells sz (cs.set k (.sl [])) fr)))
 intro g B w tm hW hE;refine ⟨g,.refl g,hW.recell h1 (by simp) fun j v hj hv=>?_,hE⟩
 by_cases e : j=k
 ·subst e
  have e1 : cs.getD j nv=.nilsl:=by rw [List.getD_eq_getElem?_getD,hc]; rfl
  have e2 : (cs.set j (.sl [])).getD j nv=.sl []:=by simp [List.getD_eq_getElem?_getD,hj]
  rw [e1] at hv; rw [e2]
  cases hv; exact .slnil none 0
 ·have e2 : (cs.set k (.sl [])).getD j nv=cs.getD j nv:=by
   rw [List.getD_eq_getElem?_getD,List.getElem?_set_ne (by omega),← List.getD_eq_getElem?_getD]
  rw [e2]; exact hv
theorem wk_ls {α : Type} [Inhabited α] {f : α→AV} [One f] {F : Env→Heap→Prop} {σ : Env} {H0 H : Heap} {l : List (Nat × MObj)} {id sz fr : Nat} {cs : List AV} {X : AV} {A : List α} (k : Nat)
  (o : LsO f H0 H ((id,.cells sz cs fr)::l) X A) (hc : cs[k]? = some X)
  (hk : ∀ H',Owns H0 H' ((id,.cells sz (cs.set k (mL f A)) fr)::l)→wkW F σ H') : wkW F σ H:=by
 rcases o with ⟨rfl,rfl,o⟩ | ⟨id2,rfl,o⟩
 ·exact wk_nil k o hc hk
 ·exact wk_cell k o.swap hc rfl hk
theorem rd_get {H : Heap} {K : Kont} {id sz off fr : Nat} {cs : List AV} (h : H.get id=some (.cells sz cs fr)) (h1 : off<cs.length) (hk : K (cs.getD off nv) H) : rd1 (H.get id) none off K H:=by
 rw [h,rd1_1];exact ⟨h1,hk⟩
def LsP {α : Type} (f : α→AV) (p : List (Nat × MObj)) (X : AV) (A : List α) : Prop :=
 (p=[]∧X=.nilsl∧A=[])∨∃ id,p=[(id,.cells 1 (A.map f) 0)]∧X=.buf id A.length
theorem LsO.mk {α : Type} {f : α→AV} {H0 H : Heap} {l p : List (Nat × MObj)} {X : AV} {A : List α} (o : Owns H0 H (p++l)) (h : LsP f p X A) : LsO f H0 H l X A:=by
 rcases h with ⟨rfl,h1,h2⟩ | ⟨id,rfl,h1⟩
 ·exact .inl ⟨h1,h2,o⟩
 ·exact .inr ⟨id,h1,o⟩
end Go.AW
namespace Go.AW
def bufE {α : Type} (m : Nat × List α) : AV:=.buf m.1 m.2.length
instance {α : Type} : One (bufE (α:=α)):=⟨fun _=>rfl,fun _=>rfl⟩
def inner {α : Type} (f : α→AV) (ms : List (Nat × List α)) : List (Nat × MObj):=ms.map fun m=>(m.1,.cells 1 (m.2.map f) 0)
@[go_sem] theorem idx_bufE {α : Type} (k : IntKind) (i : Int) {d : Option Nat} {F : Env→Heap→Prop} {σ : Env} {H : Heap} (m : Nat × List α) :
  pE d F σ H (idxE 1 (some (bufE m)) (some (.int k i)))=((0≤i∧i.toNat<m.2.length)∧putK d F σ (.ref m.1 i.toNat) H):=by
 simp [bufE,idxE,pE,pW]
@[go_sem] theorem lenE_bufE {α : Type} (m : Nat × List α) : lenE (some (bufE m))=some (True,.int .i64 m.2.length):=rfl
section
variable {α : Type} [Inhabited α] {f : α→AV} [One f] {H0 H : Heap} {l : List (Nat × MObj)} {K : Kont}
theorem Owns.inner_get {id fr : Nat} {ms : List (Nat × List α)} (o : Owns H0 H ((id,.cells 1 (ms.map bufE) fr)::(inner f ms++l))) {x : Nat} (hx : x<ms.length) :
  H.get (ms.getD x default).1=some (.cells 1 ((ms.getD x default).2.map f) 0):=by
 refine o.get ((ms.getD x default).1,.cells 1 ((ms.getD x default).2.map f) 0) ?_;refine List.mem_cons_of_mem _ (List.mem_append_left _ ?_);rw [inner,List.mem_map];exact ⟨_,mem_getD.mpr ⟨x,hx,rfl⟩,rfl⟩
omit [Inhabited α] [One f] in
theorem rd_inner {id off fr : Nat} {A : List α} [Inhabited α] (h : H.get id=some (.cells 1 (A.map f) fr)) (ho : off<A.length) (hk : K (f (A.getD off default)) H) : rd1 (H.get id) none off K H:=by
 rw [h,rd1_1];refine ⟨by simpa using ho, ?_⟩;rw [getD_map A ho]; exact hk
theorem lent_nest {B id fr n : Nat} {ms : List (Nat × List α)} (o : Owns H0 H ((id,.cells 1 (ms.map bufE) fr)::(inner f ms++l))) (hn : n=ms.length) :
  ∀ g w v,WRel g B H w→VRel g (.buf id n) v→VRel (g.lend H w) (mL (mL f) (ms.map Prod.snd)) v:=by
 subst hn
 have h0:=o.h0;simp only at h0
 have e : ∀ i,i<(ms.map bufE).length→((ms.map Prod.snd).map (mL f)).getD i nv=mL f (ms.getD i default).2:=by
  intro i hi;rw [List.length_map] at hi;rw [getD_map _ (by simpa using hi)]
  simp [List.getD_eq_getElem?_getD,hi]
 have:=Tr.buf (H:=H) id fr (ms.map bufE) ((ms.map Prod.snd).map (mL f)) h0 (by simp) (fun i hi=>by rw [e i hi]; rfl) (fun i hi=>by
  rw [e i hi];rw [List.length_map] at hi;rw [getD_map ms hi,bufE]
  have:=Tr.buf (H:=H) (ms.getD i default).1 0 ((ms.getD i default).2.map f) ((ms.getD i default).2.map f) (o.inner_get hi) rfl (fun j hj=>by rw [List.length_map] at hj; rw [getD_map _ hj]; exact one_cells _) (fun j _=>.val _);rw [List.length_map] at this;exact this)
 rw [List.length_map] at this;exact this.arg
end
end Go.AW
namespace Go.AW
end Go.AW
namespace Go.AW
@[go_sem] theorem fzW_mL {α : Type} (f : α→AV) (t : Nat) (l : List α) {F : Env→Heap→Prop} {σ : Env} {H : Heap} : fzW t F σ H (some (mL f l))=F σ H:=rfl
theorem WRel.setF {g : Gh} {B : Nat} {H : Heap} {w : World} (h : WRel g B H w) {i sz f k b cap : Nat} {cs : List AV} (hi : H.get i=some (.cells sz cs f)) (hp : g.io i=some (.blk b cap)) (hk : f≤k) (hk2 : k≤cs.length) :
  WRel g B (H.set i (.cells sz cs k)) w:=by
 have hs : ∀ j,((H.set i (.cells sz cs k)).get j).isSome→(H.get j).isSome:=by
  intro j hj
  by_cases e : j=i
  ·subst e; simp [hi]
  ·rwa [Heap.get_set_ne _ _ e] at hj
 constructor
 ·exact h.fz
 ·exact h.fm
 ·intro j o e
  by_cases hj : j=i
  ·subst hj
   simp at e; subst e
   obtain ⟨p,hp',hr⟩:=h.ob _ _ hi;rw [hp] at hp'; cases hp';refine ⟨_,hp, ?_⟩;simp only [ObjRel] at hr ⊢
   obtain ⟨h1,h2,h3,h4,c,el,h5,h6,h7,h8⟩:=hr;exact ⟨h1,hk2,h3,fun x hx=>h4 x (by omega),c,el,h5,h6,h7,h8⟩
  ·rw [Heap.get_set_ne _ _ hj] at e; exact h.ob j o e
 ·intro a b x y z n e1 e2; exact h.inj a b x y z n (hs a e1) (hs b e2)
 ·intro a b x n e1 e2; exact h.injm a b x n (hs a e1) (hs b e2)
 ·exact h.base
 ·exact h.fin
theorem wk_dual {F : Env→Heap→Prop} {σ : Env} {H0 H : Heap} {l : List (Nat × MObj)} {id sz : Nat} {cs : List AV} (t k : Nat) (hk : k≤cs.length) (o : Owns H0 H ((id,.cells sz cs 0)::l)) (ht : σ.get t=some (.ref id 0))
  (hF : ∀ H',Owns H0 H' ((id,.cells sz cs k)::l)→wkW F ((t,some (.dual (cs.take k) id))::σ) H') : wkW F σ H:=by
 have h1:=o.h0;simp only at h1;refine wkW_step (σ1:=(t,some (.dual (cs.take k) id))::σ) ?_ (hF _ (o.put (.cells sz cs k)))
 intro g B w tm hW hE
 obtain ⟨q1,q2⟩:=hE t _ ht
 generalize hu : tm.getD t undef=u at q2
 cases q2 with
 | ref _ _ b cap hio =>
  have hW1:=hW.setF h1 hio (Nat.zero_le k) hk
  obtain ⟨p,hp,hr⟩:=hW.ob _ _ h1;rw [hio] at hp; cases hp;simp only [ObjRel] at hr
  obtain ⟨r1,r2,r3,r4,c,el,r5,r6,r7,r8⟩:=hr
  obtain ⟨g1,g2⟩:=hW1.addF b k c el (0,0) r5 fun i p o e hp hpb=>by
   by_cases hid : i=id
   ·subst hid;rw [hio] at hp; cases hp
    simp at e;exact ⟨_,_,_,e.symm,Nat.le_refl _⟩
   ·exfalso
    cases p with
    | nil=>cases hpb
    | blk b' cap' =>
     cases hpb;exact hW1.inj i id b cap' cap hid (by simp [e]) (by simp) hp hio
    | mp b' =>
     cases hpb
     obtain ⟨q,hq,hr⟩:=hW1.ob _ _ e;rw [hp] at hq; cases hq
     cases o with
     | cells sz' cs' f'=>simp [ObjRel] at hr
     | map ks vs =>
      simp only [ObjRel] at hr
      obtain ⟨_,_,es,clk,h5,_⟩:=hr;rw [r5] at h5; cases h5
  refine ⟨_,g1,g2,fun s x e=>?_⟩;simp only [Env.get] at e
  split at e
  ·rename_i hs; cases e; subst hs
   refine ⟨q1, ?_⟩;rw [hu]
   have hlt : (cs.take k).length=k:=by rw [List.length_take]; omega
   refine .dual _ id b cap (fun i=>c.getD i undef) (g1.io _ _ hio) (fun i hi=>?_) (fun i hi=>?_)
   ·rw [hlt] at hi;simp only [Gh.addF]
    have : i<c.size:=by omega
    simp [hi,Array.getD,this]
   ·rw [hlt] at hi
    have e2 : (cs.take k).getD i nv=cs.getD i nv:=by simp [List.getD_eq_getElem?_getD,hi]
    rw [e2]; exact (r8 i (by omega)).mono g1
  ·obtain ⟨z1,z2⟩:=hE s x e; exact ⟨z1,z2.mono g1⟩
end Go.AW
namespace Go.AW
class AggN (n : Nat) {α : Type} (f : α→AV) : Prop where
 two : 2≤n
 agg : ∀ a,f a=.agg (f a).cells
 len : ∀ a,(f a).cells.length=n
 one : ∀ a c,c∈(f a).cells→c.one=true
section
variable {α : Type} {f : α→AV} {n : Nat} [h : AggN n f] {H0 H : Heap} {l : List (Nat × MObj)} {K : Kont}
theorem okEls_mapN (l : List α) : okEls n (l.map f):=by
 intro e he
 obtain ⟨a,_,rfl⟩:=List.mem_map.mp he;exact ⟨h.len a,h.one a⟩
theorem flat_len (l : List α) : (flat (l.map f)).length=l.length*n:=by
 induction l with
 | nil=>simp [flat]
 | cons a r ih=>simp only [List.map_cons,flat,List.length_append,h.len a,ih,List.length_cons,Nat.add_mul]; omega
theorem flat_ones (n : Nat) [h : AggN n f] (l : List α) : ∀ c,c∈flat (l.map f)→c.one=true:=by
 induction l with
 | nil=>simp [flat]
 | cons a r ih =>
  intro c hc;simp only [List.map_cons,flat,List.mem_append] at hc;exact hc.elim (h.one a c) (ih c)
theorem flat_app (l r : List AV) : flat (l++r)=flat l++flat r:=by
 induction l with
 | nil=>rfl
 | cons a s ih=>simp [flat,ih]
theorem chunk_flat (l : List α) : chunk n l.length (flat (l.map f))=l.map f:=by
 induction l with
 | nil=>rfl
 | cons a r ih =>
  have h2:=h.two;simp only [List.length_cons,List.map_cons,flat,chunk];rw [if_neg (by omega),List.take_left' (h.len a),List.drop_left' (h.len a),ih,← h.agg a]
theorem idxE_mLN [Inhabited α] (l : List α) (k : IntKind) (i : Int) {d : Option Nat} {F : Env→Heap→Prop} {σ : Env} {H : Heap} :
  pE d F σ H (idxE n (some (mL f l)) (some (.int k i)))=((0≤i∧i.toNat<l.length)∧putK d F σ (.ptr (f (ix l i)).cells) H):=by
 simp only [mL,idxE,pE,pW,List.length_map,eq_iff_iff]
 constructor
 ·rintro ⟨⟨h1,h2,h3⟩,h4⟩;rw [getD_map l h2] at h4;exact ⟨⟨h1,h2⟩,h4⟩
 ·rintro ⟨⟨h1,h2⟩,h4⟩;rw [getD_map l h2];exact ⟨⟨h1,h2,h.len _⟩,h4⟩
theorem new_listN (f : α→AV) (o : Owns H0 H l) (hk : ∀ id H',Owns H0 H' ((id,.cells n (flat (([] : List α).map f)) 0)::l)→K (.buf id ([] : List α).length) H') : newBuf 0 n [] K H :=
 newBuf_own o hk
theorem app_ownN {id m : Nat} {out : List α} (a : α) {v : AV} (o : Owns H0 H ((id,.cells n (flat (out.map f)) 0)::l)) (hv : v=f a) (hn : m=out.length) (hm : (out.length+1)*n≤maxL)
  (hk : ∀ id' H',Owns H0 H' ((id',.cells n (flat ((out++[a]).map f)) 0)::l)→K (.buf id' (out++[a]).length) H') :
  appW n (some (.buf id m)) (some (.sl [v])) K H:=by
 subst hv hn
 have h0:=o.h0;simp only at h0
 have h2:=h.two;simp only [appW,h0,srcOf,app2]
 have hle : out.length+1≤maxL:=Nat.le_trans (Nat.le_mul_of_pos_right _ (by omega)) hm;refine ⟨⟨trivial,flat_len out,hle,hm,okEls_mapN [a]⟩,fun id' hn=>?_⟩
 have:=o.mv hn (.cells n (flat ((out++[a]).map f)) 0)
 have e : flat (out.map f)++flat [f a]=flat ((out++[a]).map f):=by rw [List.map_append,flat_app]; rfl
 rw [e]
 have:=hk id' _ this
 simpa using this
theorem fz_ownN {t id m fr : Nat} {out : List α} {F : Env→Heap→Prop} {σ : Env} (o : Owns H0 H ((id,.cells n (flat (out.map f)) fr)::l)) (hn : m=out.length)
  (hk : ∀ H',Owns H0 H' l→F ((t,some (mL f out))::σ) H') : fz1 t id m F σ H (H.get id):=by
 subst hn
 have h0:=o.h0;simp only at h0
 have h2:=h.two;rw [h0];simp only [fz1];refine ⟨⟨flat_len out,by omega,flat_ones n out⟩, ?_⟩;rw [chunk_flat];exact hk _ (o.put _).tl
end
open Go.Shf
@[go_sem] def lkE (l : Lk) : AV:=.agg [iI l.i,iI l.j,iL l.left,iL l.right]
instance : AggN 4 lkE:=⟨by omega,fun _=>rfl,fun _=>rfl,fun a c hc=>by
 simp only [lkE,AV.cells,List.mem_cons,List.not_mem_nil,or_false] at hc
 rcases hc with rfl | rfl | rfl | rfl <;> rfl⟩
@[go_sem] theorem idxE_lk (l : List Lk) (k : IntKind) (i : Int) {d : Option Nat} {F : Env→Heap→Prop} {σ : Env} {H : Heap} :
  pE d F σ H (idxE 4 (some (mL lkE l)) (some (.int k i)))=((0≤i∧i.toNat<l.length)∧putK d F σ (.ptr [iI (ix l i).i,iI (ix l i).j,iL (ix l i).left,iL (ix l i).right]) H):=idxE_mLN (f:=lkE) l k i
inductive LsR {α : Type} (f : α→AV) : List AV→List (List α)→List (Nat × MObj)→Prop
 | nil : LsR f [] [] []
 | cons {p o : List (Nat × MObj)} {X : AV} {Xs : List AV} {A : List α} {As : List (List α)} (h : LsP f p X A) (t : LsR f Xs As o) : LsR f (X::Xs) (A::As) (p++o)
theorem LsR.rep {α : Type} (f : α→AV) : ∀ n,LsR f (List.replicate n .nilsl) (List.replicate n []) []
 | 0=>.nil
 | n+1=>.cons (p:=[]) (.inl ⟨rfl,rfl,rfl⟩) (LsR.rep f n)
theorem LsR.len {α : Type} {f : α→AV} {Xs : List AV} {As : List (List α)} {o : List (Nat × MObj)} (h : LsR f Xs As o) : Xs.length=As.length:=by
 induction h with
 | nil=>rfl
 | cons _ _ ih=>simp [ih]
theorem LsR.split {α : Type} {f : α→AV} {Xs : List AV} {As : List (List α)} {o : List (Nat × MObj)} (h : LsR f Xs As o) : ∀ i,i<Xs.length→∃ p r,o.Perm (p++r)∧LsP f p (Xs.getD i nv) (As.getD i []) ∧
  ∀ X A p',LsP f p' X A→∃ o',LsR f (Xs.set i X) (As.set i A) o'∧o'.Perm (p'++r):=by
 induction h with
 | nil=>intro i hi; simp at hi
 | @cons p o X Xs A As h t ih =>
  intro i hi
  cases i with
  | zero =>
   refine ⟨p,o,.refl _,h,fun X' A' p' h'=>⟨p'++o,.cons h' t,.refl _⟩⟩
  | succ i =>
   obtain ⟨q,r,h1,h2,h3⟩:=ih i (by simpa using hi);refine ⟨q,p++r, ?_,by simpa using h2,fun X' A' p' h'=>?_⟩
   ·refine (List.Perm.append_left p h1).trans ?_;rw [← List.append_assoc,← List.append_assoc];exact List.Perm.append_right r List.perm_append_comm
   ·obtain ⟨o',k1,k2⟩:=h3 X' A' p' h';refine ⟨p++o',by simpa using LsR.cons h k1, ?_⟩;refine (List.Perm.append_left p k2).trans ?_;rw [← List.append_assoc,← List.append_assoc];exact List.Perm.append_right r List.perm_append_comm
theorem wk_rows {α : Type} [Inhabited α] {f : α→AV} [One f] {F : Env→Heap→Prop} {σ : Env} {H0 : Heap} {l : List (Nat × MObj)} {id sz fr : Nat} {Xs : List AV} {As : List (List α)} {ob : List (Nat × MObj)} (h : LsR f Xs As ob) :
  ∀ (dn : List (List α)) (H : Heap),Owns H0 H ((id,.cells sz (dn.map (mL f)++Xs) fr)::(ob++l)) →
  (∀ H',Owns H0 H' ((id,.cells sz ((dn++As).map (mL f)) fr)::l)→wkW F σ H')→wkW F σ H:=by
 induction h with
 | nil=>intro dn H o hk; exact hk H (by simpa using o)
 | @cons p ob X Xs A As h t ih =>
  intro dn H o hk
  have e : (dn.map (mL f)++(X::Xs)).set dn.length (mL f A)=(dn++[A]).map (mL f)++Xs:=by
   rw [List.set_append_right _ _ (by simp)]; simp
  have hX : (dn.map (mL f)++(X::Xs))[dn.length]? = some X:=by rw [List.getElem?_append_right (by simp)]; simp
  refine wk_ls (f:=f) (A:=A) (X:=X) (l:=ob++l) dn.length ?_ hX fun H' o'=>ih (dn++[A]) H' (by rw [← e]; exact o') fun H2 o2=>hk H2 (by simpa using o2);refine LsO.mk (p:=p) (o.perm ?_) h;rw [List.append_assoc];exact (List.perm_middle (a:=(id,MObj.cells sz (dn.map (mL f)++(X::Xs)) fr)) (l₁:=p) (l₂:=ob++l)).symm
end Go.AW
namespace Go.AW
theorem em_own {α : Type} [Inhabited α] {f : α→AV} [One f] {H0 H : Heap} {l : List (Nat × MObj)} {K : Kont} (a : α) {v : AV} (h : Owns H0 H l) (hv : v=f a)
  (hk : ∀ id' H',Owns H0 H' ((id',.cells 1 ([a].map f) 0)::l)→K (.buf id' [a].length) H') : appW 1 (some .emsl) (some (.sl [v])) K H:=by
 subst hv;simp only [appW,srcOf,app0];refine ⟨⟨by simp,by simp [maxL],by simp [maxL],okEls_one a⟩,fun id hn=>?_⟩
 have:=hk id _ (h.new hn (.cells 1 ([a].map f) 0))
 simpa [flat,one_cells] using this
def EmO {α : Type} (f : α→AV) (H0 H : Heap) (l : List (Nat × MObj)) (X : AV) (A : List α) : Prop :=
 (X=.emsl∧A=[]∧Owns H0 H l)∨∃ id,X=.buf id A.length∧Owns H0 H ((id,.cells 1 (A.map f) 0)::l)
theorem EmO.app {α : Type} [Inhabited α] {f : α→AV} [One f] {H0 H : Heap} {l : List (Nat × MObj)} {K : Kont} {X : AV} {A : List α} (a : α) {v : AV} (h : EmO f H0 H l X A) (hv : v=f a) (hm : A.length+1≤maxL)
  (hk : ∀ id' H',Owns H0 H' ((id',.cells 1 ((A++[a]).map f) 0)::l)→K (.buf id' (A++[a]).length) H') : appW 1 (some X) (some (.sl [v])) K H:=by
 rcases h with ⟨rfl,rfl,o⟩ | ⟨id,rfl,o⟩
 ·exact em_own a o hv hk
 ·exact app_own a o hv rfl hm hk
end Go.AW
namespace Go.AW
end Go.AW
namespace Go.AW
theorem rows_app {α : Type} [Inhabited α] {f : α→AV} [One f] {H0 H : Heap} {l : List (Nat × MObj)} {K : Kont} {id i : Nat} {Xs : List AV} {As : List (List α)} {ob : List (Nat × MObj)} (o : Owns H0 H ((id,.cells 1 Xs 0)::(ob++l)))
  (h : LsR f Xs As ob) (hi : i<Xs.length) (y : α) {v : AV} (hv : v=f y) (hm : (As.getD i []).length+1≤maxL)
  (hk : ∀ X' o' H',X'.one=true→LsR f (Xs.set i X') (As.set i (As.getD i []++[y])) o'→Owns H0 H' ((id,.cells 1 Xs 0)::(o'++l))→K X' H') : appW 1 (some (Xs.getD i nv)) (some (.sl [v])) K H:=by
 obtain ⟨p,r,h1,h2,h3⟩:=h.split i hi
 have o1 : Owns H0 H (p++((id,.cells 1 Xs 0)::(r++l))):=by
  refine o.perm (List.Perm.trans ?_ (List.perm_middle (a:=(id,MObj.cells 1 Xs 0)) (l₁:=p)).symm);refine List.Perm.cons _ ?_;rw [← List.append_assoc];exact List.Perm.append_right l h1
 refine (LsO.mk o1 h2).app y hv hm fun id' H' o2=>?_
 obtain ⟨o',k1,k2⟩:=h3 (.buf id' (As.getD i []++[y]).length) (As.getD i []++[y]) [(id',.cells 1 ((As.getD i []++[y]).map f) 0)] (.inr ⟨id',rfl,rfl⟩);refine hk _ o' H' rfl k1 (o2.perm ?_);refine (List.Perm.swap _ _ _).trans (List.Perm.cons _ ?_);refine List.Perm.trans ?_ (List.Perm.append_right l k2.symm)
 simp
end Go.AW
namespace Go.AW
theorem Owns.pull {H0 H : Heap} (l1 : List (Nat × MObj)) {a : Nat × MObj} {l2 : List (Nat × MObj)} (o : Owns H0 H (l1++a::l2)) : Owns H0 H (a::(l1++l2)):=o.perm List.perm_middle
theorem Owns.push {H0 H : Heap} (l1 : List (Nat × MObj)) {a : Nat × MObj} {l2 : List (Nat × MObj)} (o : Owns H0 H (a::(l1++l2))) : Owns H0 H (l1++a::l2):=o.perm List.perm_middle.symm
end Go.AW
namespace Go.AW
theorem rd_getn {H : Heap} {K : Kont} {id sz off fr n : Nat} {cs : List AV} (h : H.get id=some (.cells sz cs fr)) (h1 : off+n≤cs.length) (hk : K (.agg ((cs.drop off).take n)) H) : rd1 (H.get id) (some n) off K H:=by
 rw [h,rd1_n];exact ⟨h1,hk⟩
end Go.AW
namespace Go.AW
open Go.Shf
@[go_sem] def rlE (l : Lk) : AV:=.agg [iI l.i,iI l.j,iL l.left]
instance : AggN 3 rlE:=⟨by omega,fun _=>rfl,fun _=>rfl,fun a c hc=>by
 simp only [rlE,AV.cells,List.mem_cons,List.not_mem_nil,or_false] at hc
 rcases hc with rfl | rfl | rfl <;> rfl⟩
@[go_sem] theorem idxE_rl (l : List Lk) (k : IntKind) (i : Int) {d : Option Nat} {F : Env→Heap→Prop} {σ : Env} {H : Heap} :
  pE d F σ H (idxE 3 (some (mL rlE l)) (some (.int k i)))=((0≤i∧i.toNat<l.length)∧putK d F σ (.ptr [iI (ix l i).i,iI (ix l i).j,iL (ix l i).left]) H):=idxE_mLN (f:=rlE) l k i
end Go.AW
namespace Go.AW
@[go_sem] theorem lkR_f (z : AV) (r : Option AV) : lkR false z r=r.getD z:=rfl
end Go.AW
namespace Go.AW
theorem WRel.addM {g : Gh} {B : Nat} {H : Heap} {w : World} (h : WRel g B H w) {i b : Nat} {ks vs : List AV} (hi : H.get i=some (.map ks vs)) (hp : g.io i=some (.mp b)) :
  ∃ g',g.le g'∧WRel g' B (H.del i) w∧VRel g' (.imap ks vs) (.map (some b)):=by
 obtain ⟨p,hp2,hr⟩:=h.ob i _ hi;rw [hp] at hp2; cases hp2;simp only [ObjRel] at hr
 obtain ⟨r1,r2,es,clk,r3,r4,r5,r6,r7⟩:=hr
 have hle : g.le (g.addM b es):=by
  refine ⟨fun _ _ _ h=>h,fun b' v e=>?_,fun _ _ h=>h⟩;simp only [Gh.addM]
  split
  ·rename_i hb; subst hb; rw [r2] at e; cases e
  ·exact e
 have hs : ∀ j,((H.del i).get j).isSome→j≠i∧(H.get j).isSome:=by
  intro j hj
  have hne : j≠i:=by rintro rfl; rw [Heap.get_del_same] at hj; cases hj
  exact ⟨hne,by rwa [Heap.get_del_ne _ hne] at hj⟩
 refine ⟨g.addM b es,hle, ?_,.imap ks vs b es (by simp [Gh.addM]) r4.1 r5 (fun k hk=>(r6 k hk).mono hle) (fun k hk=>(r7 k hk).mono hle)⟩
 constructor
 ·exact h.fz
 ·intro b' es' e;simp only [Gh.addM] at e
  split at e
  ·rename_i hb; subst hb; cases e; exact ⟨clk,r3,r4.2⟩
  ·exact h.fm _ _ e
 ·intro j o e
  have hj:=hs j (by simp [e]);rw [Heap.get_del_ne _ hj.1] at e
  obtain ⟨q,hq,hqr⟩:=h.ob j o e;refine ⟨q,hq,hqr.keep hle (fun _ _=>rfl) (fun _ _ _ hx=>hx) (fun b' hb' hn=>?_)⟩;simp only [Gh.addM];rw [if_neg]
  ·exact hn
  ·rintro rfl
   cases q with
   | nil=>cases hb'
   | mp b2=>cases hb'; exact h.injm j i _ hj.1 (by simp [e]) (by simp [hi]) hq hp
   | blk b2 c2 =>
    cases hb'
    cases o with
    | map ks vs=>simp [ObjRel] at hqr
    | cells sz cs f =>
     simp only [ObjRel] at hqr
     obtain ⟨_,_,_,_,c,el,h5,_⟩:=hqr;rw [r3] at h5; cases h5
 ·intro a b' x y z n e1 e2;exact h.inj a b' x y z n (hs a e1).2 (hs b' e2).2
 ·intro a b' x n e1 e2;exact h.injm a b' x n (hs a e1).2 (hs b' e2).2
 ·exact h.base
 ·exact h.fin
theorem Owns.del {H0 H : Heap} {l : List (Nat × MObj)} {id : Nat} {o : MObj} (h : Owns H0 H ((id,o)::l)) : Owns H0 (H.del id) l:=by
 have hnd:=h.nd;simp only [List.map_cons,List.nodup_cons] at hnd
 have hne : ∀ x,x∈l→x.1≠id:=fun x hx e=>hnd.1 (e ▸ List.mem_map_of_mem hx)
 have ho:=h.out (id,o) (by simp);refine ⟨fun i x hx=>?_,fun x hx=>?_,hnd.2,fun x hx=>h.out x (by simp [hx])⟩
 ·rw [Heap.get_del_ne]; exact h.sub i x hx
  rintro rfl; simp only at ho; rw [ho] at hx; cases hx
 ·rw [Heap.get_del_ne _ (hne x hx)]; exact h.get x (by simp [hx])
end Go.AW
namespace Go.AW
open Go.RowKit
abbrev Ob:=List (Nat × MObj)
section
variable {α : Type}
inductive RowsG (O : Ob→AV→α→Prop) : List AV→List α→Ob→Prop
 | nil : RowsG O [] [] []
 | cons {p o : Ob} {X : AV} {Xs : List AV} {a : α} {As : List α} (h : O p X a) (t : RowsG O Xs As o) : RowsG O (X::Xs) (a::As) (p++o)
def OI (p : Ob) (X : AV) (n : Int) : Prop:=p=[]∧X=iI n
def LsG (O : Ob→AV→α→Prop) (p : Ob) (X : AV) (A : List α) : Prop :=
 (p=[]∧X=.nilsl∧A=[])∨∃ id Xs o,p=(id,.cells 1 Xs 0)::o∧X=.buf id Xs.length∧RowsG O Xs A o
theorem RowsG.len {O : Ob→AV→α→Prop} {Xs : List AV} {As : List α} {o : Ob} (h : RowsG O Xs As o) : Xs.length=As.length:=by
 induction h with
 | nil=>rfl
 | cons _ _ ih=>simp [ih]
theorem RowsG.app {O : Ob→AV→α→Prop} {Xs Ys : List AV} {As Bs : List α} {o p : Ob} (h : RowsG O Xs As o) (k : RowsG O Ys Bs p) : RowsG O (Xs++Ys) (As++Bs) (o++p):=by
 induction h with
 | nil=>exact k
 | cons h _ ih=>rw [List.append_assoc]; exact .cons h ih
structure Ow (O : Ob→AV→α→Prop) (f : α→AV) : Prop where
 io : ∀ p X a,O p X a→IoOnly X
 pl : ∀ p X a,O p X a→∀ x,x∈p→x.2.plain
 ln : ∀ p X a,O p X a→∀ g B H w v,WRel g B H w→(∀ x,x∈p→H.get x.1=some x.2)→VRel g X v→VRel (g.lend H w) (f a) v
 fz : ∀ p X a,O p X a→∀ g B H0 H l w,WRel g B H w→Owns H0 H (p++l)→∃ g' H',g.le g'∧WRel g' B H' w∧Owns H0 H' l∧∀ v,VRel g X v→VRel g' (f a) v
theorem Ow.int : Ow OI iI where
 io p X a h:=by rw [h.2]; exact .int _ _
 pl p X a h x hx:=by rw [h.1] at hx; simp at hx
 ln p X a h g B H w v hW _ hv:=by rw [h.2] at hv; exact hv.mono (Gh.le_lend hW)
 fz p X a h g B H0 H l w hW o:=by
  obtain ⟨rfl,rfl⟩:=h;exact ⟨g,H,.refl g,hW,o,fun v hv=>hv⟩
theorem RowsG.io {O : Ob→AV→α→Prop} {f : α→AV} (hO : Ow O f) {Xs : List AV} {As : List α} {o : Ob} (h : RowsG O Xs As o) : ∀ c,c∈Xs→IoOnly c:=by
 induction h with
 | nil=>simp
 | cons h _ ih=>simp only [List.mem_cons,forall_eq_or_imp]; exact ⟨hO.io _ _ _ h,ih⟩
theorem RowsG.pl {O : Ob→AV→α→Prop} {f : α→AV} (hO : Ow O f) {Xs : List AV} {As : List α} {o : Ob} (h : RowsG O Xs As o) : ∀ x,x∈o→x.2.plain:=by
 induction h with
 | nil=>simp
 | cons h _ ih =>
  intro x hx
  rcases List.mem_append.mp hx with hx | hx
  ·exact hO.pl _ _ _ h x hx
  ·exact ih x hx
theorem RowsG.ln {O : Ob→AV→α→Prop} {f : α→AV} (hO : Ow O f) {g : Gh} {B : Nat} {H : Heap} {w : World} (hW : WRel g B H w) {Xs : List AV} {As : List α} {o : Ob} (h : RowsG O Xs As o) :
  (∀ x,x∈o→H.get x.1=some x.2)→∀ i,i<Xs.length→∀ v,VRel g (Xs.getD i nv) v→VRel (g.lend H w) ((As.map f).getD i nv) v:=by
 induction h with
 | nil=>intro _ i hi; simp at hi
 | cons h _ ih =>
  intro hx i hi v hv
  cases i with
  | zero=>simpa using hO.ln _ _ _ h g B H w v hW (fun x hx'=>hx x (List.mem_append_left _ hx')) (by simpa using hv)
  | succ i =>
   have:=ih (fun x hx'=>hx x (List.mem_append_right _ hx')) i (by simpa using hi) v (by simpa using hv)
   simpa using this
theorem RowsG.fz {O : Ob→AV→α→Prop} {f : α→AV} (hO : Ow O f) {B : Nat} {w : World} {H0 : Heap} {Xs : List AV} {As : List α} {o : Ob} (h : RowsG O Xs As o) :
  ∀ (g : Gh) (H : Heap) (l : Ob),WRel g B H w→Owns H0 H (o++l)→∃ g' H',g.le g'∧WRel g' B H' w∧Owns H0 H' l∧∀ i,i<Xs.length→∀ v,VRel g (Xs.getD i nv) v→VRel g' ((As.map f).getD i nv) v:=by
 induction h with
 | nil=>intro g H l hW o; exact ⟨g,H,.refl g,hW,o,fun i hi=>by simp at hi⟩
 | @cons p o X Xs a As h _ ih =>
  intro g H l hW ow;rw [List.append_assoc] at ow
  obtain ⟨g1,H1,q1,q2,q3,q4⟩:=hO.fz _ _ _ h g B H0 H _ w hW ow
  obtain ⟨g2,H2,r1,r2,r3,r4⟩:=ih g1 H1 l q2 q3;refine ⟨g2,H2,q1.trans r1,r2,r3,fun i hi v hv=>?_⟩
  cases i with
  | zero=>simpa using (q4 v (by simpa using hv)).mono r1
  | succ i =>
   have:=r4 i (by simpa using hi) v ((by simpa using hv : VRel g (Xs.getD i nv) v).mono q1)
   simpa using this
theorem Ow.ls {O : Ob→AV→α→Prop} {f : α→AV} (hO : Ow O f) [h1 : One f] : Ow (LsG O) (mL f) where
 io p X a h:=by
  rcases h with ⟨_,rfl,_⟩ | ⟨id,Xs,o,_,rfl,_⟩
  ·exact .nilsl
  ·exact .buf _ _
 pl p X a h x hx:=by
  rcases h with ⟨rfl,_,_⟩ | ⟨id,Xs,o,rfl,_,hr⟩
  ·simp at hx
  ·rcases List.mem_cons.mp hx with rfl | hx
   ·exact hr.io hO
   ·exact hr.pl hO x hx
 ln p X a h g B H w v hW hx hv:=by
  rcases h with ⟨rfl,rfl,rfl⟩ | ⟨id,Xs,o,rfl,rfl,hr⟩
  ·cases hv; exact .slnil none 0
  ·have h0 : H.get id=some (.cells 1 Xs 0):=hx (id,.cells 1 Xs 0) (by simp)
   have hl:=hr.len
   obtain ⟨p,hp,hob⟩:=hW.ob id _ h0
   generalize hn : Xs.length=n at hv
   cases hv with
   | bufnil _ hq =>
    have : Xs=[]:=List.eq_nil_of_length_eq_zero hn;subst this
    have : a=[]:=List.eq_nil_of_length_eq_zero hl.symm;subst this;exact .slnil none 0
   | buf _ _ b cap hq =>
    subst hn;rw [hp] at hq; cases hq;simp only [ObjRel] at hob
    obtain ⟨r1,r2,r3,r4,c,el,r5,r6,r7,r8⟩:=hob
    have key : ∀ i j,i<(a.map f).length→j<1→i*1+j=i:=by intro i j _ hj; omega
    have hml : (a.map f).length=Xs.length:=by simp [hl]
    rw [← hml];refine VRel.sl (a.map f) b 0 1 cap (fun i=>c.getD i undef) (by omega) (by omega) (fun i hi=>?_) (fun i j hi hj=>?_) (fun i j hi hj=>?_)
    ·have hi' : i<a.length:=by simpa using hi
     have : (a.map f).getD i nv=f a[i]:=by simp [List.getD_eq_getElem?_getD,hi']
     rw [this,h1.cells]; rfl
    ·rw [key i j hi hj,Nat.zero_add];simp only [Gh.lend];rw [if_pos ⟨id,cap,1,Xs,0,h0,hp,by omega⟩];rw [cell_of_row w b i c el (0,0) r5]
     have : i<c.size:=by omega
     simp [Array.getD,this]
    ·rw [key i j hi hj]
     obtain rfl : j=0:=by omega
     have hi' : i<a.length:=by simpa using hi
     have e : (a.map f).getD i nv=f a[i]:=by simp [List.getD_eq_getElem?_getD,hi']
     have:=hr.ln hO hW (fun x hx'=>hx x (List.mem_cons_of_mem _ hx')) i (by omega) _ (r8 i (by omega));rw [e] at this ⊢;rw [h1.cells]; exact this
 fz p X a h g B H0 H l w hW ow:=by
  rcases h with ⟨rfl,rfl,rfl⟩ | ⟨id,Xs,o,rfl,rfl,hr⟩
  ·exact ⟨g,H,.refl g,hW,ow,fun v hv=>by cases hv; exact .slnil none 0⟩
  ·have h0 : H.get id=some (.cells 1 Xs 0):=ow.h0
   have hl:=hr.len
   obtain ⟨p,hp,hob⟩:=hW.ob id _ h0
   cases p with
   | nil =>
    simp only [ObjRel] at hob
    obtain ⟨rfl,_⟩:=hob
    cases hr with
    | nil =>
     refine ⟨g,H,.refl g,hW,ow.tl,fun v hv=>?_⟩
     generalize hn : ([] : List AV).length=n at hv
     cases hv with
     | bufnil _ hq=>exact .slnil none 0
     | buf _ _ b cap hq=>rw [hp] at hq; cases hq
   | mp b=>simp [ObjRel] at hob
   | blk b cap =>
    simp only [ObjRel] at hob
    obtain ⟨r1,r2,r3,r4,c,el,r5,r6,r7,r8⟩:=hob
    obtain ⟨g1,H1,q1,q2,q3,q4⟩:=hr.fz hO g H ((id,.cells 1 Xs 0)::l) hW (ow.perm List.perm_middle.symm)
    have h0' : H1.get id=some (.cells 1 Xs 0):=q3.h0
    have hp1:=q1.io _ _ hp
    obtain ⟨c2,g2,s1,s2,s3,s4,s5,s6⟩:=q2.give id b cap 1 Xs 0 h0' hp1
    have hc : ∀ i,i<Xs.length→c2.getD i undef=c.getD i undef:=by
     intro i hi
     have:=s2.fz _ _ _ (s5 i hi);rw [cell_of_row w b i c el (0,0) r5] at this
     have hi' : i<c.size:=by omega
     rw [Array.getElem?_eq_getElem hi'] at this;rw [← Option.some.inj this]; simp [Array.getD,hi']
    refine ⟨g2,_,q1.trans s1,s2,(q3.put _).tl,fun v hv=>?_⟩
    generalize hn : Xs.length=n at hv
    cases hv with
    | bufnil _ hq=>rw [hp] at hq; cases hq
    | buf _ _ b' cap' hq =>
     rw [hp] at hq; cases hq;subst hn
     have key : ∀ i j,i<(a.map f).length→j<1→i*1+j=i:=by intro i j _ hj; omega
     have hml : (a.map f).length=Xs.length:=by simp [hl]
     rw [← hml];refine VRel.sl (a.map f) b 0 1 cap (fun i=>c.getD i undef) (by omega) (by omega) (fun i hi=>?_) (fun i j hi hj=>?_) (fun i j hi hj=>?_)
     ·have hi' : i<a.length:=by simpa using hi
      have : (a.map f).getD i nv=f a[i]:=by simp [List.getD_eq_getElem?_getD,hi']
      rw [this,h1.cells]; rfl
     ·rw [key i j hi hj,Nat.zero_add,s5 i (by omega),hc i (by omega)]
     ·rw [key i j hi hj]
      obtain rfl : j=0:=by omega
      have hi' : i<a.length:=by simpa using hi
      have e : (a.map f).getD i nv=f a[i]:=by simp [List.getD_eq_getElem?_getD,hi']
      have:=(q4 i (by omega) _ (r8 i (by omega))).mono s1;rw [e] at this ⊢;rw [h1.cells]; exact this
end
abbrev OL:=LsG OI
abbrev OLL:=LsG OL
theorem owL : Ow OL iL:=Ow.int.ls
theorem owLL : Ow OLL iLL:=owL.ls
theorem LsG.one {α : Type} {O : Ob→AV→α→Prop} {p : Ob} {X : AV} {A : List α} (h : LsG O p X A) : X.one=true:=by
 rcases h with ⟨_,rfl,_⟩ | ⟨id,Xs,o,_,rfl,_⟩ <;> rfl
inductive Flds : List AV→List AV→Ob→Prop
 | nil : Flds [] [] []
 | cons {α : Type} {O : Ob→AV→α→Prop} {f : α→AV} (hO : Ow O f) {p o : Ob} {X : AV} {a : α} {Xs Es : List AV} (h : O p X a) (t : Flds Xs Es o) : Flds (X::Xs) (f a::Es) (p++o)
theorem Flds.len {Xs Es : List AV} {o : Ob} (h : Flds Xs Es o) : Xs.length=Es.length:=by
 induction h with
 | nil=>rfl
 | cons _ _ _ ih=>simp [ih]
theorem Flds.io {Xs Es : List AV} {o : Ob} (h : Flds Xs Es o) : ∀ c,c∈Xs→IoOnly c:=by
 induction h with
 | nil=>simp
 | cons hO h _ ih=>simp only [List.mem_cons,forall_eq_or_imp]; exact ⟨hO.io _ _ _ h,ih⟩
theorem Flds.pl {Xs Es : List AV} {o : Ob} (h : Flds Xs Es o) : ∀ x,x∈o→x.2.plain:=by
 induction h with
 | nil=>simp
 | cons hO h _ ih =>
  intro x hx
  rcases List.mem_append.mp hx with hx | hx
  ·exact hO.pl _ _ _ h x hx
  ·exact ih x hx
theorem Flds.ln {g : Gh} {B : Nat} {H : Heap} {w : World} (hW : WRel g B H w) {Xs Es : List AV} {o : Ob} (h : Flds Xs Es o) :
  (∀ x,x∈o→H.get x.1=some x.2)→∀ i,i<Xs.length→∀ v,VRel g (Xs.getD i nv) v→VRel (g.lend H w) (Es.getD i nv) v:=by
 induction h with
 | nil=>intro _ i hi; simp at hi
 | cons hO h _ ih =>
  intro hx i hi v hv
  cases i with
  | zero=>simpa using hO.ln _ _ _ h g B H w v hW (fun x hx'=>hx x (List.mem_append_left _ hx')) (by simpa using hv)
  | succ i =>
   have:=ih (fun x hx'=>hx x (List.mem_append_right _ hx')) i (by simpa using hi) v (by simpa using hv)
   simpa using this
theorem Flds.fz {B : Nat} {w : World} {H0 : Heap} {Xs Es : List AV} {o : Ob} (h : Flds Xs Es o) :
  ∀ (g : Gh) (H : Heap) (l : Ob),WRel g B H w→Owns H0 H (o++l)→∃ g' H',g.le g'∧WRel g' B H' w∧Owns H0 H' l∧∀ i,i<Xs.length→∀ v,VRel g (Xs.getD i nv) v→VRel g' (Es.getD i nv) v:=by
 induction h with
 | nil=>intro g H l hW o; exact ⟨g,H,.refl g,hW,o,fun i hi=>by simp at hi⟩
 | @cons α O f hO p o X a Xs Es h _ ih =>
  intro g H l hW ow;rw [List.append_assoc] at ow
  obtain ⟨g1,H1,q1,q2,q3,q4⟩:=hO.fz _ _ _ h g B H0 H _ w hW ow
  obtain ⟨g2,H2,r1,r2,r3,r4⟩:=ih g1 H1 l q2 q3;refine ⟨g2,H2,q1.trans r1,r2,r3,fun i hi v hv=>?_⟩
  cases i with
  | zero=>simpa using (q4 v (by simpa using hv)).mono r1
  | succ i =>
   have:=r4 i (by simpa using hi) v ((by simpa using hv : VRel g (Xs.getD i nv) v).mono q1)
   simpa using this
def OA {α : Type} (e : α→List AV) (p : Ob) (X : AV) (a : α) : Prop:=∃ Xs,X=.agg Xs∧Flds Xs (e a) p
theorem Ow.agg {α : Type} (e : α→List AV) : Ow (OA e) (fun a=>.agg (e a)) where
 io p X a h:=by obtain ⟨Xs,rfl,h⟩:=h; exact .agg h.io
 pl p X a h:=by obtain ⟨Xs,rfl,h⟩:=h; exact h.pl
 ln p X a h g B H w v hW hx hv:=by
  obtain ⟨Xs,rfl,h⟩:=h
  cases hv with
  | agg _ vs hs hv=>exact .agg _ vs (by rw [hs,h.len]) fun i hi=>h.ln hW hx i (by rw [h.len]; exact hi) _ (hv i (by rw [h.len]; exact hi))
 fz p X a h g B H0 H l w hW ow:=by
  obtain ⟨Xs,rfl,h⟩:=h
  obtain ⟨g',H',q1,q2,q3,q4⟩:=h.fz g H l hW ow;refine ⟨g',H',q1,q2,q3,fun v hv=>?_⟩
  cases hv with
  | agg _ vs hs hv=>exact .agg _ vs (by rw [hs,h.len]) fun i hi=>q4 i (by rw [h.len]; exact hi) _ (hv i (by rw [h.len]; exact hi))
section
variable {α : Type} {O : Ob→AV→α→Prop} {f : α→AV} {P : Program} {B : Nat} {fn : FuncId} {args es : List AV} {a : α}
structure New (P : Program) (B : Nat) (fn : FuncId) (args : List AV) (O : Ob→AV→Prop) : Prop where
 run : ∀ H,CallH P B fn args H fun r H'=>∃ p,O p r∧Owns H H' p
theorem New.call {O : Ob→AV→Prop} {H0 H : Heap} {l : Ob} {K : Kont} (h : New P B fn args O) (o : Owns H0 H l) (hk : ∀ r p H',O p r→Owns H0 H' (p++l)→K r H') : CallH P B fn args H K :=
 (h.run H).mono fun r H' ⟨p,q1,q2⟩=>hk r p H' q1 (o.trans q2)
theorem New.lent {H0 H : Heap} {l : Ob} {K : Kont} (hO : Ow O f) (h : New P B fn es fun p X=>O p X a) (o : Owns H0 H l) (hl : es.length=args.length)
  (ht : ∀ i,i<args.length→∀ g w v,WRel g B H w→VRel g (args.getD i nv) v→VRel (g.lend H w) (es.getD i nv) v)
  (hk : ∀ r p H',O p r a→Owns H0 H' (p++l)→K r H') : CallH P B fn args H K :=
 CallH.borrow hl ht (h.run H.frz) fun r H' ⟨p,q1,q2⟩=>⟨p,q2,hO.pl _ _ _ q1,hO.io _ _ _ q1,fun hn=>hk r p _ q1 (o.trans (Owns.frz q2 hn))⟩
end
end Go.AW
namespace Go.AW
open Go.Shf
theorem Ow.of {α : Type} {O O' : Ob→AV→α→Prop} {f : α→AV} (h : ∀ p X a,O p X a→O' p X a) (k : Ow O' f) : Ow O f where
 io p X a q:=k.io p X a (h _ _ _ q)
 pl p X a q:=k.pl p X a (h _ _ _ q)
 ln p X a q:=k.ln p X a (h _ _ _ q)
 fz p X a q:=k.fz p X a (h _ _ _ q)
def OCat (p : Ob) (X : AV) (c : Cat) : Prop:=∃ X1 X2 X3 X4 p1 p2 p3 p4,X=.agg [iI c.objs,X1,X2,X3,X4]∧p=p1++(p2++(p3++p4)) ∧
 OL p1 X1 c.frm∧OL p2 X2 c.to∧OL p3 X3 c.idn∧OLL p4 X4 c.comp
theorem fldI (n : Int) {Xs Es : List AV} {o : Ob} (t : Flds Xs Es o) : Flds (iI n::Xs) (iI n::Es) o:=Flds.cons (p:=[]) Ow.int ⟨rfl,rfl⟩ t
theorem Flds.app {Xs Es Ys Fs : List AV} {o p : Ob} (h : Flds Xs Es o) (k : Flds Ys Fs p) : Flds (Xs++Ys) (Es++Fs) (o++p):=by
 induction h with
 | nil=>exact k
 | cons hO h _ ih=>rw [List.append_assoc]; exact .cons hO h ih
end Go.AW
