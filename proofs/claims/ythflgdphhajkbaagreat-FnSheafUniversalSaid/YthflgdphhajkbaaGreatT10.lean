/- A part of a proof. -/
import Derived.Test.YthflgdphhajkbaaGreatT9
set_option linter.unusedVariables false
set_option linter.unusedSimpArgs false
set_option linter.unusedSectionVars false
open Nat (reduceEqDiff reduceAdd reduceMul reduceLeDiff reduceLT)
namespace Go.Proofs.Shf
open Go.AW Go.Proofs Go.Shf
def smP (m : SM) : AV:=.ptr m.cells
instance : One smP:=⟨fun _=>rfl,fun _=>rfl⟩
instance : Inhabited SM:=⟨⟨default,default,[]⟩⟩
theorem QR (B : Nat) (l : List SM) : PB B 117 [mL smP l] (.bool (dec (∀ m,m∈l→m.Is))):=by
 refine ⟨fun H0=>xr.go fun ⟨hf,_⟩=>?_⟩
 have hl:=AM hf;simp only [AL] at hl;refine tt ?_;refine AD [5,6] (fun k _=>[(7,some (.int .i64 (k : Int)))]) (fun k _ H=>H=H0∧∀ i,i<k→(l.getD i default).Is) l.length () ⟨rfl,by simp⟩ rfl ?_
 rintro k _ H hk ⟨rfl,Ak⟩;refine tt ?_;apply bk <;> intro h1
 ·have AR:=dd h1
  have w1:=ws k;refine tt ?_;refine ⟨AR,(IJ B _).go fun _=>?_⟩;refine tt ?_;apply bk <;> intro h2
  ·refine tt ?_
   have Ah:=dd h2;exact A6 (by rw [Aa]; intro h; exact Ah (h _ (AE.mpr ⟨k,AR,rfl⟩))) (.refl _)
  ·refine tw w1 ?_
   have Ah:=dd h2;exact A5 () (by omega) ⟨rfl,AG Ak Ah⟩ rfl
 ·refine tt ?_
  have AR:=dd h1;exact A6 (by rw [Aw]; exact DZ.mpr fun i hi=>Ak i (by omega)) (.refl _)
theorem Ti (B : Nat) (f g k : SF) (p q : List (List Int)) (hp : SM.Is ⟨f,g,p⟩) (hq : SM.Is ⟨g,k,q⟩) : PB B 50 [.agg (SM.cells ⟨f,g,p⟩),.agg (SM.cells ⟨g,k,q⟩)] (.CG [.agg (SM.cells ⟨f,k,thenS p q⟩),iI 0]):=by
 refine ⟨fun H0=>c50.go fun _=>?_⟩
 have hm : D5 f g p:=hp.WL
 have hn : D5 g k q:=hq.WL
 have e : f.shape=g.shape:=hp.eq
 have l1:=hm.len
 have l2:=hn.len
 have hth:=L0 B p q (by rw [← e] at l2; omega) fun x hx y hy=>by
  have Qk : 0≤(x : Int)∧(x : Int)<f.shape.AO:=by omega
  have h1:=hm.pl x Qk
  have h2:=(hn.pl x (by rw [← e]; exact Qk)).1
  obtain ⟨i,hi,rfl⟩:=AE.mp hy;rw [AH] at h1 h2
  have h3:=h1.2 i ⟨by omega,by omega⟩;rw [AH] at h3;omega
 refine tt ?_;refine nb (.nil _) fun BJ H o=>tt ?_;refine (QR B [⟨f,g,p⟩,⟨g,k,q⟩]).go fun _=>?_
 rw [Aw (show ∀ m,m∈[(⟨f,g,p⟩ : SM),⟨g,k,q⟩]→m.Is from fun m h=>by
  simp only [List.mem_cons,List.not_mem_nil,or_false] at h
  rcases h with rfl | rfl
  ·exact hp
  ·exact hq)]
 refine tt ?_;refine (NU B g).go fun _=>tt ?_;refine hth.go fun _=>?_;refine (ZR B f k (thenS p q)).go fun _=>tt ?_;refine sw o fun H o=>tt ?_
 have hr:=o.rc 15 0 (by simp);simp only [List.drop_zero] at hr;rw [hr];exact A6 rfl o.sub
end Go.Proofs.Shf
namespace Go.Shf
open Go.AW
section
variable {f g k l : SF} {p q r : List (List Int)} {V : List (List Int)}
theorem JS (m : D5 f g p) {x e : Int} (hx : 0≤x∧x<f.shape.AO) (he : 0≤e∧e<ix f.A4 x) : ix (ix (thenS p q) x) e=ix (ix q x) (ix (ix p x) e):=by
 have hl:=m.len;exact Xv (by omega) (by have:=(m.pl x hx).1; omega)
theorem then_assoc (hf : f.Shape) (hg : g.Shape) (e : f.shape=g.shape) (e2 : g.shape=k.shape) (m : D5 f g p) (n : D5 g k q) (o : D5 k l r) : thenS (thenS p q) r=thenS p (thenS q r):=by
 refine D5.ext ((m.then n e hf).then o (e.trans e2) hf) (m.then (n.then o e2 hg) e hf) fun x y hx hy=>?_
 have h1:=(m.pl x hx).2 y hy;rw [JS (m.then n e hf) hx hy,JS m hx hy,JS m hx hy,JS n (by rw [← e]; exact hx) h1]
theorem Qu (m : D5 f g p) {x : Int} {s : List Int} (hs : f.shape.Az x s) {y : Int} (hy : 0≤y∧y<ix f.A4 x) : EN f.shape p s (CE f s y)=CE g s (ix (ix p x) y):=by
 rw [Jj hs.nodup];refine List.map_congr_left fun a ha=>?_
 have hv:=hs.arr ha;rw [GI ha]
 have:=m.nl a hv.1 y (by rw [hv.2]; exact hy);rw [hv.2] at this;exact this
theorem Vu (h : f.Shape) (v : Ba f.shape V) {x a : Int} (hx : 0≤x∧x<f.shape.AO) (ha : a∈ix V x) {t : List Int} (ht : Qc f (ix V x) t) : Bz f.shape V a t=CE f (ix V (ix f.shape.to a)) (entry (ix V x) t a):=by
 have hv:=(v.at hx).arr ha
 have HM:=v.to h.is hv.1;refine JV HM.nodup (by simp [Bz]) (by simp [CE]) fun d hd=>?_
 have Yb:=HM.arr hd;rw [DP hd,GI hd,hv.2,ht.GR h (v.at hx) ha Yb.1 Yb.2.symm]
theorem ZP (h : f.Shape) (v : Ba f.shape V) {x a : Int} (hx : 0≤x∧x<f.shape.AO) (ha : a∈ix V x) {k : Int} (hk : 0≤k∧k<ix (BM f V) x) :
  ix (ix (BZ f V) a) k=ix (ix (BP f V) (ix f.shape.to a)) (entry (ix V x) (ix (C8 f (ix V x)) k) a):=by
 have hv:=(v.at hx).arr ha;rw [CL v hx] at hk
 have ht:=(Sb h v hx (k:=k) ⟨hk.1,by omega⟩).1
 have DS:=h.is.1.Cb hv.1.2
 have s1:=(GN h v hv.1 (k:=k) (by rw [hv.2]; exact ⟨hk.1,by omega⟩)).1;rw [s1,hv.2,S1 h DS (ht.F7 ha),Vu h v hx ha ht]
theorem Xm (v : Ba f.shape V) {x k : Int} (hx : 0≤x∧x<f.shape.AO) (hk : 0≤k∧k<ix (BM f V) x) : ix (ix (Cm f g V p) x) k=gl g x (ix V x) (EN f.shape p (ix V x) (ix (C8 f (ix V x)) k)):=by
 have hl:=v.len;rw [CL v hx] at hk
 have e : ix (Cm f g V p) x=(C8 f (ix V x)).map fun t=>gl g x (ix V x) (EN f.shape p (ix V x) t):=by
  rw [ix,Cm,AX _ _ (by omega)]
  show (B2 f V x.toNat).map _=_
  rw [Int.toNat_of_nonneg hx.1]; rfl
 rw [e,ix,BB _ (by omega)]; rfl
theorem Qs (h : f.Shape) (hc : f.DJ) (hg : g.Shape) (Nc : g.DJ) (e : f.shape=g.shape) (m : D5 f g p) (v : Ba f.shape V) (hs : BL g V) : thenS (BP f V) (Cm f g V p)=p:=by
 have v':=v;rw [e] at v';refine D5.ext ((Db h hc v).then (ED h hg Nc e m v hs) rfl h) m fun x y hx hy=>?_
 have IX : 0≤x∧x<g.shape.AO:=by rw [← e]; exact hx
 have u:=PH h hc v hx hy
 have hr:=(m.pl x hx).2 y hy;rw [JS (Db h hc v) hx hy,Xm v hx u.1,u.2,Qu m (v.at hx) hy];exact ((Lh (GC hg Nc v' hs IX (HY hg Nc (v'.at IX) hr))).2 _ hr rfl).symm
theorem RU (h : f.Shape) (hc : f.DJ) (hF : (AS f V).Shape) (hg : g.Shape) (Nc : g.DJ) (e : f.shape=g.shape) (v : Ba f.shape V) (n : D5 (AS f V) g q) (hs : BL g V) : Cm f g V (thenS (BP f V) q)=q:=by
 have v':=v;rw [e] at v'
 have m:=(Db h hc v).then n rfl h
 refine D5.ext (ED h hg Nc e m v hs) n fun x k hx hk=>?_
 have hz : 0≤x∧x<f.shape.AO:=hx
 have hy : 0≤k∧k<ix (BM f V) x:=hk
 have hz' : 0≤x∧x<g.shape.AO:=by rw [← e]; exact hz
 have hr:=(n.pl x hz).2 k hy
 have Hm:=hy;rw [CL v hz] at Hm
 have ht:=(Sb h v hz (k:=k) ⟨Hm.1,by omega⟩).1;rw [Xm v hz hy];refine ((Lh (GC hg Nc v' hs hz' (Kz h hg e m (v.at hz) ht))).2 _ hr ?_).symm;rw [← Qu n (v.at hz) hy,Jj (v.at hz).nodup,Jj (v.at hz).nodup];refine List.map_congr_left fun a ha=>?_
 have hv:=(v.at hz).arr ha
 have DS:=h.is.1.Cb hv.1.2
 have hen:=ht.F7 ha;rw [GI ha,JS (Db h hc v) DS hen];exact congrArg _ (ZP h v hz ha hy)
end
section
variable {f g : SF} {p : List (List Int)} {V : List (List Int)}
noncomputable def SO (f : SF) (V : List (List Int)) : List (List Int):=thenS (BP f V) (BP (AS f V) V)
theorem Xt {G : SF} {q : List (List Int)} (h : f.Shape) (hc : f.DJ) (hG : G.Shape) (hGc : G.DJ) (e : f.shape=G.shape) (v : Ba f.shape V) (Xe : CQ f V) (n : D5 (AS (AS f V) V) G q) (hs : BL G V) :
  Cm (AS f V) G V (Cm f G V (thenS (SO f V) q))=q:=by
 have hF:=CX h v Xe.1
 have rL:=HW h v Xe.1
 have hF2 : (AS (AS f V) V).Shape:=CX hF v Xe.2
 have u1:=Db h hc v
 have u2 : D5 (AS f V) (AS (AS f V) V) _:=Db hF rL v;rw [SO,then_assoc (k:=AS (AS f V) V) h hF rfl rfl u1 u2 n,RU h hc hF hG hGc e v (u2.then n rfl hF) hs,RU hF rL hF2 hG hGc e v n hs]
theorem O8 (h : f.Shape) (hc : f.DJ) (hg : g.Shape) (Nc : g.DJ) (e : f.shape=g.shape) (m : D5 f g p) (v : Ba f.shape V) (Xe : CQ f V) (hs : BL g V) :
  thenS (SO f V) (Cm (AS f V) g V (Cm f g V p))=p:=by
 have hF:=CX h v Xe.1
 have rL:=HW h v Xe.1
 have u1:=Db h hc v
 have u2 : D5 (AS f V) (AS (AS f V) V) _:=Db hF rL v
 have d1:=ED h hg Nc e m v hs
 have d2 : D5 (AS (AS f V) V) g _:=ED hF hg Nc e d1 v hs;rw [SO,then_assoc (k:=AS (AS f V) V) h hF rfl rfl u1 u2 d2,Qs hF rL hg Nc e d1 v hs,Qs h hc hg Nc e m v hs]
theorem bI (hf : f.Is) (hg : g.Is) (e : f.shape=g.shape) (v : Ba f.shape V) (Xe : CQ f V) (hI : (AS (AS f V) V).Is) (hs : BL g V) :
  (Cz (AS (AS f V) V) g (BR (AS (AS f V) V))).length=(Cz f g (BR f)).length:=by
 have hc:=hf.Ei
 have Nc:=hg.Ei
 have hF:=CX hf.1 v Xe.1
 have rL:=HW hf.1 v Xe.1
 have hF2 : (AS (AS f V) V).Shape:=CX hF v Xe.2
 have u1:=Db hf.1 hc v
 have u2 : D5 (AS f V) (AS (AS f V) V) _:=Db hF rL v
 have u : D5 f (AS (AS f V) V) (SO f V):=u1.then u2 rfl hf.1
 have L1:=Gb hf hg e (LA (g:=g) hf.1)
 have L2:=Gb hI hg (show (AS (AS f V) V).shape=g.shape from e) (LA (g:=g) hI.1)
 have m1 : ∀ t,t∈Cz f g (BR f)↔D5 f g t:=fun t=>(L1.mem t).trans (RX hf.1)
 have m2 : ∀ t,t∈Cz (AS (AS f V) V) g (BR (AS (AS f V) V))↔D5 (AS (AS f V) V) g t:=fun t=>(L2.mem t).trans (RX hI.1)
 have n1:=L1.nodup
 have n2:=L2.nodup
 generalize Cz f g (BR f)=A at *
 generalize Cz (AS (AS f V) V) g (BR (AS (AS f V) V))=Bm at *;apply Nat.le_antisymm
 ·have hi : (Bm.map fun q=>thenS (SO f V) q).Nodup:=by
   refine List.pairwise_map.mpr (n2.imp_of_mem fun {a b} ha hb HL q=>HL ?_)
   have h1:=Xt hf.1 hc hg.1 Nc e v Xe ((m2 a).mp ha) hs
   have h2:=Xt hf.1 hc hg.1 Nc e v Xe ((m2 b).mp hb) hs;rw [← h1,← h2,q]
  have:=List.Nodup.length_le_of_subset (l₂:=A) hi fun t ht=>by
   obtain ⟨q,hq,rfl⟩:=List.mem_map.mp ht;exact (m1 _).mpr (u.then ((m2 q).mp hq) rfl hf.1)
  simpa using this
 ·have hi : (A.map fun p=>Cm (AS f V) g V (Cm f g V p)).Nodup:=by
   refine List.pairwise_map.mpr (n1.imp_of_mem fun {a b} ha hb HL q=>HL ?_)
   have h1:=O8 hf.1 hc hg.1 Nc e ((m1 a).mp ha) v Xe hs
   have h2:=O8 hf.1 hc hg.1 Nc e ((m1 b).mp hb) v Xe hs;rw [← h1,← h2,q]
  have:=List.Nodup.length_le_of_subset (l₂:=Bm) hi fun t ht=>by
   obtain ⟨p,hp,rfl⟩:=List.mem_map.mp ht;exact (m2 _).mpr (ED hF hg.1 Nc e (ED hf.1 hg.1 Nc e ((m1 p).mp hp) v hs) v hs)
  simpa using this
end
end Go.Shf
namespace Go.AW
theorem ZZ {l : List AV} {i : Nat} (h : i<l.length) : l.set i (l.getD i nv)=l:=by
 apply List.ext_getElem?
 intro j
 by_cases e : j=i
 ·subst e; simp [Go.AW.gE,h]
 ·rw [List.getElem?_set_ne (by omega)]
theorem T6.xa {α : Type} {O : Ob→AV→α→Prop} {p : Ob} {X : AV} {A : List α} (h : T6 O p X A) : Ee (some X)=some (True,.int .i64 A.length):=by
 rcases h with ⟨_,rfl,rfl⟩ | ⟨id,Xs,o,_,rfl,hr⟩
 ·rfl
 ·simp [Go.AW.Ee,hr.len]
theorem T6.Tg {α : Type} {O : Ob→AV→α→Prop} {p : Ob} {X : AV} {A : List α} (h : T6 O p X A) {i : Nat} (hi : i<A.length) : ∃ id Xs o,p=(id,.cells 1 Xs 0)::o∧X=.buf id Xs.length∧Bd O Xs A o:=by
 rcases h with ⟨_,_,rfl⟩ | h
 ·simp at hi
 ·exact h
theorem AA.y0 {α : Type} [Inhabited α] {O : Ob→AV→α→Prop} {H0 H : AB} {l q : Ob} {id : Nat} {Xs : List AV} {A : List α} (o : AA H0 H (((id,.cells 1 Xs 0)::q)++l)) (hr : Bd O Xs A q) {i : Nat} (hi : i<Xs.length) :
  ∃ p r,AA H0 H (p++((id,.cells 1 Xs 0)::(r++l)))∧O p (Xs.getD i nv) (A.getD i default) ∧
   ∀ a' p' H',O p' (Xs.getD i nv) a'→AA H0 H' (p'++((id,.cells 1 Xs 0)::(r++l)))→∃ q',Bd O Xs (A.set i a') q'∧AA H0 H' (((id,.cells 1 Xs 0)::q')++l):=by
 obtain ⟨p,r,h1,h2,h3⟩:=hr.split i hi;refine ⟨p,r,o.perm ?_,h2,fun a' p' H' hO o'=>?_⟩
 ·refine List.Perm.trans ?_ (List.perm_middle (a:=(id,AF.cells 1 Xs 0)) (l₁:=p) (l₂:=r++l)).symm;refine List.Perm.cons _ ?_;rw [← List.append_assoc];exact List.Perm.append_right l h1
 ·obtain ⟨q',k1,k2⟩:=h3 _ _ _ hO;rw [ZZ hi] at k1;refine ⟨q',k1,o'.perm ?_⟩;refine List.Perm.trans (List.perm_middle (a:=(id,AF.cells 1 Xs 0)) (l₁:=p') (l₂:=r++l)) ?_;refine List.Perm.cons _ ?_;rw [← List.append_assoc];exact List.Perm.append_right l k2.symm
theorem Bd.nB {Xs : List AV} {l : List Int} {o : Ob} (h : Bd OI Xs l o) : o=[]∧Xs=l.map iI:=by
 induction h with
 | nil=>exact ⟨rfl,rfl⟩
 | cons h _ ih=>exact ⟨by rw [h.1,ih.1]; rfl,by rw [h.2,ih.2]; rfl⟩
theorem PX : ∀ (l : List Int),Bd OI (l.map iI) l []
 | []=>.nil
 | a::r=>.cons (p:=[]) ⟨rfl,rfl⟩ (PX r)
theorem T6.bm {α : Type} {O : Ob→AV→α→Prop} {p q l : Ob} {X Y : AV} {A : List α} {a : α} {H0 H : AB} {K : Am} (h : T6 O q X A) (hy : O p Y a) (h1 : Y.cells=[Y]∧Y.one=true) (o : AA H0 H (p++(q++l))) (hm : A.length+1≤AL)
  (hk : ∀ X' q' H',X'.one=true→T6 O q' X' (A++[a])→AA H0 H' (q'++l)→K X' H') : DW 1 (some X) (some (.sl [Y])) K H:=by
 have Eb : DK 1 [Y]:=by
  intro e he;rw [List.mem_singleton] at he; subst he;rw [h1.1];exact ⟨rfl,fun c hc=>by rw [List.mem_singleton] at hc; subst hc; exact h1.2⟩
 have Fc : flat [Y]=[Y]:=by simp [flat,h1.1]
 rcases h with ⟨rfl,rfl,rfl⟩ | ⟨id,Xs,r,rfl,rfl,hr⟩
 ·simp only [DW,Ct,Sd];refine ⟨⟨by simp [AL],by simp [AL],Eb⟩,fun id hn=>?_⟩;rw [Fc];refine hk (.buf id 1) ((id,.cells 1 [Y] 0)::p) _ rfl (.inr ⟨id,[Y],p,rfl,rfl, ?_⟩) ?_
  ·have:=Bd.cons hy Bd.nil;rw [List.append_nil] at this; exact this
  ·have:=o.new hn (.cells 1 [Y] 0)
   simpa using this
 ·have o2 : AA H0 H ((id,.cells 1 Xs 0)::(p++(r++l))):=by
   refine o.perm ?_
   simp
  have h0:=o2.h0;simp only at h0
  have hl:=hr.len;simp only [DW,h0,Ct,Gc];refine ⟨⟨trivial,by simp,by simp; omega,by simp; omega,Eb⟩,fun CT hn=>?_⟩;rw [Fc];refine hk (.buf CT (Xs.length+1)) ((CT,.cells 1 (Xs++[Y]) 0)::(r++p)) _ rfl (.inr ⟨CT,Xs++[Y],r++p,rfl,by simp, ?_⟩) ?_
  ·refine hr.app ?_
   have:=Bd.cons hy Bd.nil;rw [List.append_nil] at this; exact this
  ·have:=o2.mv hn (.cells 1 (Xs++[Y]) 0);refine this.perm (List.Perm.cons _ ?_);rw [← List.append_assoc];exact List.Perm.append_right l List.perm_append_comm
theorem kR {H0 H : AB} {q l : Ob} {X : AV} {p : List (List Int)} (hX : N0 q X p) (o : AA H0 H (q++l)) {y : Nat} (hy : y<p.length) :
  ∃ FK Xs,X=.buf FK Xs.length∧Xs.length=p.length∧H.get FK=some (.cells 1 Xs 0)∧∃ pr,OL pr (Xs.getD y nv) (p.getD y default)∧∀ x,x∈pr→H.get x.1=some x.2:=by
 obtain ⟨FK,Xs,r,rfl,rfl,hr⟩:=hX.Tg hy
 have hl:=hr.len
 obtain ⟨pr,r2,o2,hO,_⟩:=o.y0 hr (i:=y) (by omega);exact ⟨FK,Xs,rfl,hl,o.h0,pr,hO,fun x hx=>o2.get x (List.mem_append_left _ hx)⟩
theorem Ou {H0 H : AB} {q l : Ob} {X : AV} {p : List (List Int)} (hX : N0 q X p) (o : AA H0 H (q++l)) {y i : Nat} (hy : y<p.length) (hi : i<(p.getD y default).length) :
  ∃ FK Xs Jl,X=.buf FK Xs.length∧Xs.length=p.length∧H.get FK=some (.cells 1 Xs 0)∧Xs.getD y nv=.buf Jl (p.getD y default).length∧H.get Jl=some (.cells 1 ((p.getD y default).map iI) 0) ∧
   ∀ (k : Int) (K : Am),(∀ q' H',N0 q' X (p.set y ((p.getD y default).set i k))→AA H0 H' (q'++l)→K nv H')→OZ (H.get Jl) Jl i 1 [iI k] K H:=by
 obtain ⟨FK,Xs,r,rfl,rfl,hr⟩:=hX.Tg hy
 have hl:=hr.len
 obtain ⟨pr,r2,o2,hO,back⟩:=o.y0 hr (i:=y) (by omega)
 obtain ⟨Jl,Ys,rr,rfl,hY,jA⟩:=hO.Tg hi
 obtain ⟨rfl,rfl⟩:=jA.nB;rw [List.length_map] at hY;refine ⟨FK,Xs,Jl,rfl,hl,o.h0,hY,o2.h0,fun k K hk=>?_⟩;refine Bw (f:=iI) k o2 rfl hi fun H' o3=>?_
 obtain ⟨q',XV,o4⟩:=back ((p.getD y default).set i k) [(Jl,.cells 1 (((p.getD y default).set i k).map iI) 0)] H' (by rw [hY]; exact .inr ⟨Jl,_,[],rfl,by simp,PX _⟩) o3;exact hk _ H' (.inr ⟨FK,Xs,q',rfl,rfl,XV⟩) o4
theorem Gk.bg {α : Type} {O : Ob→AV→α→Prop} {f : α→AV} {a : α} {P : Program} {B : Nat} {fn : FuncId} {args es : List AV} {H : AB} {K : Am} (hO : Ow O f) (h : Gk P B fn es fun p X=>O p X a) (hl : es.length=args.length)
  (ht : ∀ i,i<args.length→∀ g w v,Ao g B H w→Ab g (args.getD i nv) v→Ab (g.EB H w) (es.getD i nv) v)
  (hk : ∀ H',H.sub H'→K (f a) H') : B7 P B fn args H K:=by
 have h1 : B7 P B fn args H fun r H'=>∃ p,O p r a∧AA H H' (p++[]):=Gk.xu hO h (AA.nil H) hl ht fun r p H' q o=>⟨p,q,o⟩;refine ⟨h1.1,fun g w vs hW hv=>?_⟩;refine (h1.2 g w vs hW hv).mono fun e w' ⟨v,he,g',r,H',q1,⟨p,q2,q3⟩,q4,q5,q6⟩=>?_
 obtain ⟨g2,H2,r1,r2,r3,r4⟩:=hO.fz p r a q2 g' B H H' [] w' q5 q3;exact ⟨v,he,g2,f a,H2,q1.trans r1,hk H2 r3.sub,r4 v q4,r2,q6⟩
end Go.AW
namespace Go.AW
theorem Et.rows {Xs : List AV} {T : List (List Int)} {ob : Ob} (h : Et iI Xs T ob) : Bd OL Xs T ob:=by
 induction h with
 | nil=>exact .nil
 | @cons p o X Xs A As h t ih =>
  refine .cons ?_ ih
  rcases h with ⟨rfl,rfl,rfl⟩ | ⟨id,rfl,rfl⟩
  ·exact .inl ⟨rfl,rfl,rfl⟩
  ·exact .inr ⟨id,_,[],rfl,by simp,PX _⟩
theorem Bd.lsr {Xs : List AV} {T : List (List Int)} {ob : Ob} (h : Bd OL Xs T ob) : Et iI Xs T ob:=by
 induction h with
 | nil=>exact .nil
 | @cons p o X Xs A As h t ih =>
  refine Et.cons ?_ ih
  rcases h with ⟨rfl,rfl,rfl⟩ | ⟨id,Ys,r,rfl,rfl,hr⟩
  ·exact .inl ⟨rfl,rfl,rfl⟩
  ·obtain ⟨rfl,rfl⟩:=hr.nB;exact .inr ⟨id,rfl,by simp⟩
theorem qD {F : Env→AB→Prop} {σ : Env} {H0 H : AB} {l q : Ob} {id n : Nat} {T : List (List Int)} (h : N0 q (.buf id n) T) (o : AA H0 H (q++l))
  (hk : ∀ H',n=T.length→AA H0 H' ((id,.cells 1 (T.map iL) 0)::l)→Gj F σ H') : Gj F σ H:=by
 rcases h with ⟨_,h,_⟩ | ⟨ER,Xs,ob,rfl,hX,hr⟩
 ·cases h
 ·obtain ⟨rfl,rfl⟩:=AV.buf.inj hX;exact Cy hr.lsr [] H o fun H' o'=>hk H' hr.len o'
end Go.AW
namespace Go.Shf
theorem Kw {α : Type} [Inhabited α] (A : List α) (i : Nat) : A.set i (A.getD i default)=A:=by
 apply List.ext_getElem?
 intro j
 by_cases e : i=j
 ·subst e
  by_cases h : i<A.length
  ·simp [Go.AW.gE,h]
  ·rw [List.getElem?_eq_none (by simp; omega),List.getElem?_eq_none (by omega)]
 ·rw [List.getElem?_set_ne e]
theorem ZQ {p : List (List Int)} {y i v : Int} (h : Go.AW.ix (Go.AW.ix p y) i=v) : MR p y i v=p:=by
 have e : (Go.AW.ix p y).set i.toNat v=Go.AW.ix p y:=by rw [← h]; exact Kw _ _
 rw [MR,e]; exact Kw _ _
end Go.Shf
namespace Go.Proofs.Shf
open Go.AW Go.Proofs Go.Shf
@[go_sem] def OO (f g : SF) (m : Int) (X : AV) : AF:=.cells 17 [iI f.shape.AO,iL f.shape.AJ,iL f.shape.to,iL f.shape.Av,BA f.shape.comp,iL f.A4,BA f.AU,
 iI g.shape.AO,iL g.shape.AJ,iL g.shape.to,iL g.shape.Av,BA g.shape.comp,iL g.A4,BA g.AU,.bool false,iI m,X] 0
def JO (f g : SF) (p : List (List Int)) (x e d : Int) (r : AV) : Prop:=∃ (ok : Bool) (p' : List (List Int)),r=.CG [BA p',.bool ok]∧(ok=true→∃ N,E7 f g p x e d (outs f.shape x).length p' N)∧(ok=false→¬ iR f g p x e d)
theorem Xu (B : Nat) {f g : SF} {x e d m : Int} (w : TL f g x e d) {p : List (List Int)} (hP : PT f g p) {DM : Nat} {X : AV} {l : Ob} {H0 H : AB}
  (o : AA H0 H ((DM,OO f g m X)::l)) :
  CB B 300 [.ref DM 0,BA p,iI x,iI e,iI d] H fun r H'=>JO f g p x e d r∧AA H0 H' ((DM,OO f g m X)::l):=by
 refine xY.go fun _=>?_
 have hm:=w.hf.1.is.1.m
 have F3:=w.hf.1.is.1.o
 have IQ:=w.hf.1.is.1.HN
 have Np:=w.hf.1.al
 have s8 : g.AU.length=f.shape.AJ.length:=by have:=w.hg.1.al; rw [← w.sh] at this; exact this
 refine tt ?_;refine (Mr B p H0 H _ o).mono ?_;clear o
 rintro r H ⟨FK,Xs,ob,rfl,sB,o⟩
 have uw : N0 ((FK,.cells 1 Xs 0)::ob) (.buf FK Xs.length) p:=.inr ⟨FK,Xs,ob,rfl,rfl,sB.rows⟩
 have hlX:=sB.len
 generalize Ye : Xs.length=nX at *;clear sB;refine tt ?_
 refine AD [0,2,3,4,12] (G:=List (List Int) × List (Int × Int) × Ob) (fun a _=>[(13,some (.int .i64 (a : Int)))])
  (fun a G H=>N0 G.2.2 (.buf FK nX) G.1∧E7 f g p x e d (LN f.shape x a) G.1 G.2.1∧AA H0 H ((DM,OO f g m X)::(G.2.2++l))) f.shape.AJ.length (p,[],(FK,.cells 1 Xs 0)::ob) ⟨uw,.zero f g p x e d,o.pm⟩ rfl ?_
 clear o uw
 rintro a ⟨p',N,q⟩ H ha ⟨hX,hS,o⟩;dsimp only at hX hS o
 have M0 : H.get DM=some (OO f g m X):=o.h0;refine tt ?_;refine Af M0 (by simp) (tt ?_);apply bk <;> intro h1
 ·have AR : a<f.shape.AJ.length:=by have:=A7 h1; omega
  have w1:=ws a;refine tt ?_;refine Af M0 (by simp) (tt ?_);refine ⟨by omega, ?_⟩;apply bk <;> intro h2
  ·have Ah:=dd h2
   have wM : LN f.shape x (a+1)=LN f.shape x a:=by rw [Qq,if_neg (by simpa using Ah)]
   refine tw w1 ?_;exact A5 (p',N,q) (by omega) ⟨hX,by rw [wM]; exact hS,o⟩ rfl
  ·have Ah:=dd h2
   have vk : f.shape.AJ.getD a default=x:=by simpa using Ah
   have wM : LN f.shape x (a+1)=LN f.shape x a+1:=by rw [Qq,if_pos vk]
   have Q5:=kV (P:=fun i=>decide (f.shape.AJ.getD i default=x)) AR (decide_eq_true vk)
   have Me : LN f.shape x a<(outs f.shape x).length:=by rw [outs,List.length_map]; exact Q5.2
   have ea : (outs f.shape x).getD (LN f.shape x a) default=(a : Int):=by
    rw [outs,show LN f.shape x a=((List.range a).filter fun i=>decide (f.shape.AJ.getD i default=x)).length from rfl,BB _ Q5.2]; exact congrArg Int.ofNat Q5.1
   have hA:=w.arr (b:=(a : Int)) (AE.mpr ⟨_,Me,ea⟩)
   have Eo:=hP.ew w.hf.1 hA.2.2.1 hA.2.2.2.1
   have TF:=w.hf.1.Nq hA.1 (e:=e) (by rw [hA.2.1]; exact w.he)
   have gX:=w.hg.1.Nq (a:=(a : Int)) (e:=d) (by rw [← w.sh]; exact hA.1) (by rw [← w.sh,hA.2.1]; exact w.hd);simp only [AH] at hA Eo TF gX
   have DS:=hA.2.2.1
   have Px:=hA.2.2.2.1
   have Nc:=hA.2.2.2.2
   have Io : (f.shape.to.getD a default).toNat<p'.length:=by rw [hS.len]; exact Eo.1.2
   have Er : (ix (f.AU.getD a default) e).toNat<(p'.getD (f.shape.to.getD a default).toNat default).length:=by rw [hS.row]; exact Eo.2.2
   have o1 : AA H0 H (q++((DM,OO f g m X)::l)):=o.pm
   obtain ⟨idX',Xs',Jl,hXe,IV,TO,Vf,n9,Hk⟩:=Ou hX o1 Io Er
   obtain ⟨rfl,hnX⟩:=AV.buf.inj hXe
   have hfin2:=TF.2
   have hgin2:=gX.2;refine tt ?_;refine Af M0 (by simp) (tt ?_);refine ⟨by omega,Af M0 (by simp) ?_⟩;refine tt ?_;refine ⟨by omega,tt ?_⟩;refine ⟨TF,Af M0 (by simp) ?_⟩;refine tt ?_;refine ⟨by omega,tt ?_⟩;refine ⟨gX, ?_⟩
   have eT : ix f.shape.to (a : Int)=f.shape.to.getD a default:=by rw [AH]
   have eA : ix f.AU (a : Int)=f.AU.getD a default:=by rw [AH]
   have eG : ix g.AU (a : Int)=g.AU.getD a default:=by rw [AH]
   have Na:=fun h=>hS.fresh w hP Me ea h
   have Kk:=fun h=>hS.same Me ea h
   have T9:=fun h h2=>hS.uY w Me ea h h2;rw [eT,eA,eG] at Na Kk T9
   generalize f.shape.to.getD a default=y at *
   generalize ix (f.AU.getD a default) e=i at *
   generalize ix (g.AU.getD a default) d=v at *
   have eV : (p'.getD y.toNat default).getD i.toNat default=ix (ix p' y) i:=rfl;refine tt ?_;refine ⟨⟨DS.1,by omega⟩,Af TO (by omega) ?_⟩;rw [Vf];refine tt ?_;refine ⟨⟨Px.1,Er⟩,Bo (f:=iI) n9 Er ?_⟩;rw [eV];refine tt ?_
   have HM : ∀ (K : Am),(∀ q' H',N0 q' (.buf FK nX) (MR p' y i v)→AA H0 H' (q'++((DM,OO f g m X)::l))→K nv H')→OZ (H.get Jl) Jl i.toNat 1 [iI v] K H:=fun K hk=>Hk v K hk
   by_cases h3 : 0≤ix (ix p' y) i
   ·rw [decide_eq_true h3];refine tt ?_;refine ⟨⟨DS.1,by omega⟩,Af TO (by omega) ?_⟩;rw [Vf];refine tt ?_;refine ⟨⟨Px.1,Er⟩,Bo (f:=iI) n9 Er ?_⟩;rw [eV];refine tt ?_
    by_cases h4 : ix (ix p' y) i=v
    ·rw [decide_eq_true h4];refine tt ?_;refine Af M0 (by simp) (tt ?_);refine ⟨⟨DS.1,by omega⟩,Af TO (by omega) ?_⟩;rw [Vf];refine tt ?_;refine ⟨⟨Px.1,Er⟩,HM _ fun q' H HJ o=>?_⟩;rw [ZQ h4] at HJ;refine tw w1 ?_;exact A5 (p',N,q') (by omega) ⟨HJ,by rw [wM]; exact Kk h4,(by simp only [OO] at o ⊢; exact o.pm)⟩ rfl
    ·rw [decide_eq_false h4];refine tt ?_;exact ⟨H,.refl H,⟨false,[],rfl,(fun h=>by cases h),fun _=>T9 h3 h4⟩,(show AA H0 H ((DM,OO f g m X)::l) from o.KW (List.Sublist.cons_cons _ (List.sublist_append_right _ _)))⟩
   ·rw [decide_eq_false h3];refine tt ?_;refine Af M0 (by simp) (tt ?_);refine ⟨⟨DS.1,by omega⟩,Af TO (by omega) ?_⟩;rw [Vf];refine tt ?_;refine ⟨⟨Px.1,Er⟩,HM _ fun q' H HJ o=>?_⟩;refine tw w1 ?_;exact A5 (_,N++[(y,i)],q') (by omega) ⟨HJ,by rw [wM]; exact Na h3,(by simp only [OO] at o ⊢; exact o.pm)⟩ rfl
 ·have AR:=A9 h1
  have eL : f.shape.AJ.length=(f.AU.length):=by omega
  have Ah : a=f.shape.AJ.length:=by omega
  have N6 : LN f.shape x a=(outs f.shape x).length:=by rw [Ah,outs,List.length_map]; rfl
  rw [N6] at hS;refine tt ?_;refine qD hX (o.pm : AA H0 H (q++((DM,OO f g m X)::l))) fun H hl o=>AY ?_;refine tt ?_;refine Al o hl fun H o=>tt ?_;exact ⟨H,.refl H,⟨true,p',rfl,fun _=>⟨N,hS⟩,fun h=>by cases h⟩,o⟩
theorem YW (B : Nat) {f g : SF} {x e m : Int} (hf : f.Is) (hg : g.Is) (sh : f.shape=g.shape) (hx : 0≤x∧x<f.shape.AO) (he : 0≤e∧e<ix f.A4 x) {p : List (List Int)} (hP : PT f g p) {DM : Nat} {X : AV} {l : Ob} {H0 H : AB}
  (o : AA H0 H ((DM,OO f g m X)::l)) :
  CB B 299 [.ref DM 0,BA p,iI x,iI e] H fun r H'=>r=iL (EK f g p x e (ix g.A4 x).toNat)∧AA H0 H' ((DM,OO f g m X)::l):=by
 refine zr.go fun _=>?_
 have hX:=hg.1.vE (x:=x) (by rw [← sh]; exact hx)
 have h0:=hg.1.sz _ (Bh hX.2)
 obtain ⟨n,hn⟩ : ∃ n : Nat,ix g.A4 x=n:=⟨_,(Int.toNat_of_nonneg h0.1).symm⟩;rw [hn] at h0;rw [hn,Int.toNat_natCast];refine tt ?_;refine Ag iI o fun id H o=>tt ?_
 refine AD [0,1,2,3] (G:=Nat × List Int) (fun k g=>[(9,some (.buf g.1 g.2.length)),(10,some (.int .i64 (k : Int)))])
  (fun k G H=>G.2=EK f g p x e k∧AA H0 H ((G.1,.cells 1 (G.2.map iI) 0)::(DM,OO f g m X)::l)) n (id,[]) ⟨by simp [EK],o⟩ rfl ?_
 clear o
 rintro k ⟨id,out⟩ H hk ⟨Au,o⟩;dsimp only at Au o
 have M0 : H.get DM=some (OO f g m X):=o.tl.h0
 have TM:=Ub (f:=f) (g:=g) (p:=p) (x:=x) (e:=e) k;rw [← Au] at TM;refine tt ?_;refine Af M0 (by simp) (tt ?_);refine ⟨hX, ?_⟩;rw [hn];refine tt ?_;apply bk <;> intro h1
 ·have AR : k<n:=by have:=A7 h1; omega
  have w1:=ws k;refine tt ?_;refine (Xu B (d:=(k : Int)) ⟨hf,hg,sh,hx,he,by omega,by omega⟩ hP o.swap).mono ?_;clear o
  rintro r H ⟨⟨ok,p',rfl,ht,ES⟩,o⟩;refine tt ?_
  cases ok with
  | true =>
   obtain ⟨N,hS⟩:=ht rfl;refine tt ?_;refine Ad (k : Int) o.swap rfl rfl (by simp only [AL]; omega) fun z H o=>?_;refine tw w1 ?_;exact A5 (z,out++[(k : Int)]) AR ⟨by rw [Au,qB ⟨p',N,hS⟩],o⟩ rfl
  | false =>
   refine tw w1 ?_;exact A5 (id,out) AR ⟨by rw [Au,qM (ES rfl)],o.swap⟩ rfl
 ·have AR : ¬ k<n:=by have:=A9 h1; omega
  obtain rfl : k=n:=by omega
  refine tt ?_;refine Al o rfl fun H o=>tt ?_;exact ⟨H,.refl H,by rw [Au],o⟩
def GoK (f g : SF) (most : Nat) (DM : Nat) (L : List (List (List Int))) (H0 : AB) (l : Ob) : Am:=fun r H'=>∃ (X : AV) (w : Ob),r=.CG []∧QA BA w X (L.take most)∧AA H0 H' ((DM,OO f g most X)::(w++l))
theorem qS (B : Nat) {f g : SF} (hf : f.Is) (hg : g.Is) (sh : f.shape=g.shape) (most : Nat) (FY : most≤1000) (DM : Nat) :
  ∀ (n : Nat) (p : List (List Int)),Iv f p=n→PT f g p→∀ (A : List (List (List Int))) (X : AV) (w l : Ob) (H0 H : AB),A.length<most→QA BA w X A→AA H0 H ((DM,OO f g most X)::(w++l)) →
   CB B 266 [.ref DM 0,BA p] H (GoK f g most DM (A++Cz f g p) H0 l):=by
 intro n
 induction n using Nat.strongRecOn with
 | _ n ih =>
 intro p hn hP A X w l H0 H hA hX o;refine c266.go fun _=>?_
 have F3:=hf.1.is.1.o
 have Fg:=hf.1.sl
 have Kn:=hP.len
 have Ps : ∀ x,x<f.A4.length→0≤f.A4.getD x default∧f.A4.getD x default<17:=fun x hx=>hf.1.sz _ (AE.mpr ⟨x,hx,rfl⟩)
 have wU : (A++([] : List (List (List Int)))).take most=A:=by rw [List.append_nil]; exact List.take_of_length_le (by omega)
 have w0 : IntKind.i64.wrap ((p.length : Int) - 1)=(p.length : Int) - 1 - ((0 : Nat) : Int):=by rw [wrap_i64 (by omega) (by omega)]; omega
 refine tw w0 ?_
 refine AD [0,1] (G:=Int × Int) (fun k g=>[(4,some (iI g.1)),(5,some (iI g.2)),(6,some (.int .i64 ((p.length : Int) - 1 - (k : Int))))])
  (fun k G H=>Ez f p ((p.length : Int) - k) 0 G.1 G.2∧AA H0 H ((DM,OO f g most X)::(w++l))) p.length (-1,-1) ⟨.start (by omega),o⟩ rfl ?_
 clear o
 rintro k ⟨x,e⟩ H hk ⟨hS,o⟩;dsimp only at hS o;refine tt ?_;apply bk <;> intro h1
 ·have AR : k<p.length:=by have:=A7 h1; omega
  have w1 : IntKind.i64.wrap ((p.length : Int) - 1 - (k : Int) - 1)=(p.length : Int) - 1 - ((k+1 : Nat) : Int):=by rw [wrap_i64 (by omega) (by omega)]; omega
  obtain ⟨y,hy⟩ : ∃ y : Nat,(p.length : Int) - 1 - (k : Int)=y:=⟨p.length - 1 - k,by omega⟩
  have hJ : y<p.length:=by omega
  have hzy:=Ps y (by omega)
  have B3:=hP.row y (by omega)
  have w2 : IntKind.i64.wrap (((p.getD y default).length : Int) - 1)=((p.getD y default).length : Int) - 1 - ((0 : Nat) : Int):=by rw [wrap_i64 (by omega) (by omega)]; omega
  have hS1 : Ez f p y (((p.getD y default).length : Int) - ((0 : Nat) : Int)) x e:=by
   have e1 : (p.length : Int) - k=(y : Int)+1:=by omega
   rw [e1] at hS;exact hS.row (by rw [AH]; omega)
  rw [hy];refine tt ?_;refine ⟨by omega, ?_⟩;refine tw w2 ?_
  refine AD [0,1,6] (G:=Int × Int) (fun j g=>[(4,some (iI g.1)),(5,some (iI g.2)),(7,some (.int .i64 (((p.getD y default).length : Int) - 1 - (j : Int))))])
   (fun j G H=>Ez f p y (((p.getD y default).length : Int) - j) G.1 G.2∧AA H0 H ((DM,OO f g most X)::(w++l))) (p.getD y default).length (x,e) ⟨hS1,o⟩ rfl ?_
  clear o hS hS1
  rintro j ⟨x,e⟩ H hj ⟨hS,o⟩;dsimp only at hS o;refine tt ?_;apply bk <;> intro h2
  ·have Ah : j<(p.getD y default).length:=by have:=A7 h2; omega
   obtain ⟨d,hd⟩ : ∃ d : Nat,((p.getD y default).length : Int) - 1 - (j : Int)=d:=⟨(p.getD y default).length - 1 - j,by omega⟩
   have hdl : d<(p.getD y default).length:=by omega
   have w3 : IntKind.i64.wrap ((d : Int) - 1)=((p.getD y default).length : Int) - 1 - ((j+1 : Nat) : Int):=by rw [wrap_i64 (by omega) (by omega)]; omega
   have e1 : ((p.getD y default).length : Int) - j=(d : Int)+1:=by omega
   have e2 : ((p.getD y default).length : Int) - ((j+1 : Nat) : Int)=(d : Int):=by omega
   have hY : (0 : Int)≤(y : Int)∧(y : Int)<f.shape.AO:=by omega
   have hD : (0 : Int)≤(d : Int)∧(d : Int)<ix f.A4 (y : Int):=by rw [AH]; omega
   have hv:=hP.val y d hY hD
   have eV : (p.getD y default).getD d default=ix (ix p (y : Int)) (d : Int):=by rw [AH,AH]
   rw [e1] at hS;rw [hd];refine tt ?_;refine ⟨by omega,hdl, ?_⟩;rw [eV];refine tt ?_;apply bk <;> intro h3
   ·have B8 : ix (ix p (y : Int)) (d : Int)=-1:=by have:=A7 h3; omega
    refine tt ?_;refine (YW B hf hg sh hY hD hP o).mono ?_;clear o
    rintro r H ⟨rfl,o⟩;refine tt ?_;apply bk <;> intro h4
    ·have Cr : EK f g p y d (ix g.A4 (y : Int)).toNat=[]:=List.length_eq_zero_iff.mp (by rw [AH]; have:=A7 h4; omega)
     have ES:=J0 hf hg sh hP (dK hf hg sh hP hY hD Cr);refine tt ?_;refine ⟨H,.refl H,X,w,rfl, ?_,o⟩;rw [← ES,wU]; exact hX
    ·refine tw w3 ?_;exact A5 ((y : Int),(d : Int)) (by omega) ⟨by rw [e2]; exact hS.XR hY hD B8,o⟩ rfl
   ·have B8 : ix (ix p (y : Int)) (d : Int)≠-1:=by have:=A9 h3; omega
    refine tw w3 ?_;exact A5 (x,e) (by omega) ⟨by rw [e2]; exact hS.B6 B8,o⟩ rfl
  ·have Ah : j=(p.getD y default).length:=by have:=A9 h2; omega
   rw [← hy] at *;refine tw w1 ?_
   exact A5 (x,e) (by omega) ⟨by
    have e1 : (p.length : Int) - ((k+1 : Nat) : Int)=(p.length : Int) - 1 - k:=by omega
    rw [Ah,Int.sub_self] at hS;rw [e1]; exact hS,o⟩ rfl
 ·have AR : k=p.length:=by have:=A9 h1; omega
  rw [AR,Int.sub_self] at hS;refine tt ?_
  have oX : AA H0 H (w++((DM,OO f g most X)::l)):=o.pm;apply bk <;> intro h2
  ·have Ah:=A7 h2
   have N6:=J0 hf hg sh hP (KO hf hP (hS.none Ah))
   have M0 : H.get DM=some (OO f g most X):=o.h0;refine tt ?_;refine Af M0 (by simp) (tt ?_);refine (CZ.mk oX hX).app p rfl (by simp only [AL]; omega) fun Av H o=>tt ?_;refine sw o.swap fun H o=>tt ?_;refine ⟨H,.refl H,.buf Av (A++[p]).length,[(Av,.cells 1 ((A++[p]).map BA) 0)],rfl, ?_,o⟩;rw [← N6,List.take_of_length_le (by simp; omega)];exact .inr ⟨Av,rfl,rfl⟩
  ·have Ah:=A9 h2
   have hF:=hS.fst Ah
   obtain ⟨hx,he⟩ : _∧_:=⟨hF.hx,hF.he⟩
   have TO:=hg.1.vE (x:=x) (by rw [← sh]; exact hx)
   have h0:=hg.1.sz _ (Bh TO.2)
   obtain ⟨n,hn2⟩ : ∃ n : Nat,ix g.A4 x=n:=⟨_,(Int.toNat_of_nonneg h0.1).symm⟩
   have Hs : ∀ d,0≤d→d<ix g.A4 x→TL f g x e d:=fun d h1 h2=>⟨hf,hg,sh,hx,he,h1,h2⟩
   have Md:=Ub (f:=f) (g:=g) (p:=p) (x:=x) (e:=e) n;refine tt ?_;refine (YW B hf hg sh hx he hP o).mono ?_;clear o oX
   rintro r H ⟨rfl,o⟩;rw [hn2,Int.toNat_natCast];refine tt ?_
   refine AD [0,1,4,5,8] (G:=List (List (List Int)) × AV × Ob × Int) (fun i _=>[(9,some (.int .i64 (i : Int)))])
    (fun i G H=>V7 f g p x e n i G.2.2.2 G.1∧QA BA G.2.2.1 G.2.1 ((A++G.1).take most)∧AA H0 H ((DM,OO f g most G.2.1)::(G.2.2.1++l))) (EK f g p x e n).length ([],X,w,0) ⟨.start hx he n,by rw [wU]; exact hX,o⟩ rfl ?_
   clear o hX
   rintro i ⟨M,X,w,b⟩ H hi ⟨hC,hX,o⟩;dsimp only at hC hX o
   have M0 : H.get DM=some (OO f g most X):=o.h0
   have hlX:=hX.Ee;refine tt ?_
   by_cases h3 : i<(EK f g p x e n).length
   rotate_left 1
   ·rw [decide_eq_false (by omega)]
    obtain rfl : i=(EK f g p x e n).length:=by omega
    refine tt ?_;refine ⟨H,.refl H,X,w,rfl, ?_,o⟩;rw [← J0 hf hg sh hP (hC.done Hs hF hP hn2.symm)]; exact hX
   ·rw [decide_eq_true (by omega)];refine tt ?_;refine Af M0 (by simp) ?_;refine tw hlX ?_;refine Af M0 (by simp) (tt ?_);apply bk <;> intro h4
    rotate_left 1
    ·have Cr:=A9 h4
     have hle : most≤(A++M).length:=by rw [List.length_take] at Cr; omega
     refine tt ?_;refine ⟨H,.refl H,X,w,rfl, ?_,o⟩
     obtain ⟨R,hR⟩:=hC.acc.pre hF hP Fg (Gb hf hg sh hP);rw [← hR,← List.append_assoc,List.take_append_of_le_length hle]; exact hX
    ·have Cr:=A7 h4
     have D1 : (A++M).length<most:=by rw [List.length_take] at Cr; omega
     have etk : (A++M).take most=A++M:=List.take_of_length_le (by omega);rw [etk] at hX
     have w1:=ws i
     obtain ⟨c,hc⟩ : ∃ c,(EK f g p x e n).getD i default=c:=⟨_,rfl⟩
     have ua:=J9.mp (AE.mpr ⟨i,h3,hc⟩)
     have gD:=Hs c ua.1.1 (by omega);refine tt ?_;refine ⟨h3, ?_⟩;rw [hc];refine (Xu B gD hP o).mono ?_;clear o
     rintro r H ⟨⟨ok,p',rfl,ht,ES⟩,o⟩
     cases ok with
     | false=>exact absurd ua.2 (ES rfl)
     | true =>
     obtain ⟨N,ud⟩:=ht rfl;refine tt ?_;refine (ih (Iv f p') (by rw [← hn]; exact ud.less gD hP hF.un) p' rfl (ud.pt gD hP) (A++M) X w l H0 H D1 hX o).mono ?_;clear o hX
     rintro r H ⟨X,w,rfl,hX,o⟩;refine tw w1 ?_;refine A5 (M++Cz f g p',X,w,c+1) (by omega) ⟨?_, ?_,o⟩ rfl
     ·exact hC.step Hs hF hP Fg hn2.symm h3 hc (Gb hf hg sh (ud.pt gD hP)) fun t=>ud.ext gD hP t
     ·rw [← List.append_assoc]; exact hX
theorem UP (f : SF) {k : Nat} (hk : k<f.A4.length) {n : Nat} (hn : f.A4.getD k default=n) : (BR f).take (k+1)=(BR f).take k++[List.replicate n (-1)]:=by
 rw [take_one _ (by simpa [BR] using hk)]
 congr 2
 rw [BR,BB _ hk,hn,Int.toNat_natCast]
theorem fP (B : Nat) {f : SF} (hf : f.Shape) : PB B 267 [.agg f.cells] (BA (BR f)):=by
 refine ⟨fun H0=>yP.go fun _=>?_⟩
 have F3:=hf.is.1.o
 have Fg:=hf.sl
 have Ps : ∀ x,x<f.A4.length→0≤f.A4.getD x default∧f.A4.getD x default<17:=fun x hx=>hf.sz _ (AE.mpr ⟨x,hx,rfl⟩)
 have o : AA H0 H0 []:=.nil _;refine tt ?_;refine Ag iL o fun id H o=>tt ?_
 refine AD [1] (G:=Nat × List (List Int)) (fun k g=>[(3,some (.buf g.1 g.2.length)),(4,some (.int .i64 (k : Int)))])
  (fun k G H=>G.2=(BR f).take k∧AA H0 H [(G.1,.cells 1 (G.2.map iL) 0)]) f.A4.length (id,[]) ⟨by simp,o⟩ rfl ?_
 clear o
 rintro k ⟨id,out⟩ H hk ⟨Au,o⟩;dsimp only at Au o
 have TM : out.length≤k:=by rw [Au,List.length_take]; omega
 refine tt ?_;apply bk <;> intro h1
 ·have AR : k<f.A4.length:=by have:=A7 h1; omega
  have w1:=ws k
  have Yl:=Ps k AR
  obtain ⟨n,hn⟩ : ∃ n : Nat,f.A4.getD k default=n:=⟨_,(Int.toNat_of_nonneg Yl.1).symm⟩;rw [hn] at Yl;refine tt ?_;refine Ag iI o fun BQ H o=>tt ?_
  refine AD [1,3,4] (G:=Nat × List Int) (fun e g=>[(5,some (.buf g.1 g.2.length)),(6,some (.int .i64 (e : Int)))])
   (fun e G H=>G.2=List.replicate e (-1)∧AA H0 H ((G.1,.cells 1 (G.2.map iI) 0)::[(id,.cells 1 (out.map iL) 0)])) n (BQ,[]) ⟨by simp,o⟩ rfl ?_
  clear o
  rintro e ⟨BQ,row⟩ H he ⟨B3,o⟩;dsimp only at B3 o
  have Mc : row.length=e:=by rw [B3]; simp
  refine tt ?_;refine ⟨AR, ?_⟩;rw [hn];apply bk <;> intro h2
  ·have Ah : e<n:=by have:=A7 h2; omega
   have w2:=ws e;refine tt ?_;refine Ad (-1 : Int) o rfl rfl (by simp only [AL]; omega) fun BQ H o=>?_;refine tw w2 ?_;exact A5 (_,_) (by omega) ⟨by rw [B3,← Ph],o⟩ rfl
  ·have Ah : e=n:=by have:=A9 h2; omega
   refine tt ?_;refine Al o rfl fun H o=>tt ?_;refine Ad (f:=iL) row o rfl rfl (by simp only [AL]; omega) fun id H o=>?_;refine tw w1 ?_;exact A5 (_,_) (by omega) ⟨by rw [Au,B3,Ah,UP f AR hn],o⟩ rfl
 ·have AR : k=f.A4.length:=by have:=A9 h1; omega
  refine tt ?_;refine Al o rfl fun H o=>tt ?_;exact A6 (by rw [Au,AR,List.take_of_length_le (by simp [BR])]) o.sub
theorem TV (B : Nat) {f g : SF} (hf : f.Is) (hg : g.Is) (sh : f.shape=g.shape) (most : Nat) (h0 : 0<most) (FY : most≤1000) : PB B 197 [.agg f.cells,.agg g.cells,.bool false,iI most] (Ft ((Cz f g (BR f)).take most)):=by
 refine ⟨fun H0=>yT.go fun _=>?_⟩
 have o : AA H0 H0 []:=.nil _;refine tt ?_;refine nb o fun DM H o=>tt ?_;refine (fP B hf.1).go fun _=>tt ?_;refine (qS B hf hg sh most FY DM _ (BR f) rfl (LA hf.1) [] .A1 [] [] H0 H h0 (.inl ⟨rfl,rfl,rfl⟩) o).mono ?_;clear o
 rintro r H ⟨X,w,rfl,hX,o⟩;rw [List.nil_append] at hX;refine tt ?_;refine AK o (by simp) (tt ?_)
 have o : AA H0 H (w++[(DM,OO f g most X)]):=o.pm
 rcases hX with ⟨rfl,rfl,hM⟩ | ⟨Av,rfl,rfl⟩
 ·refine tt ?_;exact A6 (by rw [hM]; rfl) o.sub
 ·refine Al (f:=BA) o rfl fun H o=>tt ?_;exact A6 rfl o.sub
end Go.Proofs.Shf
namespace Go.Shf
open Go.AW
def HT (f : SF) : List (List Int):=f.A4.map fun n=>(List.range n.toNat).map Int.ofNat
theorem ZF (f : SF) {k : Nat} (hk : k<f.A4.length) {n : Nat} (hn : f.A4.getD k default=n) : (HT f).take (k+1)=(HT f).take k++[(List.range n).map Int.ofNat]:=by
 have hl : k<(HT f).length:=by simpa [HT] using hk
 rw [take_one (HT f) hl,HT,BB _ hk,hn,Int.toNat_natCast]
end Go.Shf
namespace Go.Proofs.Shf
open Go.AW Go.Proofs Go.Shf
theorem Nt (B : Nat) {f : SF} (hf : f.Shape) : PB B 198 [.agg f.cells] (BA (HT f)):=by
 refine ⟨fun H0=>fk.go fun _=>?_⟩
 have F3:=hf.is.1.o
 have Fg:=hf.sl
 have Ps : ∀ x,x<f.A4.length→0≤f.A4.getD x default∧f.A4.getD x default<17:=fun x hx=>hf.sz _ (AE.mpr ⟨x,hx,rfl⟩)
 have o : AA H0 H0 []:=.nil _;refine tt ?_;refine Ag iL o fun id H o=>tt ?_
 refine AD [1] (G:=Nat × List (List Int)) (fun k g=>[(3,some (.buf g.1 g.2.length)),(4,some (.int .i64 (k : Int)))])
  (fun k G H=>G.2=(HT f).take k∧AA H0 H [(G.1,.cells 1 (G.2.map iL) 0)]) f.A4.length (id,[]) ⟨by simp,o⟩ rfl ?_
 clear o
 rintro k ⟨id,out⟩ H hk ⟨Au,o⟩;dsimp only at Au o
 have TM : out.length≤k:=by rw [Au,List.length_take]; omega
 refine tt ?_;apply bk <;> intro h1
 ·have AR : k<f.A4.length:=by have:=A7 h1; omega
  have w1:=ws k
  have Yl:=Ps k AR
  obtain ⟨n,hn⟩ : ∃ n : Nat,f.A4.getD k default=n:=⟨_,(Int.toNat_of_nonneg Yl.1).symm⟩;rw [hn] at Yl;refine tt ?_;refine Ag iI o fun BQ H o=>tt ?_
  refine AD [1,3,4] (G:=Nat × List Int) (fun e g=>[(5,some (.buf g.1 g.2.length)),(6,some (.int .i64 (e : Int)))])
   (fun e G H=>G.2=(List.range e).map Int.ofNat∧AA H0 H ((G.1,.cells 1 (G.2.map iI) 0)::[(id,.cells 1 (out.map iL) 0)])) n (BQ,[]) ⟨by simp,o⟩ rfl ?_
  clear o
  rintro e ⟨BQ,row⟩ H he ⟨B3,o⟩;dsimp only at B3 o
  have Mc : row.length=e:=by rw [B3]; simp
  refine tt ?_;refine ⟨AR, ?_⟩;rw [hn];apply bk <;> intro h2
  ·have Ah : e<n:=by have:=A7 h2; omega
   have w2:=ws e;refine tt ?_;refine Ad (e : Int) o rfl rfl (by simp only [AL]; omega) fun BQ H o=>?_;refine tw w2 ?_;exact A5 (_,_) (by omega) ⟨by rw [B3,Bb]; rfl,o⟩ rfl
  ·have Ah : e=n:=by have:=A9 h2; omega
   refine tt ?_;refine Al o rfl fun H o=>tt ?_;refine Ad (f:=iL) row o rfl rfl (by simp only [AL]; omega) fun id H o=>?_;refine tw w1 ?_;exact A5 (_,_) (by omega) ⟨by rw [Au,B3,Ah,ZF f AR hn],o⟩ rfl
 ·have AR : k=f.A4.length:=by have:=A9 h1; omega
  refine tt ?_;refine Al o rfl fun H o=>tt ?_;exact A6 (by rw [Au,AR,List.take_of_length_le (by simp [HT])]) o.sub
def wX (r : AV) : Prop:=∃ f g : SF,r=.CG [.agg f.cells,.agg g.cells]
theorem Wn (B : Nat) (size : Int) (KD : 0≤size∧size≤1000) : Rd B 261 [iI size] wX:=by
 intro id s H0 H hs o;refine zU.go fun _=>?_;refine tt ?_;refine nb o fun BJ H o=>tt ?_;refine nb o fun CP H o=>tt ?_;refine (PJ B).go hs (o.pull [_,_]) fun r s H _ ⟨c,e⟩ hs o=>?_;subst e;refine tt ?_;refine Ai o fun F4 H o=>tt ?_;refine sw o fun H o=>tt ?_;refine Ac o (by simp) (tt ?_);refine (Kb B c size KD).go hs o.swap fun r s H _ ⟨f,e⟩ hs o=>?_;subst e;refine tt ?_;refine nb o fun Cq H o=>tt ?_;refine sw o fun H o=>tt ?_;refine (AZ B 24).go hs o.swap fun r s H _ ⟨v,e,_⟩ hs o=>?_;subst e;refine tt ?_
 have o : AA H0 H [(id,s.obj),(Cq,AF.cells 7 f.cells 0),(F4,AF.cells 5 c.cells 0),(CP,AF.cells 7 z7 0),(BJ,AF.cells 7 z7 0)]:=o;apply bk <;> intro h1
 focus
  refine tt ?_;refine ⟨⟨_,_,o.tl.h0⟩,Ac o.tl (by simp [SF.cells]) ?_⟩;refine tt ?_;refine (PJ B).FT hs o fun r s H _ ⟨c2,e⟩ hs o hz=>⟨hz, ?_⟩;subst e;refine tt ?_;refine (Kb B c2 size KD).FT hs o fun r s H _ ⟨g,e⟩ hs o hz=>⟨hz, ?_⟩;subst e;refine tt ?_
 rotate_left 1
 focus
  refine tt ?_;refine ⟨⟨_,_,o.tl.h0⟩,Ac o.tl (by simp [SF.cells]) ?_⟩;refine tt ?_;refine ⟨⟨_,_,o.tl.tl.h0⟩,Ac o.tl.tl (by simp [Ay.cells]) ?_⟩;refine tt ?_;refine (Kb B c size KD).FT hs o fun r s H _ ⟨g,e⟩ hs o hz=>⟨hz, ?_⟩;subst e;refine tt ?_
 all_goals
  have o : AA H0 H ((BJ,AF.cells 7 z7 0)::(CP,AF.cells 7 z7 0)::[(id,s.obj),(Cq,AF.cells 7 f.cells 0),(F4,AF.cells 5 c.cells 0)]):=o.pm;refine Ap o (by simp [z7]) (by (try simp only [go_sem]); (try simp)) (by first | (simp only [go_sem]; done) | ((try simp only [go_sem]); simp [AV.one,EP])) fun H o=>?_;have o:=s2 o;refine tt ?_;refine Ap o.swap (by simp [z7]) (by (try simp only [go_sem]); (try simp)) (by first | (simp only [go_sem]; done) | ((try simp only [go_sem]); simp [AV.one,EP])) fun H o=>?_;have o:=s2 o;refine tt ?_
  have Yd:=o.rc 7 0 (by simp)
  have Yn:=o.tl.rc 7 0 (by simp);simp only [List.drop_zero] at Yd Yn;rw [Yn,Yd];exact Ax ⟨f,g,rfl⟩ hs (o.pull [_,_])
theorem SD (B : Nat) (f : SF) (hl : f.A4.length≤8) (hz : ∀ y,y∈f.A4→0≤y∧y<17) : PB B 262 [.agg f.cells] (iI f.A4.sum):=by
 refine ⟨fun H0=>yd.go fun _=>tt ?_⟩;refine AD [1] (G:=Unit) (fun k _=>[(3,some (.int .i64 (f.A4.take k).sum)),(4,some (.int .i64 (k : Int)))]) (fun k _ H=>H=H0∧0≤(f.A4.take k).sum∧(f.A4.take k).sum≤17*k) f.A4.length () ⟨rfl,by simp,by simp⟩ rfl ?_
 rintro k _ H hk ⟨rfl,hs⟩;refine tt ?_;apply bk <;> intro h1
 ·have h1:=A7 h1
  have w1:=ws k
  have CU:=hz _ (AE.mpr ⟨k,h1,rfl⟩)
  have e : (f.A4.take (k+1)).sum=(f.A4.take k).sum+f.A4.getD k default:=by rw [Co _ h1]; simp
  have w2 : IntKind.i64.wrap ((f.A4.take k).sum+f.A4.getD k default)=(f.A4.take (k+1)).sum:=by rw [wrap_i64 (by omega) (by omega),e]
  refine tt ?_;refine ⟨h1, ?_⟩;refine t2 w1 w2 ?_
  exact A5 () (by omega) ⟨rfl,by omega,by omega⟩ rfl
 ·have h1:=A9 h1
  obtain rfl : k=f.A4.length:=by omega
  refine tt ?_;exact A6 (by rw [List.take_length]) (.refl _)
def MapR (r : AV) : Prop:=∃ m : SM,r=.agg m.cells
theorem RC (B : Nat) (size : Int) (KD : 0≤size∧size≤1000) : Rd B 195 [iI size] MapR:=by
 intro id s H0 H hs o;refine xU.go fun _=>?_;refine tt ?_;refine nb o fun BJ H o=>tt ?_;refine (Wn B size KD).go hs o.swap fun r s H _ ⟨f,g,e⟩ hs o=>?_;subst e;refine tt ?_;refine nb o fun CP H o=>tt ?_;refine nb o fun F4 H o=>tt ?_;refine sw o.swap fun H o=>tt ?_;refine sw o.swap fun H o=>tt ?_
 have o : AA H0 H [(id,s.obj),(F4,AF.cells 7 g.cells 0),(CP,AF.cells 7 f.cells 0),(BJ,AF.cells 15 [.int .i64 0,.A1,.A1,.A1,.A1,.A1,.A1,.int .i64 0,.A1,.A1,.A1,.A1,.A1,.A1,.A1] 0)]:=by simp only [SF.cells]; exact o.pm
 refine L5 (fun σ H=>∃ (s : Src) (g : SF),σ=[(0,some (.ref id 0)),(4,some (.ref BJ 0)),(5,some (.ref CP 0)),(6,some (.ref F4 0))]∧s.Ok ∧
  AA H0 H [(id,s.obj),(F4,AF.cells 7 g.cells 0),(CP,AF.cells 7 f.cells 0),(BJ,AF.cells 15 [.int .i64 0,.A1,.A1,.A1,.A1,.A1,.A1,.int .i64 0,.A1,.A1,.A1,.A1,.A1,.A1,.A1] 0)]) ?_ ?_
 ·refine tt ?_;refine (AZ B 4).go hs o fun r s H _ ⟨v,e,_⟩ hs o=>?_;subst e;refine tt ?_;apply bk <;> intro h1
  ·refine tt ?_;refine Ac o.tl.tl (by simp [SF.cells]) (tt ?_);refine Ap o.swap (by simp [SF.cells]) (by (try simp only [go_sem]); (try simp)) (by first | (simp only [go_sem]; done) | ((try simp only [go_sem]); simp [AV.one,EP])) fun H o=>?_;have o:=s2 o;refine tt ?_;exact AY ⟨s,f,rfl,hs,o.swap⟩
  ·refine tt ?_;exact AY ⟨s,g,rfl,hs,o⟩
 clear o hs
 rintro σ H ⟨s,g,rfl,hs,o⟩;refine tt ?_;refine Ac o.tl.tl (by simp [SF.cells]) (tt ?_);refine Ac o.tl (by simp [SF.cells]) (tt ?_);refine nb o fun Cq H o=>tt ?_;refine sw o fun H o=>tt ?_
 have hX : CZ iL H0 H ((Cq,AF.cells 15 [iI f.shape.AO,iL f.shape.AJ,iL f.shape.to,iL f.shape.Av,BA f.shape.comp,iL f.A4,BA f.AU,iI g.shape.AO,iL g.shape.AJ,iL g.shape.to,iL g.shape.Av,BA g.shape.comp,iL g.A4,BA g.AU,.A1] 0)::[(id,s.obj),(F4,AF.cells 7 g.cells 0),(CP,AF.cells 7 f.cells 0),(BJ,AF.cells 15 [.int .i64 0,.A1,.A1,.A1,.A1,.A1,.A1,.int .i64 0,.A1,.A1,.A1,.A1,.A1,.A1,.A1] 0)]) .A1 []:=.inl ⟨rfl,rfl,o⟩;refine Ec 14 hX rfl fun H o=>AY ?_;have o:=s1 o
 have o : AA H0 H [(id,s.obj),(Cq,AF.cells 15 (SM.cells ⟨f,g,[]⟩) 0),(F4,AF.cells 7 g.cells 0),(CP,AF.cells 7 f.cells 0),(BJ,AF.cells 15 [.int .i64 0,.A1,.A1,.A1,.A1,.A1,.A1,.int .i64 0,.A1,.A1,.A1,.A1,.A1,.A1,.A1] 0)]:=o.swap;clear hX
 refine L5 (fun σ H=>∃ (s : Src) (m : SM),σ=[(0,some (.ref id 0)),(4,some (.ref BJ 0)),(7,some (.ref Cq 0))]∧s.Ok ∧
  AA H0 H [(id,s.obj),(Cq,AF.cells 15 m.cells 0),(BJ,AF.cells 15 [.int .i64 0,.A1,.A1,.A1,.A1,.A1,.A1,.int .i64 0,.A1,.A1,.A1,.A1,.A1,.A1,.A1] 0)]) ?_ ?_
 ·refine tt ?_;refine Ac (o.pull [_,_,_]) (by simp [SF.cells]) (tt ?_);refine Ac (o.pull [_,_]) (by simp [SF.cells]) (tt ?_);refine (Jz B f g).go fun _=>?_
  by_cases hI : f.Is∧g.Is∧f.shape=g.shape
  rotate_left
  ·rw [Aa hI];refine tt ?_;exact AY ⟨s,⟨f,g,[]⟩,rfl,hs,(by simp only [SF.cells,SM.cells] at o ⊢; exact o.KW (by simp))⟩
  rw [Aw hI];refine tt ?_
  obtain ⟨hf,hg,sh⟩:=hI
  have Fc:=hf.1.sl
  have JP:=hf.1.is.1.o
  refine L5 (fun σ H=>∃ (s : Src) (p : List (List Int)),σ=[(0,some (.ref id 0)),(4,some (.ref BJ 0)),(5,some (.ref CP 0)),(7,some (.ref Cq 0))]∧s.Ok ∧
   AA H0 H [(id,s.obj),(Cq,AF.cells 15 (SM.cells ⟨f,g,p⟩) 0),(CP,AF.cells 7 f.cells 0),(BJ,AF.cells 15 [.int .i64 0,.A1,.A1,.A1,.A1,.A1,.A1,.int .i64 0,.A1,.A1,.A1,.A1,.A1,.A1,.A1] 0)]) ?_ ?_
  ·refine tt ?_;refine Ac (o.pull [_,_,_]) (by simp [SF.cells]) (tt ?_);refine (SD B f (by omega) hf.1.sz).go fun _=>tt ?_;apply bk <;> intro h2
   rotate_left
   ·refine tt ?_;exact AY ⟨s,[],rfl,hs,(by simp only [SF.cells,SM.cells] at o ⊢; exact o.KW (by simp))⟩
   refine tt ?_;refine Ac (o.pull [_,_,_]) (by simp [SF.cells]) (tt ?_);refine Ac (o.pull [_,_]) (by simp [SF.cells]) (tt ?_);refine (TV B hf hg sh 12 (by omega) (by omega)).go fun _=>?_
   generalize (Cz f g (BR f)).take 12=L;refine tt ?_;apply bk <;> intro h3
   rotate_left
   ·refine tt ?_;exact AY ⟨s,[],rfl,hs,(by simp only [SF.cells,SM.cells] at o ⊢; exact o.KW (by simp))⟩
   have B8:=A7 h3;refine tt ?_;refine (AZ B _).go hs o fun r s H _ ⟨v,e,v0,v1,_⟩ hs o=>?_;subst e
   have hv:=v1 (by omega);refine tt ?_;refine ⟨⟨v0,by omega⟩,tt ?_⟩;refine Ap o.swap (by simp [SM.cells]) (by (try simp only [go_sem]); (try simp)) (by first | (simp only [go_sem]; done) | ((try simp only [go_sem]); simp [AV.one,EP])) fun H o=>?_;have o:=s2 o;refine tt ?_;exact AY ⟨s,ix L v,rfl,hs,(by simp only [SF.cells,SM.cells] at o ⊢; exact o.swap.KW (by simp))⟩
  clear o hs
  rintro σ H ⟨s,p,rfl,hs,o⟩;refine tt ?_;refine AK o.tl (by simp [SM.cells]) (tt ?_);apply bk <;> intro h4
  rotate_left
  ·refine tt ?_;exact AY ⟨s,⟨f,g,p⟩,rfl,hs,(by simp only [SF.cells,SM.cells] at o ⊢; exact o.KW (by simp))⟩
  refine tt ?_
  have h5:=o.tl.tl.h0;simp only at h5;refine ⟨⟨_,_,h5⟩,Ac o.tl.tl (by simp [SF.cells]) ?_⟩;refine tt ?_;refine ⟨⟨_,_,h5⟩,Ac o.tl.tl (by simp [SF.cells]) ?_⟩;refine tt ?_;refine ⟨⟨_,_,h5⟩,Ac o.tl.tl (by simp [SF.cells]) ?_⟩;refine tt ?_;refine ⟨_,(Nt B hf.1).run,tt ?_⟩;refine ⟨_,(Ga B f f (HT f)).run,tt ?_⟩;refine Ap o.swap (by simp [SM.cells]) (by (try simp only [go_sem]); (try simp)) (by first | (simp only [go_sem]; done) | ((try simp only [go_sem]); simp [AV.one,EP])) fun H o=>?_;have o:=s2 o;refine tt ?_;exact AY ⟨s,⟨f,f,HT f⟩,rfl,hs,(by simp only [SF.cells,SM.cells] at o ⊢; exact o.swap.KW (by simp))⟩
 clear o hs
 rintro σ H ⟨s,m,rfl,hs,o⟩;refine tt ?_;refine (AZ B 24).go hs o fun r s H _ ⟨v,e,_⟩ hs o=>?_;subst e;refine tt ?_
 have hw : ∀ {d : Nat} {Xs : List AV} {P : List (List Int)} {ob : Ob} {F : Env→AB→Prop} {σ : Env} {H : AB} {s : Src},Et iI Xs P ob →
   AA H0 H ((d,.cells 1 Xs 0)::(ob++[(id,s.obj),(Cq,AF.cells 15 [iI m.src.shape.AO,iL m.src.shape.AJ,iL m.src.shape.to,iL m.src.shape.Av,BA m.src.shape.comp,iL m.src.A4,BA m.src.AU,iI m.CA.shape.AO,iL m.CA.shape.AJ,iL m.CA.shape.to,iL m.CA.shape.Av,BA m.CA.shape.comp,iL m.CA.A4,BA m.CA.AU,.buf d Xs.length] 0),(BJ,AF.cells 15 [.int .i64 0,.A1,.A1,.A1,.A1,.A1,.A1,.int .i64 0,.A1,.A1,.A1,.A1,.A1,.A1,.A1] 0)])) →
   (∀ H',AA H0 H' [(Cq,AF.cells 15 (SM.cells ⟨m.src,m.CA,P⟩) 0),(id,s.obj),(BJ,AF.cells 15 [.int .i64 0,.A1,.A1,.A1,.A1,.A1,.A1,.int .i64 0,.A1,.A1,.A1,.A1,.A1,.A1,.A1] 0)]→F σ H')→Gj F σ H:=by
  intro d Xs P ob F σ H s hR o hk
  have hl:=hR.len;refine Cy hR [] H o fun H o=>?_;simp only [List.nil_append] at o;rw [hl] at o
  have o : AA H0 H ((Cq,AF.cells 15 [iI m.src.shape.AO,iL m.src.shape.AJ,iL m.src.shape.to,iL m.src.shape.Av,BA m.src.shape.comp,iL m.src.A4,BA m.src.AU,iI m.CA.shape.AO,iL m.CA.shape.AJ,iL m.CA.shape.to,iL m.CA.shape.Av,BA m.CA.shape.comp,iL m.CA.A4,BA m.CA.AU,.buf d P.length] 0)::(d,.cells 1 (P.map iL) 0)::[(id,s.obj),(BJ,AF.cells 15 [.int .i64 0,.A1,.A1,.A1,.A1,.A1,.A1,.int .i64 0,.A1,.A1,.A1,.A1,.A1,.A1,.A1] 0)]):=o.pm;refine B5 14 o rfl rfl fun H o=>?_;have o:=s1 o;exact AY (hk H o)
 apply bk <;> intro j1
 rotate_left
 ·refine tw j1 ?_;refine AY ?_;refine tt ?_
  have o : AA H0 H [(Cq,AF.cells 15 m.cells 0),(id,s.obj),(BJ,AF.cells 15 [.int .i64 0,.A1,.A1,.A1,.A1,.A1,.A1,.int .i64 0,.A1,.A1,.A1,.A1,.A1,.A1,.A1] 0)]:=o.swap;refine Ac o (by simp [SM.cells]) (tt ?_);refine sw (o.pull [_,_]) fun H o=>tt ?_
  have hr:=o.rc 15 0 (by simp);simp only [List.drop_zero] at hr;rw [hr];exact Ax ⟨m,rfl⟩ hs (o.pull [_,_])
 refine tw j1 ?_;refine AK o.tl (by simp [SM.cells]) ?_;refine tw j1 ?_;apply bk <;> intro j2
 rotate_left
 ·refine tt ?_;refine AY ?_;refine tt ?_
  have o : AA H0 H [(Cq,AF.cells 15 m.cells 0),(id,s.obj),(BJ,AF.cells 15 [.int .i64 0,.A1,.A1,.A1,.A1,.A1,.A1,.int .i64 0,.A1,.A1,.A1,.A1,.A1,.A1,.A1] 0)]:=o.swap;refine Ac o (by simp [SM.cells]) (tt ?_);refine sw (o.pull [_,_]) fun H o=>tt ?_
  have hr:=o.rc 15 0 (by simp);simp only [List.drop_zero] at hr;rw [hr];exact Ax ⟨m,rfl⟩ hs (o.pull [_,_])
 have j2p:=A7 j2;refine tt ?_;refine AK o.tl (by simp [SM.cells]) (tt ?_);refine Gk.go' (JF B m.parts) o fun X1 p1 H ⟨d,Xs,ob,e1,hX,e2⟩ o Cs=>⟨Cs, ?_⟩;subst e1 e2
 have IV:=hX.len;refine tt ?_
 have o : AA H0 H ((Cq,AF.cells 15 [iI m.src.shape.AO,iL m.src.shape.AJ,iL m.src.shape.to,iL m.src.shape.Av,BA m.src.shape.comp,iL m.src.A4,BA m.src.AU,iI m.CA.shape.AO,iL m.CA.shape.AJ,iL m.CA.shape.to,iL m.CA.shape.Av,BA m.CA.shape.comp,iL m.CA.A4,BA m.CA.AU,BA m.parts] 0)::(d,.cells 1 Xs 0)::(ob++[(id,s.obj),(BJ,AF.cells 15 [.int .i64 0,.A1,.A1,.A1,.A1,.A1,.A1,.int .i64 0,.A1,.A1,.A1,.A1,.A1,.A1,.A1] 0)])):=by simp only [SM.cells] at o; exact o.pm
 refine sw o fun H o=>tt ?_;refine AK o (by simp) (tt ?_)
 have o : AA H0 H ((id,s.obj)::(Cq,AF.cells 15 [iI m.src.shape.AO,iL m.src.shape.AJ,iL m.src.shape.to,iL m.src.shape.Av,BA m.src.shape.comp,iL m.src.A4,BA m.src.AU,iI m.CA.shape.AO,iL m.CA.shape.AJ,iL m.CA.shape.to,iL m.CA.shape.Av,BA m.CA.shape.comp,iL m.CA.A4,BA m.CA.AU,.buf d Xs.length] 0)::(d,.cells 1 Xs 0)::(ob++[(BJ,AF.cells 15 [.int .i64 0,.A1,.A1,.A1,.A1,.A1,.A1,.int .i64 0,.A1,.A1,.A1,.A1,.A1,.A1,.A1] 0)])):=o.pm;refine (AZ B _).go hs o fun r s H _ ⟨a,e,a0,a1,a2⟩ hs o=>?_;subst e
 obtain ⟨a,rfl⟩ : ∃ n : Nat,a=n:=⟨_,(Int.toNat_of_nonneg a0).symm⟩;clear a0 a2
 have ha:=a1 (by omega)
 have hi : a<Xs.length:=by omega
 obtain ⟨pr,rr,_,hLs,_⟩:=hX.split a hi
 have hlr:=hLs.Ee
 have Py:=o.tl.h0
 have IY:=o.tl.tl.h0;simp only at Py IY;refine tt ?_;refine Af Py (by simp) (tt ?_);refine ⟨hi,Af IY hi ?_⟩;refine tw hlr ?_;apply bk <;> intro k2
 ·have k2p:=A7 k2
  obtain ⟨BQ,er,Hk⟩:=hX.row hi (by omega);refine tt ?_;refine ⟨⟨_,_,Py⟩,Af Py (by simp) ?_⟩;refine tt ?_;refine ⟨hi,⟨_,_,IY⟩,Af IY hi ?_⟩;refine tt ?_;refine ⟨⟨_,_,Py⟩,Af Py (by simp) ?_⟩;refine tt ?_;refine ⟨hi,⟨_,_,IY⟩,Af IY hi ?_⟩;rw [er];refine tt ?_;refine (AZ B _).FT hs o fun r s H _ ⟨i,e,i0,i1,_⟩ hs o hz=>⟨hz, ?_⟩;subst e
  have XX:=i1 (by omega);refine (AZ B _).FT hs o fun r s H _ ⟨y1,e,_⟩ hs o hz=>⟨hz, ?_⟩;subst e;refine (AZ B _).FT hs o fun r s H _ ⟨y2,e,_⟩ hs o hz=>⟨hz, ?_⟩;subst e;refine tt ?_;refine ⟨by omega, ?_⟩
  generalize IntKind.i64.wrap (y1 - _)=y3;refine ⟨⟨i0,by omega⟩, ?_⟩
  have od : AA H0 H ((d,.cells 1 Xs 0)::(ob++[(id,s.obj),(Cq,AF.cells 15 [iI m.src.shape.AO,iL m.src.shape.AJ,iL m.src.shape.to,iL m.src.shape.Av,BA m.src.shape.comp,iL m.src.A4,BA m.src.AU,iI m.CA.shape.AO,iL m.CA.shape.AJ,iL m.CA.shape.to,iL m.CA.shape.Av,BA m.CA.shape.comp,iL m.CA.A4,BA m.CA.AU,.buf d Xs.length] 0),(BJ,AF.cells 15 [.int .i64 0,.A1,.A1,.A1,.A1,.A1,.A1,.int .i64 0,.A1,.A1,.A1,.A1,.A1,.A1,.A1] 0)])):=o.pm;refine Hk od i.toNat (by omega) y3 rfl fun H ob' HJ o=>tt ?_;refine hw HJ o fun H o=>tt ?_;refine Ac o (by simp [SM.cells]) (tt ?_);refine sw (o.pull [_,_]) fun H o=>tt ?_
  have hr:=o.rc 15 0 (by simp);simp only [List.drop_zero] at hr;rw [hr];exact Ax ⟨⟨m.src,m.CA,m.parts.set a ((m.parts.getD a []).set i.toNat y3)⟩,rfl⟩ hs (o.pull [_,_])
 ·refine tt ?_;refine Af Py (by simp) (tt ?_);refine Ae o fun Qj H o=>tt ?_;refine ⟨hi, ?_⟩
  have od : AA H0 H ((d,.cells 1 Xs 0)::(Qj,.cells 1 [iI 0] 0)::(ob++[(id,s.obj),(Cq,AF.cells 15 [iI m.src.shape.AO,iL m.src.shape.AJ,iL m.src.shape.to,iL m.src.shape.Av,BA m.src.shape.comp,iL m.src.A4,BA m.src.AU,iI m.CA.shape.AO,iL m.CA.shape.AJ,iL m.CA.shape.to,iL m.CA.shape.Av,BA m.CA.shape.comp,iL m.CA.A4,BA m.CA.AU,.buf d Xs.length] 0),(BJ,AF.cells 15 [.int .i64 0,.A1,.A1,.A1,.A1,.A1,.A1,.int .i64 0,.A1,.A1,.A1,.A1,.A1,.A1,.A1] 0)])):=o.pm;refine Ap od (by omega) rfl (by simp [AV.one]) fun H o=>?_;simp only [FI,HE] at o
  obtain ⟨ob',HJ,o⟩:=hX.put hi (p:=[(Qj,.cells 1 [iI 0] 0)]) (X:=.buf Qj 1) (A:=[0]) (.inr ⟨Qj,rfl,rfl⟩) o;refine tt ?_;refine hw HJ (by rw [List.length_set]; exact o) fun H o=>tt ?_;refine Ac o (by simp [SM.cells]) (tt ?_);refine sw (o.pull [_,_]) fun H o=>tt ?_
  have hr:=o.rc 15 0 (by simp);simp only [List.drop_zero] at hr;rw [hr];exact Ax ⟨⟨m.src,m.CA,m.parts.set a [0]⟩,rfl⟩ hs (o.pull [_,_])
def eS (r : AV) : Prop:=∃ (j : Dw) (m : SM),r=.CG [.agg j.cells,.agg m.cells]
theorem Z9 (B : Nat) (code : List UInt8) (sh : Bool) : Jq B 111 [mL Go.AW.iB code,.bool sh] eS:=by
 intro H0;refine fw.go fun _=>?_
 have o : AA H0 H0 []:=.nil _;refine tt ?_;refine nb o fun BJ H o=>tt ?_;refine nb o fun CP H o=>tt ?_;refine (W6 B code _).Iu fun r H _ ⟨id,s,e,hs,o2⟩=>?_;subst e
 have o:=o.trans o2;refine tt ?_;refine (Wt B).go hs o fun r s H _ ⟨j,e⟩ hs o=>?_;subst e;refine tt ?_;refine nb o fun Cq H o=>tt ?_;refine sw o fun H o=>tt ?_;refine D8 7 o rfl fun H o=>AY ?_
 have o : AA H0 H [(id,s.obj),(CP,AF.cells 15 [.int .i64 0,.A1,.A1,.A1,.A1,.A1,.A1,.int .i64 0,.A1,.A1,.A1,.A1,.A1,.A1,.A1] 0),(BJ,AF.cells 6 [.int .i64 0,.A1,.A1,.A1,.A1,.A1] 0)]:=o;refine tt ?_;refine (AZ B 20).go hs o fun r s H _ ⟨v,e,_⟩ hs o=>?_;subst e;refine tt ?_;apply bn <;> intro h1
 rotate_left
 ·refine tw h1 ?_;refine (RC B 2 ⟨by omega,by omega⟩).FT hs o fun r s H _ ⟨m,e⟩ hs o hz=>⟨hz, ?_⟩;subst e;refine tt ?_;refine sw (o.pull [_,_]) fun H o=>tt ?_;refine sw (o.pull [_,_]) fun H o=>tt ?_
  have Yd:=o.rc 15 0 (by simp)
  have Yn:=o.tl.rc 6 0 (by simp);simp only [List.drop_zero] at Yn Yd;rw [Yn,Yd];exact Bj ⟨j,m,rfl⟩ o.sub
 refine tw h1 ?_;refine (Iy B j.shape).go fun _=>?_
 by_cases hI : j.shape.Is
 rotate_left
 ·rw [Aa hI];refine tt ?_;refine (RC B 2 ⟨by omega,by omega⟩).FT hs o fun r s H _ ⟨m,e⟩ hs o hz=>⟨hz, ?_⟩;subst e;refine tt ?_;refine sw (o.pull [_,_]) fun H o=>tt ?_;refine sw (o.pull [_,_]) fun H o=>tt ?_
  have Yd:=o.rc 15 0 (by simp)
  have Yn:=o.tl.rc 6 0 (by simp);simp only [List.drop_zero] at Yn Yd;rw [Yn,Yd];exact Bj ⟨j,m,rfl⟩ o.sub
 rw [Aw hI];refine tt ?_
 refine L5 (fun σ H=>∃ (s : Src) (f g : SF) (Ea Gf : Nat),σ=[(1,some (.bool sh)),(4,some (.ref BJ 0)),(5,some (.ref CP 0)),(6,some (.ref id 0)),(7,some (.ptr j.cells)),(8,some (.ref Ea 0)),(9,some (.ref Gf 0))]∧s.Ok ∧
  (f.Is∧f.shape=j.shape)∧(g.Is∧g.shape=j.shape)∧AA H0 H [(id,s.obj),(Gf,AF.cells 7 g.cells 0),(Ea,AF.cells 7 f.cells 0),(CP,AF.cells 15 [.int .i64 0,.A1,.A1,.A1,.A1,.A1,.A1,.int .i64 0,.A1,.A1,.A1,.A1,.A1,.A1,.A1] 0),(BJ,AF.cells 6 [.int .i64 0,.A1,.A1,.A1,.A1,.A1] 0)]) ?_ ?_
 ·refine tt ?_
  have hA:=J4 B j.shape hI 2 ⟨by omega,by omega⟩
  have hB:=J4 B j.shape hI 3 ⟨by omega,by omega⟩
  all_goals
   repeat' with_reducible apply And.intro
  all_goals
   first
    | refine hA.FT hs o fun r s H _ ⟨f,e,HH,_,Gi⟩ hs o hz=>⟨hz, ?_⟩
    | refine hA.FT hs o.swap fun r s H _ ⟨f,e,HH,_,Gi⟩ hs o hz=>⟨hz, ?_⟩
    | refine hA.FT hs (o.pull [_,_]) fun r s H _ ⟨f,e,HH,_,Gi⟩ hs o hz=>⟨hz, ?_⟩
    | refine hB.FT hs o fun r s H _ ⟨g,e,Qn,_,bB⟩ hs o hz=>⟨hz, ?_⟩
    | refine hB.FT hs o.swap fun r s H _ ⟨g,e,Qn,_,bB⟩ hs o hz=>⟨hz, ?_⟩
    | refine hB.FT hs (o.pull [_,_]) fun r s H _ ⟨g,e,Qn,_,bB⟩ hs o hz=>⟨hz, ?_⟩
    | refine Ai o fun Av H o=>?_
    | (simp only [AL]; omega)
  all_goals
   try subst e
   refine tt ?_
  all_goals
   repeat' with_reducible apply And.intro
  all_goals
   first
    | refine hA.FT hs o fun r s H _ ⟨f,e,HH,_,Gi⟩ hs o hz=>⟨hz, ?_⟩
    | refine hA.FT hs o.swap fun r s H _ ⟨f,e,HH,_,Gi⟩ hs o hz=>⟨hz, ?_⟩
    | refine hA.FT hs (o.pull [_,_]) fun r s H _ ⟨f,e,HH,_,Gi⟩ hs o hz=>⟨hz, ?_⟩
    | refine hB.FT hs o fun r s H _ ⟨g,e,Qn,_,bB⟩ hs o hz=>⟨hz, ?_⟩
    | refine hB.FT hs o.swap fun r s H _ ⟨g,e,Qn,_,bB⟩ hs o hz=>⟨hz, ?_⟩
    | refine hB.FT hs (o.pull [_,_]) fun r s H _ ⟨g,e,Qn,_,bB⟩ hs o hz=>⟨hz, ?_⟩
    | refine Ai o fun Av H o=>?_
    | (simp only [AL]; omega)
  all_goals
   try subst e
   refine tt ?_
  all_goals
   repeat' with_reducible apply And.intro
  all_goals
   first
    | refine hA.FT hs o fun r s H _ ⟨f,e,HH,_,Gi⟩ hs o hz=>⟨hz, ?_⟩
    | refine hA.FT hs o.swap fun r s H _ ⟨f,e,HH,_,Gi⟩ hs o hz=>⟨hz, ?_⟩
    | refine hA.FT hs (o.pull [_,_]) fun r s H _ ⟨f,e,HH,_,Gi⟩ hs o hz=>⟨hz, ?_⟩
    | refine hB.FT hs o fun r s H _ ⟨g,e,Qn,_,bB⟩ hs o hz=>⟨hz, ?_⟩
    | refine hB.FT hs o.swap fun r s H _ ⟨g,e,Qn,_,bB⟩ hs o hz=>⟨hz, ?_⟩
    | refine hB.FT hs (o.pull [_,_]) fun r s H _ ⟨g,e,Qn,_,bB⟩ hs o hz=>⟨hz, ?_⟩
    | refine Ai o fun Av H o=>?_
    | (simp only [AL]; omega)
  all_goals
   try subst e
   refine tt ?_
  all_goals
   repeat' with_reducible apply And.intro
  all_goals
   first
    | refine hA.FT hs o fun r s H _ ⟨f,e,HH,_,Gi⟩ hs o hz=>⟨hz, ?_⟩
    | refine hA.FT hs o.swap fun r s H _ ⟨f,e,HH,_,Gi⟩ hs o hz=>⟨hz, ?_⟩
    | refine hA.FT hs (o.pull [_,_]) fun r s H _ ⟨f,e,HH,_,Gi⟩ hs o hz=>⟨hz, ?_⟩
    | refine hB.FT hs o fun r s H _ ⟨g,e,Qn,_,bB⟩ hs o hz=>⟨hz, ?_⟩
    | refine hB.FT hs o.swap fun r s H _ ⟨g,e,Qn,_,bB⟩ hs o hz=>⟨hz, ?_⟩
    | refine hB.FT hs (o.pull [_,_]) fun r s H _ ⟨g,e,Qn,_,bB⟩ hs o hz=>⟨hz, ?_⟩
    | refine Ai o fun Av H o=>?_
    | (simp only [AL]; omega)
  all_goals
   try subst e
   refine tt ?_
  all_goals
   first
    | refine sw o fun H o=>?_
    | refine sw o.swap fun H o=>?_
    | refine sw (o.pull [_,_]) fun H o=>?_
   refine tt ?_
  all_goals
   first
    | refine sw o fun H o=>?_
    | refine sw o.swap fun H o=>?_
    | refine sw (o.pull [_,_]) fun H o=>?_
   refine tt ?_
  all_goals
   obtain ⟨hfI,_⟩:=Gi (by omega)
   obtain ⟨hgI,_⟩:=bB (by omega);exact AY ⟨s,f,g,_,_,rfl,hs,⟨hfI,HH⟩,⟨hgI,Qn⟩,o.pm⟩
 ·rintro σ H ⟨s,f,g,Ea,Gf,rfl,hs,⟨hf,HH⟩,⟨hg,Qn⟩,o⟩;refine tt ?_
  refine L5 (fun σ H=>∃ (s : Src) (g : SF),σ=[(4,some (.ref BJ 0)),(5,some (.ref CP 0)),(6,some (.ref id 0)),(7,some (.ptr j.cells)),(8,some (.ref Ea 0)),(9,some (.ref Gf 0))]∧s.Ok∧(g.Is∧g.shape=j.shape) ∧
   AA H0 H [(Gf,AF.cells 7 g.cells 0),(Ea,AF.cells 7 f.cells 0),(id,s.obj),(CP,AF.cells 15 [.int .i64 0,.A1,.A1,.A1,.A1,.A1,.A1,.int .i64 0,.A1,.A1,.A1,.A1,.A1,.A1,.A1] 0),(BJ,AF.cells 6 [.int .i64 0,.A1,.A1,.A1,.A1,.A1] 0)]) ?_ ?_
  ·cases sh
   ·refine tt ?_;exact AY ⟨s,g,rfl,hs,⟨hg,Qn⟩,(by simp only [SF.cells] at o ⊢; exact o.pm)⟩
   refine tt ?_;refine Ac o.tl (by simp [SF.cells]) (tt ?_);refine (O7 B j g).go fun _=>?_
   by_cases hz : codeF j g=0
   rotate_left
   ·refine tt ?_;rw [decide_eq_false hz];refine tt ?_;exact AY ⟨s,g,rfl,hs,⟨hg,Qn⟩,(by simp only [SF.cells] at o ⊢; exact o.pm)⟩
   obtain ⟨hF,hg',FL,Ev⟩:=FM hz
   have hl:=H9 B j;rw [hz];rw [FL] at hl;try simp only [go_sem,↓reduceIte,reduceEqDiff,reduceAdd,reduceMul,reduceLeDiff,reduceLT,zz]
   refine (AZ B 10).go hs o fun r s H _ ⟨v,e,_⟩ hs o=>?_;subst e;refine tt ?_;apply bk <;> intro h1
   rotate_left
   ·refine tw h1 ?_;exact AY ⟨s,g,rfl,hs,⟨hg,Qn⟩,(by simp only [SF.cells] at o ⊢; exact o.pm)⟩
   refine tw h1 ?_;refine Ac o.tl (by simp [SF.cells]) (tt ?_)
   generalize Aq g.shape j.AP=V at *
   have hb:=PE B g hg.1 V Ev
   obtain ⟨a1,a2,a3,a4,a5,a6,a7,a8,hA,k1⟩:=Vg g V
   obtain ⟨b1,b2,b3,b4,b5,b6,b7,b8,hB,k2⟩:=pD g V;rw [hA,hB] at hb;refine ⟨_,hl.run, ?_⟩;refine ⟨_,hb.run,tt ?_⟩;refine ⟨?_, ?_⟩
   focus
    refine nb o fun Lv H o=>tt ?_;refine nb o fun G0 H o=>tt ?_;refine Ap o.swap (by simp) (by (try simp only [go_sem]); (try simp)) k1 fun H o=>?_;have o:=s2 o;refine tt ?_;refine Ap o.swap (by simp) (by (try simp only [go_sem]); (try simp)) k2 fun H o=>?_
   rotate_left 1
   focus
    refine nb o fun G0 H o=>tt ?_;refine nb o fun Lv H o=>tt ?_;refine Ap o (by simp) (by (try simp only [go_sem]); (try simp)) k1 fun H o=>?_;have o:=s2 o;refine tt ?_;refine Ap o.swap (by simp) (by (try simp only [go_sem]); (try simp)) k2 fun H o=>?_
   all_goals
    have o:=s2 o;refine tt ?_;refine D8 11 o rfl fun H oN=>AY ?_;refine tt ?_
    by_cases h2 : CQ g V
    ·rw [Aw h2];rw [JJ,if_pos h2] at hB;simp only [Cx,List.cons.injEq,and_true] at hB
     obtain ⟨rfl,rfl,rfl,rfl,rfl,rfl,rfl,rfl⟩:=hB
     have o:=oN;refine tt ?_;refine Ap (o.pull [_,_]) (by simp [SF.cells]) (by (try simp only [go_sem]); (try simp)) (by first | (simp only [go_sem]; done) | ((try simp only [go_sem]); simp [AV.one,EP])) fun H o=>?_;simp only [SF.cells] at o;have o:=s2 o
     have o : AA H0 H ((Gf,AF.cells 7 (SF.cells (AS (AS g V) V)) 0)::_):=o;refine tt ?_;exact AY ⟨s,AS (AS g V) V,rfl,hs,⟨Nd (Nd hg Ev h2.1) Ev h2.2,Qn⟩,(by simp only [SF.cells] at o ⊢; exact (o.pull [_]).tl.pm)⟩
    ·rw [Aa h2]
     have o:=oN;refine tt ?_;exact AY ⟨s,g,rfl,hs,⟨hg,Qn⟩,(by simp only [SF.cells] at o ⊢; exact o.tl.pm)⟩
  clear o hs Qn hg
  rintro σ H ⟨s,g,rfl,hs,⟨hg,Qn⟩,o⟩;refine tt ?_;refine D8 9 o rfl fun H o=>D8 8 o rfl fun H o=>AY ?_;refine tt ?_;refine (TV B hf hg (HH.trans Qn.symm) 20 (by omega) (by omega)).go fun _=>?_
  generalize (Cz f g (BR f)).take 20=L;refine tt ?_;apply bk <;> intro h3
  ·refine tt ?_;refine ⟨_,(Nt B hg.1).run,tt ?_⟩;refine ⟨_,(Ga B g g (HT g)).run,tt ?_⟩;refine sw (o.pull [_,_]) fun H o=>tt ?_;refine sw (o.pull [_,_]) fun H o=>tt ?_
   have Yd:=o.rc 15 0 (by simp)
   have Yn:=o.tl.rc 6 0 (by simp);simp only [List.drop_zero] at Yn Yd;rw [Yn,Yd];exact Bj ⟨j,⟨g,g,HT g⟩,rfl⟩ o.sub
  ·have B8:=A9 h3;refine tt ?_;refine (AZ B _).FT hs o fun r s H _ ⟨v,e,v0,v1,_⟩ hs o hz=>⟨hz, ?_⟩;subst e
   have hv:=v1 (by omega);refine tt ?_;refine ⟨⟨v0,by omega⟩,tt ?_⟩;refine ⟨_,(Ga B f g (ix L v)).run,tt ?_⟩;refine sw (o.pull [_,_]) fun H o=>tt ?_;refine sw (o.pull [_,_]) fun H o=>tt ?_
   have Yd:=o.rc 15 0 (by simp)
   have Yn:=o.tl.rc 6 0 (by simp);simp only [List.drop_zero] at Yn Yd;rw [Yn,Yd];exact Bj ⟨j,⟨f,g,ix L v⟩,rfl⟩ o.sub
theorem eI (B : Nat) (j : Dw) (f : SF) (cnt : AV) (h0 : codeF j f=0) : PB B 97 [.ptr ((BS j).cells cnt),.ptr f.cells] (.CG [LM f (Aq j.shape j.AP),.bool (dec (CQ f (Aq j.shape j.AP)))]):=by
 obtain ⟨hF,hf,JQ,FL⟩:=Ng h0
 have TK : Bg j.shape:=by
  unfold DO at JQ;rw [if_neg (fun e=>e hF)] at JQ;apply Classical.byContradiction; intro e;rw [if_pos e] at JQ; cases JQ
 have Ev:=(FM h0).2.2.2;rw [← FL] at Ev
 have tab:=Hj hF.is TK
 have E6 : (BS j).marks.length=(AN j.shape).length:=E1
 have K8 : DU (AN j.shape) (BS j).marks:=GH
 have D0:=UG B (BS j) cnt f hf.1 FL (by rw [E6,← FL]; exact tab.len) E6.symm (fun x hx=>by
  have IX : x<(AN j.shape).length:=by rw [← E6]; exact hx
  have h1:=K8.row x IX
  have h2:=tab.Yh x IX
  have h3 : (BS j).BI=AN j.shape:=rfl;rw [h1,h3];exact ⟨Nat.le_refl _,by omega⟩) (by rw [JU hF TK,← FL]; exact Ev)
 rw [JU hF TK] at D0;exact D0
theorem Zq {j : Dw} {m : SM} (hm : m.Is) : codeF j m.CA=codeF j m.src:=by
 by_cases hF : j.Form
 ·have h1 : codeF j m.CA=Fj j m.CA:=by rw [codeF,if_neg (fun e=>e ⟨hF,hm.t⟩),Fj]
  have h2 : codeF j m.src=Fj j m.src:=by rw [codeF,if_neg (fun e=>e ⟨hF,hm.s⟩),Fj]
  rw [h1,h2,Fj,Fj,hm.eq]
 ·rw [codeF,codeF,if_pos (fun e=>hF e.1),if_pos (fun e=>hF e.1)]
theorem pS {j : Dw} {f : SF} (h : codeF j f=0) (h2 : CQ f (Aq j.shape j.AP)) : Dj j f=0:=by rw [Dj,if_pos h,if_pos h2]
theorem pR {j : Dw} {f : SF} (h : codeF j f=0) (h2 : ¬ CQ f (Aq j.shape j.AP)) : Dj j f=3:=by rw [Dj,if_pos h,if_neg h2]
theorem P8 (B : Nat) (f g : SF) (h : f.Shape) (hg : g.Shape) (Nc : g.DJ) (e : f.shape=g.shape) (p : List (List Int)) (m : D5 f g p) (V : List (List Int)) (c : Ba f.shape V) (Bc : Bu f V) (FL : BL g V) :
  PB B 121 [.agg (Cx f V),BA V,.agg g.cells,BA p] (BA (Cm f g V p)):=by
 refine ⟨fun H0=>zM.go fun Gi=>?_⟩
 have hm:=h.is.1.m
 have F3:=h.is.1.o
 have IQ:=h.is.1.HN
 have Fc:=h.sl
 have VZ:=c.len
 have aQ : (BN f V).length=V.length:=by simp [BN]
 have Q3 : g.shape.AO=V.length:=by rw [← e]; omega
 have c':=c;rw [e] at c'
 have s8:=hg.al
 have rP:=hg.sl
 have hgtl:=hg.is.1.HN
 have Kn:=m.len;refine tt ?_;refine Ai (.nil _) fun Gf H o=>tt ?_;refine sw o fun H o=>tt ?_;refine Ag iL o fun G0 H o=>tt ?_
 refine AD [1,3,4,6,9] (G:=Nat) (fun k g=>[(10,some (.buf g k)),(11,some (.int .i64 (k : Int)))])
  (fun k id H=>AA H0 H [(id,.cells 1 (((List.range k).map (EL f g V p)).map iL) 0),(Gf,.cells 5 (Ay.cells g.shape) 0)]) V.length G0 o rfl ?_
 clear o
 rintro k G0 H hk o
 replace o : AA H0 H [(G0,.cells 1 (((List.range k).map (EL f g V p)).map iL) 0),(Gf,.cells 5 (Ay.cells g.shape) 0)]:=o;refine tt ?_;refine Af (o.get (Gf,_) (by repeat (first | exact List.mem_cons_self | refine List.mem_cons_of_mem _ ?_ | refine List.mem_append_right _ ?_))) (by simp [Ay.cells]) ?_;simp only [Ay.cells,List.getD_cons_zero];refine tt ?_;apply bk <;> intro h1
 ·have h1q:=A7 h1
  have AR : k<V.length:=by omega
  have w:=ws k
  have EZ:=c.sv k (by omega)
  have wK:=EZ.len
  have iY : (BN f V).getD k default=B2 f V k:=by rw [BN,AX _ _ (by omega)]
  have jn : (B2 f V k).length≤16:=Bc k (by omega);refine tt ?_;refine Ag iI o fun Pu H o=>tt ?_
  refine AD [1,3,4,6,9,10,11] (G:=Nat × List Int) (fun i g=>[(12,some (.buf g.1 g.2.length)),(13,some (.int .i64 (i : Int)))])
   (fun i r H=>r.2=((B2 f V k).take i).map (fun t=>gl g k (V.getD k default) (EN f.shape p (V.getD k default) t))∧AA H0 H [(r.1,.cells 1 (r.2.map iI) 0),(G0,.cells 1 (((List.range k).map (EL f g V p)).map iL) 0),(Gf,.cells 5 (Ay.cells g.shape) 0)]) (B2 f V k).length (Pu,[]) ⟨rfl,o⟩ rfl ?_
  clear o
  rintro i ⟨Pu,row⟩ H hi ⟨B3,o⟩;dsimp only at B3 o
  have Mc : row.length=i:=by rw [B3,List.length_map,List.length_take]; omega
  refine tt ?_;refine ⟨by omega, ?_⟩;rw [iY];apply bk <;> intro h2
  ·have Ah:=A7 h2
   have w2:=ws i
   have Q2:=((C5 h EZ).mem _).mp (show (B2 f V k).getD i default∈C8 f (V.getD k default) from AE.mpr ⟨i,Ah,rfl⟩)
   generalize ht : (B2 f V k).getD i default=t at *;refine tt ?_;refine Ag iI o fun XY H o=>tt ?_
   refine AD [1,3,4,6,9,10,11,12,13] (G:=Nat × List Int) (fun n g=>[(14,some (.buf g.1 g.2.length)),(15,some (.int .i64 (n : Int)))])
    (fun n r H=>r.2=(List.range n).map (fun j=>ix (ix p (ix g.shape.to ((V.getD k default).getD j default))) (t.getD j default))∧AA H0 H [(r.1,.cells 1 (r.2.map iI) 0),(Pu,.cells 1 (row.map iI) 0),(G0,.cells 1 (((List.range k).map (EL f g V p)).map iL) 0),(Gf,.cells 5 (Ay.cells g.shape) 0)]) (V.getD k default).length (XY,[]) ⟨rfl,o⟩ rfl ?_
   clear o
   rintro n ⟨XY,fam⟩ H hn ⟨IW,o⟩;dsimp only at IW o
   have hfal : fam.length=n:=by rw [IW]; simp
   refine tt ?_;refine ⟨AR, ?_⟩;apply bk <;> intro h3
   ·have B8:=A7 h3
    have w3:=ws n
    have ha:=EZ.arr (AE.mpr ⟨n,B8,rfl⟩)
    have DS:=h.is.1.Cb ha.1.2
    have ug:=(m.pl _ DS).1
    have hrn:=Q2.QF n B8
    have IQ:=Q2.len;rw [e] at ha DS ug hrn;refine tt ?_;refine Af (o.get (Gf,_) (by repeat (first | exact List.mem_cons_self | refine List.mem_cons_of_mem _ ?_ | refine List.mem_append_right _ ?_))) (by simp [Ay.cells]) ?_;simp only [Ay.cells,List.getD_cons_zero,List.getD_cons_succ];refine tt ?_;rw [iY,ht];refine ⟨AR,B8,by omega,by omega,by omega,by omega,by omega,by omega, ?_⟩;refine Ad (f:=iI) (ix (ix p (ix g.shape.to ((V.getD k default).getD n default))) (t.getD n default)) o rfl rfl (by simp only [AL]; omega) fun XY H o=>?_
    have e8 : fam++[ix (ix p (ix g.shape.to ((V.getD k default).getD n default))) (t.getD n default)]=(List.range (n+1)).map (fun j=>ix (ix p (ix g.shape.to ((V.getD k default).getD j default))) (t.getD j default)):=by
     rw [IW,List.range_succ]; simp [-List.getD_eq_getElem?_getD]
    refine tw w3 ?_;exact A5 (_,_) (by omega) ⟨e8,o⟩ rfl
   ·have B8:=A9 h3
    have XW : fam=EN f.shape p (V.getD k default) t:=by rw [IW,EN,e,show n=(V.getD k default).length by omega]
    refine tt ?_;refine Al o rfl fun H o=>tt ?_
    have hu : DQ g k (V.getD k default) fam:=by
     have hv:=c'.at (x:=(k : Int)) ⟨by omega,by omega⟩
     have:=GC hg Nc c' FL (x:=(k : Int)) ⟨by omega,by omega⟩ (t:=fam) (by simp only [AH]; rw [XW]; exact Kz h hg e m EZ Q2)
     simpa only [AH] using this
    have hz:=hg.DH (y:=(k : Int)) ⟨by omega,by omega⟩
    have gY:=c'.sv k (by omega)
    have Rh : ∀ a,a∈V.getD k default→0≤a∧a.toNat<g.AU.length:=fun a ha=>by have:=gY.arr ha; omega
    have QD : ∀ a,a∈V.getD k default→((ix g.AU a).length : Int)=ix g.A4 k:=fun a ha=>by
     have hv:=gY.arr ha
     have h1:=hg.Cw hv.1.2;rw [hv.2] at h1;exact h1
    have hl1 : 0<(glue g k (V.getD k default) fam).length:=by simp only [DQ] at hu; omega
    refine ⟨AR,_,(Mx B g k (V.getD k default) fam ⟨by omega,by omega⟩ (by omega) Rh QD).run,tt ?_⟩;refine ⟨⟨by omega,by simpa using hl1⟩, ?_⟩;refine Ad (f:=iI) (gl g k (V.getD k default) (EN f.shape p (V.getD k default) t)) o (by rw [XW]; rfl) rfl (by simp only [AL]; omega) fun Pu H o=>?_
    have e8 : row++[gl g k (V.getD k default) (EN f.shape p (V.getD k default) t)]=((B2 f V k).take (i+1)).map (fun t=>gl g k (V.getD k default) (EN f.shape p (V.getD k default) t)):=by
     rw [B3,BW _ _ Ah,ht]
    refine tw w2 ?_;exact A5 (_,_) (by omega) ⟨e8,o⟩ rfl
  ·have Ah:=A9 h2
   have E3 : row=EL f g V p k:=by rw [B3,List.take_of_length_le (by omega)]; rfl
   refine tt ?_;refine Al o rfl fun H o=>tt ?_;refine Ad (f:=iL) row o rfl (by simp) (by simp only [List.length_map,List.length_range,AL]; omega) fun Gf H o=>?_
   have e7 : (List.range k).map (EL f g V p)++[row]=(List.range (k+1)).map (EL f g V p):=by rw [List.range_succ,List.map_append,E3]; rfl
   rw [e7] at o ⊢;refine tw w ?_;exact A5 Gf (by omega) o (by simp)
 ·have h1q:=A9 h1
  have AR : ¬ k<V.length:=by omega
  obtain rfl : k=V.length:=by omega
  refine tt ?_;refine Al o (by simp) fun H o=>tt ?_;exact A6 rfl o.sub
theorem Mm (B : Nat) (f g : SF) (h : f.Shape) (hg : g.Shape) (Nc : g.DJ) (e : f.shape=g.shape) (p : List (List Int)) (m : D5 f g p) (V : List (List Int)) (c : Ba f.shape V) (Bc : Bu f V) (FL : BL g V) :
  PB B 120 [Fu f V,.ptr g.cells,BA p] (BA (Cm f g V p)):=by
 refine ⟨fun H0=>zV.go fun Gi=>?_⟩
 have hm:=h.is.1.m
 have F3:=h.is.1.o
 have IQ:=h.is.1.HN
 have Fc:=h.sl
 have VZ:=c.len
 have aQ : (BN f V).length=V.length:=by simp [BN]
 have s8:=hg.al
 have rP:=hg.sl
 have hgtl:=hg.is.1.HN
 have Q3 : g.shape.AO=V.length:=by rw [← e]; omega
 have Kn:=m.len
 have c':=c;rw [e] at c';refine tt ?_;refine Ag iL (.nil _) fun G0 H o=>tt ?_
 refine AD [0,1,2,7,24,25] (G:=Nat) (fun k g=>[(8,some (.buf g k)),(26,some (.int .i64 (k : Int)))])
  (fun k id H=>AA H0 H [(id,.cells 1 (((List.range k).map (EL f g V p)).map iL) 0)]) V.length G0 o (by rw [aQ]; rfl) ?_
 clear o
 rintro k G0 H hk o
 replace o : AA H0 H [(G0,.cells 1 (((List.range k).map (EL f g V p)).map iL) 0)]:=o;refine tt ?_;apply bk <;> intro h1
 ·have AR:=A7 h1;rw [aQ] at AR
  have w:=ws k
  have EZ:=c.sv k (by omega)
  have gY:=c'.sv k (by omega)
  have wK:=EZ.len
  have iY : (BN f V).getD k default=B2 f V k:=by rw [BN,AX _ _ (by omega)]
  have jn : (B2 f V k).length≤16:=Bc k (by omega);refine tt ?_;refine ⟨by omega, ?_⟩;refine Ag iI o fun Pu H o=>tt ?_;rw [iY]
  refine AD [0,1,2,7,8,9,24,25,26,32,33] (G:=Nat × List Int) (fun i g=>[(11,some (.buf g.1 g.2.length)),(34,some (.int .i64 (i : Int)))])
   (fun i r H=>r.2=((B2 f V k).take i).map (fun t=>gl g k (V.getD k default) (EN f.shape p (V.getD k default) t))∧AA H0 H [(r.1,.cells 1 (r.2.map iI) 0),(G0,.cells 1 (((List.range k).map (EL f g V p)).map iL) 0)]) (B2 f V k).length (Pu,[]) ⟨rfl,o⟩ rfl ?_
  clear o
  rintro i ⟨Pu,row⟩ H hi ⟨B3,o⟩;dsimp only at B3 o
  have Mc : row.length=i:=by rw [B3,List.length_map,List.length_take]; omega
  refine tt ?_;apply bk <;> intro h2
  ·have Ah:=A7 h2
   have w2:=ws i
   have Q2:=((C5 h EZ).mem _).mp (show (B2 f V k).getD i default∈C8 f (V.getD k default) from AE.mpr ⟨i,Ah,rfl⟩)
   generalize ht : (B2 f V k).getD i default=t at *;refine tt ?_;refine ⟨Ah, ?_⟩;rw [ht];refine Ag iI o fun XY H o=>tt ?_;refine ⟨AR, ?_⟩
   refine AD [0,1,2,7,8,9,11,13,24,25,26,32,33,34,45,46] (G:=Nat × List Int) (fun n g=>[(14,some (.buf g.1 g.2.length)),(47,some (.int .i64 (n : Int)))])
    (fun n r H=>r.2=(List.range n).map (fun j=>ix (ix p (ix g.shape.to ((V.getD k default).getD j default))) (t.getD j default))∧AA H0 H [(r.1,.cells 1 (r.2.map iI) 0),(Pu,.cells 1 (row.map iI) 0),(G0,.cells 1 (((List.range k).map (EL f g V p)).map iL) 0)]) (V.getD k default).length (XY,[]) ⟨rfl,o⟩ rfl ?_
   clear o
   rintro n ⟨XY,fam⟩ H hn ⟨IW,o⟩;dsimp only at IW o
   have hfal : fam.length=n:=by rw [IW]; simp
   refine tt ?_;apply bk <;> intro h3
   ·have B8:=A7 h3
    have w3:=ws n
    have ha:=EZ.arr (AE.mpr ⟨n,B8,rfl⟩)
    have DS:=h.is.1.Cb ha.1.2
    have ug:=(m.pl _ DS).1
    have hrn:=Q2.QF n B8
    have IQ:=Q2.len;rw [e] at ha DS ug hrn;refine tt ?_;refine ⟨B8,by omega,by omega,by omega,by omega, ?_⟩;refine Ad (f:=iI) (ix (ix p (ix g.shape.to ((V.getD k default).getD n default))) (t.getD n default)) o rfl rfl (by simp only [AL]; omega) fun XY H o=>?_
    have e8 : fam++[ix (ix p (ix g.shape.to ((V.getD k default).getD n default))) (t.getD n default)]=(List.range (n+1)).map (fun j=>ix (ix p (ix g.shape.to ((V.getD k default).getD j default))) (t.getD j default)):=by
     rw [IW,List.range_succ]; simp [-List.getD_eq_getElem?_getD]
    refine tw w3 ?_;exact A5 (_,_) (by omega) ⟨e8,o⟩ rfl
   ·have B8:=A9 h3
    have XW : fam=EN f.shape p (V.getD k default) t:=by rw [IW,EN,e,show n=(V.getD k default).length by omega]
    have hu : DQ g k (V.getD k default) fam:=by
     have:=GC hg Nc c' FL (x:=(k : Int)) ⟨by omega,by omega⟩ (t:=fam) (by simp only [AH]; rw [XW]; exact Kz h hg e m EZ Q2)
     simpa only [AH] using this
    have hz:=hg.DH (y:=(k : Int)) ⟨by omega,by omega⟩
    have Rh : ∀ a,a∈V.getD k default→0≤a∧a.toNat<g.AU.length:=fun a ha=>by have:=gY.arr ha; omega
    have QD : ∀ a,a∈V.getD k default→((ix g.AU a).length : Int)=ix g.A4 k:=fun a ha=>by
     have hv:=gY.arr ha
     have h1:=hg.Cw hv.1.2;rw [hv.2] at h1;exact h1
    refine tt ?_;refine Al o rfl fun H o=>tt ?_;refine ⟨AR,(pF B g k (V.getD k default) fam ⟨by omega,by omega⟩ (by omega) Rh QD hu).go fun _=>?_⟩;refine tt ?_;refine Ad (f:=iI) (gl g k (V.getD k default) (EN f.shape p (V.getD k default) t)) o (by rw [XW]; rfl) rfl (by simp only [AL]; omega) fun Pu H o=>?_
    have e8 : row++[gl g k (V.getD k default) (EN f.shape p (V.getD k default) t)]=((B2 f V k).take (i+1)).map (fun t=>gl g k (V.getD k default) (EN f.shape p (V.getD k default) t)):=by
     rw [B3,BW _ _ Ah,ht]
    refine tw w2 ?_;exact A5 (_,_) (by omega) ⟨e8,o⟩ rfl
  ·have Ah:=A9 h2
   have E3 : row=EL f g V p k:=by rw [B3,List.take_of_length_le (by omega)]; rfl
   refine tt ?_;refine Al o rfl fun H o=>tt ?_;refine Ad (f:=iL) row o rfl (by simp) (by simp only [List.length_map,List.length_range,AL]; omega) fun Gf H o=>?_
   have e7 : (List.range k).map (EL f g V p)++[row]=(List.range (k+1)).map (EL f g V p):=by rw [List.range_succ,List.map_append,E3]; rfl
   rw [e7] at o ⊢;refine tw w ?_;exact A5 Gf (by omega) o (by simp)
 ·have AR:=A9 h1;rw [aQ] at AR
  obtain rfl : k=V.length:=by omega
  refine tt ?_;refine Al o (by simp) fun H o=>tt ?_;exact A6 rfl o.sub
end Go.Proofs.Shf
