/- A part of a proof. -/
import Derived.Test.YthflgdphhajkbaaGreatF9
set_option linter.unusedVariables false
set_option linter.unusedSimpArgs false
set_option linter.unusedSectionVars false
open Nat (reduceEqDiff reduceAdd reduceMul reduceLeDiff reduceLT)
namespace Go.Proofs.Shf
open Go.AW Go.Proofs Go.Shf
def smP (m : SM) : AV:=.ptr m.cells
instance : One smP:=⟨fun _=>rfl,fun _=>rfl⟩
instance : Inhabited SM:=⟨⟨default,default,[]⟩⟩
theorem QI (B : Nat) (l : List SM) : PB B 117 [mL smP l] (.bool (dec (∀ m,m∈l→m.Is))):=by
 refine ⟨fun H0=>zp.go fun ⟨hf,_⟩=>?_⟩
 have hl:=AL hf;simp only [AK] at hl;refine tt ?_;refine AD [5,6] (fun k _=>[(7,some (.int .i64 (k : Int)))]) (fun k _ H=>H=H0∧∀ i,i<k→(l.getD i default).Is) l.length () ⟨rfl,by simp⟩ rfl ?_
 rintro k _ H hk ⟨rfl,Aj⟩;refine tt ?_;apply bk <;> intro h1
 ·have AU:=dd h1
  have w1:=ws k;refine tt ?_;refine ⟨AU,(Hx B _).go fun _=>?_⟩;refine tt ?_;apply bk <;> intro h2
  ·refine tt ?_
   have Ah:=dd h2;exact A6 (by rw [Ab]; intro h; exact Ah (h _ (AE.mpr ⟨k,AU,rfl⟩))) (.refl _)
  ·refine tw w1 ?_
   have Ah:=dd h2;exact A5 () (by omega) ⟨rfl,AG Aj Ah⟩ rfl
 ·refine tt ?_
  have AU:=dd h1;exact A6 (by rw [Ay]; exact Db.mpr fun i hi=>Aj i (by omega)) (.refl _)
theorem Mu (B : Nat) (f g k : SF) (p q : List (List Int)) (hp : SM.Is ⟨f,g,p⟩) (hq : SM.Is ⟨g,k,q⟩) : PB B 50 [.agg (SM.cells ⟨f,g,p⟩),.agg (SM.cells ⟨g,k,q⟩)] (.CK [.agg (SM.cells ⟨f,k,thenS p q⟩),iI 0]):=by
 refine ⟨fun H0=>c50.go fun _=>?_⟩
 have hm : Cz f g p:=hp.SX
 have hn : Cz g k q:=hq.SX
 have e : f.shape=g.shape:=hp.eq
 have l1:=hm.len
 have l2:=hn.len
 have hth:=LZ B p q (by rw [← e] at l2; omega) fun x hx y hy=>by
  have QX : 0≤(x : Int)∧(x : Int)<f.shape.AR:=by omega
  have h1:=hm.pl x QX
  have h2:=(hn.pl x (by rw [← e]; exact QX)).1
  obtain ⟨i,hi,rfl⟩:=AE.mp hy;rw [AJ] at h1 h2
  have h3:=h1.2 i ⟨by omega,by omega⟩;rw [AJ] at h3;omega
 refine tt ?_;refine nb (.nil _) fun BN H o=>tt ?_;refine (QI B [⟨f,g,p⟩,⟨g,k,q⟩]).go fun _=>?_
 rw [Ay (show ∀ m,m∈[(⟨f,g,p⟩ : SM),⟨g,k,q⟩]→m.Is from fun m h=>by
  simp only [List.mem_cons,List.not_mem_nil,or_false] at h
  rcases h with rfl | rfl
  ·exact hp
  ·exact hq)]
 refine tt ?_;refine (NC B g).go fun _=>tt ?_;refine hth.go fun _=>?_;refine (Z8 B f k (thenS p q)).go fun _=>tt ?_;refine sw o fun H o=>tt ?_
 have hr:=o.rc 15 0 (by simp);simp only [List.drop_zero] at hr;rw [hr];exact A6 rfl o.sub
end Go.Proofs.Shf
namespace Go.Shf
open Go.AW
section
variable {f g k l : SF} {p q r : List (List Int)} {V : List (List Int)}
theorem Hk (m : Cz f g p) {x e : Int} (hx : 0≤x∧x<f.shape.AR) (he : 0≤e∧e<ix f.A4 x) : ix (ix (thenS p q) x) e=ix (ix q x) (ix (ix p x) e):=by
 have hl:=m.len;exact Xr (by omega) (by have:=(m.pl x hx).1; omega)
theorem then_assoc (hf : f.Shape) (hg : g.Shape) (e : f.shape=g.shape) (e2 : g.shape=k.shape) (m : Cz f g p) (n : Cz g k q) (o : Cz k l r) : thenS (thenS p q) r=thenS p (thenS q r):=by
 refine Cz.ext ((m.then n e hf).then o (e.trans e2) hf) (m.then (n.then o e2 hg) e hf) fun x y hx hy=>?_
 have h1:=(m.pl x hx).2 y hy;rw [Hk (m.then n e hf) hx hy,Hk m hx hy,Hk m hx hy,Hk n (by rw [← e]; exact hx) h1]
theorem RB (m : Cz f g p) {x : Int} {s : List Int} (hs : f.shape.Ax x s) {y : Int} (hy : 0≤y∧y<ix f.A4 x) : D9 f.shape p s (Bl f s y)=Bl g s (ix (ix p x) y):=by
 rw [Jd hs.nodup];refine List.map_congr_left fun a ha=>?_
 have hv:=hs.arr ha;rw [D6 ha]
 have:=m.nl a hv.1 y (by rw [hv.2]; exact hy);rw [hv.2] at this;exact this
theorem Vp (h : f.Shape) (v : BT f.shape V) {x a : Int} (hx : 0≤x∧x<f.shape.AR) (ha : a∈ix V x) {t : List Int} (ht : NQ f (ix V x) t) : Bd f.shape V a t=Bl f (ix V (ix f.shape.to a)) (entry (ix V x) t a):=by
 have hv:=(v.at hx).arr ha
 have HJ:=v.to h.is hv.1;refine Er HJ.nodup (by simp [Bd]) (by simp [Bl]) fun d hd=>?_
 have YF:=HJ.arr hd;rw [C1 hd,D6 hd,hv.2,ht.EK h (v.at hx) ha YF.1 YF.2.symm]
theorem Zk (h : f.Shape) (v : BT f.shape V) {x a : Int} (hx : 0≤x∧x<f.shape.AR) (ha : a∈ix V x) {k : Int} (hk : 0≤k∧k<ix (B5 f V) x) :
  ix (ix (BK f V) a) k=ix (ix (BR f V) (ix f.shape.to a)) (entry (ix V x) (ix (BQ f (ix V x)) k) a):=by
 have hv:=(v.at hx).arr ha;rw [BI v hx] at hk
 have ht:=(Jh h v hx (k:=k) ⟨hk.1,by omega⟩).1
 have Cu:=h.is.1.C7 hv.1.2
 have s1:=(DK h v hv.1 (k:=k) (by rw [hv.2]; exact ⟨hk.1,by omega⟩)).1;rw [s1,hv.2,NW h Cu (ht.Dh ha),Vp h v hx ha ht]
theorem Z1 (v : BT f.shape V) {x k : Int} (hx : 0≤x∧x<f.shape.AR) (hk : 0≤k∧k<ix (B5 f V) x) : ix (ix (Bb f g V p) x) k=indexOf (BQ g (ix V x)) (D9 f.shape p (ix V x) (ix (BQ f (ix V x)) k)):=by
 have hl:=v.len;rw [BI v hx] at hk
 have e : ix (Bb f g V p) x=(BQ f (ix V x)).map fun t=>indexOf (BQ g (ix V x)) (D9 f.shape p (ix V x) t):=by
  rw [ix,Bb,AS _ _ (by omega)]; rfl
 rw [e,ix,B8 _ (by omega)]; rfl
theorem lP (v : BT f.shape V) {x k : Int} (hx : 0≤x∧x<f.shape.AR) (hk : 0≤k∧k<ix (B5 f V) x) : ix (ix (E6 f g V p) x) k=gl g x (ix V x) (D9 f.shape p (ix V x) (ix (BQ f (ix V x)) k)):=by
 have hl:=v.len;rw [BI v hx] at hk
 have e : ix (E6 f g V p) x=(BQ f (ix V x)).map fun t=>gl g x (ix V x) (D9 f.shape p (ix V x) t):=by
  rw [ix,E6,AS _ _ (by omega)]
  show (Au f V x.toNat).map _=_
  rw [Int.toNat_of_nonneg hx.1]; rfl
 rw [e,ix,B8 _ (by omega)]; rfl
theorem Mz (h : f.Shape) (hc : f.DE) (hg : g.Shape) (aQ : g.DE) (e : f.shape=g.shape) (m : Cz f g p) (v : BT f.shape V) : thenS (BR f V) (Bb f g V p)=thenS p (BR g V):=by
 have v':=v;rw [e] at v';refine Cz.ext ((Ct h hc v).then (EP h hg e m v) rfl h) (m.then (Ct hg aQ v') e h) fun x y hx hy=>?_
 have u:=PH h hc v hx hy;rw [Hk (Ct h hc v) hx hy,Hk m hx hy,Z1 v hx u.1,u.2,RB m (v.at hx) hy,NW hg (by rw [← e]; exact hx) ((m.pl x hx).2 y hy)]
theorem R1 (h : f.Shape) (hc : f.DE) (hF : (AO f V).Shape) (hg : g.Shape) (aQ : g.DE) (e : f.shape=g.shape) (v : BT f.shape V) (n : Cz (AO f V) g q) (hs : Bw g V) : E6 f g V (thenS (BR f V) q)=q:=by
 have v':=v;rw [e] at v'
 have m:=(Ct h hc v).then n rfl h
 refine Cz.ext (Ui h hg aQ e m v hs) n fun x k hx hk=>?_
 have hz : 0≤x∧x<f.shape.AR:=hx
 have hy : 0≤k∧k<ix (B5 f V) x:=hk
 have hz' : 0≤x∧x<g.shape.AR:=by rw [← e]; exact hz
 have hr:=(n.pl x hz).2 k hy
 have IM:=hy;rw [BI v hz] at IM
 have ht:=(Jh h v hz (k:=k) ⟨IM.1,by omega⟩).1;rw [lP v hz hy];refine ((NX (KM hg aQ v' hs hz' (Iw h hg e m (v.at hz) ht))).2 _ hr ?_).symm;rw [← RB n (v.at hz) hy,Jd (v.at hz).nodup,Jd (v.at hz).nodup];refine List.map_congr_left fun a ha=>?_
 have hv:=(v.at hz).arr ha
 have Cu:=h.is.1.C7 hv.1.2
 have hen:=ht.Dh ha;rw [D6 ha,Hk (Ct h hc v) Cu hen];exact congrArg _ (Zk h v hz ha hy)
end
section
variable {f g : SF} {p : List (List Int)} {V : List (List Int)}
noncomputable def NK (f : SF) (V : List (List Int)) : List (List Int):=thenS (BR f V) (BR (AO f V) V)
theorem lH (h : f.Shape) (hc : f.DE) (hg : g.Shape) (aQ : g.DE) (e : f.shape=g.shape) (m : Cz f g p) (v : BT f.shape V) (Zt : CG f V) (hg2 : CG g V) :
  thenS (NK f V) (Bb (AO f V) (AO g V) V (Bb f g V p))=thenS p (NK g V):=by
 have v':=v;rw [e] at v'
 have hF:=Bx h v Zt.1
 have qV:=G4 h v Zt.1
 have hG:=Bx hg v' hg2.1
 have ji:=G4 hg v' hg2.1
 have u1:=Ct h hc v
 have u2 : Cz (AO f V) (AO (AO f V) V) _:=Ct hF qV v
 have w1:=Ct hg aQ v'
 have w2 : Cz (AO g V) (AO (AO g V) V) _:=Ct hG ji v'
 have a1:=EP h hg e m v
 have a2 : Cz (AO (AO f V) V) (AO (AO g V) V) _:=EP hF hG e a1 v;rw [NK,then_assoc (k:=AO (AO f V) V) h hF rfl rfl u1 u2 a2,Mz hF qV hG ji e a1 v,← then_assoc (k:=AO g V) (l:=AO (AO g V) V) h hF rfl e u1 a1 w2,Mz h hc hg aQ e m v,then_assoc (k:=AO g V) h hg e rfl m w1 w2,NK]
theorem k9 {G : SF} {q : List (List Int)} (h : f.Shape) (hc : f.DE) (hG : G.Shape) (ji : G.DE) (e : f.shape=G.shape) (v : BT f.shape V) (Zt : CG f V) (n : Cz (AO (AO f V) V) G q) (hs : Bw G V) :
  E6 (AO f V) G V (E6 f G V (thenS (NK f V) q))=q:=by
 have hF:=Bx h v Zt.1
 have qV:=G4 h v Zt.1
 have hF2 : (AO (AO f V) V).Shape:=Bx hF v Zt.2
 have u1:=Ct h hc v
 have u2 : Cz (AO f V) (AO (AO f V) V) _:=Ct hF qV v;rw [NK,then_assoc (k:=AO (AO f V) V) h hF rfl rfl u1 u2 n,R1 h hc hF hG ji e v (u2.then n rfl hF) hs,R1 hF qV hF2 hG ji e v n hs]
end
end Go.Shf
namespace Go.AW
theorem Z2 {l : List AV} {i : Nat} (h : i<l.length) : l.set i (l.getD i nv)=l:=by
 apply List.ext_getElem?
 intro j
 by_cases e : j=i
 ·subst e; simp [Go.AW.gE,h]
 ·rw [List.getElem?_set_ne (by omega)]
theorem XO.W5 {α : Type} {O : Ob→AV→α→Prop} {p : Ob} {X : AV} {A : List α} (h : XO O p X A) {i : Nat} (hi : i<A.length) : ∃ id Xs o,p=(id,.cells 1 Xs 0)::o∧X=.buf id Xs.length∧Bv O Xs A o:=by
 rcases h with ⟨_,_,rfl⟩ | h
 ·simp at hi
 ·exact h
theorem AB.rowT {α : Type} [Inhabited α] {O : Ob→AV→α→Prop} {H0 H : AA} {l q : Ob} {id : Nat} {Xs : List AV} {A : List α} (o : AB H0 H (((id,.cells 1 Xs 0)::q)++l)) (hr : Bv O Xs A q) {i : Nat} (hi : i<Xs.length) :
  ∃ p r,AB H0 H (p++((id,.cells 1 Xs 0)::(r++l)))∧O p (Xs.getD i nv) (A.getD i default) ∧
   ∀ a' p' H',O p' (Xs.getD i nv) a'→AB H0 H' (p'++((id,.cells 1 Xs 0)::(r++l)))→∃ q',Bv O Xs (A.set i a') q'∧AB H0 H' (((id,.cells 1 Xs 0)::q')++l):=by
 obtain ⟨p,r,h1,h2,h3⟩:=hr.split i hi;refine ⟨p,r,o.perm ?_,h2,fun a' p' H' hO o'=>?_⟩
 ·refine List.Perm.trans ?_ (List.perm_middle (a:=(id,AF.cells 1 Xs 0)) (l₁:=p) (l₂:=r++l)).symm;refine List.Perm.cons _ ?_;rw [← List.append_assoc];exact List.Perm.append_right l h1
 ·obtain ⟨q',k1,k2⟩:=h3 _ _ _ hO;rw [Z2 hi] at k1;refine ⟨q',k1,o'.perm ?_⟩;refine List.Perm.trans (List.perm_middle (a:=(id,AF.cells 1 Xs 0)) (l₁:=p') (l₂:=r++l)) ?_;refine List.Perm.cons _ ?_;rw [← List.append_assoc];exact List.Perm.append_right l k2.symm
theorem Bv.mF {Xs : List AV} {l : List Int} {o : Ob} (h : Bv OI Xs l o) : o=[]∧Xs=l.map iI:=by
 induction h with
 | nil=>exact ⟨rfl,rfl⟩
 | cons h _ ih=>exact ⟨by rw [h.1,ih.1]; rfl,by rw [h.2,ih.2]; rfl⟩
theorem Vh : ∀ (l : List Int),Bv OI (l.map iI) l []
 | []=>.nil
 | a::r=>.cons (p:=[]) ⟨rfl,rfl⟩ (Vh r)
theorem cY {H0 H : AA} {q l : Ob} {X : AV} {p : List (List Int)} (hX : ZC q X p) (o : AB H0 H (q++l)) {y i : Nat} (hy : y<p.length) (hi : i<(p.getD y default).length) :
  ∃ KC Xs KB,X=.buf KC Xs.length∧Xs.length=p.length∧H.get KC=some (.cells 1 Xs 0)∧Xs.getD y nv=.buf KB (p.getD y default).length∧H.get KB=some (.cells 1 ((p.getD y default).map iI) 0) ∧
   ∀ (k : Int) (K : Ap),(∀ q' H',ZC q' X (p.set y ((p.getD y default).set i k))→AB H0 H' (q'++l)→K nv H')→Oa (H.get KB) KB i 1 [iI k] K H:=by
 obtain ⟨KC,Xs,r,rfl,rfl,hr⟩:=hX.W5 hy
 have hl:=hr.len
 obtain ⟨pr,r2,o2,hO,back⟩:=o.rowT hr (i:=y) (by omega)
 obtain ⟨KB,Ys,rr,rfl,hY,iY⟩:=hO.W5 hi
 obtain ⟨rfl,rfl⟩:=iY.mF;rw [List.length_map] at hY;refine ⟨KC,Xs,KB,rfl,hl,o.h0,hY,o2.h0,fun k K hk=>?_⟩;refine C4 (f:=iI) k o2 rfl hi fun H' o3=>?_
 obtain ⟨q',Wy,o4⟩:=back ((p.getD y default).set i k) [(KB,.cells 1 (((p.getD y default).set i k).map iI) 0)] H' (by rw [hY]; exact .inr ⟨KB,_,[],rfl,by simp,Vh _⟩) o3;exact hk _ H' (.inr ⟨KC,Xs,q',rfl,rfl,Wy⟩) o4
end Go.AW
namespace Go.AW
theorem Ez.rows {Xs : List AV} {T : List (List Int)} {ob : Ob} (h : Ez iI Xs T ob) : Bv OL Xs T ob:=by
 induction h with
 | nil=>exact .nil
 | @cons p o X Xs A As h t ih =>
  refine .cons ?_ ih
  rcases h with ⟨rfl,rfl,rfl⟩ | ⟨id,rfl,rfl⟩
  ·exact .inl ⟨rfl,rfl,rfl⟩
  ·exact .inr ⟨id,_,[],rfl,by simp,Vh _⟩
theorem Bv.lsr {Xs : List AV} {T : List (List Int)} {ob : Ob} (h : Bv OL Xs T ob) : Ez iI Xs T ob:=by
 induction h with
 | nil=>exact .nil
 | @cons p o X Xs A As h t ih =>
  refine Ez.cons ?_ ih
  rcases h with ⟨rfl,rfl,rfl⟩ | ⟨id,Ys,r,rfl,rfl,hr⟩
  ·exact .inl ⟨rfl,rfl,rfl⟩
  ·obtain ⟨rfl,rfl⟩:=hr.mF;exact .inr ⟨id,rfl,by simp⟩
theorem qJ {F : Env→AA→Prop} {σ : Env} {H0 H : AA} {l q : Ob} {id n : Nat} {T : List (List Int)} (h : ZC q (.buf id n) T) (o : AB H0 H (q++l))
  (hk : ∀ H',n=T.length→AB H0 H' ((id,.cells 1 (T.map iL) 0)::l)→Gb F σ H') : Gb F σ H:=by
 rcases h with ⟨_,h,_⟩ | ⟨ES,Xs,ob,rfl,hX,hr⟩
 ·cases h
 ·obtain ⟨rfl,rfl⟩:=AV.buf.inj hX;exact Cy hr.lsr [] H o fun H' o'=>hk H' hr.len o'
end Go.AW
namespace Go.Shf
theorem LS {α : Type} [Inhabited α] (A : List α) (i : Nat) : A.set i (A.getD i default)=A:=by
 apply List.ext_getElem?
 intro j
 by_cases e : i=j
 ·subst e
  by_cases h : i<A.length
  ·simp [Go.AW.gE,h]
  ·rw [List.getElem?_eq_none (by simp; omega),List.getElem?_eq_none (by omega)]
 ·rw [List.getElem?_set_ne e]
theorem Z6 {p : List (List Int)} {y i v : Int} (h : Go.AW.ix (Go.AW.ix p y) i=v) : Q8 p y i v=p:=by
 have e : (Go.AW.ix p y).set i.toNat v=Go.AW.ix p y:=by rw [← h]; exact LS _ _
 rw [Q8,e]; exact LS _ _
end Go.Shf
namespace Go.Proofs.Shf
open Go.AW Go.Proofs Go.Shf
@[go_sem] def Oy (f g : SF) (m : Int) (X : AV) : AF:=.cells 17 [iI f.shape.AR,iL f.shape.AH,iL f.shape.to,iL f.shape.Aw,BD f.shape.comp,iL f.A4,BD f.Aa,
 iI g.shape.AR,iL g.shape.AH,iL g.shape.to,iL g.shape.Aw,BD g.shape.comp,iL g.A4,BD g.Aa,.bool false,iI m,X] 0
def J1 (f g : SF) (p : List (List Int)) (x e d : Int) (r : AV) : Prop:=∃ (ok : Bool) (p' : List (List Int)),r=.CK [BD p',.bool ok]∧(ok=true→∃ N,Ey f g p x e d (outs f.shape x).length p' N)∧(ok=false→¬ iN f g p x e d)
theorem YD (B : Nat) {f g : SF} {x e d m : Int} (w : VE f g x e d) {p : List (List Int)} (hP : PT f g p) {Ff : Nat} {X : AV} {l : Ob} {H0 H : AA}
  (o : AB H0 H ((Ff,Oy f g m X)::l)) :
  CB B 300 [.ref Ff 0,BD p,iI x,iI e,iI d] H fun r H'=>J1 f g p x e d r∧AB H0 H' ((Ff,Oy f g m X)::l):=by
 refine zH.go fun _=>?_
 have hm:=w.hf.1.is.1.m
 have Fh:=w.hf.1.is.1.o
 have Hg:=w.hf.1.is.1.He
 have Pz:=w.hf.1.al
 have hgal : g.Aa.length=f.shape.AH.length:=by have:=w.hg.1.al; rw [← w.sh] at this; exact this
 refine tt ?_;refine (N4 B p H0 H _ o).mono ?_;clear o
 rintro r H ⟨KC,Xs,ob,rfl,sU,o⟩
 have tx : ZC ((KC,.cells 1 Xs 0)::ob) (.buf KC Xs.length) p:=.inr ⟨KC,Xs,ob,rfl,rfl,sU.rows⟩
 have hlX:=sU.len
 generalize YL : Xs.length=nX at *;clear sU;refine tt ?_
 refine AD [0,2,3,4,12] (G:=List (List Int) × List (Int × Int) × Ob) (fun a _=>[(13,some (.int .i64 (a : Int)))])
  (fun a G H=>ZC G.2.2 (.buf KC nX) G.1∧Ey f g p x e d (L6 f.shape x a) G.1 G.2.1∧AB H0 H ((Ff,Oy f g m X)::(G.2.2++l))) f.shape.AH.length (p,[],(KC,.cells 1 Xs 0)::ob) ⟨tx,.zero f g p x e d,o.pm⟩ rfl ?_
 clear o tx
 rintro a ⟨p',N,q⟩ H ha ⟨hX,hS,o⟩;dsimp only at hX hS o
 have YS : H.get Ff=some (Oy f g m X):=o.h0;refine tt ?_;refine Al YS (by simp) (tt ?_);apply bk <;> intro h1
 ·have AU : a<f.shape.AH.length:=by have:=A7 h1; omega
  have w1:=ws a;refine tt ?_;refine Al YS (by simp) (tt ?_);refine ⟨by omega, ?_⟩;apply bk <;> intro h2
  ·have Ah:=dd h2
   have vP : L6 f.shape x (a+1)=L6 f.shape x a:=by rw [Qw,if_neg (by simpa using Ah)]
   refine tw w1 ?_;exact A5 (p',N,q) (by omega) ⟨hX,by rw [vP]; exact hS,o⟩ rfl
  ·have Ah:=dd h2
   have tj : f.shape.AH.getD a default=x:=by simpa using Ah
   have vP : L6 f.shape x (a+1)=L6 f.shape x a+1:=by rw [Qw,if_pos tj]
   have Pj:=kU (P:=fun i=>decide (f.shape.AH.getD i default=x)) AU (decide_eq_true tj)
   have Nc : L6 f.shape x a<(outs f.shape x).length:=by rw [outs,List.length_map]; exact Pj.2
   have ea : (outs f.shape x).getD (L6 f.shape x a) default=(a : Int):=by
    rw [outs,show L6 f.shape x a=((List.range a).filter fun i=>decide (f.shape.AH.getD i default=x)).length from rfl,B8 _ Pj.2]; exact congrArg Int.ofNat Pj.1
   have hA:=w.arr (b:=(a : Int)) (AE.mpr ⟨_,Nc,ea⟩)
   have EI:=hP.inT w.hf.1 hA.2.2.1 hA.2.2.2.1
   have XG:=w.hf.1.U5 hA.1 (e:=e) (by rw [hA.2.1]; exact w.he)
   have sO:=w.hg.1.U5 (a:=(a : Int)) (e:=d) (by rw [← w.sh]; exact hA.1) (by rw [← w.sh,hA.2.1]; exact w.hd);simp only [AJ] at hA EI XG sO
   have Cu:=hA.2.2.1
   have Po:=hA.2.2.2.1
   have aQ:=hA.2.2.2.2
   have JO : (f.shape.to.getD a default).toNat<p'.length:=by rw [hS.len]; exact EI.1.2
   have Fi : (ix (f.Aa.getD a default) e).toNat<(p'.getD (f.shape.to.getD a default).toNat default).length:=by rw [hS.row]; exact EI.2.2
   have o1 : AB H0 H (q++((Ff,Oy f g m X)::l)):=o.pm
   obtain ⟨idX',Xs',KB,hXe,JN,lS,jK,sd,Ik⟩:=cY hX o1 JO Fi
   obtain ⟨rfl,hnX⟩:=AV.buf.inj hXe
   have hfin2:=XG.2
   have hgin2:=sO.2;refine tt ?_;refine Al YS (by simp) (tt ?_);refine ⟨by omega,Al YS (by simp) ?_⟩;refine tt ?_;refine ⟨by omega,tt ?_⟩;refine ⟨XG,Al YS (by simp) ?_⟩;refine tt ?_;refine ⟨by omega,tt ?_⟩;refine ⟨sO, ?_⟩
   have eT : ix f.shape.to (a : Int)=f.shape.to.getD a default:=by rw [AJ]
   have eA : ix f.Aa (a : Int)=f.Aa.getD a default:=by rw [AJ]
   have eG : ix g.Aa (a : Int)=g.Aa.getD a default:=by rw [AJ]
   have Pk:=fun h=>hS.fresh w hP Nc ea h
   have Kl:=fun h=>hS.same Nc ea h
   have Ss:=fun h h2=>hS.zm w Nc ea h h2;rw [eT,eA,eG] at Pk Kl Ss
   generalize f.shape.to.getD a default=y at *
   generalize ix (f.Aa.getD a default) e=i at *
   generalize ix (g.Aa.getD a default) d=v at *
   have eV : (p'.getD y.toNat default).getD i.toNat default=ix (ix p' y) i:=rfl;refine tt ?_;refine ⟨⟨Cu.1,by omega⟩,Al lS (by omega) ?_⟩;rw [jK];refine tt ?_;refine ⟨⟨Po.1,Fi⟩,CD (f:=iI) sd Fi ?_⟩;rw [eV];refine tt ?_
   have HJ : ∀ (K : Ap),(∀ q' H',ZC q' (.buf KC nX) (Q8 p' y i v)→AB H0 H' (q'++((Ff,Oy f g m X)::l))→K nv H')→Oa (H.get KB) KB i.toNat 1 [iI v] K H:=fun K hk=>Ik v K hk
   by_cases h3 : 0≤ix (ix p' y) i
   ·rw [decide_eq_true h3];refine tt ?_;refine ⟨⟨Cu.1,by omega⟩,Al lS (by omega) ?_⟩;rw [jK];refine tt ?_;refine ⟨⟨Po.1,Fi⟩,CD (f:=iI) sd Fi ?_⟩;rw [eV];refine tt ?_
    by_cases h4 : ix (ix p' y) i=v
    ·rw [decide_eq_true h4];refine tt ?_;refine Al YS (by simp) (tt ?_);refine ⟨⟨Cu.1,by omega⟩,Al lS (by omega) ?_⟩;rw [jK];refine tt ?_;refine ⟨⟨Po.1,Fi⟩,HJ _ fun q' H Jw o=>?_⟩;rw [Z6 h4] at Jw;refine tw w1 ?_;exact A5 (p',N,q') (by omega) ⟨Jw,by rw [vP]; exact Kl h4,(by simp only [Oy] at o ⊢; exact o.pm)⟩ rfl
    ·rw [decide_eq_false h4];refine tt ?_;exact ⟨H,.refl H,⟨false,[],rfl,(fun h=>by cases h),fun _=>Ss h3 h4⟩,(show AB H0 H ((Ff,Oy f g m X)::l) from o.MP (List.Sublist.cons_cons _ (List.sublist_append_right _ _)))⟩
   ·rw [decide_eq_false h3];refine tt ?_;refine Al YS (by simp) (tt ?_);refine ⟨⟨Cu.1,by omega⟩,Al lS (by omega) ?_⟩;rw [jK];refine tt ?_;refine ⟨⟨Po.1,Fi⟩,HJ _ fun q' H Jw o=>?_⟩;refine tw w1 ?_;exact A5 (_,N++[(y,i)],q') (by omega) ⟨Jw,by rw [vP]; exact Pk h3,(by simp only [Oy] at o ⊢; exact o.pm)⟩ rfl
 ·have AU:=A9 h1
  have eL : f.shape.AH.length=(f.Aa.length):=by omega
  have Ah : a=f.shape.AH.length:=by omega
  have RI : L6 f.shape x a=(outs f.shape x).length:=by rw [Ah,outs,List.length_map]; rfl
  rw [RI] at hS;refine tt ?_;refine qJ hX (o.pm : AB H0 H (q++((Ff,Oy f g m X)::l))) fun H hl o=>AX ?_;refine tt ?_;refine Ak o hl fun H o=>tt ?_;exact ⟨H,.refl H,⟨true,p',rfl,fun _=>⟨N,hS⟩,fun h=>by cases h⟩,o⟩
theorem Y8 (B : Nat) {f g : SF} {x e m : Int} (hf : f.Is) (hg : g.Is) (sh : f.shape=g.shape) (hx : 0≤x∧x<f.shape.AR) (he : 0≤e∧e<ix f.A4 x) {p : List (List Int)} (hP : PT f g p) {Ff : Nat} {X : AV} {l : Ob} {H0 H : AA}
  (o : AB H0 H ((Ff,Oy f g m X)::l)) :
  CB B 299 [.ref Ff 0,BD p,iI x,iI e] H fun r H'=>r=iL (ER f g p x e (ix g.A4 x).toNat)∧AB H0 H' ((Ff,Oy f g m X)::l):=by
 refine zq.go fun _=>?_
 have hX:=hg.1.s9 (x:=x) (by rw [← sh]; exact hx)
 have h0:=hg.1.sz _ (Bi hX.2)
 obtain ⟨n,hn⟩ : ∃ n : Nat,ix g.A4 x=n:=⟨_,(Int.toNat_of_nonneg h0.1).symm⟩;rw [hn] at h0;rw [hn,Int.toNat_natCast];refine tt ?_;refine Ae iI o fun id H o=>tt ?_
 refine AD [0,1,2,3] (G:=Nat × List Int) (fun k g=>[(9,some (.buf g.1 g.2.length)),(10,some (.int .i64 (k : Int)))])
  (fun k G H=>G.2=ER f g p x e k∧AB H0 H ((G.1,.cells 1 (G.2.map iI) 0)::(Ff,Oy f g m X)::l)) n (id,[]) ⟨by simp [ER],o⟩ rfl ?_
 clear o
 rintro k ⟨id,out⟩ H hk ⟨Av,o⟩;dsimp only at Av o
 have YS : H.get Ff=some (Oy f g m X):=o.tl.h0
 have V8:=Uh (f:=f) (g:=g) (p:=p) (x:=x) (e:=e) k;rw [← Av] at V8;refine tt ?_;refine Al YS (by simp) (tt ?_);refine ⟨hX, ?_⟩;rw [hn];refine tt ?_;apply bk <;> intro h1
 ·have AU : k<n:=by have:=A7 h1; omega
  have w1:=ws k;refine tt ?_;refine (YD B (d:=(k : Int)) ⟨hf,hg,sh,hx,he,by omega,by omega⟩ hP o.swap).mono ?_;clear o
  rintro r H ⟨⟨ok,p',rfl,ht,Ev⟩,o⟩;refine tt ?_
  cases ok with
  | true =>
   obtain ⟨N,hS⟩:=ht rfl;refine tt ?_;refine Ac (k : Int) o.swap rfl rfl (by simp only [AK]; omega) fun z H o=>?_;refine tw w1 ?_;exact A5 (z,out++[(k : Int)]) AU ⟨by rw [Av,oZ ⟨p',N,hS⟩],o⟩ rfl
  | false =>
   refine tw w1 ?_;exact A5 (id,out) AU ⟨by rw [Av,pL (Ev rfl)],o.swap⟩ rfl
 ·have AU : ¬ k<n:=by have:=A9 h1; omega
  obtain rfl : k=n:=by omega
  refine tt ?_;refine Ak o rfl fun H o=>tt ?_;exact ⟨H,.refl H,by rw [Av],o⟩
def GoK (f g : SF) (most : Nat) (Ff : Nat) (L : List (List (List Int))) (H0 : AA) (l : Ob) : Ap:=fun r H'=>∃ (X : AV) (w : Ob),r=.CK []∧Q6 BD w X (L.take most)∧AB H0 H' ((Ff,Oy f g most X)::(w++l))
theorem oP (B : Nat) {f g : SF} (hf : f.Is) (hg : g.Is) (sh : f.shape=g.shape) (most : Nat) (HD : most≤1000) (Ff : Nat) :
  ∀ (n : Nat) (p : List (List Int)),M0 f p=n→PT f g p→∀ (A : List (List (List Int))) (X : AV) (w l : Ob) (H0 H : AA),A.length<most→Q6 BD w X A→AB H0 H ((Ff,Oy f g most X)::(w++l)) →
   CB B 266 [.ref Ff 0,BD p] H (GoK f g most Ff (A++Mr f g p) H0 l):=by
 intro n
 induction n using Nat.strongRecOn with
 | _ n ih =>
 intro p hn hP A X w l H0 H hA hX o;refine zc.go fun _=>?_
 have Fh:=hf.1.is.1.o
 have Gd:=hf.1.sl
 have Ko:=hP.len
 have St : ∀ x,x<f.A4.length→0≤f.A4.getD x default∧f.A4.getD x default<17:=fun x hx=>hf.1.sz _ (AE.mpr ⟨x,hx,rfl⟩)
 have vS : (A++([] : List (List (List Int)))).take most=A:=by rw [List.append_nil]; exact List.take_of_length_le (by omega)
 have w0 : IntKind.i64.wrap ((p.length : Int) - 1)=(p.length : Int) - 1 - ((0 : Nat) : Int):=by rw [wrap_i64 (by omega) (by omega)]; omega
 refine tw w0 ?_
 refine AD [0,1] (G:=Int × Int) (fun k g=>[(4,some (iI g.1)),(5,some (iI g.2)),(6,some (.int .i64 ((p.length : Int) - 1 - (k : Int))))])
  (fun k G H=>F5 f p ((p.length : Int) - k) 0 G.1 G.2∧AB H0 H ((Ff,Oy f g most X)::(w++l))) p.length (-1,-1) ⟨.start (by omega),o⟩ rfl ?_
 clear o
 rintro k ⟨x,e⟩ H hk ⟨hS,o⟩;dsimp only at hS o;refine tt ?_;apply bk <;> intro h1
 ·have AU : k<p.length:=by have:=A7 h1; omega
  have w1 : IntKind.i64.wrap ((p.length : Int) - 1 - (k : Int) - 1)=(p.length : Int) - 1 - ((k+1 : Nat) : Int):=by rw [wrap_i64 (by omega) (by omega)]; omega
  obtain ⟨y,hy⟩ : ∃ y : Nat,(p.length : Int) - 1 - (k : Int)=y:=⟨p.length - 1 - k,by omega⟩
  have iC : y<p.length:=by omega
  have hzy:=St y (by omega)
  have B4:=hP.row y (by omega)
  have w2 : IntKind.i64.wrap (((p.getD y default).length : Int) - 1)=((p.getD y default).length : Int) - 1 - ((0 : Nat) : Int):=by rw [wrap_i64 (by omega) (by omega)]; omega
  have hS1 : F5 f p y (((p.getD y default).length : Int) - ((0 : Nat) : Int)) x e:=by
   have e1 : (p.length : Int) - k=(y : Int)+1:=by omega
   rw [e1] at hS;exact hS.row (by rw [AJ]; omega)
  rw [hy];refine tt ?_;refine ⟨by omega, ?_⟩;refine tw w2 ?_
  refine AD [0,1,6] (G:=Int × Int) (fun j g=>[(4,some (iI g.1)),(5,some (iI g.2)),(7,some (.int .i64 (((p.getD y default).length : Int) - 1 - (j : Int))))])
   (fun j G H=>F5 f p y (((p.getD y default).length : Int) - j) G.1 G.2∧AB H0 H ((Ff,Oy f g most X)::(w++l))) (p.getD y default).length (x,e) ⟨hS1,o⟩ rfl ?_
  clear o hS hS1
  rintro j ⟨x,e⟩ H hj ⟨hS,o⟩;dsimp only at hS o;refine tt ?_;apply bk <;> intro h2
  ·have Ah : j<(p.getD y default).length:=by have:=A7 h2; omega
   obtain ⟨d,hd⟩ : ∃ d : Nat,((p.getD y default).length : Int) - 1 - (j : Int)=d:=⟨(p.getD y default).length - 1 - j,by omega⟩
   have hdl : d<(p.getD y default).length:=by omega
   have w3 : IntKind.i64.wrap ((d : Int) - 1)=((p.getD y default).length : Int) - 1 - ((j+1 : Nat) : Int):=by rw [wrap_i64 (by omega) (by omega)]; omega
   have e1 : ((p.getD y default).length : Int) - j=(d : Int)+1:=by omega
   have e2 : ((p.getD y default).length : Int) - ((j+1 : Nat) : Int)=(d : Int):=by omega
   have hY : (0 : Int)≤(y : Int)∧(y : Int)<f.shape.AR:=by omega
   have hD : (0 : Int)≤(d : Int)∧(d : Int)<ix f.A4 (y : Int):=by rw [AJ]; omega
   have hv:=hP.val y d hY hD
   have eV : (p.getD y default).getD d default=ix (ix p (y : Int)) (d : Int):=by rw [AJ,AJ]
   rw [e1] at hS;rw [hd];refine tt ?_;refine ⟨by omega,hdl, ?_⟩;rw [eV];refine tt ?_;apply bk <;> intro h3
   ·have BB : ix (ix p (y : Int)) (d : Int)=-1:=by have:=A7 h3; omega
    refine tt ?_;refine (Y8 B hf hg sh hY hD hP o).mono ?_;clear o
    rintro r H ⟨rfl,o⟩;refine tt ?_;apply bk <;> intro h4
    ·have DC : ER f g p y d (ix g.A4 (y : Int)).toNat=[]:=List.length_eq_zero_iff.mp (by rw [AJ]; have:=A7 h4; omega)
     have Ev:=Nw hf hg sh hP (cO hf hg sh hP hY hD DC);refine tt ?_;refine ⟨H,.refl H,X,w,rfl, ?_,o⟩;rw [← Ev,vS]; exact hX
    ·refine tw w3 ?_;exact A5 ((y : Int),(d : Int)) (by omega) ⟨by rw [e2]; exact hS.WV hY hD BB,o⟩ rfl
   ·have BB : ix (ix p (y : Int)) (d : Int)≠-1:=by have:=A9 h3; omega
    refine tw w3 ?_;exact A5 (x,e) (by omega) ⟨by rw [e2]; exact hS.BA BB,o⟩ rfl
  ·have Ah : j=(p.getD y default).length:=by have:=A9 h2; omega
   rw [← hy] at *;refine tw w1 ?_
   exact A5 (x,e) (by omega) ⟨by
    have e1 : (p.length : Int) - ((k+1 : Nat) : Int)=(p.length : Int) - 1 - k:=by omega
    rw [Ah,Int.sub_self] at hS;rw [e1]; exact hS,o⟩ rfl
 ·have AU : k=p.length:=by have:=A9 h1; omega
  rw [AU,Int.sub_self] at hS;refine tt ?_
  have oX : AB H0 H (w++((Ff,Oy f g most X)::l)):=o.pm;apply bk <;> intro h2
  ·have Ah:=A7 h2
   have RI:=Nw hf hg sh hP (OU hf hP (hS.none Ah))
   have YS : H.get Ff=some (Oy f g most X):=o.h0;refine tt ?_;refine Al YS (by simp) (tt ?_);refine (Cb.mk oX hX).app p rfl (by simp only [AK]; omega) fun Aw H o=>tt ?_;refine sw o.swap fun H o=>tt ?_;refine ⟨H,.refl H,.buf Aw (A++[p]).length,[(Aw,.cells 1 ((A++[p]).map BD) 0)],rfl, ?_,o⟩;rw [← RI,List.take_of_length_le (by simp; omega)];exact .inr ⟨Aw,rfl,rfl⟩
  ·have Ah:=A9 h2
   have hF:=hS.fst Ah
   obtain ⟨hx,he⟩ : _∧_:=⟨hF.hx,hF.he⟩
   have lS:=hg.1.s9 (x:=x) (by rw [← sh]; exact hx)
   have h0:=hg.1.sz _ (Bi lS.2)
   obtain ⟨n,hn2⟩ : ∃ n : Nat,ix g.A4 x=n:=⟨_,(Int.toNat_of_nonneg h0.1).symm⟩
   have II : ∀ d,0≤d→d<ix g.A4 x→VE f g x e d:=fun d h1 h2=>⟨hf,hg,sh,hx,he,h1,h2⟩
   have Ma:=Uh (f:=f) (g:=g) (p:=p) (x:=x) (e:=e) n;refine tt ?_;refine (Y8 B hf hg sh hx he hP o).mono ?_;clear o oX
   rintro r H ⟨rfl,o⟩;rw [hn2,Int.toNat_natCast];refine tt ?_
   refine AD [0,1,4,5,8] (G:=List (List (List Int)) × AV × Ob × Int) (fun i _=>[(9,some (.int .i64 (i : Int)))])
    (fun i G H=>UT f g p x e n i G.2.2.2 G.1∧Q6 BD G.2.2.1 G.2.1 ((A++G.1).take most)∧AB H0 H ((Ff,Oy f g most G.2.1)::(G.2.2.1++l))) (ER f g p x e n).length ([],X,w,0) ⟨.start hx he n,by rw [vS]; exact hX,o⟩ rfl ?_
   clear o hX
   rintro i ⟨M,X,w,b⟩ H hi ⟨hC,hX,o⟩;dsimp only at hC hX o
   have YS : H.get Ff=some (Oy f g most X):=o.h0
   have hlX:=hX.FF;refine tt ?_
   by_cases h3 : i<(ER f g p x e n).length
   rotate_left 1
   ·rw [decide_eq_false (by omega)]
    obtain rfl : i=(ER f g p x e n).length:=by omega
    refine tt ?_;refine ⟨H,.refl H,X,w,rfl, ?_,o⟩;rw [← Nw hf hg sh hP (hC.done II hF hP hn2.symm)]; exact hX
   ·rw [decide_eq_true (by omega)];refine tt ?_;refine Al YS (by simp) ?_;refine tw hlX ?_;refine Al YS (by simp) (tt ?_);apply bk <;> intro h4
    rotate_left 1
    ·have DC:=A9 h4
     have hle : most≤(A++M).length:=by rw [List.length_take] at DC; omega
     refine tt ?_;refine ⟨H,.refl H,X,w,rfl, ?_,o⟩
     obtain ⟨R,hR⟩:=hC.acc.pre hF hP Gd (PW hf hg sh hP);rw [← hR,← List.append_assoc,List.take_append_of_le_length hle]; exact hX
    ·have DC:=A7 h4
     have D3 : (A++M).length<most:=by rw [List.length_take] at DC; omega
     have etk : (A++M).take most=A++M:=List.take_of_length_le (by omega);rw [etk] at hX
     have w1:=ws i
     obtain ⟨c,hc⟩ : ∃ c,(ER f g p x e n).getD i default=c:=⟨_,rfl⟩
     have sq:=JJ.mp (AE.mpr ⟨i,h3,hc⟩)
     have gL:=II c sq.1.1 (by omega);refine tt ?_;refine ⟨h3, ?_⟩;rw [hc];refine (YD B gL hP o).mono ?_;clear o
     rintro r H ⟨⟨ok,p',rfl,ht,Ev⟩,o⟩
     cases ok with
     | false=>exact absurd sq.2 (Ev rfl)
     | true =>
     obtain ⟨N,tz⟩:=ht rfl;refine tt ?_;refine (ih (M0 f p') (by rw [← hn]; exact tz.less gL hP hF.un) p' rfl (tz.pt gL hP) (A++M) X w l H0 H D3 hX o).mono ?_;clear o hX
     rintro r H ⟨X,w,rfl,hX,o⟩;refine tw w1 ?_;refine A5 (M++Mr f g p',X,w,c+1) (by omega) ⟨?_, ?_,o⟩ rfl
     ·exact hC.step II hF hP Gd hn2.symm h3 hc (PW hf hg sh (tz.pt gL hP)) fun t=>tz.ext gL hP t
     ·rw [← List.append_assoc]; exact hX
theorem Ta (f : SF) {k : Nat} (hk : k<f.A4.length) {n : Nat} (hn : f.A4.getD k default=n) : (E9 f).take (k+1)=(E9 f).take k++[List.replicate n (-1)]:=by
 rw [take_one _ (by simpa [E9] using hk)]
 congr 2
 rw [E9,B8 _ hk,hn,Int.toNat_natCast]
theorem dJ (B : Nat) {f : SF} (hf : f.Shape) : PB B 267 [.agg f.cells] (BD (E9 f)):=by
 refine ⟨fun H0=>yL.go fun _=>?_⟩
 have Fh:=hf.is.1.o
 have Gd:=hf.sl
 have St : ∀ x,x<f.A4.length→0≤f.A4.getD x default∧f.A4.getD x default<17:=fun x hx=>hf.sz _ (AE.mpr ⟨x,hx,rfl⟩)
 have o : AB H0 H0 []:=.nil _;refine tt ?_;refine Ae iL o fun id H o=>tt ?_
 refine AD [1] (G:=Nat × List (List Int)) (fun k g=>[(3,some (.buf g.1 g.2.length)),(4,some (.int .i64 (k : Int)))])
  (fun k G H=>G.2=(E9 f).take k∧AB H0 H [(G.1,.cells 1 (G.2.map iL) 0)]) f.A4.length (id,[]) ⟨by simp,o⟩ rfl ?_
 clear o
 rintro k ⟨id,out⟩ H hk ⟨Av,o⟩;dsimp only at Av o
 have V8 : out.length≤k:=by rw [Av,List.length_take]; omega
 refine tt ?_;apply bk <;> intro h1
 ·have AU : k<f.A4.length:=by have:=A7 h1; omega
  have w1:=ws k
  have jH:=St k AU
  obtain ⟨n,hn⟩ : ∃ n : Nat,f.A4.getD k default=n:=⟨_,(Int.toNat_of_nonneg jH.1).symm⟩;rw [hn] at jH;refine tt ?_;refine Ae iI o fun BW H o=>tt ?_
  refine AD [1,3,4] (G:=Nat × List Int) (fun e g=>[(5,some (.buf g.1 g.2.length)),(6,some (.int .i64 (e : Int)))])
   (fun e G H=>G.2=List.replicate e (-1)∧AB H0 H ((G.1,.cells 1 (G.2.map iI) 0)::[(id,.cells 1 (out.map iL) 0)])) n (BW,[]) ⟨by simp,o⟩ rfl ?_
  clear o
  rintro e ⟨BW,row⟩ H he ⟨B4,o⟩;dsimp only at B4 o
  have Lu : row.length=e:=by rw [B4]; simp
  refine tt ?_;refine ⟨AU, ?_⟩;rw [hn];apply bk <;> intro h2
  ·have Ah : e<n:=by have:=A7 h2; omega
   have w2:=ws e;refine tt ?_;refine Ac (-1 : Int) o rfl rfl (by simp only [AK]; omega) fun BW H o=>?_;refine tw w2 ?_;exact A5 (_,_) (by omega) ⟨by rw [B4,← OP],o⟩ rfl
  ·have Ah : e=n:=by have:=A9 h2; omega
   refine tt ?_;refine Ak o rfl fun H o=>tt ?_;refine Ac (f:=iL) row o rfl rfl (by simp only [AK]; omega) fun id H o=>?_;refine tw w1 ?_;exact A5 (_,_) (by omega) ⟨by rw [Av,B4,Ah,Ta f AU hn],o⟩ rfl
 ·have AU : k=f.A4.length:=by have:=A9 h1; omega
  refine tt ?_;refine Ak o rfl fun H o=>tt ?_;exact A6 (by rw [Av,AU,List.take_of_length_le (by simp [E9])]) o.sub
theorem TC (B : Nat) {f g : SF} (hf : f.Is) (hg : g.Is) (sh : f.shape=g.shape) (most : Nat) (h0 : 0<most) (HD : most≤1000) : PB B 197 [.agg f.cells,.agg g.cells,.bool false,iI most] (Gi ((Mr f g (E9 f)).take most)):=by
 refine ⟨fun H0=>vZ.go fun _=>?_⟩
 have o : AB H0 H0 []:=.nil _;refine tt ?_;refine nb o fun Ff H o=>tt ?_;refine (dJ B hf.1).go fun _=>tt ?_;refine (oP B hf hg sh most HD Ff _ (E9 f) rfl (dB hf.1) [] .A1 [] [] H0 H h0 (.inl ⟨rfl,rfl,rfl⟩) o).mono ?_;clear o
 rintro r H ⟨X,w,rfl,hX,o⟩;rw [List.nil_append] at hX;refine tt ?_;refine AN o (by simp) (tt ?_)
 have o : AB H0 H (w++[(Ff,Oy f g most X)]):=o.pm
 rcases hX with ⟨rfl,rfl,hM⟩ | ⟨Aw,rfl,rfl⟩
 ·refine tt ?_;exact A6 (by rw [hM]; rfl) o.sub
 ·refine Ak (f:=BD) o rfl fun H o=>tt ?_;exact A6 rfl o.sub
end Go.Proofs.Shf
namespace Go.Shf
open Go.AW
def HV (f : SF) : List (List Int):=f.A4.map fun n=>(List.range n.toNat).map Int.ofNat
theorem Zg (f : SF) {k : Nat} (hk : k<f.A4.length) {n : Nat} (hn : f.A4.getD k default=n) : (HV f).take (k+1)=(HV f).take k++[(List.range n).map Int.ofNat]:=by
 have hl : k<(HV f).length:=by simpa [HV] using hk
 rw [take_one (HV f) hl,HV,B8 _ hk,hn,Int.toNat_natCast]
end Go.Shf
namespace Go.Proofs.Shf
open Go.AW Go.Proofs Go.Shf
theorem Oc (B : Nat) {f : SF} (hf : f.Shape) : PB B 198 [.agg f.cells] (BD (HV f)):=by
 refine ⟨fun H0=>dq.go fun _=>?_⟩
 have Fh:=hf.is.1.o
 have Gd:=hf.sl
 have St : ∀ x,x<f.A4.length→0≤f.A4.getD x default∧f.A4.getD x default<17:=fun x hx=>hf.sz _ (AE.mpr ⟨x,hx,rfl⟩)
 have o : AB H0 H0 []:=.nil _;refine tt ?_;refine Ae iL o fun id H o=>tt ?_
 refine AD [1] (G:=Nat × List (List Int)) (fun k g=>[(3,some (.buf g.1 g.2.length)),(4,some (.int .i64 (k : Int)))])
  (fun k G H=>G.2=(HV f).take k∧AB H0 H [(G.1,.cells 1 (G.2.map iL) 0)]) f.A4.length (id,[]) ⟨by simp,o⟩ rfl ?_
 clear o
 rintro k ⟨id,out⟩ H hk ⟨Av,o⟩;dsimp only at Av o
 have V8 : out.length≤k:=by rw [Av,List.length_take]; omega
 refine tt ?_;apply bk <;> intro h1
 ·have AU : k<f.A4.length:=by have:=A7 h1; omega
  have w1:=ws k
  have jH:=St k AU
  obtain ⟨n,hn⟩ : ∃ n : Nat,f.A4.getD k default=n:=⟨_,(Int.toNat_of_nonneg jH.1).symm⟩;rw [hn] at jH;refine tt ?_;refine Ae iI o fun BW H o=>tt ?_
  refine AD [1,3,4] (G:=Nat × List Int) (fun e g=>[(5,some (.buf g.1 g.2.length)),(6,some (.int .i64 (e : Int)))])
   (fun e G H=>G.2=(List.range e).map Int.ofNat∧AB H0 H ((G.1,.cells 1 (G.2.map iI) 0)::[(id,.cells 1 (out.map iL) 0)])) n (BW,[]) ⟨by simp,o⟩ rfl ?_
  clear o
  rintro e ⟨BW,row⟩ H he ⟨B4,o⟩;dsimp only at B4 o
  have Lu : row.length=e:=by rw [B4]; simp
  refine tt ?_;refine ⟨AU, ?_⟩;rw [hn];apply bk <;> intro h2
  ·have Ah : e<n:=by have:=A7 h2; omega
   have w2:=ws e;refine tt ?_;refine Ac (e : Int) o rfl rfl (by simp only [AK]; omega) fun BW H o=>?_;refine tw w2 ?_;exact A5 (_,_) (by omega) ⟨by rw [B4,Bg]; rfl,o⟩ rfl
  ·have Ah : e=n:=by have:=A9 h2; omega
   refine tt ?_;refine Ak o rfl fun H o=>tt ?_;refine Ac (f:=iL) row o rfl rfl (by simp only [AK]; omega) fun id H o=>?_;refine tw w1 ?_;exact A5 (_,_) (by omega) ⟨by rw [Av,B4,Ah,Zg f AU hn],o⟩ rfl
 ·have AU : k=f.A4.length:=by have:=A9 h1; omega
  refine tt ?_;refine Ak o rfl fun H o=>tt ?_;exact A6 (by rw [Av,AU,List.take_of_length_le (by simp [HV])]) o.sub
def y0 (r : AV) : Prop:=∃ f g : SF,r=.CK [.agg f.cells,.agg g.cells]
theorem Vr (B : Nat) (size : Int) (KA : 0≤size∧size≤1000) : Rd B 261 [iI size] y0:=by
 intro id s H0 H hs o;refine wM.go fun _=>?_;refine tt ?_;refine nb o fun BN H o=>tt ?_;refine nb o fun CS H o=>tt ?_;refine (Nn B).go hs (o.pull [_,_]) fun r s H _ ⟨c,e⟩ hs o=>?_;subst e;refine tt ?_;refine Am o fun F8 H o=>tt ?_;refine sw o fun H o=>tt ?_;refine AZ o (by simp) (tt ?_);refine (Kc B c size KA).go hs o.swap fun r s H _ ⟨f,e⟩ hs o=>?_;subst e;refine tt ?_;refine nb o fun Cv H o=>tt ?_;refine sw o fun H o=>tt ?_;refine (AY B 24).go hs o.swap fun r s H _ ⟨v,e,_⟩ hs o=>?_;subst e;refine tt ?_
 have o : AB H0 H [(id,s.obj),(Cv,AF.cells 7 f.cells 0),(F8,AF.cells 5 c.cells 0),(CS,AF.cells 7 z7 0),(BN,AF.cells 7 z7 0)]:=o;apply bk <;> intro h1
 focus
  refine tt ?_;refine ⟨⟨_,_,o.tl.h0⟩,AZ o.tl (by simp [SF.cells]) ?_⟩;refine tt ?_;refine (Nn B).FU hs o fun r s H _ ⟨c2,e⟩ hs o hz=>⟨hz, ?_⟩;subst e;refine tt ?_;refine (Kc B c2 size KA).FU hs o fun r s H _ ⟨g,e⟩ hs o hz=>⟨hz, ?_⟩;subst e;refine tt ?_
 rotate_left 1
 focus
  refine tt ?_;refine ⟨⟨_,_,o.tl.h0⟩,AZ o.tl (by simp [SF.cells]) ?_⟩;refine tt ?_;refine ⟨⟨_,_,o.tl.tl.h0⟩,AZ o.tl.tl (by simp [B0.cells]) ?_⟩;refine tt ?_;refine (Kc B c size KA).FU hs o fun r s H _ ⟨g,e⟩ hs o hz=>⟨hz, ?_⟩;subst e;refine tt ?_
 all_goals
  have o : AB H0 H ((BN,AF.cells 7 z7 0)::(CS,AF.cells 7 z7 0)::[(id,s.obj),(Cv,AF.cells 7 f.cells 0),(F8,AF.cells 5 c.cells 0)]):=o.pm;refine Aq o (by simp [z7]) (by (try simp only [go_sem]); (try simp)) (by first | (simp only [go_sem]; done) | ((try simp only [go_sem]); simp [AV.one,EJ])) fun H o=>?_;have o:=s2 o;refine tt ?_;refine Aq o.swap (by simp [z7]) (by (try simp only [go_sem]); (try simp)) (by first | (simp only [go_sem]; done) | ((try simp only [go_sem]); simp [AV.one,EJ])) fun H o=>?_;have o:=s2 o;refine tt ?_
  have YP:=o.rc 7 0 (by simp)
  have YK:=o.tl.rc 7 0 (by simp);simp only [List.drop_zero] at YP YK;rw [YK,YP];exact Az ⟨f,g,rfl⟩ hs (o.pull [_,_])
theorem S0 (B : Nat) (f : SF) (hl : f.A4.length≤8) (hz : ∀ y,y∈f.A4→0≤y∧y<17) : PB B 262 [.agg f.cells] (iI f.A4.sum):=by
 refine ⟨fun H0=>xe.go fun _=>tt ?_⟩;refine AD [1] (G:=Unit) (fun k _=>[(3,some (.int .i64 (f.A4.take k).sum)),(4,some (.int .i64 (k : Int)))]) (fun k _ H=>H=H0∧0≤(f.A4.take k).sum∧(f.A4.take k).sum≤17*k) f.A4.length () ⟨rfl,by simp,by simp⟩ rfl ?_
 rintro k _ H hk ⟨rfl,hs⟩;refine tt ?_;apply bk <;> intro h1
 ·have h1:=A7 h1
  have w1:=ws k
  have CW:=hz _ (AE.mpr ⟨k,h1,rfl⟩)
  have e : (f.A4.take (k+1)).sum=(f.A4.take k).sum+f.A4.getD k default:=by rw [D8 _ h1]; simp
  have w2 : IntKind.i64.wrap ((f.A4.take k).sum+f.A4.getD k default)=(f.A4.take (k+1)).sum:=by rw [wrap_i64 (by omega) (by omega),e]
  refine tt ?_;refine ⟨h1, ?_⟩;refine t2 w1 w2 ?_
  exact A5 () (by omega) ⟨rfl,by omega,by omega⟩ rfl
 ·have h1:=A9 h1
  obtain rfl : k=f.A4.length:=by omega
  refine tt ?_;exact A6 (by rw [List.take_length]) (.refl _)
def MapR (r : AV) : Prop:=∃ m : SM,r=.agg m.cells
theorem R5 (B : Nat) (size : Int) (KA : 0≤size∧size≤1000) : Rd B 195 [iI size] MapR:=by
 intro id s H0 H hs o;refine dz.go fun _=>?_;refine tt ?_;refine nb o fun BN H o=>tt ?_;refine (Vr B size KA).go hs o.swap fun r s H _ ⟨f,g,e⟩ hs o=>?_;subst e;refine tt ?_;refine nb o fun CS H o=>tt ?_;refine nb o fun F8 H o=>tt ?_;refine sw o.swap fun H o=>tt ?_;refine sw o.swap fun H o=>tt ?_
 have o : AB H0 H [(id,s.obj),(F8,AF.cells 7 g.cells 0),(CS,AF.cells 7 f.cells 0),(BN,AF.cells 15 [.int .i64 0,.A1,.A1,.A1,.A1,.A1,.A1,.int .i64 0,.A1,.A1,.A1,.A1,.A1,.A1,.A1] 0)]:=by simp only [SF.cells]; exact o.pm
 refine L5 (fun σ H=>∃ (s : Src) (g : SF),σ=[(0,some (.ref id 0)),(4,some (.ref BN 0)),(5,some (.ref CS 0)),(6,some (.ref F8 0))]∧s.Ok ∧
  AB H0 H [(id,s.obj),(F8,AF.cells 7 g.cells 0),(CS,AF.cells 7 f.cells 0),(BN,AF.cells 15 [.int .i64 0,.A1,.A1,.A1,.A1,.A1,.A1,.int .i64 0,.A1,.A1,.A1,.A1,.A1,.A1,.A1] 0)]) ?_ ?_
 ·refine tt ?_;refine (AY B 4).go hs o fun r s H _ ⟨v,e,_⟩ hs o=>?_;subst e;refine tt ?_;apply bk <;> intro h1
  ·refine tt ?_;refine AZ o.tl.tl (by simp [SF.cells]) (tt ?_);refine Aq o.swap (by simp [SF.cells]) (by (try simp only [go_sem]); (try simp)) (by first | (simp only [go_sem]; done) | ((try simp only [go_sem]); simp [AV.one,EJ])) fun H o=>?_;have o:=s2 o;refine tt ?_;exact AX ⟨s,f,rfl,hs,o.swap⟩
  ·refine tt ?_;exact AX ⟨s,g,rfl,hs,o⟩
 clear o hs
 rintro σ H ⟨s,g,rfl,hs,o⟩;refine tt ?_;refine AZ o.tl.tl (by simp [SF.cells]) (tt ?_);refine AZ o.tl (by simp [SF.cells]) (tt ?_);refine nb o fun Cv H o=>tt ?_;refine sw o fun H o=>tt ?_
 have hX : Cb iL H0 H ((Cv,AF.cells 15 [iI f.shape.AR,iL f.shape.AH,iL f.shape.to,iL f.shape.Aw,BD f.shape.comp,iL f.A4,BD f.Aa,iI g.shape.AR,iL g.shape.AH,iL g.shape.to,iL g.shape.Aw,BD g.shape.comp,iL g.A4,BD g.Aa,.A1] 0)::[(id,s.obj),(F8,AF.cells 7 g.cells 0),(CS,AF.cells 7 f.cells 0),(BN,AF.cells 15 [.int .i64 0,.A1,.A1,.A1,.A1,.A1,.A1,.int .i64 0,.A1,.A1,.A1,.A1,.A1,.A1,.A1] 0)]) .A1 []:=.inl ⟨rfl,rfl,o⟩;refine Ef 14 hX rfl fun H o=>AX ?_;have o:=s1 o
 have o : AB H0 H [(id,s.obj),(Cv,AF.cells 15 (SM.cells ⟨f,g,[]⟩) 0),(F8,AF.cells 7 g.cells 0),(CS,AF.cells 7 f.cells 0),(BN,AF.cells 15 [.int .i64 0,.A1,.A1,.A1,.A1,.A1,.A1,.int .i64 0,.A1,.A1,.A1,.A1,.A1,.A1,.A1] 0)]:=o.swap;clear hX
 refine L5 (fun σ H=>∃ (s : Src) (m : SM),σ=[(0,some (.ref id 0)),(4,some (.ref BN 0)),(7,some (.ref Cv 0))]∧s.Ok ∧
  AB H0 H [(id,s.obj),(Cv,AF.cells 15 m.cells 0),(BN,AF.cells 15 [.int .i64 0,.A1,.A1,.A1,.A1,.A1,.A1,.int .i64 0,.A1,.A1,.A1,.A1,.A1,.A1,.A1] 0)]) ?_ ?_
 ·refine tt ?_;refine AZ (o.pull [_,_,_]) (by simp [SF.cells]) (tt ?_);refine AZ (o.pull [_,_]) (by simp [SF.cells]) (tt ?_);refine (K6 B f g).go fun _=>?_
  by_cases hI : f.Is∧g.Is∧f.shape=g.shape
  rotate_left
  ·rw [Ab hI];refine tt ?_;exact AX ⟨s,⟨f,g,[]⟩,rfl,hs,(by simp only [SF.cells,SM.cells] at o ⊢; exact o.MP (by simp))⟩
  rw [Ay hI];refine tt ?_
  obtain ⟨hf,hg,sh⟩:=hI
  have G7:=hf.1.sl
  have IL:=hf.1.is.1.o
  refine L5 (fun σ H=>∃ (s : Src) (p : List (List Int)),σ=[(0,some (.ref id 0)),(4,some (.ref BN 0)),(5,some (.ref CS 0)),(7,some (.ref Cv 0))]∧s.Ok ∧
   AB H0 H [(id,s.obj),(Cv,AF.cells 15 (SM.cells ⟨f,g,p⟩) 0),(CS,AF.cells 7 f.cells 0),(BN,AF.cells 15 [.int .i64 0,.A1,.A1,.A1,.A1,.A1,.A1,.int .i64 0,.A1,.A1,.A1,.A1,.A1,.A1,.A1] 0)]) ?_ ?_
  ·refine tt ?_;refine AZ (o.pull [_,_,_]) (by simp [SF.cells]) (tt ?_);refine (S0 B f (by omega) hf.1.sz).go fun _=>tt ?_;apply bk <;> intro h2
   rotate_left
   ·refine tt ?_;exact AX ⟨s,[],rfl,hs,(by simp only [SF.cells,SM.cells] at o ⊢; exact o.MP (by simp))⟩
   refine tt ?_;refine AZ (o.pull [_,_,_]) (by simp [SF.cells]) (tt ?_);refine AZ (o.pull [_,_]) (by simp [SF.cells]) (tt ?_);refine (TC B hf hg sh 12 (by omega) (by omega)).go fun _=>?_
   generalize (Mr f g (E9 f)).take 12=L;refine tt ?_;apply bk <;> intro h3
   rotate_left
   ·refine tt ?_;exact AX ⟨s,[],rfl,hs,(by simp only [SF.cells,SM.cells] at o ⊢; exact o.MP (by simp))⟩
   have BB:=A7 h3;refine tt ?_;refine (AY B _).go hs o fun r s H _ ⟨v,e,v0,v1,_⟩ hs o=>?_;subst e
   have hv:=v1 (by omega);refine tt ?_;refine ⟨⟨v0,by omega⟩,tt ?_⟩;refine Aq o.swap (by simp [SM.cells]) (by (try simp only [go_sem]); (try simp)) (by first | (simp only [go_sem]; done) | ((try simp only [go_sem]); simp [AV.one,EJ])) fun H o=>?_;have o:=s2 o;refine tt ?_;exact AX ⟨s,ix L v,rfl,hs,(by simp only [SF.cells,SM.cells] at o ⊢; exact o.swap.MP (by simp))⟩
  clear o hs
  rintro σ H ⟨s,p,rfl,hs,o⟩;refine tt ?_;refine AN o.tl (by simp [SM.cells]) (tt ?_);apply bk <;> intro h4
  rotate_left
  ·refine tt ?_;exact AX ⟨s,⟨f,g,p⟩,rfl,hs,(by simp only [SF.cells,SM.cells] at o ⊢; exact o.MP (by simp))⟩
  refine tt ?_
  have h5:=o.tl.tl.h0;simp only at h5;refine ⟨⟨_,_,h5⟩,AZ o.tl.tl (by simp [SF.cells]) ?_⟩;refine tt ?_;refine ⟨⟨_,_,h5⟩,AZ o.tl.tl (by simp [SF.cells]) ?_⟩;refine tt ?_;refine ⟨⟨_,_,h5⟩,AZ o.tl.tl (by simp [SF.cells]) ?_⟩;refine tt ?_;refine ⟨_,(Oc B hf.1).run,tt ?_⟩;refine ⟨_,(GG B f f (HV f)).run,tt ?_⟩;refine Aq o.swap (by simp [SM.cells]) (by (try simp only [go_sem]); (try simp)) (by first | (simp only [go_sem]; done) | ((try simp only [go_sem]); simp [AV.one,EJ])) fun H o=>?_;have o:=s2 o;refine tt ?_;exact AX ⟨s,⟨f,f,HV f⟩,rfl,hs,(by simp only [SF.cells,SM.cells] at o ⊢; exact o.swap.MP (by simp))⟩
 clear o hs
 rintro σ H ⟨s,m,rfl,hs,o⟩;refine tt ?_;refine (AY B 24).go hs o fun r s H _ ⟨v,e,_⟩ hs o=>?_;subst e;refine tt ?_
 have hw : ∀ {d : Nat} {Xs : List AV} {P : List (List Int)} {ob : Ob} {F : Env→AA→Prop} {σ : Env} {H : AA} {s : Src},Ez iI Xs P ob →
   AB H0 H ((d,.cells 1 Xs 0)::(ob++[(id,s.obj),(Cv,AF.cells 15 [iI m.src.shape.AR,iL m.src.shape.AH,iL m.src.shape.to,iL m.src.shape.Aw,BD m.src.shape.comp,iL m.src.A4,BD m.src.Aa,iI m.Bm.shape.AR,iL m.Bm.shape.AH,iL m.Bm.shape.to,iL m.Bm.shape.Aw,BD m.Bm.shape.comp,iL m.Bm.A4,BD m.Bm.Aa,.buf d Xs.length] 0),(BN,AF.cells 15 [.int .i64 0,.A1,.A1,.A1,.A1,.A1,.A1,.int .i64 0,.A1,.A1,.A1,.A1,.A1,.A1,.A1] 0)])) →
   (∀ H',AB H0 H' [(Cv,AF.cells 15 (SM.cells ⟨m.src,m.Bm,P⟩) 0),(id,s.obj),(BN,AF.cells 15 [.int .i64 0,.A1,.A1,.A1,.A1,.A1,.A1,.int .i64 0,.A1,.A1,.A1,.A1,.A1,.A1,.A1] 0)]→F σ H')→Gb F σ H:=by
  intro d Xs P ob F σ H s hR o hk
  have hl:=hR.len;refine Cy hR [] H o fun H o=>?_;simp only [List.nil_append] at o;rw [hl] at o
  have o : AB H0 H ((Cv,AF.cells 15 [iI m.src.shape.AR,iL m.src.shape.AH,iL m.src.shape.to,iL m.src.shape.Aw,BD m.src.shape.comp,iL m.src.A4,BD m.src.Aa,iI m.Bm.shape.AR,iL m.Bm.shape.AH,iL m.Bm.shape.to,iL m.Bm.shape.Aw,BD m.Bm.shape.comp,iL m.Bm.A4,BD m.Bm.Aa,.buf d P.length] 0)::(d,.cells 1 (P.map iL) 0)::[(id,s.obj),(BN,AF.cells 15 [.int .i64 0,.A1,.A1,.A1,.A1,.A1,.A1,.int .i64 0,.A1,.A1,.A1,.A1,.A1,.A1,.A1] 0)]):=o.pm;refine B7 14 o rfl rfl fun H o=>?_;have o:=s1 o;exact AX (hk H o)
 apply bk <;> intro j1
 rotate_left
 ·refine tw j1 ?_;refine AX ?_;refine tt ?_
  have o : AB H0 H [(Cv,AF.cells 15 m.cells 0),(id,s.obj),(BN,AF.cells 15 [.int .i64 0,.A1,.A1,.A1,.A1,.A1,.A1,.int .i64 0,.A1,.A1,.A1,.A1,.A1,.A1,.A1] 0)]:=o.swap;refine AZ o (by simp [SM.cells]) (tt ?_);refine sw (o.pull [_,_]) fun H o=>tt ?_
  have hr:=o.rc 15 0 (by simp);simp only [List.drop_zero] at hr;rw [hr];exact Az ⟨m,rfl⟩ hs (o.pull [_,_])
 refine tw j1 ?_;refine AN o.tl (by simp [SM.cells]) ?_;refine tw j1 ?_;apply bk <;> intro j2
 rotate_left
 ·refine tt ?_;refine AX ?_;refine tt ?_
  have o : AB H0 H [(Cv,AF.cells 15 m.cells 0),(id,s.obj),(BN,AF.cells 15 [.int .i64 0,.A1,.A1,.A1,.A1,.A1,.A1,.int .i64 0,.A1,.A1,.A1,.A1,.A1,.A1,.A1] 0)]:=o.swap;refine AZ o (by simp [SM.cells]) (tt ?_);refine sw (o.pull [_,_]) fun H o=>tt ?_
  have hr:=o.rc 15 0 (by simp);simp only [List.drop_zero] at hr;rw [hr];exact Az ⟨m,rfl⟩ hs (o.pull [_,_])
 have j2p:=A7 j2;refine tt ?_;refine AN o.tl (by simp [SM.cells]) (tt ?_);refine IX.go' (Iq B m.parts) o fun X1 p1 H ⟨d,Xs,ob,e1,hX,e2⟩ o Cq=>⟨Cq, ?_⟩;subst e1 e2
 have JN:=hX.len;refine tt ?_
 have o : AB H0 H ((Cv,AF.cells 15 [iI m.src.shape.AR,iL m.src.shape.AH,iL m.src.shape.to,iL m.src.shape.Aw,BD m.src.shape.comp,iL m.src.A4,BD m.src.Aa,iI m.Bm.shape.AR,iL m.Bm.shape.AH,iL m.Bm.shape.to,iL m.Bm.shape.Aw,BD m.Bm.shape.comp,iL m.Bm.A4,BD m.Bm.Aa,BD m.parts] 0)::(d,.cells 1 Xs 0)::(ob++[(id,s.obj),(BN,AF.cells 15 [.int .i64 0,.A1,.A1,.A1,.A1,.A1,.A1,.int .i64 0,.A1,.A1,.A1,.A1,.A1,.A1,.A1] 0)])):=by simp only [SM.cells] at o; exact o.pm
 refine sw o fun H o=>tt ?_;refine AN o (by simp) (tt ?_)
 have o : AB H0 H ((id,s.obj)::(Cv,AF.cells 15 [iI m.src.shape.AR,iL m.src.shape.AH,iL m.src.shape.to,iL m.src.shape.Aw,BD m.src.shape.comp,iL m.src.A4,BD m.src.Aa,iI m.Bm.shape.AR,iL m.Bm.shape.AH,iL m.Bm.shape.to,iL m.Bm.shape.Aw,BD m.Bm.shape.comp,iL m.Bm.A4,BD m.Bm.Aa,.buf d Xs.length] 0)::(d,.cells 1 Xs 0)::(ob++[(BN,AF.cells 15 [.int .i64 0,.A1,.A1,.A1,.A1,.A1,.A1,.int .i64 0,.A1,.A1,.A1,.A1,.A1,.A1,.A1] 0)])):=o.pm;refine (AY B _).go hs o fun r s H _ ⟨a,e,a0,a1,a2⟩ hs o=>?_;subst e
 obtain ⟨a,rfl⟩ : ∃ n : Nat,a=n:=⟨_,(Int.toNat_of_nonneg a0).symm⟩;clear a0 a2
 have ha:=a1 (by omega)
 have hi : a<Xs.length:=by omega
 obtain ⟨pr,rr,_,hLs,_⟩:=hX.split a hi
 have hlr:=hLs.FF
 have Pd:=o.tl.h0
 have IJ:=o.tl.tl.h0;simp only at Pd IJ;refine tt ?_;refine Al Pd (by simp) (tt ?_);refine ⟨hi,Al IJ hi ?_⟩;refine tw hlr ?_;apply bk <;> intro k2
 ·have k2p:=A7 k2
  obtain ⟨BW,er,Ik⟩:=hX.row hi (by omega);refine tt ?_;refine ⟨⟨_,_,Pd⟩,Al Pd (by simp) ?_⟩;refine tt ?_;refine ⟨hi,⟨_,_,IJ⟩,Al IJ hi ?_⟩;refine tt ?_;refine ⟨⟨_,_,Pd⟩,Al Pd (by simp) ?_⟩;refine tt ?_;refine ⟨hi,⟨_,_,IJ⟩,Al IJ hi ?_⟩;rw [er];refine tt ?_;refine (AY B _).FU hs o fun r s H _ ⟨i,e,i0,i1,_⟩ hs o hz=>⟨hz, ?_⟩;subst e
  have XI:=i1 (by omega);refine (AY B _).FU hs o fun r s H _ ⟨y1,e,_⟩ hs o hz=>⟨hz, ?_⟩;subst e;refine (AY B _).FU hs o fun r s H _ ⟨y2,e,_⟩ hs o hz=>⟨hz, ?_⟩;subst e;refine tt ?_;refine ⟨by omega, ?_⟩
  generalize IntKind.i64.wrap (y1 - _)=y3;refine ⟨⟨i0,by omega⟩, ?_⟩
  have od : AB H0 H ((d,.cells 1 Xs 0)::(ob++[(id,s.obj),(Cv,AF.cells 15 [iI m.src.shape.AR,iL m.src.shape.AH,iL m.src.shape.to,iL m.src.shape.Aw,BD m.src.shape.comp,iL m.src.A4,BD m.src.Aa,iI m.Bm.shape.AR,iL m.Bm.shape.AH,iL m.Bm.shape.to,iL m.Bm.shape.Aw,BD m.Bm.shape.comp,iL m.Bm.A4,BD m.Bm.Aa,.buf d Xs.length] 0),(BN,AF.cells 15 [.int .i64 0,.A1,.A1,.A1,.A1,.A1,.A1,.int .i64 0,.A1,.A1,.A1,.A1,.A1,.A1,.A1] 0)])):=o.pm;refine Ik od i.toNat (by omega) y3 rfl fun H ob' Jw o=>tt ?_;refine hw Jw o fun H o=>tt ?_;refine AZ o (by simp [SM.cells]) (tt ?_);refine sw (o.pull [_,_]) fun H o=>tt ?_
  have hr:=o.rc 15 0 (by simp);simp only [List.drop_zero] at hr;rw [hr];exact Az ⟨⟨m.src,m.Bm,m.parts.set a ((m.parts.getD a []).set i.toNat y3)⟩,rfl⟩ hs (o.pull [_,_])
 ·refine tt ?_;refine Al Pd (by simp) (tt ?_);refine Af o fun Qc H o=>tt ?_;refine ⟨hi, ?_⟩
  have od : AB H0 H ((d,.cells 1 Xs 0)::(Qc,.cells 1 [iI 0] 0)::(ob++[(id,s.obj),(Cv,AF.cells 15 [iI m.src.shape.AR,iL m.src.shape.AH,iL m.src.shape.to,iL m.src.shape.Aw,BD m.src.shape.comp,iL m.src.A4,BD m.src.Aa,iI m.Bm.shape.AR,iL m.Bm.shape.AH,iL m.Bm.shape.to,iL m.Bm.shape.Aw,BD m.Bm.shape.comp,iL m.Bm.A4,BD m.Bm.Aa,.buf d Xs.length] 0),(BN,AF.cells 15 [.int .i64 0,.A1,.A1,.A1,.A1,.A1,.A1,.int .i64 0,.A1,.A1,.A1,.A1,.A1,.A1,.A1] 0)])):=o.pm;refine Aq od (by omega) rfl (by simp [AV.one]) fun H o=>?_;simp only [Fw,Ht] at o
  obtain ⟨ob',Jw,o⟩:=hX.put hi (p:=[(Qc,.cells 1 [iI 0] 0)]) (X:=.buf Qc 1) (A:=[0]) (.inr ⟨Qc,rfl,rfl⟩) o;refine tt ?_;refine hw Jw (by rw [List.length_set]; exact o) fun H o=>tt ?_;refine AZ o (by simp [SM.cells]) (tt ?_);refine sw (o.pull [_,_]) fun H o=>tt ?_
  have hr:=o.rc 15 0 (by simp);simp only [List.drop_zero] at hr;rw [hr];exact Az ⟨⟨m.src,m.Bm,m.parts.set a [0]⟩,rfl⟩ hs (o.pull [_,_])
def c6 (r : AV) : Prop:=∃ (j : Df) (m : SM),r=.CK [.agg j.cells,.agg m.cells]
theorem Yn (B : Nat) (code : List UInt8) (sh : Bool) : LH B 111 [mL Go.AW.iB code,.bool sh] c6:=by
 intro H0;refine zU.go fun _=>?_
 have o : AB H0 H0 []:=.nil _;refine tt ?_;refine nb o fun BN H o=>tt ?_;refine nb o fun CS H o=>tt ?_;refine (Vl B code _).J7 fun r H _ ⟨id,s,e,hs,o2⟩=>?_;subst e
 have o:=o.trans o2;refine tt ?_;refine (Wh B).go hs o fun r s H _ ⟨j,e⟩ hs o=>?_;subst e;refine tt ?_;refine nb o fun Cv H o=>tt ?_;refine sw o fun H o=>tt ?_;refine CX 7 o rfl fun H o=>AX ?_
 have o : AB H0 H [(id,s.obj),(CS,AF.cells 15 [.int .i64 0,.A1,.A1,.A1,.A1,.A1,.A1,.int .i64 0,.A1,.A1,.A1,.A1,.A1,.A1,.A1] 0),(BN,AF.cells 6 [.int .i64 0,.A1,.A1,.A1,.A1,.A1] 0)]:=o;refine tt ?_;refine (AY B 20).go hs o fun r s H _ ⟨v,e,_⟩ hs o=>?_;subst e;refine tt ?_;apply bn <;> intro h1
 rotate_left
 ·refine tw h1 ?_;refine (R5 B 2 ⟨by omega,by omega⟩).FU hs o fun r s H _ ⟨m,e⟩ hs o hz=>⟨hz, ?_⟩;subst e;refine tt ?_;refine sw (o.pull [_,_]) fun H o=>tt ?_;refine sw (o.pull [_,_]) fun H o=>tt ?_
  have YP:=o.rc 15 0 (by simp)
  have YK:=o.tl.rc 6 0 (by simp);simp only [List.drop_zero] at YK YP;rw [YK,YP];exact Ce ⟨j,m,rfl⟩ o.sub
 refine tw h1 ?_;refine (JG B j.shape).go fun _=>?_
 by_cases hI : j.shape.Is
 rotate_left
 ·rw [Ab hI];refine tt ?_;refine (R5 B 2 ⟨by omega,by omega⟩).FU hs o fun r s H _ ⟨m,e⟩ hs o hz=>⟨hz, ?_⟩;subst e;refine tt ?_;refine sw (o.pull [_,_]) fun H o=>tt ?_;refine sw (o.pull [_,_]) fun H o=>tt ?_
  have YP:=o.rc 15 0 (by simp)
  have YK:=o.tl.rc 6 0 (by simp);simp only [List.drop_zero] at YK YP;rw [YK,YP];exact Ce ⟨j,m,rfl⟩ o.sub
 rw [Ay hI];refine tt ?_
 refine L5 (fun σ H=>∃ (s : Src) (f g : SF) (Ec HC : Nat),σ=[(1,some (.bool sh)),(4,some (.ref BN 0)),(5,some (.ref CS 0)),(6,some (.ref id 0)),(7,some (.ptr j.cells)),(8,some (.ref Ec 0)),(9,some (.ref HC 0))]∧s.Ok ∧
  (f.Is∧f.shape=j.shape)∧(g.Is∧g.shape=j.shape)∧AB H0 H [(id,s.obj),(HC,AF.cells 7 g.cells 0),(Ec,AF.cells 7 f.cells 0),(CS,AF.cells 15 [.int .i64 0,.A1,.A1,.A1,.A1,.A1,.A1,.int .i64 0,.A1,.A1,.A1,.A1,.A1,.A1,.A1] 0),(BN,AF.cells 6 [.int .i64 0,.A1,.A1,.A1,.A1,.A1] 0)]) ?_ ?_
 ·refine tt ?_
  have hA:=J0 B j.shape hI 2 ⟨by omega,by omega⟩
  have hB:=J0 B j.shape hI 3 ⟨by omega,by omega⟩
  all_goals
   repeat' with_reducible apply And.intro
  all_goals
   first
    | refine hA.FU hs o fun r s H _ ⟨f,e,Ga,_,Gc⟩ hs o hz=>⟨hz, ?_⟩
    | refine hA.FU hs o.swap fun r s H _ ⟨f,e,Ga,_,Gc⟩ hs o hz=>⟨hz, ?_⟩
    | refine hA.FU hs (o.pull [_,_]) fun r s H _ ⟨f,e,Ga,_,Gc⟩ hs o hz=>⟨hz, ?_⟩
    | refine hB.FU hs o fun r s H _ ⟨g,e,Qd,_,aR⟩ hs o hz=>⟨hz, ?_⟩
    | refine hB.FU hs o.swap fun r s H _ ⟨g,e,Qd,_,aR⟩ hs o hz=>⟨hz, ?_⟩
    | refine hB.FU hs (o.pull [_,_]) fun r s H _ ⟨g,e,Qd,_,aR⟩ hs o hz=>⟨hz, ?_⟩
    | refine Am o fun Aw H o=>?_
    | (simp only [AK]; omega)
  all_goals
   try subst e
   refine tt ?_
  all_goals
   repeat' with_reducible apply And.intro
  all_goals
   first
    | refine hA.FU hs o fun r s H _ ⟨f,e,Ga,_,Gc⟩ hs o hz=>⟨hz, ?_⟩
    | refine hA.FU hs o.swap fun r s H _ ⟨f,e,Ga,_,Gc⟩ hs o hz=>⟨hz, ?_⟩
    | refine hA.FU hs (o.pull [_,_]) fun r s H _ ⟨f,e,Ga,_,Gc⟩ hs o hz=>⟨hz, ?_⟩
    | refine hB.FU hs o fun r s H _ ⟨g,e,Qd,_,aR⟩ hs o hz=>⟨hz, ?_⟩
    | refine hB.FU hs o.swap fun r s H _ ⟨g,e,Qd,_,aR⟩ hs o hz=>⟨hz, ?_⟩
    | refine hB.FU hs (o.pull [_,_]) fun r s H _ ⟨g,e,Qd,_,aR⟩ hs o hz=>⟨hz, ?_⟩
    | refine Am o fun Aw H o=>?_
    | (simp only [AK]; omega)
  all_goals
   try subst e
   refine tt ?_
  all_goals
   repeat' with_reducible apply And.intro
  all_goals
   first
    | refine hA.FU hs o fun r s H _ ⟨f,e,Ga,_,Gc⟩ hs o hz=>⟨hz, ?_⟩
    | refine hA.FU hs o.swap fun r s H _ ⟨f,e,Ga,_,Gc⟩ hs o hz=>⟨hz, ?_⟩
    | refine hA.FU hs (o.pull [_,_]) fun r s H _ ⟨f,e,Ga,_,Gc⟩ hs o hz=>⟨hz, ?_⟩
    | refine hB.FU hs o fun r s H _ ⟨g,e,Qd,_,aR⟩ hs o hz=>⟨hz, ?_⟩
    | refine hB.FU hs o.swap fun r s H _ ⟨g,e,Qd,_,aR⟩ hs o hz=>⟨hz, ?_⟩
    | refine hB.FU hs (o.pull [_,_]) fun r s H _ ⟨g,e,Qd,_,aR⟩ hs o hz=>⟨hz, ?_⟩
    | refine Am o fun Aw H o=>?_
    | (simp only [AK]; omega)
  all_goals
   try subst e
   refine tt ?_
  all_goals
   repeat' with_reducible apply And.intro
  all_goals
   first
    | refine hA.FU hs o fun r s H _ ⟨f,e,Ga,_,Gc⟩ hs o hz=>⟨hz, ?_⟩
    | refine hA.FU hs o.swap fun r s H _ ⟨f,e,Ga,_,Gc⟩ hs o hz=>⟨hz, ?_⟩
    | refine hA.FU hs (o.pull [_,_]) fun r s H _ ⟨f,e,Ga,_,Gc⟩ hs o hz=>⟨hz, ?_⟩
    | refine hB.FU hs o fun r s H _ ⟨g,e,Qd,_,aR⟩ hs o hz=>⟨hz, ?_⟩
    | refine hB.FU hs o.swap fun r s H _ ⟨g,e,Qd,_,aR⟩ hs o hz=>⟨hz, ?_⟩
    | refine hB.FU hs (o.pull [_,_]) fun r s H _ ⟨g,e,Qd,_,aR⟩ hs o hz=>⟨hz, ?_⟩
    | refine Am o fun Aw H o=>?_
    | (simp only [AK]; omega)
  all_goals
   try subst e
   refine tt ?_
  all_goals
   first
    | refine sw o fun H o=>?_
    | refine sw o.swap fun H o=>?_
    | refine sw (o.pull [_,_]) fun H o=>?_
   refine tt ?_
  all_goals
   first
    | refine sw o fun H o=>?_
    | refine sw o.swap fun H o=>?_
    | refine sw (o.pull [_,_]) fun H o=>?_
   refine tt ?_
  all_goals
   obtain ⟨hfI,_⟩:=Gc (by omega)
   obtain ⟨hgI,_⟩:=aR (by omega);exact AX ⟨s,f,g,_,_,rfl,hs,⟨hfI,Ga⟩,⟨hgI,Qd⟩,o.pm⟩
 ·rintro σ H ⟨s,f,g,Ec,HC,rfl,hs,⟨hf,Ga⟩,⟨hg,Qd⟩,o⟩;refine tt ?_
  refine L5 (fun σ H=>∃ (s : Src) (g : SF),σ=[(4,some (.ref BN 0)),(5,some (.ref CS 0)),(6,some (.ref id 0)),(7,some (.ptr j.cells)),(8,some (.ref Ec 0)),(9,some (.ref HC 0))]∧s.Ok∧(g.Is∧g.shape=j.shape) ∧
   AB H0 H [(HC,AF.cells 7 g.cells 0),(Ec,AF.cells 7 f.cells 0),(id,s.obj),(CS,AF.cells 15 [.int .i64 0,.A1,.A1,.A1,.A1,.A1,.A1,.int .i64 0,.A1,.A1,.A1,.A1,.A1,.A1,.A1] 0),(BN,AF.cells 6 [.int .i64 0,.A1,.A1,.A1,.A1,.A1] 0)]) ?_ ?_
  ·cases sh
   ·refine tt ?_;exact AX ⟨s,g,rfl,hs,⟨hg,Qd⟩,(by simp only [SF.cells] at o ⊢; exact o.pm)⟩
   refine tt ?_;refine AZ o.tl (by simp [SF.cells]) (tt ?_);refine (Ng B j g).go fun _=>?_
   by_cases hz : codeF j g=0
   rotate_left
   ·refine tt ?_;rw [decide_eq_false hz];refine tt ?_;exact AX ⟨s,g,rfl,hs,⟨hg,Qd⟩,(by simp only [SF.cells] at o ⊢; exact o.pm)⟩
   obtain ⟨hF,hg',Ee,F4⟩:=Dx hz
   have hl:=H7 B j;rw [hz];rw [Ee] at hl;try simp only [go_sem,↓reduceIte,reduceEqDiff,reduceAdd,reduceMul,reduceLeDiff,reduceLT,dTr']
   refine (AY B 10).go hs o fun r s H _ ⟨v,e,_⟩ hs o=>?_;subst e;refine tt ?_;apply bk <;> intro h1
   rotate_left
   ·refine tw h1 ?_;exact AX ⟨s,g,rfl,hs,⟨hg,Qd⟩,(by simp only [SF.cells] at o ⊢; exact o.pm)⟩
   refine tw h1 ?_;refine AZ o.tl (by simp [SF.cells]) (tt ?_)
   generalize Ag g.shape j.AP=V at *
   have hb:=Nk B g hg.1 V F4
   obtain ⟨a1,a2,a3,a4,a5,a6,a7,a8,hA,k1⟩:=WD g V
   obtain ⟨b1,b2,b3,b4,b5,b6,b7,b8,hB,k2⟩:=oV g V;rw [hA,hB] at hb;refine ⟨_,hl.run, ?_⟩;refine ⟨_,hb.run,tt ?_⟩;refine ⟨?_, ?_⟩
   focus
    refine nb o fun Ln H o=>tt ?_;refine nb o fun Ed H o=>tt ?_;refine Aq o.swap (by simp) (by (try simp only [go_sem]); (try simp)) k1 fun H o=>?_;have o:=s2 o;refine tt ?_;refine Aq o.swap (by simp) (by (try simp only [go_sem]); (try simp)) k2 fun H o=>?_
   rotate_left 1
   focus
    refine nb o fun Ed H o=>tt ?_;refine nb o fun Ln H o=>tt ?_;refine Aq o (by simp) (by (try simp only [go_sem]); (try simp)) k1 fun H o=>?_;have o:=s2 o;refine tt ?_;refine Aq o.swap (by simp) (by (try simp only [go_sem]); (try simp)) k2 fun H o=>?_
   all_goals
    have o:=s2 o;refine tt ?_;refine CX 11 o rfl fun H oN=>AX ?_;refine tt ?_
    by_cases h2 : CG g V
    ·rw [Ay h2];rw [JH,if_pos h2] at hB;simp only [CM,List.cons.injEq,and_true] at hB
     obtain ⟨rfl,rfl,rfl,rfl,rfl,rfl,rfl,rfl⟩:=hB
     have o:=oN;refine tt ?_;refine Aq (o.pull [_,_]) (by simp [SF.cells]) (by (try simp only [go_sem]); (try simp)) (by first | (simp only [go_sem]; done) | ((try simp only [go_sem]); simp [AV.one,EJ])) fun H o=>?_;simp only [SF.cells] at o;have o:=s2 o
     have o : AB H0 H ((HC,AF.cells 7 (SF.cells (AO (AO g V) V)) 0)::_):=o;refine tt ?_;exact AX ⟨s,AO (AO g V) V,rfl,hs,⟨JU (JU hg F4 h2.1) F4 h2.2,Qd⟩,(by simp only [SF.cells] at o ⊢; exact (o.pull [_]).tl.pm)⟩
    ·rw [Ab h2]
     have o:=oN;refine tt ?_;exact AX ⟨s,g,rfl,hs,⟨hg,Qd⟩,(by simp only [SF.cells] at o ⊢; exact o.tl.pm)⟩
  clear o hs Qd hg
  rintro σ H ⟨s,g,rfl,hs,⟨hg,Qd⟩,o⟩;refine tt ?_;refine CX 9 o rfl fun H o=>CX 8 o rfl fun H o=>AX ?_;refine tt ?_;refine (TC B hf hg (Ga.trans Qd.symm) 20 (by omega) (by omega)).go fun _=>?_
  generalize (Mr f g (E9 f)).take 20=L;refine tt ?_;apply bk <;> intro h3
  ·refine tt ?_;refine ⟨_,(Oc B hg.1).run,tt ?_⟩;refine ⟨_,(GG B g g (HV g)).run,tt ?_⟩;refine sw (o.pull [_,_]) fun H o=>tt ?_;refine sw (o.pull [_,_]) fun H o=>tt ?_
   have YP:=o.rc 15 0 (by simp)
   have YK:=o.tl.rc 6 0 (by simp);simp only [List.drop_zero] at YK YP;rw [YK,YP];exact Ce ⟨j,⟨g,g,HV g⟩,rfl⟩ o.sub
  ·have BB:=A9 h3;refine tt ?_;refine (AY B _).FU hs o fun r s H _ ⟨v,e,v0,v1,_⟩ hs o hz=>⟨hz, ?_⟩;subst e
   have hv:=v1 (by omega);refine tt ?_;refine ⟨⟨v0,by omega⟩,tt ?_⟩;refine ⟨_,(GG B f g (ix L v)).run,tt ?_⟩;refine sw (o.pull [_,_]) fun H o=>tt ?_;refine sw (o.pull [_,_]) fun H o=>tt ?_
   have YP:=o.rc 15 0 (by simp)
   have YK:=o.tl.rc 6 0 (by simp);simp only [List.drop_zero] at YK YP;rw [YK,YP];exact Ce ⟨j,⟨f,g,ix L v⟩,rfl⟩ o.sub
theorem O0 (B : Nat) (j : Df) (f : SF) (cnt : AV) (h0 : codeF j f=0) : PB B 97 [.ptr ((BU j).cells cnt),.ptr f.cells] (.CK [JA f (Ag j.shape j.AP),.bool (dec (CG f (Ag j.shape j.AP)))]):=by
 obtain ⟨hF,hf,Fz,Ee⟩:=Jj h0
 have Py : Be j.shape:=by
  unfold DF at Fz;rw [if_neg (fun e=>e hF)] at Fz;apply Classical.byContradiction; intro e;rw [if_pos e] at Fz; cases Fz
 have F4:=(Dx h0).2.2.2;rw [← Ee] at F4
 have tab:=HT hF.is Py
 have Dz : (BU j).marks.length=(AM j.shape).length:=E2
 have KF : DV (AM j.shape) (BU j).marks:=GW
 have D1:=Us B (BU j) cnt f hf.1 Ee (by rw [Dz,← Ee]; exact tab.len) Dz.symm (fun x hx=>by
  have IZ : x<(AM j.shape).length:=by rw [← Dz]; exact hx
  have h1:=KF.row x IZ
  have h2:=tab.YH x IZ
  have h3 : (BU j).BM=AM j.shape:=rfl;rw [h1,h3];exact ⟨Nat.le_refl _,by omega⟩) (by rw [JS hF Py,← Ee]; exact F4)
 rw [JS hF Py] at D1;exact D1
theorem Qh {j : Df} {m : SM} (hm : m.Is) : codeF j m.Bm=codeF j m.src:=by
 by_cases hF : j.Form
 ·have h1 : codeF j m.Bm=Fo j m.Bm:=by rw [codeF,if_neg (fun e=>e ⟨hF,hm.t⟩),Fo]
  have h2 : codeF j m.src=Fo j m.src:=by rw [codeF,if_neg (fun e=>e ⟨hF,hm.s⟩),Fo]
  rw [h1,h2,Fo,Fo,hm.eq]
 ·rw [codeF,codeF,if_pos (fun e=>hF e.1),if_pos (fun e=>hF e.1)]
theorem Ws {j : Df} {f : SF} (h : codeF j f=0) (h2 : CG f (Ag j.shape j.AP)) : Cj j f=0:=by rw [Cj,if_pos h,if_pos h2]
theorem W9 {j : Df} {f : SF} (h : codeF j f=0) (h2 : ¬ CG f (Ag j.shape j.AP)) : Cj j f=3:=by rw [Cj,if_pos h,if_neg h2]
theorem KP (B : Nat) (j : Df) (m : SM) : IX Tryz.prog B 48 [.agg j.cells,.agg m.cells] fun p X=>qx fE (MI j m) p X (ofM j m):=by
 refine ⟨fun H0=>uq.go fun _=>?_⟩
 have Zo:=fun H=>LB B j m H;refine tt ?_;refine nb (.nil _) fun id H o=>tt ?_;refine (Zo H).mono ?_
 rintro r H ⟨rfl,X,rfl,hX⟩
 have nope : ¬ Yf j m→ofM j m=iO:=fun h=>by rw [ofM,if_neg h]
 by_cases h0 : JK j m=0
 ·obtain ⟨cnt,rfl⟩:=hX h0
  have XK : j.Form∧m.Is:=by
   apply Classical.byContradiction; intro e;rw [JK,if_neg e] at h0; cases h0
  obtain ⟨hF,hm⟩:=XK
  have c1 : codeF j m.src=0:=by rw [← MA hF hm]; exact h0
  have c2 : codeF j m.Bm=0:=by rw [Qh hm]; exact c1
  have p1:=O0 B j m.src cnt c1
  have p2:=O0 B j m.Bm cnt c2
  obtain ⟨-,-,Ee,IK⟩:=Dx c1
  obtain ⟨-,-,XB,Fz⟩:=Dx c2;rw [← Ee] at IK;rw [← XB] at Fz;rw [h0]
  have e1:=fun h=>Ws c1 h
  have e1n:=fun h=>W9 c1 h
  have e2:=fun h=>Ws c2 h
  have e2n:=fun h=>W9 c2 h
  generalize nP : (BU j).cells cnt=cv at *
  generalize hV : Ag j.shape j.AP=V at *;rw [Ee] at IK;rw [XB] at Fz;refine tt ?_;refine ⟨fun e=>(by simp at e),fun _=>At.mk ?_⟩;refine tt ?_;refine p1.go fun _=>tt ?_;refine p2.go fun _=>?_
  by_cases f1 : CG m.src V
  rotate_left
  ·have e1:=e1n f1
   have hM:=nope fun e=>by rw [e.2.1] at e1; cases e1
   have hC : MI j m=3:=by rw [MI,if_pos ⟨hF,hm⟩,if_neg (by rw [e1]; decide),e1]
   rw [Ab f1,hM,hC];refine tn ?_
   refine sw o fun H o=>tt ?_
   have hr:=o.rc 15 0 (by simp);simp only [List.drop_zero] at hr;rw [hr];exact ⟨H,.refl H,[],⟨_,rfl,Gw⟩,o.tl⟩
  replace e1:=e1 f1
  by_cases f2 : CG m.Bm V
  rotate_left
  ·have e2:=e2n f2
   have hM:=nope fun e=>by rw [e.2.2] at e2; cases e2
   have hC : MI j m=3:=by rw [MI,if_pos ⟨hF,hm⟩,if_pos e1,e2]
   rw [Ay f1,Ab f2,hM,hC];try simp only [go_sem,↓reduceIte,reduceEqDiff,reduceAdd,reduceMul,reduceLeDiff,reduceLT,Bool.not_false,Bool.not_true]
   refine sw o fun H o=>tt ?_
   have hr:=o.rc 15 0 (by simp);simp only [List.drop_zero] at hr;rw [hr];exact ⟨H,.refl H,[],⟨_,rfl,Gw⟩,o.tl⟩
  replace e2:=e2 f2
  have hM : ofM j m=ofMap m V:=by rw [ofM,if_pos ⟨⟨hF,hm⟩,e1,e2⟩,hV]
  have hC : MI j m=0:=by rw [MI,if_pos ⟨hF,hm⟩,if_pos e1,e2]
  have heq:=hm.eq
  have q1:=Uq B m.src m.Bm hm.s.1 hm.t.1 heq m.parts hm.SX V IK f1.1 f2.1
  have q2:=Uq B (AO m.src V) (AO m.Bm V) (Bx hm.s.1 IK f1.1) (Bx hm.t.1 Fz f2.1) heq _ (EP hm.s.1 hm.t.1 heq hm.SX IK) V IK f1.2 f2.2
  have Ik:=Kk B (AO (AO m.src V) V) (AO (AO m.Bm V) V) (Bb (AO m.src V) (AO m.Bm V) V (Bb m.src m.Bm V m.parts));rw [Ay f1,Ay f2,hM,hC,JA,JA,if_pos f1,if_pos f2];rw [ofMap]
  generalize Bb m.src m.Bm V m.parts=P1 at *
  generalize Bb (AO m.src V) (AO m.Bm V) V P1=P2 at *;refine tn ?_
  refine ⟨_,q1.run, ?_⟩;refine ⟨_,q2.run,tt ?_⟩;refine Ik.go o fun Y p H q o _=>?_
  obtain ⟨Ys,rfl,hl,h1⟩:=fE.Sj q;refine tt ?_
  have o:=AB.last o;refine Aq o (by simp) hl h1 fun H o=>?_
  obtain ⟨y1,y2,y3,y4,y5,y6,y7,y8,y9,y10,y11,y12,y13,y14,y15,rfl⟩:=dY hl;have o:=s2 o;refine tt ?_
  have hr:=o.rc 15 0 (by simp);simp only [List.drop_zero] at hr;rw [hr];exact ⟨H,.refl H,p,⟨_,rfl,q⟩,o.tl⟩
 ·have hC : MI j m=JK j m:=by
   by_cases XK : j.Form∧m.Is
   ·have e0:=MA XK.1 XK.2;rw [e0] at h0 ⊢
    have e1 : Cj j m.src=codeF j m.src:=by rw [Cj,if_neg h0]
    rw [MI,if_pos XK,if_neg (by rw [e1]; exact h0),e1]
   ·rw [MI,if_neg XK,JK,if_neg XK]
  have hM:=nope fun e=>by
   have e2:=Mq e.2.1;rw [← MA e.1.1 e.1.2] at e2;exact h0 e2.1
  rw [hM,hC];refine tt ?_;refine ⟨fun _=>At.mk ?_,fun e=>?_⟩;rotate_left
  ·exact absurd (by simpa using e) h0
  refine tt ?_;refine sw o fun H o=>tt ?_
  have hr:=o.rc 15 0 (by simp);simp only [List.drop_zero] at hr;rw [hr];exact ⟨H,.refl H,[],⟨_,rfl,Gw⟩,o.tl⟩
theorem Mp (B : Nat) (f g : SF) (h : f.Shape) (hg : g.Shape) (aQ : g.DE) (e : f.shape=g.shape) (p : List (List Int)) (m : Cz f g p) (V : List (List Int)) (c : BT f.shape V) (Bf : Bh f V) (Ee : Bw g V) :
  PB B 120 [Eu f V,.ptr g.cells,BD p] (BD (E6 f g V p)):=by
 refine ⟨fun H0=>wR.go fun Gc=>?_⟩
 have hm:=h.is.1.m
 have Fh:=h.is.1.o
 have Hg:=h.is.1.He
 have G7:=h.sl
 have Wz:=c.len
 have Qb : (B9 f V).length=V.length:=by simp [B9]
 have hgal:=hg.al
 have hgsl:=hg.sl
 have hgtl:=hg.is.1.He
 have Px : g.shape.AR=V.length:=by rw [← e]; omega
 have Ko:=m.len
 have c':=c;rw [e] at c';refine tt ?_;refine Ae iL (.nil _) fun Ed H o=>tt ?_
 refine AD [0,1,2,7,24,25] (G:=Nat) (fun k g=>[(8,some (.buf g k)),(26,some (.int .i64 (k : Int)))])
  (fun k id H=>AB H0 H [(id,.cells 1 (((List.range k).map (Ix f g V p)).map iL) 0)]) V.length Ed o (by rw [Qb]; rfl) ?_
 clear o
 rintro k Ed H hk o
 replace o : AB H0 H [(Ed,.cells 1 (((List.range k).map (Ix f g V p)).map iL) 0)]:=o;refine tt ?_;apply bk <;> intro h1
 ·have AU:=A7 h1;rw [Qb] at AU
  have w:=ws k
  have EZ:=c.sv k (by omega)
  have XL:=c'.sv k (by omega)
  have sE:=EZ.len
  have aN : (B9 f V).getD k default=Au f V k:=by rw [B9,AS _ _ (by omega)]
  have sK : (Au f V k).length≤16:=Bf k (by omega);refine tt ?_;refine ⟨by omega, ?_⟩;refine Ae iI o fun Jv H o=>tt ?_;rw [aN]
  refine AD [0,1,2,7,8,9,24,25,26,32,33] (G:=Nat × List Int) (fun i g=>[(11,some (.buf g.1 g.2.length)),(34,some (.int .i64 (i : Int)))])
   (fun i r H=>r.2=((Au f V k).take i).map (fun t=>gl g k (V.getD k default) (D9 f.shape p (V.getD k default) t))∧AB H0 H [(r.1,.cells 1 (r.2.map iI) 0),(Ed,.cells 1 (((List.range k).map (Ix f g V p)).map iL) 0)]) (Au f V k).length (Jv,[]) ⟨rfl,o⟩ rfl ?_
  clear o
  rintro i ⟨Jv,row⟩ H hi ⟨B4,o⟩;dsimp only at B4 o
  have Lu : row.length=i:=by rw [B4,List.length_map,List.length_take]; omega
  refine tt ?_;apply bk <;> intro h2
  ·have Ah:=A7 h2
   have w2:=ws i
   have N6:=((Ba h EZ).mem _).mp (show (Au f V k).getD i default∈BQ f (V.getD k default) from AE.mpr ⟨i,Ah,rfl⟩)
   generalize ht : (Au f V k).getD i default=t at *;refine tt ?_;refine ⟨Ah, ?_⟩;rw [ht];refine Ae iI o fun NU H o=>tt ?_;refine ⟨AU, ?_⟩
   refine AD [0,1,2,7,8,9,11,13,24,25,26,32,33,34,45,46] (G:=Nat × List Int) (fun n g=>[(14,some (.buf g.1 g.2.length)),(47,some (.int .i64 (n : Int)))])
    (fun n r H=>r.2=(List.range n).map (fun j=>ix (ix p (ix g.shape.to ((V.getD k default).getD j default))) (t.getD j default))∧AB H0 H [(r.1,.cells 1 (r.2.map iI) 0),(Jv,.cells 1 (row.map iI) 0),(Ed,.cells 1 (((List.range k).map (Ix f g V p)).map iL) 0)]) (V.getD k default).length (NU,[]) ⟨rfl,o⟩ rfl ?_
   clear o
   rintro n ⟨NU,fam⟩ H hn ⟨Gj,o⟩;dsimp only at Gj o
   have je : fam.length=n:=by rw [Gj]; simp
   refine tt ?_;apply bk <;> intro h3
   ·have BB:=A7 h3
    have w3:=ws n
    have ha:=EZ.arr (AE.mpr ⟨n,BB,rfl⟩)
    have Cu:=h.is.1.C7 ha.1.2
    have th:=(m.pl _ Cu).1
    have hrn:=N6.Nb n BB
    have Hg:=N6.len;rw [e] at ha Cu th hrn;refine tt ?_;refine ⟨BB,by omega,by omega,by omega,by omega, ?_⟩;refine Ac (f:=iI) (ix (ix p (ix g.shape.to ((V.getD k default).getD n default))) (t.getD n default)) o rfl rfl (by simp only [AK]; omega) fun NU H o=>?_
    have e8 : fam++[ix (ix p (ix g.shape.to ((V.getD k default).getD n default))) (t.getD n default)]=(List.range (n+1)).map (fun j=>ix (ix p (ix g.shape.to ((V.getD k default).getD j default))) (t.getD j default)):=by
     rw [Gj,List.range_succ]; simp [-List.getD_eq_getElem?_getD]
    refine tw w3 ?_;exact A5 (_,_) (by omega) ⟨e8,o⟩ rfl
   ·have BB:=A9 h3
    have gT : fam=D9 f.shape p (V.getD k default) t:=by rw [Gj,D9,e,show n=(V.getD k default).length by omega]
    have hu : EW g k (V.getD k default) fam:=by
     have:=KM hg aQ c' Ee (x:=(k : Int)) ⟨by omega,by omega⟩ (t:=fam) (by simp only [AJ]; rw [gT]; exact Iw h hg e m EZ N6)
     simpa only [AJ] using this
    have hz:=hg.Dk (y:=(k : Int)) ⟨by omega,by omega⟩
    have XJ : ∀ a,a∈V.getD k default→0≤a∧a.toNat<g.Aa.length:=fun a ha=>by have:=XL.arr ha; omega
    have V1 : ∀ a,a∈V.getD k default→((ix g.Aa a).length : Int)=ix g.A4 k:=fun a ha=>by
     have hv:=XL.arr ha
     have h1:=hg.DN hv.1.2;rw [hv.2] at h1;exact h1
    refine tt ?_;refine Ak o rfl fun H o=>tt ?_;refine ⟨AU,(oB B g k (V.getD k default) fam ⟨by omega,by omega⟩ (by omega) XJ V1 hu).go fun _=>?_⟩;refine tt ?_;refine Ac (f:=iI) (gl g k (V.getD k default) (D9 f.shape p (V.getD k default) t)) o (by rw [gT]; rfl) rfl (by simp only [AK]; omega) fun Jv H o=>?_
    have e8 : row++[gl g k (V.getD k default) (D9 f.shape p (V.getD k default) t)]=((Au f V k).take (i+1)).map (fun t=>gl g k (V.getD k default) (D9 f.shape p (V.getD k default) t)):=by
     rw [B4,BS _ _ Ah,ht]
    refine tw w2 ?_;exact A5 (_,_) (by omega) ⟨e8,o⟩ rfl
  ·have Ah:=A9 h2
   have Dr : row=Ix f g V p k:=by rw [B4,List.take_of_length_le (by omega)]; rfl
   refine tt ?_;refine Ak o rfl fun H o=>tt ?_;refine Ac (f:=iL) row o rfl (by simp) (by simp only [List.length_map,List.length_range,AK]; omega) fun HC H o=>?_
   have e7 : (List.range k).map (Ix f g V p)++[row]=(List.range (k+1)).map (Ix f g V p):=by rw [List.range_succ,List.map_append,Dr]; rfl
   rw [e7] at o ⊢;refine tw w ?_;exact A5 HC (by omega) o (by simp)
 ·have AU:=A9 h1;rw [Qb] at AU
  obtain rfl : k=V.length:=by omega
  refine tt ?_;refine Ak o (by simp) fun H o=>tt ?_;exact A6 rfl o.sub
end Go.Proofs.Shf
