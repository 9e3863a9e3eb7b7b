/- Contracts, part 6. -/
import Derived.Test.YtphikjciekmijaaGreatF5
set_option linter.unusedVariables false
set_option linter.unusedSimpArgs false
set_option linter.unusedSectionVars false
set_option maxRecDepth 100000
open Nat (reduceEqDiff reduceAdd reduceMul reduceLeDiff reduceLT)
namespace Go.AW
theorem ZT {F : Env→AA→Prop} {σ : Env} {H0 H : AA} {l : List (Nat × AG)} {id sz : Nat} {cs : List AV} {fr : Nat} {cs0 : List AV} (t k : Nat) (hf : fr≤k) (hk : k≤cs.length) (o : A9 H0 H ((id,.cells sz cs fr)::l)) (ht : σ.get t=some (.FX cs0 id))
  (hF : ∀ H',A9 H0 H' ((id,.cells sz cs k)::l)→EX F ((t,some (.FX (cs.take k) id))::σ) H') : EX F σ H:=by
 have h1:=o.h0;simp only at h1;refine D5 (σ1:=(t,some (.FX (cs.take k) id))::σ) ?_ (hF _ (o.put (.cells sz cs k)))
 intro g B w tm hW hE
 obtain ⟨q1,q2⟩:=hE t _ ht
 generalize hu : tm.getD t undef=u at q2
 cases q2 with
 | FX _ _ b cap _ CA _ _ =>
  have dT:=hW.uJ h1 CA hf hk
  obtain ⟨p,hp,hr⟩:=hW.ob _ _ h1;rw [CA] at hp; cases hp;simp only [Ah] at hr
  obtain ⟨r1,r2,r3,r4,c,el,r5,r6,r7,r8⟩:=hr
  obtain ⟨g1,g2⟩:=dT.Gt b k c el (0,0) r5 fun i p o e hp TK=>by
   by_cases GC : i=id
   ·subst GC;rw [CA] at hp; cases hp
    simp at e;exact ⟨_,_,_,e.symm,Nat.le_refl _⟩
   ·exfalso
    cases p with
    | nil=>cases TK
    | GA b' cap' =>
     cases TK;exact dT.inj i id b cap' cap GC (by simp [e]) (by simp) hp CA
    | mp b' =>
     cases TK
     obtain ⟨q,hq,hr⟩:=dT.ob _ _ e;rw [hp] at hq; cases hq
     cases o with
     | cells sz' cs' f'=>simp [Ah] at hr
     | map ks vs =>
      simp only [Ah] at hr
      obtain ⟨_,_,es,clk,h5,_⟩:=hr;rw [r5] at h5; cases h5
  refine ⟨_,g1,g2,fun s x e=>?_⟩;simp only [Env.get] at e
  split at e
  ·rename_i hs; cases e; subst hs
   refine ⟨q1, ?_⟩;rw [hu]
   have CF : (cs.take k).length=k:=by rw [List.length_take]; omega
   refine .FX _ id b cap (fun i=>c.getD i undef) (g1.io _ _ CA) (fun i hi=>?_) (fun i hi=>?_)
   ·rw [CF] at hi;simp only [Gh.Gt]
    have : i<c.size:=by omega
    simp [hi,Array.getD,this]
   ·rw [CF] at hi
    have e2 : (cs.take k).getD i nv=cs.getD i nv:=by simp [Go.AW.gE,hi]
    rw [e2]; exact (r8 i (by omega)).mono g1
  ·obtain ⟨z1,z2⟩:=hE s x e; exact ⟨z1,z2.mono g1⟩
theorem XA {H0 H : AA} {l : List (Nat × AG)} {K : Ak} {id sz off n fr : Nat} {cs vs : List AV} (o : A9 H0 H ((id,.cells sz cs fr)::l)) (h0 : fr≤off) (h1 : off+n≤cs.length) (h2 : vs.length=n) (h3 : ∀ c,c∈vs→c.one=true)
  (hk : ∀ H',A9 H0 H' ((id,.cells sz (wr cs off vs) fr)::l)→K nv H') : Ka (H.get id) id off n vs K H:=by
 have e:=o.h0;simp only at e;rw [e,VV];exact ⟨⟨h0,h1,h2,h3⟩,hk _ (o.put _)⟩
end Go.AW
namespace Go.Proofs.Shf
open Go.AW Go.Proofs Go.Shf
theorem Jr (B : Nat) (x : Int) (n : Nat) (hn : n≤1048576) (H0 H : AA) (l : List (Nat × AG)) (o : A9 H0 H l) : CB B 110 [.int .i64 x,.int .i64 n] H (O2 iI H0 l (·=List.replicate n x)):=by
 refine rE.go fun _=>?_;refine tt ?_;refine ⟨by simp [AN]; omega,EI iI 0 rfl o fun id H o=>?_⟩;refine tt ?_;refine AD [0,5,10] (G:=Unit) (fun k _=>[(11,some (.int .i64 (k : Int)))]) (fun k _ H=>A9 H0 H ((id,.cells 1 ((List.replicate k x++List.replicate (n - k) 0).map iI) 0)::l)) n () (by simpa using o) rfl ?_;clear o
 rintro k _ H hk o
 replace o : A9 H0 H ((id,.cells 1 ((List.replicate k x++List.replicate (n - k) 0).map iI) 0)::l):=o;refine tt ?_;apply bk <;> intro h1
 ·have AU:=A6 h1
  have w:=ws k;refine tt ?_;refine ⟨by omega,BT x o rfl (by simp; omega) fun H o=>?_⟩
  have e : (List.replicate k x++List.replicate (n - k) 0).set k x=List.replicate (k+1) x++List.replicate (n - (k+1)) 0:=by
   rw [List.set_append_right _ _ (by simp),List.length_replicate,Nat.sub_self,show n - k=(n - (k+1))+1 by omega,List.replicate_succ (n:=n - (k+1)),List.set_cons_zero,List.replicate_succ' (n:=k),List.append_assoc]
   rfl
  rw [e] at o;refine tw w ?_;exact A4 () (by omega) o rfl
 ·have AU:=A7 h1;refine tt ?_
  obtain rfl : k=n:=by omega
  exact K3 o (by simp) (by simp)
theorem C8 {α : Type} [Inhabited α] (l : List α) {k : Nat} (hk : k<l.length) : l.take (k+1)=l.take k++[l.getD k default]:=by
 have hN : l[k]=l.getD k default:=by simp [Go.AW.gE,hk]
 rw [← hN]; exact (List.take_append_getElem hk).symm
def Bq (ls : List Lk) (k : Nat) (ks : List Int) : List (List Lk):=ks.map fun i=>(ls.take k).filter fun l=>decide (l.i=i)
theorem GK (ls : List Lk) {k : Nat} (hk : k<ls.length) (i : Int) : ((ls.take (k+1)).filter fun l=>decide (l.i=i))=((ls.take k).filter fun l=>decide (l.i=i))++if (ls.getD k default).i=i then [ls.getD k default] else []:=by
 have hN : ls[k]=ls.getD k default:=by simp [Go.AW.gE,hk]
 have ht : ls.take (k+1)=ls.take k++[ls.getD k default]:=by rw [← hN]; exact (List.take_append_getElem hk).symm
 rw [ht,List.filter_append]
 congr 1
 simp only [List.filter_cons,List.filter_nil,decide_eq_true_eq]
theorem UA {ls : List Lk} {ks : List Int} {k : Nat} (hk : k<ls.length) (Iy : (ls.getD k default).i∈ks) (OO : ks.Nodup) :
  Bq ls (k+1) ks=(Bq ls k ks).set (ks.idxOf (ls.getD k default).i) ((Bq ls k ks).getD (ks.idxOf (ls.getD k default).i) []++[ls.getD k default]):=by
 generalize hr : ls.getD k default=r at *
 have CF : ks.idxOf r.i<ks.length:=List.idxOf_lt_length_iff.mpr Iy;apply List.ext_getElem (by simp [Bq])
 intro m h1 h2
 have hm : m<ks.length:=by simpa [Bq] using h1
 have RA : ks[ks.idxOf r.i]=r.i:=List.getElem_idxOf CF;simp only [Bq,List.getElem_map,List.getElem_set,GK ls hk,hr]
 by_cases e : ks.idxOf r.i=m
 ·subst e;rw [if_pos rfl,RA,if_pos rfl]
  simp [Go.AW.gE,CF,RA]
 ·rw [if_neg e,if_neg,List.append_nil]
  intro e2;exact e ((List.getElem_inj OO (h₀:=CF) (h₁:=hm)).mp (by rw [RA,e2]))
theorem So {ls : List Lk} {ks : List Int} {k : Nat} (hk : k<ls.length) (Iy : ¬ (ls.getD k default).i∈ks) (Au : ∀ l,l∈ls.take k→l.i∈ks) :
  Bq ls (k+1) (ks++[(ls.getD k default).i])=Bq ls k ks++[[ls.getD k default]]:=by
 generalize hr : ls.getD k default=r at *;simp only [Bq,List.map_append,List.map_cons,List.map_nil,GK ls hk,hr]
 congr 1
 ·apply List.map_congr_left
  intro i hi;rw [if_neg (show ¬ r.i=i from fun e=>Iy (by rw [e]; exact hi)),List.append_nil]
 ·have : ((ls.take k).filter fun l=>decide (l.i=r.i))=[]:=by
   rw [List.filter_eq_nil_iff]
   intro l hl e
   have:=Au l hl; rw [of_decide_eq_true e] at this; exact Iy this
  rw [this]; simp
theorem Ua {ls : List Lk} {ks : List Int} (Au : ∀ l,l∈ls→l.i∈ks) : Q1 ls (ks.map iI) ((Bq ls ls.length ks).map (mL Lh)):=by
 refine ⟨fun i=>Jo i ks,fun i=>?_⟩;rw [Q5 (by simp [Bq])]
 by_cases hi : i∈ks
 ·left
  have CF : ks.idxOf i<ks.length:=List.idxOf_lt_length_iff.mpr hi
  have RA : ks[ks.idxOf i]=i:=List.getElem_idxOf CF
  simp [Bq,CF,RA]
 ·right
  have CF : ks.idxOf i=ks.length:=List.idxOf_eq_length hi;refine ⟨by simp [Bq,CF], ?_⟩;rw [List.filter_eq_nil_iff]
  intro l hl e
  have:=Au l hl; rw [of_decide_eq_true e] at this; exact hi this
theorem ZE (B : Nat) (A1 : List Int) (ls : List Lk) (Iz : J2 A1 ls) (Im : A1.length≤1000) (Xo : ∀ i,i<A1.length→A1.getD i default≤1000000) (TY : ls.length≤1000000) (most : Nat) (GY : most≤1048576) :
  PB B 128 [iL A1,mL Lh ls,.int .i64 most] (.CQ [B5 ((OB A1 ls).take (most+1)),.bool (decide ((OB A1 ls).length≤most))]):=by
 refine ⟨fun H0=>rY.go fun _=>tt ?_⟩;refine AP (.nil _) fun TN H o=>tt ?_;refine Ai o fun En H o=>tt ?_;refine sw o fun H o=>tt ?_;refine MM o fun Qx H o=>tt ?_;refine (Jr B (-1) A1.length (by omega) H0 H _ o).own fun E9 A H o hA=>?_;rw [hA] at o
 have L7 : A.length=A1.length:=by rw [hA]; simp
 rw [L7];clear hA L7
 have ij : (AV.Fa Qx).cells=[.Fa Qx]:=rfl;try simp only [go_sem,↓reduceIte,reduceEqDiff,reduceAdd,reduceMul,reduceLeDiff,reduceLT,ij,Ej,Gv,List.set_cons_zero,List.set_cons_succ]
 refine Ai o fun DC H o=>tt ?_;refine cZ 9 3 (by simp) o rfl fun H o=>AX ?_;simp only [List.take_succ_cons,List.take_zero];refine tt ?_
 refine AD [5,8,9,21,22] (G:=List Int × List AV × List (Nat × AG)) (fun k _=>[(23,some (.int .i64 (k : Int)))])
  (fun k g H=>Hy 3 Lh g.2.1 (Bq ls k g.1) g.2.2∧g.1.Nodup∧(∀ l,l∈ls.take k→l.i∈g.1) ∧
   A9 H0 H ((Qx,.map (g.1.map iI) g.2.1)::(g.2.2++[(DC,.cells 4 [iL A1,AV.Fa Qx,AV.buf E9 A1.length,AV.Lz] 3),(E9,.cells 1 ((List.replicate A1.length (-1)).map iI) 0),(En,.cells 1 [AV.buf TN 0] 0),(TN,.cells 1 [] 0)])))
  ls.length ([],[],[]) ⟨.nil,.nil,by simp,o.perm (by
   refine List.Perm.trans ?_ (List.Perm.swap _ _ _);exact .cons _ (.swap _ _ _))⟩ rfl ?_
 clear o
 rintro k ⟨ks,Xs,ob⟩ H hk ⟨hR,OO,Iy,o⟩;dsimp only at hR OO Iy o;refine tt ?_
 have Iw : Xs.length=ks.length:=by have:=hR.len; simpa [Bq] using this
 apply bk <;> intro h1
 ·have AU:=A6 h1
  have w:=ws k;refine tt ?_;refine ⟨AU, ?_⟩;refine Ai o fun IL H o=>?_
  generalize hr : ls.getD k default=r at *;refine tt ?_;refine sw o fun H o=>tt ?_;refine Ca 11 o rfl fun H o=>AX ?_
  have hg : H.get Qx=some (.map (ks.map iI) Xs):=o.h0;refine tt ?_;rw [hg];refine tt ?_;refine ⟨Jo _ _, ?_⟩;rw [Q5 Iw]
  by_cases hi : r.i∈ks
  ·have CF : ks.idxOf r.i<ks.length:=List.idxOf_lt_length_iff.mpr hi
   obtain ⟨p,rest,h2,h3,h4⟩:=hR.split (ks.idxOf r.i) (by omega)
   have e1 : (Xs[ks.idxOf r.i]?).getD .A0=Xs.getD (ks.idxOf r.i) nv:=by simp [Go.AW.gE,Iw,CF]
   rw [e1]
   have o:=o.perm (List.Perm.cons _ (List.Perm.append_right _ h2)) |>.perm (l:=_) (r:=p++((Qx,.map (ks.map iI) Xs)::(rest++_))) (by
    rw [List.append_assoc]; exact List.perm_middle.symm)
   have L7 : ((Bq ls k ks).getD (ks.idxOf r.i) []).length≤ls.length:=by
    simp [Bq,Go.AW.gE,CF];exact Nat.le_trans (List.length_filter_le _ _) (by rw [List.length_take]; omega)
   refine h3.app (f:=Lh) o r rfl (by simp only [AN]; omega) fun Ac H o=>?_
   generalize hA : (Bq ls k ks).getD (ks.idxOf r.i) []=A at *
   have hg : H.get Qx=some (.map (ks.map iI) Xs):=o.tl.h0;refine tt ?_;rw [hg];refine tt ?_;rw [QY _ _ Iw,if_pos hi];refine tw w ?_
   obtain ⟨ob',q1,q2⟩:=h4 (.buf Ac (A++[r]).length) (A++[r]) [(Ac,.cells 3 (flat ((A++[r]).map Lh)) 0)] (.inr ⟨Ac,rfl,rfl⟩);refine ⟨Jo _ _,A4 (ks,Xs.set (ks.idxOf r.i) (.buf Ac (A++[r]).length),ob') AU ⟨?_,OO, ?_, ?_⟩ rfl⟩
   ·have:=UA AU (by rw [hr]; exact hi) OO;rw [hr,hA] at this
    show Hy 3 Lh _ (Bq ls (k+1) ks) ob'
    rw [this]; exact q1
   ·intro l hl;rw [C8 ls AU,List.mem_append,List.mem_singleton,hr] at hl
    rcases hl with hl | rfl
    ·exact Iy l hl
    ·exact hi
   ·exact (o.swap.put _).perm (.cons _ (by
     rw [← List.cons_append];exact List.Perm.append_right _ q2.symm))
  ·have CF : ks.idxOf r.i=ks.length:=List.idxOf_eq_length hi
   have e1 : (Xs[ks.idxOf r.i]?).getD .A0=.A0:=by simp [Iw,CF]
   rw [e1]
   have hN : UT 3 Lh [] .A0 ([] : List Lk):=.inl ⟨rfl,rfl,rfl⟩;refine hN.app (f:=Lh) (by exact o) r rfl (by simp [AN]) fun Ac H o=>?_
   have hg : H.get Qx=some (.map (ks.map iI) Xs):=o.tl.h0;refine tt ?_;rw [hg];refine tt ?_;rw [QY _ _ Iw,if_neg hi];refine tw w ?_;refine ⟨Jo _ _,A4 (ks++[r.i],Xs++[.buf Ac ([]++[r]).length],ob++[(Ac,.cells 3 (flat (([]++[r]).map Lh)) 0)]) AU ⟨?_, ?_, ?_, ?_⟩ rfl⟩
   ·have:=So AU (by rw [hr]; exact hi) Iy;rw [hr] at this
    show Hy 3 Lh _ (Bq ls (k+1) (ks++[r.i])) _
    rw [this]; exact hR.snoc (.inr ⟨Ac,rfl,rfl⟩)
   ·rw [List.nodup_append];refine ⟨OO,by simp,fun a ha b hb=>?_⟩;rw [List.mem_singleton] at hb;subst hb
    rintro rfl;exact hi ha
   ·intro l hl;rw [C8 ls AU,List.mem_append,List.mem_singleton,hr] at hl
    show l.i∈ks++[r.i]
    rw [List.mem_append,List.mem_singleton]
    rcases hl with hl | rfl
    ·exact .inl (Iy l hl)
    ·exact .inr rfl
   ·refine (o.swap.put _).perm (.cons _ ?_);rw [List.append_assoc];exact List.perm_middle.symm
 ·have AU:=A7 h1;refine tt ?_
  obtain rfl : k=ls.length:=by omega
  refine j5 hR [] H (by exact o) fun H o=>AX ?_;clear hR
  have Kf : (AV.fn (.func 223) [.ref En 0,.ptr [.int .i64 most]]).cells=[.fn (.func 223) [.ref En 0,.ptr [.int .i64 most]]]:=rfl
  have o:=A9.pull [_] o;refine tw Kf ?_;refine XA o (by simp) (by simp) rfl (by simp only [Gk,JL]; exact ⟨rfl,trivial⟩) fun H o=>?_;have o:=s2 o;rw [List.nil_append] at o;refine ZT 9 4 (by simp) (by simp) o rfl fun H o=>AX ?_;simp only [List.take_succ_cons,List.take_zero]
  have hM:=Ua (ls:=ls) (ks:=ks) (by simpa using Iy)
  have hX : CP iL H0 H ((En,.cells 1 [.buf TN 0] 0)::(E9,.cells 1 ((List.replicate A1.length (-1)).map iI) 0)::[(Qx,.map (ks.map iI) ((Bq ls ls.length ks).map (mL Lh))),(DC,.cells 4 [iL A1,AV.Fa Qx,AV.buf E9 A1.length,.fn (.func 223) [.ref En 0,.ptr [.int .i64 most]]] 4)]) (.buf TN 0) [] :=
   .inr ⟨TN,rfl,o.perm (List.reverse_perm _).symm⟩
  clear o
  have XQ : ∀ i : Int,0≤i→i.toNat<A1.length→ix (List.replicate A1.length (-1)) i=-1:=fun i h0 h1=>by
   simp [ix,Go.AW.gE,h1]
  refine tt ?_
  refine (Ti B A1 ls Iz Im Xo TY _ _ hM most GY E9 Qx DC En _ (List.replicate A1.length (-1)) rfl ⟨by simp,fun q hq=>.inl (by
   rw [List.length_replicate] at hq
   simp [Go.AW.gE,hq])⟩ (fun l hl h0=>by
    have a:=Iz.ok.i l hl;rw [XQ _ a.1 a.2] at h0; omega) H0 H _ (.buf TN 0) [] hX (by simp) (by simp)).mono ?_
  clear hX
  rintro r H ⟨X,rfl,hX⟩;rw [List.nil_append,List.length_nil,Nat.sub_zero] at hX;rw [List.length_nil,Nat.zero_add]
  have hso : Fv A1 ls (List.replicate A1.length (-1))=OB A1 ls:=rfl;rw [hso] at hX ⊢;refine tt ?_;refine Aj hX.obj (by simp) (tt ?_)
  rcases hX with ⟨rfl,e,o⟩ | ⟨id,rfl,o⟩
  ·refine tt ?_;exact A5 (by rw [e]; rfl) o.sub
  ·refine tt ?_;refine Am o rfl fun H o=>tt ?_;exact A5 rfl o.sub
end Go.Proofs.Shf
namespace Go.Shf
open Go.AW Go.Proofs.Shf
abbrev kB : Int→AV:=AV.int .u8
instance : One kB:=⟨fun _=>rfl,fun _=>rfl⟩
def D0 (L : List (List Int)) : List Int:=L.flatMap fun l=>l.map IntKind.u8.wrap++[255]
def L3 (L : List (List Int)) : List UInt8:=(D0 L).map fun n=>UInt8.ofNat n.toNat
theorem PE (L : List (List Int)) (l : List Int) : D0 (L++[l])=D0 L++l.map IntKind.u8.wrap++[255]:=by
 simp [D0]
theorem T7 (A C : List (List Int)) : D0 (A++C)=D0 A++D0 C:=by simp [D0]
theorem Q8 (L : List (List Int)) (k : Nat) : (D0 (L.take k)).length≤(D0 L).length:=by
 have : D0 L=D0 (L.take k)++D0 (L.drop k):=by rw [← T7,List.take_append_drop]
 rw [this,List.length_append]; omega
theorem Yr (L : List (List Int)) : L.length≤(D0 L).length:=by
 induction L with
 | nil=>simp
 | cons a L ih =>
  have : D0 (a::L)=D0 [a]++D0 L:=T7 [a] L;rw [this,List.length_append]
  have : 1≤(D0 [a]).length:=by simp [D0]
  simp only [List.length_cons]; omega
theorem YM (L : List (List Int)) {k : Nat} (hk : k<L.length) : (D0 (L.take k)).length+(L.getD k default).length+1≤(D0 L).length:=by
 have h1:=Q8 L (k+1);rw [C8 L hk,PE] at h1;simp only [List.length_append,List.length_map,List.length_cons,List.length_nil] at h1;omega
def Lj (L : List (List Int)) : Nat→List AV × List AV
 | 0=>([],[])
 | k+1=>HT (.str (L3 [L.getD k default])) (iI k) (Lj L k).1 (Lj L k).2
theorem SW (k x : AV) (hk : ∃ s,k=.str s) : ∀ (ks vs : List AV),(∀ a,a∈ks→∃ s,a=.str s)→∀ a,a∈(HT k x ks vs).1→∃ s,a=.str s
 | [],_,h,a,ha=>by simp [HT] at ha; subst ha; exact hk
 | b::ks,[],h,a,ha=>by simp [HT] at ha; subst ha; exact hk
 | b::ks,v::vs,h,a,ha=>by
  simp only [HT] at ha
  split at ha
  ·simp only [List.mem_cons] at ha
   rcases ha with rfl | ha
   ·exact hk
   ·exact h a (by simp [ha])
  ·simp only [List.mem_cons] at ha
   rcases ha with rfl | ha
   ·exact h a (by simp)
   ·exact SW k x hk ks vs (fun c hc=>h c (by simp [hc])) a ha
theorem Vl (L : List (List Int)) : ∀ k a,a∈(Lj L k).1→∃ s,a=.str s
 | 0,a,h=>by simp [Lj] at h
 | k+1,a,h=>SW _ _ ⟨_,rfl⟩ _ _ (Vl L k) a h
theorem Oj (L : List (List Int)) (k : Nat) (s : List UInt8) : KH 1 (.str s) (Lj L k).1:=⟨rfl,fun a ha=>by obtain ⟨t,rfl⟩:=Vl L k a ha; rfl⟩
end Go.Shf
namespace Go.Proofs.Shf
open Go.AW Go.Proofs Go.Shf
theorem Mv (B : Nat) (L : List (List Int)) (hb : (D0 L).length≤1000000) : PB B 90 [B5 L] (.str (L3 L)):=by
 refine ⟨fun H0=>lp.go fun Zj=>?_⟩
 have hL : L.length≤(D0 L).length:=Yr L;refine tt ?_;refine AP (.nil _) fun C9 H o=>tt ?_
 refine AD [9,10] (G:=Nat) (fun k g=>[(3,some (.buf g (D0 (L.take k)).length)),(11,some (.int .i64 (k : Int)))])
  (fun k g H=>A9 H0 H [(g,.cells 1 ((D0 (L.take k)).map kB) 0)]) L.length C9 o rfl ?_
 clear o
 rintro k C9 H hk o
 replace o : A9 H0 H [(C9,.cells 1 ((D0 (L.take k)).map kB) 0)]:=o;refine tt ?_;apply bk <;> intro h1
 ·have AU:=A6 h1
  have w:=ws k;refine tt ?_;refine ⟨AU, ?_⟩
  have aN:=YM L AU
  generalize hl : L.getD k default=l at *
  generalize hP : D0 (L.take k)=P at *
  have hP2 : D0 (L.take (k+1))=P++l.map IntKind.u8.wrap++[255]:=by rw [C8 L AU,PE,hP,hl]
  refine AD [9,10,11,15,16] (G:=Nat) (fun j g=>[(3,some (.buf g (P++(l.take j).map IntKind.u8.wrap).length)),(17,some (.int .i64 (j : Int)))])
   (fun j g H=>A9 H0 H [(g,.cells 1 ((P++(l.take j).map IntKind.u8.wrap).map kB) 0)]) l.length C9 (by simpa using o) (by simp only [List.take_zero,List.map_nil,List.append_nil]; rfl) ?_
  clear o
  rintro j C9 H hj o
  replace o : A9 H0 H [(C9,.cells 1 ((P++(l.take j).map IntKind.u8.wrap).map kB) 0)]:=o;refine tt ?_;apply bk <;> intro h2
  ·have Aq:=A6 h2
   have w2:=ws j;refine tt ?_;refine ⟨Aq, ?_⟩;refine Ae (f:=kB) (IntKind.u8.wrap (l.getD j default)) o rfl rfl (by simp only [List.length_append,List.length_map,List.length_take,AN]; omega) fun ON H o=>?_
   have e : (P++(l.take j).map IntKind.u8.wrap)++[IntKind.u8.wrap (l.getD j default)]=P++(l.take (j+1)).map IntKind.u8.wrap:=by
    rw [C8 l Aq,List.map_append,← List.append_assoc]; rfl
   rw [e] at o ⊢;refine tw w2 ?_;exact A4 ON Aq o rfl
  ·have Aq:=A7 h2
   obtain rfl : j=l.length:=by omega
   rw [List.take_length] at o ⊢;refine tt ?_;refine Ae (f:=kB) 255 o rfl rfl (by simp only [List.length_append,List.length_map,AN]; omega) fun ON H o=>?_;rw [← hP2] at o ⊢;refine tw w ?_;exact A4 ON AU o rfl
 ·have AU:=A7 h1
  obtain rfl : k=L.length:=by omega
  rw [List.take_length] at o ⊢;refine tt ?_;refine Am o rfl fun H o=>tt ?_
  have MI : QB (some (mL kB (D0 L)))=some (∀ e,e∈(D0 L).map kB→e.isByte=true,.str (L3 L)):=by
   rw [mL,a7,List.map_map]; rfl
  rw [MI];refine tt ?_;refine ⟨fun e he=>?_,A5 rfl o.sub⟩
  obtain ⟨n,_,rfl⟩:=List.mem_map.mp he
  rfl
theorem Ou (B : Nat) (L : List (List Int)) (hl : L.length≤1000000) (hb : ∀ l,l∈L→l.length≤1000) : PB B 190 [B5 L] (.CS (Lj L L.length).1 (Lj L L.length).2):=by
 refine ⟨fun H0=>tG.go fun Zj=>tt ?_⟩;refine MM (.nil _) fun C9 H o=>tt ?_
 refine AD [3,7,8] (G:=Unit) (fun k g=>[(9,some (.int .i64 (k : Int)))])
  (fun k g H=>A9 H0 H [(C9,.map (Lj L k).1 (Lj L k).2)]) L.length () o rfl ?_
 clear o
 rintro k _ H hk o
 replace o : A9 H0 H [(C9,.map (Lj L k).1 (Lj L k).2)]:=o;refine tt ?_;apply bk <;> intro h1
 ·have AU:=A6 h1
  have w:=ws k;refine tt ?_;refine ⟨AU, ?_⟩
  have hm : L.getD k default∈L:=AE.mpr ⟨k,AU,rfl⟩;refine (Mv B [L.getD k default] (by have:=hb _ hm; simp [D0]; simp only [Go.AW.gE] at this; omega)).go fun _=>?_
  have hg : H.get C9=some (.map (Lj L k).1 (Lj L k).2):=o.h0;refine tt ?_;rw [hg];refine tt ?_;refine ⟨Oj L k _, ?_⟩;refine tw w ?_;exact A4 () AU (o.put _) rfl
 ·have AU:=A7 h1
  obtain rfl : k=L.length:=by omega
  refine tt ?_;refine bR 3 o rfl fun H o=>AX ?_;refine tt ?_;exact A5 rfl o.sub
end Go.Proofs.Shf
namespace Go.Shf
open Go.AW
structure zS where
 shape : Ax
 A1 : List Int
 xN : List (List Int)
 lP : List (List (List Int))
 marks : List (List Bool)
@[go_sem] def zS.cls (v : zS) : List AV:=[iI v.shape.AF,iL v.shape.AB,iL v.shape.to,iL v.shape.Ac,B5 v.shape.comp,iL v.A1,B5 v.xN,BE v.lP]
@[go_sem] def zS.cells (v : zS) (zk : AV) : List AV:=[.ptr v.cls,.ptr v.shape.cells,mL (mL AV.bool) v.marks,zk]
end Go.Shf
namespace Go.Shf
open Go.AW
theorem Rp {k x : AV} : ∀ {ks vs : List AV},(∀ a,a∈ks→k.QH a=false)→vs.length=ks.length→HT k x ks vs=(ks++[k],vs++[x])
 | [],vs,_,h=>by
  have : vs=[]:=List.eq_nil_of_length_eq_zero h;subst this; rfl
 | b::ks,[],_,h=>by simp at h
 | b::ks,v::vs,h1,h=>by
  simp only [HT,h1 b (by simp),Bool.false_eq_true,if_false];rw [Rp (fun a ha=>h1 a (by simp [ha])) (by simpa using h)]
  rfl
theorem Sb : ∀ {ks : List (List UInt8)} {vs : List AV},vs.length=ks.length→∀ s,Hw (.str s) (ks.map AV.str) vs=vs[ks.idxOf s]?
 | [],vs,h,i=>by
  have : vs=[]:=List.eq_nil_of_length_eq_zero h;subst this; rfl
 | k::ks,[],h,i=>by simp at h
 | k::ks,v::vs,h,i=>by
  simp only [List.map_cons,Hw,AV.QH,decide_eq_true_eq,List.idxOf_cons]
  by_cases e : i=k
  ·subst e; simp
  ·have h2 : (k == i)=false:=by simpa using fun h=>e h.symm
   rw [if_neg e,Sb (by simpa using h),h2]; simp
theorem Ra {a b : List Int} (ha : ∀ y,y∈a→0≤y∧y<255) (hb : ∀ y,y∈b→0≤y∧y<255) (h : L3 [a]=L3 [b]) : a=b:=by
 have h1 : a.map (fun y=>UInt8.ofNat (IntKind.u8.wrap y).toNat)=b.map (fun y=>UInt8.ofNat (IntKind.u8.wrap y).toNat):=by
  simp only [L3,D0,List.flatMap_cons,List.flatMap_nil,List.append_nil,List.map_append,List.map_map] at h;exact List.append_cancel_right h
 have hw : ∀ y : Int,0≤y∧y<255→IntKind.u8.wrap y=y:=fun y hy=>by
  have e : y % 256=y:=by omega
  simp only [IntKind.wrap,IntKind.bits,IntKind.signed]
  simpa using e
 clear h
 induction a generalizing b with
 | nil=>cases b with
  | nil=>rfl
  | cons y b=>simp at h1
 | cons x a ih=>cases b with
  | nil=>simp at h1
  | cons y b =>
   simp only [List.map_cons,List.cons.injEq] at h1
   have hx:=ha x (by simp)
   have hy:=hb y (by simp);rw [hw x hx,hw y hy] at h1
   have e : x=y:=by
    have h2:=congrArg UInt8.toNat h1.1;simp only [UInt8.toNat_ofNat'] at h2;omega
   rw [e,ih (fun z hz=>ha z (by simp [hz])) (fun z hz=>hb z (by simp [hz])) h1.2]
theorem j4 {L : List (List Int)} (nd : L.Nodup) (hb : ∀ l,l∈L→∀ y,y∈l→0≤y∧y<255) : ∀ k,k≤L.length→Lj L k=(((L.take k).map fun l=>L3 [l]).map AV.str,(List.range k).map fun i : Nat=>iI (i : Int)):=by
 intro k
 induction k with
 | zero=>intro _; rfl
 | succ k ih =>
  intro hk
  have hk : k<L.length:=by omega
  rw [Lj,ih (by omega),Rp]
  ·rw [Go.Proofs.Shf.C8 L hk,List.range_succ]; simp
  ·intro a ha;simp only [List.map_map,List.mem_map,Function.comp_apply] at ha
   obtain ⟨l,hl,rfl⟩:=ha;simp only [AV.QH,decide_eq_false_iff_not]
   intro e
   have hm : L.getD k default∈L:=AE.mpr ⟨k,hk,rfl⟩
   have:=Ra (hb _ hm) (hb _ (List.mem_of_mem_take hl)) e;rw [← this] at hl
   obtain ⟨j,hj,e2⟩:=AE.mp hl;rw [List.length_take] at hj
   have e3 : L.getD j default=L.getD k default:=by
    rw [← e2]; simp [Go.AW.gE,List.getElem?_take,show j<k by omega]
   have h1:=C4 nd (k:=j) (by omega)
   have h2:=C4 nd hk;rw [e3,h2] at h1;omega
  ·simp
   omega
theorem cS {L : List (List Int)} (nd : L.Nodup) (hb : ∀ l,l∈L→∀ y,y∈l→0≤y∧y<255) {m : List Int} (hm : m∈L) : Hw (.str (L3 [m])) (Lj L L.length).1 (Lj L L.length).2=some (iI (indexOf L m)):=by
 obtain ⟨k,hk,rfl⟩:=AE.mp hm;rw [j4 nd hb _ (Nat.le_refl _),List.take_length,Sb (by simp),C4 nd hk]
 have : (L.map fun l=>L3 [l]).idxOf (L3 [L.getD k default])=k:=by
  have OO : (L.map fun l=>L3 [l]).Nodup:=by
   rw [List.Nodup,List.pairwise_map];refine List.Pairwise.imp_of_mem ?_ nd
   intro a b ha MI Bg e;exact Bg (Ra (hb a ha) (hb b MI) e)
  have TS : k<(L.map fun l=>L3 [l]).length:=by simpa using hk
  have:=OO.idxOf_getElem k TS
  simpa [Go.AW.gE,hk] using this
 rw [this]
 simp [hk]
end Go.Shf
namespace Go.Shf
open Go.AW
def IW (L : List (List Int)) : AV:=.CS (Lj L L.length).1 (Lj L L.length).2
instance : One IW:=⟨fun _=>rfl,fun _=>rfl⟩
end Go.Shf
namespace Go.Proofs.Shf
open Go.AW Go.Proofs Go.Shf
@[go_sem] noncomputable def dx (f : SF) (V : List (List Int)) : AV:=.ptr [.ptr f.cells,iI f.shape.AF,iL f.shape.AB,iL f.shape.to,iL f.shape.Ac,B5 f.shape.comp,iL (P4 f V),B5 (Sr f V),B5 V,BE (UK f V),mL IW (UK f V)]
end Go.Proofs.Shf
namespace Go.Shf
open Go.AW
def CH (c : Ax) (n : Int) : SF:=⟨c,List.replicate c.AF.toNat n,List.replicate c.AB.length ((List.range n.toNat).map Int.ofNat)⟩
theorem MK {α : Type} (k : Nat) (a : α) : List.replicate (k+1) a=List.replicate k a++[a]:=List.replicate_succ'
end Go.Shf
namespace Go.Proofs.Shf
open Go.AW Go.Proofs Go.Shf
abbrev z7 : List AV:=[.int .i64 0,.A0,.A0,.A0,.A0,.A0,.A0]
theorem Q0 (B : Nat) (c : Ax) (Ee : 0≤c.AF∧c.AF≤4096) (hm : c.AB.length≤4096) (n : Int) (hn : 0≤n∧n≤100) : PB B 250 [.agg c.cells,iI n] (.agg (CH c n).cells):=by
 refine ⟨fun H0=>sO.go fun Zj=>?_⟩
 have o : A9 H0 H0 []:=.nil _;refine tt ?_;refine nb o fun B1 H o=>tt ?_;refine (DI B c).go fun _=>tt ?_;refine nb o fun Bv H o=>tt ?_;refine sw o fun H o=>?_
 let st : AV→AV→AG:=fun x5 x6=>.cells 7 [iI c.AF,iL c.AB,iL c.to,iL c.Ac,B5 c.comp,x5,x6] 0
 refine tt ?_;refine AD [1,2,4,5] (G:=AV) (fun k X=>[(6,some (.int .i64 (k : Int)))]) (fun k X H=>CP iI H0 H ((Bv,st X .A0)::[(B1,.cells 7 z7 0)]) X (List.replicate k n)) c.AF.toNat .A0 (.inl ⟨rfl,rfl,o⟩) rfl ?_;clear o
 rintro k X H hk hX;refine tt ?_;apply bk <;> intro h1
 ·have AU:=A6 h1
  have w:=ws k;refine tt ?_;refine Aj hX.obj (by simp [st]) (tt ?_);refine hX.app n rfl (by simp only [List.length_replicate,AN]; omega) fun Ac H o=>?_;rw [← MK] at o ⊢;refine tt ?_;refine sw o.swap fun H o=>?_;refine tw w ?_;exact A4 _ (by omega) (.inr ⟨Ac,rfl,o.swap⟩) rfl
 ·have AU:=A7 h1
  obtain rfl : k=c.AF.toNat:=by omega
  obtain ⟨p5,o,h5⟩:=hX.split
  have o : A9 H0 H ((Bv,st X .A0)::(p5++[(B1,.cells 7 z7 0)])):=o.perm List.perm_middle;clear hX;refine tt ?_;refine AD [1,2,4,5] (G:=AV) (fun a Y=>[(7,some (.int .i64 (a : Int)))]) (fun a Y H=>CP iL H0 H ((Bv,st X Y)::(p5++[(B1,.cells 7 z7 0)])) Y (List.replicate a ((List.range n.toNat).map Int.ofNat))) c.AB.length .A0 (.inl ⟨rfl,rfl,o⟩) rfl ?_;clear o
  rintro a Y H ha hY
  replace hY : CP iL H0 H ((Bv,st X Y)::(p5++[(B1,.cells 7 z7 0)])) Y (List.replicate a ((List.range n.toNat).map Int.ofNat)):=hY;refine tt ?_;apply bk <;> intro h2
  ·have Aq:=A6 h2
   have w2:=ws a
   obtain ⟨q,o,hq⟩:=hY.split;clear hY;refine tt ?_;refine Az iI o fun Cm H o=>tt ?_
   refine AD [1,2,4,5,7] (G:=Nat × List Int) (fun e g=>[(8,some (.buf g.1 g.2.length)),(9,some (.int .i64 (e : Int)))])
    (fun e g H=>g.2=(List.range e).map Int.ofNat∧A9 H0 H ((g.1,.cells 1 (g.2.map iI) 0)::(q++((Bv,st X Y)::(p5++[(B1,.cells 7 z7 0)]))))) n.toNat (Cm,[]) ⟨rfl,o⟩ rfl ?_
   clear o
   rintro e ⟨Cm,row⟩ H he ⟨Bf,o⟩;dsimp only at Bf o
   have WA : row.length=e:=by rw [Bf]; simp
   refine tt ?_;apply bk <;> intro h3
   ·have BH:=A6 h3
    have w3:=ws e;refine tt ?_;refine Ae (e : Int) o rfl rfl (by simp only [AN]; omega) fun Cm H o=>?_;refine tw w3 ?_;exact A4 (_,_) (by omega) ⟨by rw [Bf,List.range_succ]; simp,o⟩ rfl
   ·have BH:=A7 h3
    obtain rfl : e=n.toNat:=by omega
    refine tt ?_;refine Am o rfl fun H o=>?_
    have hY:=CP.mk o hq;clear o;refine tt ?_;refine Aj hY.obj (by simp [st]) (tt ?_);refine hY.app row rfl (by simp only [List.length_replicate,AN]; omega) fun Ac H o=>?_;rw [Bf,← MK] at o ⊢;refine tt ?_;refine sw o.swap fun H o=>?_;refine tw w2 ?_;exact A4 _ (by omega) (.inr ⟨Ac,rfl,o.swap⟩) rfl
  ·have Aq:=A7 h2
   obtain rfl : a=c.AB.length:=by omega
   refine tt ?_;refine FK 6 hY rfl fun H o=>?_;have o:=s1 o
   have hX:=CP.mk (o.perm List.perm_middle.symm) h5;clear o;refine FK 5 hX rfl fun H o=>AX ?_;have o:=s1 o;refine tt ?_;refine AO o (by simp) (tt ?_);refine sw o.swap fun H o=>tt ?_
   have hr:=o.rc 7 0 (by simp);simp only [List.drop_zero] at hr;rw [hr];exact A5 rfl o.sub
theorem Mk (B : Nat) (c : Ax) (hc : c.Shape) (n : Int) (hn : 0≤n∧n≤100) : PB B 250 [.agg c.cells,iI n] (.agg (CH c n).cells) :=
 Q0 B c (by have:=hc.o; omega) (by have:=hc.m; omega) n hn
def qL (c : Ax) (os : List Int) (r : AV) : Prop:=r=.agg (Dy c os).cells∧(Dy c os).qf c 120
theorem SI (B : Nat) (c : Ax) (hc : c.Is) (os : List Int) (yT : os.length≤3) : Dt B 208 [.agg c.cells,iL os] (qL c os):=by
 intro H0;refine uZ.go fun _=>?_
 have hm:=hc.1.m
 have Ee:=hc.1.o
 have Jc:=hc.1.L5
 have o : A9 H0 H0 []:=.nil _;refine tt ?_;refine nb o fun B1 H o=>tt ?_;refine ⟨⟨by omega,by simp only [AN]; omega⟩, ?_⟩;rw [IX];refine AP o fun E9 H o=>tt ?_
 refine AD [1,2,4,5] (G:=List AV × List (List (List Int)) × List (Nat × AG)) (fun k _=>[(6,some (.int .i64 (k : Int)))])
  (fun k g H=>A9 H0 H ((E9,.cells 1 g.1 0)::(g.2.2++[(B1,.cells 7 z7 0)]))∧ED iL g.1 g.2.1 g.2.2∧F6 c os k 0 g.2.1) os.length (List.replicate c.AF.toNat .A0,List.replicate c.AF.toNat [],[]) ⟨o,ED.rep iL _,.zero Ee.1⟩ rfl ?_
 clear o
 rintro k ⟨Xs,LL,ob⟩ H hk ⟨o,hR,hI⟩;dsimp only at o hR hI;refine tt ?_;apply bk <;> intro h1
 ·have AU:=A6 h1
  have w1:=ws k;refine tt ?_
  refine AD [1,2,4,5,6] (G:=List AV × List (List (List Int)) × List (Nat × AG)) (fun h _=>[(7,some (.int .i64 (h : Int)))])
   (fun h g H=>A9 H0 H ((E9,.cells 1 g.1 0)::(g.2.2++[(B1,.cells 7 z7 0)]))∧ED iL g.1 g.2.1 g.2.2∧F6 c os k h g.2.1) c.AB.length (Xs,LL,ob) ⟨o,hR,hI⟩ rfl ?_
  clear o hR hI Xs LL ob
  rintro h ⟨Xs,LL,ob⟩ H hh ⟨o,hR,hI⟩;dsimp only at o hR hI;refine tt ?_;apply bk <;> intro h2
  ·have Aq:=A6 h2
   have w2:=ws h
   have Nx:=hc.1.DJ (f:=(h : Int)) (by simpa using Aq);rw [AR] at Nx
   have Iw:=hR.len
   have yn:=hI.len
   have Xo:=hI.bd (c.to.getD h default).toNat
   have aN : k*c.AB.length≤2*40:=Nat.mul_le_mul (by omega) hm;refine tt ?_;refine ⟨Aq,AU, ?_⟩;apply bk <;> intro h3
   ·have BH : c.AB.getD h default=os.getD k default:=A6 h3;refine tt ?_;refine ⟨by omega,by omega,⟨Nx.1,by omega⟩,Aj o.h0 (by omega) ?_⟩;refine tt ?_;refine Hv o hR (by omega) [(k : Int),(h : Int)] rfl (by show (LL.getD _ default).length+1≤AN; simp only [AN]; omega) fun X' o' H V1 hR o=>?_;try simp only [go_sem,↓reduceIte,reduceEqDiff,reduceAdd,reduceMul,reduceLeDiff,reduceLT,AV.DH V1]
    refine ⟨⟨Nx.1,by omega⟩,AS o (by omega) rfl (by simp only [Gk,JL]; exact ⟨V1,trivial⟩) fun H o=>?_⟩;simp only [Ej,Gv] at o;refine tw w2 ?_;exact A4 (_,_,_) (by omega) ⟨o,hR,hI.Sc hc.1 AU Aq BH⟩ rfl
   ·refine tw w2 ?_;exact A4 (_,_,_) (by omega) ⟨o,hR,hI.skip (A7 h3)⟩ rfl
  ·have Aq:=A7 h2
   obtain rfl : h=c.AB.length:=by omega
   refine tw w1 ?_;exact A4 (_,_,_) (by omega) ⟨o,hR,hI.next⟩ rfl
 ·have AU:=A7 h1
  obtain rfl : k=os.length:=by omega
  have yn:=hI.len;refine tt ?_;refine EA hR [] H o fun H o=>AX ?_;rw [List.nil_append] at o;clear hR;refine tt ?_;refine Am (f:=B5) o (by omega) fun H o=>tt ?_;refine (DI B c).go fun _=>tt ?_;refine nb o fun Cm H o=>tt ?_;refine sw o fun H o=>?_
  let st : AV→AV→AG:=fun x5 x6=>.cells 7 [iI c.AF,iL c.AB,iL c.to,iL c.Ac,B5 c.comp,x5,x6] 0
  refine tt ?_
  have IK:=Y3 hc hI.toFreeI (N:=120) (by have:=Nat.mul_le_mul yT hm; omega)
  have Nh:=hI.of
  have HO:=hI.full;clear hI;refine AD [2,4,5,8] (G:=AV) (fun k X=>[(9,some (.int .i64 (k : Int)))]) (fun k X H=>CP iI H0 H ((Cm,st X .A0)::[(B1,.cells 7 z7 0)]) X ((LL.take k).map fun l=>(l.length : Int))) LL.length .A0 (.inl ⟨rfl,rfl,o⟩) rfl ?_;clear o
  rintro k X H hk hX;refine tt ?_;apply bk <;> intro h4
  ·have D9:=A6 h4
   have w:=ws k;refine tt ?_;refine Aj hX.obj (by simp [st]) (tt ?_);refine ⟨D9, ?_⟩;refine hX.app ((LL.getD k default).length : Int) rfl (by simp only [List.length_map,List.length_take,AN]; omega) fun Ac H o=>?_
   have e5 : ((LL.take k).map fun l=>(l.length : Int))++[((LL.getD k default).length : Int)]=(LL.take (k+1)).map fun l=>(l.length : Int):=by rw [take_one LL D9]; simp
   rw [e5] at o ⊢;refine tt ?_;refine sw o.swap fun H o=>?_;refine tw w ?_;exact A4 _ (by omega) (.inr ⟨Ac,rfl,o.swap⟩) rfl
  ·have D9:=A7 h4
   obtain rfl : k=LL.length:=by omega
   rw [List.take_length] at hX
   obtain ⟨p5,o,jd⟩:=hX.split
   have o : A9 H0 H ((Cm,st X .A0)::(p5++[(B1,.cells 7 z7 0)])):=o.perm List.perm_middle;clear hX;refine tt ?_;refine AD [2,4,5,8] (G:=AV) (fun a Y=>[(10,some (.int .i64 (a : Int)))]) (fun a Y H=>CP iL H0 H ((Cm,st X Y)::(p5++[(B1,.cells 7 z7 0)])) Y ((List.range a).map (Ct c LL))) c.AB.length .A0 (.inl ⟨rfl,rfl,o⟩) rfl ?_;clear o
   rintro a Y H ha hY
   replace hY : CP iL H0 H ((Cm,st X Y)::(p5++[(B1,.cells 7 z7 0)])) Y ((List.range a).map (Ct c LL)):=hY;refine tt ?_;apply bk <;> intro h5
   ·have JB:=A6 h5
    have w2:=ws a
    have Qy:=hc.1.C3 (f:=(a : Int)) (by simpa using JB)
    have Nx:=hc.1.DJ (f:=(a : Int)) (by simpa using JB);rw [AR] at Qy Nx
    obtain ⟨q,o,hq⟩:=hY.split;clear hY;refine tt ?_;refine Az iI o fun IL H o=>tt ?_;refine ⟨JB,⟨Qy.1,by omega⟩,by omega,⟨Nx.1,by omega⟩, ?_⟩
    have eF : ix LL (c.AB.getD a default)=LL.getD (c.AB.getD a default).toNat default:=rfl
    have eT : ix LL (c.to.getD a default)=LL.getD (c.to.getD a default).toNat default:=rfl
    have OP : Ct c LL a=(LL.getD (c.AB.getD a default).toNat default).map fun q=>indexOf (LL.getD (c.to.getD a default).toNat default) [ix q 0,(ix c.comp (ix q 1)).getD a default]:=rfl
    have yh:=Nh (c.AB.getD a default).toNat (by omega);rw [eF,eT]
    generalize hF : LL.getD (c.AB.getD a default).toNat default=F at *
    generalize hT : LL.getD (c.to.getD a default).toNat default=T at *
    have hFl : F.length≤200:=by
     have:=IK.sz (F.length : Int) (List.mem_map.mpr ⟨F,by rw [← hF]; exact AE.mpr ⟨_,by omega,rfl⟩,rfl⟩);omega
    refine AD [2,4,5,8,10,12,13] (G:=Nat × List Int) (fun e g=>[(11,some (.buf g.1 g.2.length)),(14,some (.int .i64 (e : Int)))])
     (fun e g H=>g.2=(F.take e).map (fun q=>indexOf T [ix q 0,(ix c.comp (ix q 1)).getD a default])∧A9 H0 H ((g.1,.cells 1 (g.2.map iI) 0)::(q++((Cm,st X Y)::(p5++[(B1,.cells 7 z7 0)]))))) F.length (IL,[]) ⟨by simp,o⟩ rfl ?_
    clear o
    rintro e ⟨IL,row⟩ H he ⟨Bf,o⟩;dsimp only at Bf o
    have WA : row.length=e:=by rw [Bf,List.length_map,List.length_take]; omega
    refine tt ?_;apply bk <;> intro h6
    ·have LZ:=A6 h6
     have w3:=ws e
     obtain ⟨i,j,eq,hi,hj,_,_⟩:=yh (F.getD e default) (AE.mpr ⟨e,LZ,rfl⟩)
     have e0 : ix (F.getD e default) 0=(i : Int):=by rw [eq]; rfl
     have e1 : ix (F.getD e default) 1=(j : Int):=by rw [eq]; rfl
     have el : (F.getD e default).length=2:=by rw [eq]; rfl
     have RG:=hc.1.cl
     have gx:=hc.1.Wr (a:=(j : Int)) (by simpa using hj);refine tt ?_;refine ⟨LZ,⟨by omega,by rw [el]; decide⟩,LZ,⟨by omega,by rw [el]; decide⟩, ?_⟩;rw [e0,e1];refine ⟨_,(U0 B c (j : Int) (a : Int) ⟨by omega,by rw [Int.toNat_natCast,RG]; exact hj⟩ ⟨by omega,by rw [gx]; simpa using JB⟩).run,tt ?_⟩;refine ⟨_,(Sv B T [(i : Int),(ix c.comp (j : Int)).getD a default]).run,tt ?_⟩;refine Ae (indexOf T [(i : Int),(ix c.comp (j : Int)).getD a default]) o rfl rfl (by simp only [AN]; omega) fun IL H o=>?_;refine tw w3 ?_;refine A4 (_,_) (by omega) ⟨?_,o⟩ rfl;rw [take_one F LZ,List.map_append,← Bf,List.map_cons,List.map_nil,e0,e1]
    ·have LZ:=A7 h6
     obtain rfl : e=F.length:=by omega
     rw [List.take_length,← OP] at Bf;refine tt ?_;refine Am o rfl fun H o=>?_
     have hY:=CP.mk o hq;clear o;refine tt ?_;refine Aj hY.obj (by simp [st]) (tt ?_)
     have e7 : (List.range a).map (Ct c LL)++[row]=(List.range (a+1)).map (Ct c LL):=by rw [FT,Bf]
     refine hY.app row rfl (by simp only [List.length_map,List.length_range,AN]; omega) fun Ac H o=>tt ?_;refine sw o.swap fun H o=>?_
     have hY : CP iL H0 H ((Cm,st X (.buf Ac ((List.range a).map (Ct c LL)++[row]).length))::(p5++[(B1,.cells 7 z7 0)])) (.buf Ac ((List.range a).map (Ct c LL)++[row]).length) ((List.range a).map (Ct c LL)++[row]):=.inr ⟨Ac,rfl,o.swap⟩
     generalize (AV.buf Ac ((List.range a).map (Ct c LL)++[row]).length)=Y' at hY;rw [e7] at hY;refine tw w2 ?_;exact A4 Y' (by omega) hY rfl
   ·have JB:=A7 h5
    obtain rfl : a=c.AB.length:=by omega
    refine tt ?_;refine FK 6 hY rfl fun H o=>?_;have o:=s1 o
    have hX:=CP.mk (o.perm List.perm_middle.symm) jd;clear o;refine FK 5 hX rfl fun H o=>AX ?_;have o:=s1 o;refine tt ?_;refine AO o (by simp) (tt ?_);refine sw o.swap fun H o=>tt ?_
    have hr:=o.rc 7 0 (by simp);simp only [List.drop_zero] at hr;rw [hr];exact B0 ⟨by rw [Dy,← HO]; rfl,by rw [Dy,← HO]; exact IK⟩ o.sub
def kl (r : AV) : Prop:=∃ f : SF,r=.agg f.cells
def Jp (sz : List Int) (PP : List (List (List Int))) : Prop:=PP.length=sz.length∧∀ x : Nat,x<sz.length→∀ q,q∈PP.getD x default→2≤q.length∧(0≤q.getD 0 default∧q.getD 0 default<sz.getD x default)∧(0≤q.getD 1 default∧q.getD 1 default<sz.getD x default)
def uH (f : SF) (r : AV) : Prop:=∃ (CC : List (List Int)) (g : SF),r=.agg g.cells∧Jx f.A1 CC∧Vp f CC g
theorem Rl (B : Nat) (f : SF) (c : Ax) (hc : c.Is) (hf : f.qf c 120) (PP : List (List (List Int))) (hP : Jp f.A1 PP) : Dt B 249 [.agg f.cells,BE PP] (uH f):=by
 intro H0;refine u7.go fun _=>?_
 obtain ⟨rfl,Im,Tc,CW,OP⟩:=hf
 have hm:=hc.1.m
 have Ee:=hc.1.o
 have Jc:=hc.1.L5
 have o : A9 H0 H0 []:=.nil _
 have Nq : ∀ x,x<f.A1.length→0≤f.A1.getD x default∧f.A1.getD x default≤120:=fun x hx=>CW _ (AE.mpr ⟨x,hx,rfl⟩);refine tt ?_;refine nb o fun B1 H o=>tt ?_;refine Az iL o fun Bv H o=>tt ?_
 refine AD [1,2,4] (G:=Nat × List (List Int)) (fun k g=>[(5,some (.buf g.1 g.2.length)),(6,some (.int .i64 (k : Int)))])
  (fun k g H=>g.2=(List.range k).map (Jj f.A1 PP)∧A9 H0 H [(g.1,.cells 1 (g.2.map iL) 0),(B1,.cells 7 z7 0)]) f.A1.length (Bv,[]) ⟨rfl,o⟩ rfl ?_
 clear o
 rintro k ⟨Bv,CC⟩ H hk ⟨oQ,o⟩
 replace oQ : CC=(List.range k).map (Jj f.A1 PP):=oQ
 replace o : A9 H0 H [(Bv,.cells 1 (CC.map iL) 0),(B1,.cells 7 z7 0)]:=o
 have Zy : CC.length=k:=by rw [oQ]; simp
 refine tt ?_;apply bk <;> intro h1
 ·have AU:=A6 h1
  have w1:=ws k
  have W6:=Nq k AU
  obtain ⟨n,hn⟩ : ∃ n : Nat,f.A1.getD k default=n:=⟨_,(Int.toNat_of_nonneg W6.1).symm⟩
  have hPk:=hP.2 k AU
  have RG : Jj f.A1 PP k=HI n (PP.getD k default):=by rw [Jj,hn,Int.toNat_natCast]
  rw [hn] at hPk W6;refine tt ?_;refine ⟨AU,by rw [hP.1]; exact AU, ?_⟩;rw [hn];refine ⟨_,(Rw B n (by omega) (PP.getD k default) fun q hq=>?_).run, ?_⟩
  ·have:=hPk q hq; omega
  refine tt ?_;refine Ae (HI n (PP.getD k default)) o rfl rfl (by simp only [AN]; omega) fun Bv H o=>?_;refine tw w1 ?_;exact A4 (_,_) (by omega) ⟨by rw [oQ,FT,RG],o⟩ rfl
 ·have AU:=A7 h1
  obtain rfl : k=f.A1.length:=by omega
  have hK : Jx f.A1 CC:=by rw [oQ]; exact XL (fun y hy=>(CW y hy).1) PP
  clear oQ;refine tt ?_;rw [Zy];refine tt ?_
  refine E3 [2,4,5] (G:=Bool × List (List Int)) (fun g=>[(7,some (.bool g.1))]) (fun m g H=>(m=Ns g.2+(if g.1=true then 1 else 0)∧Jx f.A1 g.2∧(g.1=false→Cg f g.2 f.AJ.length))∧A9 H0 H [(Bv,.cells 1 (g.2.map iL) 0),(B1,.cells 7 z7 0)])
   (Ns CC+1) (true,CC) ⟨⟨by simp,hK,fun h=>absurd h (by simp)⟩,o⟩ rfl ?_
  clear o hK Zy CC
  rintro m ⟨more,CC⟩ H ⟨⟨Zz,hK,hG⟩,o⟩
  replace hG : more=false→Cg f CC f.AJ.length:=hG
  replace Zz : m=Ns CC+(if more=true then 1 else 0):=Zz
  replace hK : Jx f.A1 CC:=hK
  replace o : A9 H0 H [(Bv,.cells 1 (CC.map iL) 0),(B1,.cells 7 z7 0)]:=o
  cases more;rotate_left 1
  ·refine tt ?_
   obtain ⟨P0,yk⟩ : ∃ P0,P0=Ns CC:=⟨_,rfl⟩;rw [← yk] at Zz
   refine AD [2,4,5] (G:=Bool × List (List Int)) (fun a g=>[(7,some (.bool g.1)),(8,some (.int .i64 (a : Int)))])
    (fun a g H=>(Ns g.2≤P0∧(g.1=true→Ns g.2<P0)∧Jx f.A1 g.2∧(g.1=false→Cg f g.2 a))∧A9 H0 H [(Bv,.cells 1 (g.2.map iL) 0),(B1,.cells 7 z7 0)]) f.AJ.length (false,CC) ⟨⟨by simp [yk],by simp,hK,fun _ a h=>absurd h (Nat.not_lt_zero a)⟩,o⟩ rfl ?_
   clear o hK hG yk CC
   rintro a ⟨more,CC⟩ H ha ⟨⟨II,E8,hK,hG⟩,o⟩
   replace hG : more=false→Cg f CC a:=hG
   replace II : Ns CC≤P0:=II
   replace E8 : more=true→Ns CC<P0:=E8
   replace hK : Jx f.A1 CC:=hK
   replace o : A9 H0 H [(Bv,.cells 1 (CC.map iL) 0),(B1,.cells 7 z7 0)]:=o;refine tt ?_;apply bk <;> intro h2
   ·have Aq:=A6 h2
    have w2:=ws a
    have Te : a<f.shape.AB.length:=by omega
    have Qy:=hc.1.C3 (f:=(a : Int)) (by simpa using Te)
    have Nx:=hc.1.DJ (f:=(a : Int)) (by simpa using Te)
    have RD:=OP a Te;rw [AR] at Qy Nx
    obtain ⟨x,hx⟩ : ∃ x : Nat,f.shape.AB.getD a default=x:=⟨_,(Int.toNat_of_nonneg Qy.1).symm⟩
    obtain ⟨y,hy⟩ : ∃ y : Nat,f.shape.to.getD a default=y:=⟨_,(Int.toNat_of_nonneg Nx.1).symm⟩;rw [hx,hy,AR,AR] at RD;rw [hx] at Qy;rw [hy] at Nx
    have Pd : x<f.A1.length:=by omega
    have Zi : y<f.A1.length:=by omega
    have jr:=Nq x Pd
    have yu:=Nq y Zi
    obtain ⟨n,hn⟩ : ∃ n : Nat,f.A1.getD x default=n:=⟨_,(Int.toNat_of_nonneg jr.1).symm⟩
    obtain ⟨ny,zB⟩ : ∃ n : Nat,f.A1.getD y default=n:=⟨_,(Int.toNat_of_nonneg yu.1).symm⟩;rw [hn] at RD jr;rw [zB] at RD yu
    have hlen : (f.AJ.getD a default).length=n:=by omega
    refine tt ?_;refine ⟨Te,by omega, ?_⟩;rw [hx,hy];refine tt ?_
    refine AD [2,4,5,8,9,10] (G:=Bool × List (List Int)) (fun d g=>[(7,some (.bool g.1)),(11,some (.int .i64 (d : Int)))])
     (fun d g H=>(Ns g.2≤P0∧(g.1=true→Ns g.2<P0)∧Jx f.A1 g.2∧(g.1=false→Cg f g.2 a∧eR f g.2 a d))∧A9 H0 H [(Bv,.cells 1 (g.2.map iL) 0),(B1,.cells 7 z7 0)]) n (more,CC) ⟨⟨II,E8,hK,fun q=>⟨hG q,fun d h=>absurd h (Nat.not_lt_zero d)⟩⟩,o⟩ rfl ?_
    clear o II E8 hK hG
    rintro d ⟨more,CC⟩ H hd ⟨⟨II,E8,hK,hG⟩,o⟩
    replace hG : more=false→Cg f CC a∧eR f CC a d:=hG
    replace II : Ns CC≤P0:=II
    replace E8 : more=true→Ns CC<P0:=E8
    replace hK : Jx f.A1 CC:=hK
    replace o : A9 H0 H [(Bv,.cells 1 (CC.map iL) 0),(B1,.cells 7 z7 0)]:=o
    have aT:=hK.row x Pd
    have Xr:=hK.len;rw [hn] at aT;refine tt ?_;refine ⟨Pd,CI o (by omega) ?_⟩
    have ecl : (CC.getD x default).length=n:=by omega
    refine tw ecl ?_;apply bk <;> intro h3
    ·have BH:=A6 h3
     have w3:=ws d;refine tt ?_
     refine AD [2,4,5,8,9,10,11] (G:=Bool × List (List Int)) (fun e g=>[(7,some (.bool g.1)),(12,some (.int .i64 (e : Int)))])
      (fun e g H=>(Ns g.2≤P0∧(g.1=true→Ns g.2<P0)∧Jx f.A1 g.2∧(g.1=false→Cg f g.2 a∧eR f g.2 a d∧pg f g.2 a d e))∧A9 H0 H [(Bv,.cells 1 (g.2.map iL) 0),(B1,.cells 7 z7 0)]) d (more,CC) ⟨⟨II,E8,hK,fun q=>⟨(hG q).1,(hG q).2,fun e h=>absurd h (Nat.not_lt_zero e)⟩⟩,o⟩ rfl ?_
     clear o II E8 hK hG aT Xr ecl
     rintro e ⟨more,CC⟩ H he ⟨⟨II,E8,hK,hG⟩,o⟩
     replace hG : more=false→Cg f CC a∧eR f CC a d∧pg f CC a d e:=hG
     replace II : Ns CC≤P0:=II
     replace E8 : more=true→Ns CC<P0:=E8
     replace hK : Jx f.A1 CC:=hK
     replace o : A9 H0 H [(Bv,.cells 1 (CC.map iL) 0),(B1,.cells 7 z7 0)]:=o
     have aT:=hK.row x Pd
     have hky:=hK.row y Zi
     have Xr:=hK.len;rw [hn] at aT;rw [zB] at hky;refine tt ?_;apply bk <;> intro h4
     ·have D9:=A6 h4
      have w4:=ws e
      have hu:=RD.2 _ (AE.mpr ⟨d,by omega,rfl⟩)
      have hv:=RD.2 _ (AE.mpr ⟨e,by omega,rfl⟩);refine tt ?_;refine ⟨Aq,by omega,Aq,by omega, ?_⟩
      generalize OV : (f.AJ.getD a default).getD d default=u at hu ⊢
      generalize RH : (f.AJ.getD a default).getD e default=v at hv ⊢;refine tt ?_;refine ⟨Pd,CI o (by omega) ?_⟩;refine tt ?_;refine ⟨by omega,Pd,CI o (by omega) ?_⟩;refine tt ?_;refine ⟨by omega, ?_⟩;apply bk <;> intro h5
      ·refine tw h5 ?_
       have yw : (CC.getD y default).length=ny:=by omega
       refine ⟨Zi,CI o (by omega) ?_⟩;refine tt ?_;refine ⟨⟨hu.1,by omega⟩,Zi,CI o (by omega) ?_⟩;refine tt ?_;refine ⟨⟨hv.1,by omega⟩, ?_⟩;apply bk <;> intro h6
       ·refine tt ?_
        have LZ:=dd h6
        have LZ : ix (CC.getD y default) u≠ix (CC.getD y default) v:=LZ
        have hul : 0≤u∧u.toNat<(CC.getD y default).length:=⟨hu.1,by omega⟩
        have pI : 0≤v∧v.toNat<(CC.getD y default).length:=⟨hv.1,by omega⟩
        have lC:=UR hul pI;rw [yw] at lC
        have hgl:=SX (n:=ny) (ps:=El (CC.getD y default)++[[u,v]]) fun q hq=>⟨(lC q hq).2.1.2,(lC q hq).2.2.2⟩
        have x8:=Ul (by rw [Kx,yw]) hul pI LZ hgl
        have Iv:=hK.set Zi (m:=HI ny (El (CC.getD y default)++[[u,v]])) (by rw [Kx,zB]) (fun w hw=>by rw [zB]; exact P5 hw) (MY _ _)
        have yY:=VS CC y _ (by omega) x8;refine ⟨Zi,Zi,CI o (by omega) ?_⟩;rw [zB];refine tt ?_;refine (Qc B (CC.getD y default) _ _ _ o).own fun lE A H o hA=>?_;subst hA
        have Nw : (El (CC.getD y default)).length=ny:=by rw [El,List.length_map,List.length_range,yw]
        refine tt ?_;refine Ae [u,v] o rfl rfl (by simp only [AN]; omega) fun lE H o=>tt ?_;refine Pu 1 rfl o rfl fun H o=>?_;refine (Rw B ny (by omega) (El (CC.getD y default)++[[u,v]]) lC).go fun _=>tt ?_;refine ⟨Zi,BT (f:=iL) (HI ny (El (CC.getD y default)++[[u,v]])) o rfl (by omega) fun H o=>?_⟩;refine tw w4 ?_;exact A4 (true,_) (by omega) ⟨⟨Nat.le_trans (Nat.le_of_lt yY) II,fun _=>Nat.lt_of_lt_of_le yY II,Iv,fun h=>absurd h (by simp)⟩,o⟩ rfl
       ·refine tw w4 ?_
        have LZ:=dd h6
        have GX : c8 f CC a d e:=fun _=>by rw [hy,AR,OV,RH]; exact LZ
        exact A4 (more,CC) (by omega) ⟨⟨II,E8,hK,fun q=>⟨(hG q).1,(hG q).2.1,AM (hG q).2.2 GX⟩⟩,o⟩ rfl
      ·refine t2 h5 w4 ?_
       have JB:=dd h5
       have GX : c8 f CC a d e:=fun q=>by rw [hx,AR] at q; exact absurd q JB
       exact A4 (more,CC) (by omega) ⟨⟨II,E8,hK,fun q=>⟨(hG q).1,(hG q).2.1,AM (hG q).2.2 GX⟩⟩,o⟩ rfl
     ·have D9:=A7 h4
      obtain rfl : e=d:=by omega
      refine tw w3 ?_;exact A4 (more,CC) (by omega) ⟨⟨II,E8,hK,fun q=>⟨(hG q).1,AM (hG q).2.1 (hG q).2.2⟩⟩,o⟩ rfl
    ·have BH:=A7 h3
     obtain rfl : d=n:=by omega
     refine tw w2 ?_;exact A4 (more,CC) (by omega) ⟨⟨II,E8,hK,fun q=>AM (hG q).1 (by rw [hlen]; exact (hG q).2)⟩,o⟩ rfl
   ·have Aq:=A7 h2
    obtain rfl : a=f.AJ.length:=by omega
    refine tt ?_
    cases more
    ·exact CJ (Ns CC) (false,CC) (by simp at Zz; omega) ⟨⟨by simp,hK,hG⟩,o⟩ rfl
    ·have:=E8 rfl;exact CJ (Ns CC+1) (true,CC) (by simp at Zz; omega) ⟨⟨by simp,hK,fun h=>absurd h (by simp)⟩,o⟩ rfl
  ·clear Zz
   have hCg:=hG rfl
   have Xr:=hK.len
   have hcx : ∀ x,x<f.A1.length→(CC.getD x default).length≤120:=fun x hx=>by have:=hK.row x hx; have:=Nq x hx; omega
   have iw : ∀ x,x<f.A1.length→(0≤Ib (CC.getD x default)∧Ib (CC.getD x default)≤f.A1.getD x default)∧∀ v,v∈CC.getD x default→v<Ib (CC.getD x default) :=
    fun x hx=>Pm (Nq x hx).1 (hK.Nt x hx)
   refine tt ?_;refine Am o Xr.symm fun H o=>tt ?_;refine (DI B f.shape).go fun _=>tt ?_;refine nb o fun Cm H o=>tt ?_;refine sw o fun H o=>?_
   let st : AV→AV→AG:=fun x5 x6=>.cells 7 [iI f.shape.AF,iL f.shape.AB,iL f.shape.to,iL f.shape.Ac,B5 f.shape.comp,x5,x6] 0
   refine tt ?_;refine AD [2,4,5,15] (G:=AV) (fun k X=>[(16,some (.int .i64 (k : Int)))]) (fun k X H=>CP iI H0 H ((Cm,st X .A0)::[(B1,.cells 7 z7 0)]) X ((CC.take k).map Ib)) CC.length .A0 (.inl ⟨rfl,rfl,o⟩) rfl ?_;clear o
   rintro k X H hk hX;refine tt ?_;apply bk <;> intro h1
   ·have AU:=A6 h1
    have w1:=ws k
    obtain ⟨p,o,hp⟩:=hX.split;clear hX
    have Zq:=hcx k (by omega)
    have kV:=hK.Nt k (by omega)
    have W6:=Nq k (by omega);refine tt ?_;refine AD [2,4,5,15,16] (G:=Unit) (fun e _=>[(17,some (.int .i64 (Ib ((CC.getD k default).take e)))),(18,some (.int .i64 (e : Int)))]) (fun e _ H=>A9 H0 H (p++((Cm,st X .A0)::[(B1,.cells 7 z7 0)]))) (CC.getD k default).length () o rfl ?_;clear o
    rintro e _ H he o;refine tt ?_;refine ⟨AU, ?_⟩;apply bk <;> intro h2
    ·have Aq:=A6 h2
     have w2:=ws e
     have hv:=kV _ (AE.mpr ⟨e,Aq,rfl⟩)
     have w3 : IntKind.i64.wrap ((CC.getD k default).getD e default+1)=(CC.getD k default).getD e default+1:=wrap_i64 (by omega) (by omega)
     have OQ:=Sm (CC.getD k default) Aq;refine tt ?_;refine ⟨AU,Aq, ?_⟩;rw [w3,← OQ];refine tw w2 ?_;exact A4 () (by omega) o rfl
    ·have Aq:=A7 h2
     obtain rfl : e=(CC.getD k default).length:=by omega
     rw [List.take_length]
     have hX:=CP.mk o hp;clear o;refine tt ?_;refine Aj hX.obj (by simp [st]) (tt ?_)
     have e7 : (CC.take k).map Ib++[Ib (CC.getD k default)]=(CC.take (k+1)).map Ib:=by rw [take_one CC AU]; simp
     refine hX.app (Ib (CC.getD k default)) rfl (by simp only [List.length_map,List.length_take,AN]; omega) fun Ac H o=>?_;rw [e7] at o ⊢;refine tt ?_;refine sw o.swap fun H o=>?_;refine tw w1 ?_;exact A4 _ (by omega) (.inr ⟨Ac,rfl,o.swap⟩) rfl
   ·have AU:=A7 h1
    obtain rfl : k=CC.length:=by omega
    rw [List.take_length] at hX
    obtain ⟨p5,o,jd⟩:=hX.split
    have o : A9 H0 H ((Cm,st X .A0)::(p5++[(B1,.cells 7 z7 0)])):=o.perm List.perm_middle;clear hX;refine tt ?_;refine AD [2,4,5,15] (G:=AV × List (List Int)) (fun a Y=>[(19,some (.int .i64 (a : Int)))]) (fun a Y H=>(Y.2.length=a∧∀ i : Nat,i<a→KR f CC i (Y.2.getD i default) (f.AJ.getD i default).length)∧CP iL H0 H ((Cm,st X Y.1)::(p5++[(B1,.cells 7 z7 0)])) Y.1 Y.2) f.AJ.length (.A0,[]) ⟨⟨rfl,fun i h=>absurd h (Nat.not_lt_zero i)⟩,.inl ⟨rfl,rfl,o⟩⟩ rfl ?_;clear o
    rintro a ⟨Y,RR⟩ H ha ⟨⟨w7,dI⟩,hY⟩
    replace dI : ∀ i : Nat,i<a→KR f CC i (RR.getD i default) (f.AJ.getD i default).length:=dI
    replace w7 : RR.length=a:=w7
    replace hY : CP iL H0 H ((Cm,st X Y)::(p5++[(B1,.cells 7 z7 0)])) Y RR:=hY;refine tt ?_;apply bk <;> intro h2
    ·have Aq:=A6 h2
     have w2:=ws a
     have Te : a<f.shape.AB.length:=by omega
     have Qy:=hc.1.C3 (f:=(a : Int)) (by simpa using Te)
     have Nx:=hc.1.DJ (f:=(a : Int)) (by simpa using Te)
     have RD:=OP a Te;rw [AR] at Qy Nx
     obtain ⟨x,hx⟩ : ∃ x : Nat,f.shape.AB.getD a default=x:=⟨_,(Int.toNat_of_nonneg Qy.1).symm⟩
     obtain ⟨y,hy⟩ : ∃ y : Nat,f.shape.to.getD a default=y:=⟨_,(Int.toNat_of_nonneg Nx.1).symm⟩;rw [hx,hy,AR,AR] at RD;rw [hx] at Qy;rw [hy] at Nx
     have Pd : x<f.A1.length:=by omega
     have Zi : y<f.A1.length:=by omega
     have jr:=Nq x Pd
     have aT:=hK.row x Pd
     have hky:=hK.row y Zi
     have lW:=iw x Pd;refine tt ?_;refine ⟨Te,by omega, ?_⟩;rw [hx,hy];refine tt ?_
     obtain ⟨HP,rfl,rfl⟩:=jd.sub (i:=x) (by rw [List.length_map]; omega);refine Aj hY.obj (by simp [st]) (tt ?_);refine ⟨by rw [List.length_map]; omega,D1 (f:=iI) (hY.get (x:=(HP,.cells 1 ((CC.map Ib).map iI) 0)) (by simp)) (by rw [List.length_map]; omega) ?_⟩;rw [BC Ib (show x<CC.length by omega)]
     obtain ⟨n,hn⟩ : ∃ n : Nat,Ib (CC.getD x default)=n:=⟨_,(Int.toNat_of_nonneg lW.1.1).symm⟩;rw [hn] at lW ⊢
     obtain ⟨q,o,hq⟩:=hY.split;clear hY;refine tt ?_;refine ⟨⟨by omega,by simp only [AN]; omega⟩,EI iI 0 rfl o fun xq H o=>?_⟩;refine tt ?_
     have Zr : (List.replicate n (0 : Int)).length=n:=List.length_replicate
     refine AD [2,4,5,15,19,20,21,22] (G:=List Int) (fun e _=>[(23,some (.int .i64 (e : Int)))])
      (fun e A H=>(A.length=n∧KR f CC a A e)∧A9 H0 H ((xq,.cells 1 (A.map iI) 0)::(q++((Cm,st (.buf HP (CC.map Ib).length) Y)::([(HP,.cells 1 ((CC.map Ib).map iI) 0)]++[(B1,.cells 7 z7 0)]))))) (CC.getD x default).length (List.replicate n 0) ⟨⟨Zr,by rw [hx,AR,hn,Zr],fun e h=>absurd h (Nat.not_lt_zero e)⟩,o⟩ rfl ?_
     clear o
     rintro e A H he ⟨⟨hA,Nz⟩,o⟩;refine tt ?_;refine ⟨by omega, ?_⟩;apply bk <;> intro h3
     ·have BH:=A6 h3
      have w3:=ws e
      have xY:=lW.2 _ (AE.mpr ⟨e,BH,rfl⟩)
      have Xc:=hK.Nt x Pd _ (AE.mpr ⟨e,BH,rfl⟩)
      have yV:=RD.2 _ (AE.mpr ⟨e,by omega,rfl⟩);refine tt ?_;refine ⟨by omega,BH,by omega,Aq,by omega,⟨yV.1,by omega⟩,⟨Xc.1,by omega⟩, ?_⟩
      have Iv:=Nz.set (hCg a Aq) (by omega) (fun e' oO=>by rw [hx,AR]; exact (hK.Nt x Pd _ (AE.mpr ⟨e',by omega,rfl⟩)).1) (by rw [hx,AR]; omega);rw [hx,hy,AR,AR] at Iv;refine BT (f:=iI) _ o rfl (by omega) fun H o=>?_;refine tw w3 ?_;exact A4 (A.set _ _) (by omega) ⟨⟨by rw [List.length_set]; exact hA,Iv⟩,o⟩ rfl
     ·have BH:=A7 h3
      obtain rfl : e=(CC.getD x default).length:=by omega
      have ER : KR f CC a A (f.AJ.getD a default).length:=by rw [show (f.AJ.getD a default).length=(CC.getD x default).length by omega]; exact Nz
      refine tt ?_;refine Am o hA.symm fun H o=>?_
      have hY:=CP.mk o hq;clear o;refine tt ?_;refine Aj hY.obj (by simp [st]) (tt ?_);refine hY.app A rfl (by simp only [AN]; omega) fun Ac H o=>tt ?_;refine sw o.swap fun H o=>?_;refine tw w2 ?_;exact A4 (.buf Ac (RR++[A]).length,RR++[A]) (by omega) ⟨⟨by show (RR++[A]).length=_; simp [w7],XB (P:=fun i r=>KR f CC i r (f.AJ.getD i default).length) w7 dI ER⟩,.inr ⟨Ac,rfl,o.swap⟩⟩ rfl
    ·have Aq:=A7 h2
     obtain rfl : a=f.AJ.length:=by omega
     refine tt ?_;refine FK 6 hY rfl fun H o=>?_;have o:=s1 o
     have hX:=CP.mk (o.perm List.perm_middle.symm) jd;clear o;refine FK 5 hX rfl fun H o=>AX ?_;have o:=s1 o;refine tt ?_;refine AO o (by simp) (tt ?_);refine sw o.swap fun H o=>tt ?_
     have hr:=o.rc 7 0 (by simp);simp only [List.drop_zero] at hr;rw [hr];exact B0 ⟨CC,⟨f.shape,CC.map Ib,RR⟩,rfl,hK,rfl,rfl,w7,dI⟩ o.sub
end Go.Proofs.Shf
namespace Go.Shf
open Go.AW
theorem P8 {α : Type} [Inhabited α] (n : Nat) (a : α) {i : Nat} (h : i<n) : (List.replicate n a).getD i default=a:=by
 rw [Go.AW.gE,List.getElem?_replicate,if_pos h]; rfl
section
variable {c : Ax} {n : Nat}
theorem LS (hc : c.Shape) {x : Int} (hx : 0≤x∧x<c.AF) : ix (CH c n).A1 x=n:=P8 _ _ (by have:=hc.o; omega)
theorem FO {a : Int} (ha : a.toNat<c.AB.length) : ix (CH c n).AJ a=(List.range n).map Int.ofNat:=P8 _ _ ha
theorem NW {i : Nat} (hi : i<n) : ((List.range n).map Int.ofNat).getD i default=i:=by rw [BC _ (by simpa using hi)]; simp [Go.AW.gE,hi]
theorem WV (hc : c.Is) (hn : n≤16) : (CH c n).Shape where
 is:=hc
 sl:=by have:=hc.1.o; simp only [CH,List.length_replicate]; omega
 al:=by simp [CH]
 sz y hy:=by
  have:=List.eq_of_mem_replicate hy;omega
 act a ha:=by
  have aX : a<c.AB.length:=by simpa [CH] using ha
  have e1 : (CH c n).AJ.getD a default=(List.range n).map Int.ofNat:=by
   have:=FO (c:=c) (n:=n) (a:=(a : Int)) (by simpa using aX)
   rwa [AR] at this
  have hf:=hc.1.C3 (f:=(a : Int)) (by simpa using aX)
  have ht:=hc.1.DJ (f:=(a : Int)) (by simpa using aX);rw [AR] at hf ht;rw [e1];refine ⟨?_,fun y hy=>?_⟩
  ·rw [show (CH c n).shape=c from rfl,LS hc.1 hf]; simp
  ·rw [show (CH c n).shape=c from rfl,LS hc.1 ht]
   obtain ⟨i,hi,rfl⟩:=List.mem_map.mp hy;rw [List.mem_range] at hi;simp only [Int.ofNat_eq_natCast]; omega
theorem WK (hc : c.Is) (hn : n≤16) : (CH c n).Is:=by
 refine ⟨WV hc hn,fun x hx e he=>?_,fun a b ha hb Xv e he=>?_⟩
 ·have Lv : x<c.Ac.length:=hx
  have hi:=hc.1.Ac _ (AE.mpr ⟨x,Lv,rfl⟩)
  have e1 : ix (CH c n).AJ ((CH c n).shape.Ac.getD x default)=(List.range n).map Int.ofNat:=FO (by show (c.Ac.getD x default).toNat<_; omega);rw [e1] at he ⊢;exact NW (by simpa using he)
 ·have aX : a<c.AB.length:=ha
  have MI : b<c.AB.length:=hb
  have hy:=hc.1.yes a b aX MI Xv
  have e1 : (CH c n).AJ.getD a default=(List.range n).map Int.ofNat:=by
   have:=FO (c:=c) (n:=n) (a:=(a : Int)) (by simpa using aX)
   rwa [AR] at this
  have e2 : (CH c n).AJ.getD b default=(List.range n).map Int.ofNat:=by
   have:=FO (c:=c) (n:=n) (a:=(b : Int)) (by simpa using MI)
   rwa [AR] at this
  have e3 : ix (CH c n).AJ (((CH c n).shape.comp.getD a default).getD b default)=(List.range n).map Int.ofNat:=FO (by show ((c.comp.getD a default).getD b default).toNat<_; omega);rw [e1] at he ⊢
  have Xu : e<n:=by simpa using he
  rw [e3,e2,NW Xu,AR,NW Xu]
end
end Go.Shf
namespace Go.Proofs.Shf
open Go.AW Go.Proofs Go.Shf
theorem NN (B : Nat) (mo ma : Int) : Rd B 304 [iI mo,iI ma] b8:=by
 intro id s H0 H hs o;refine qe.go fun _=>?_;refine tt ?_;refine Ai o fun Ba H o=>tt ?_;refine (E1 B mo ma).go hs o.swap fun r s H _ ⟨c,e,hc,_⟩ hs o=>?_;subst e;refine tt ?_;refine Ai o fun CT H o=>tt ?_;refine sw o fun H o=>tt ?_;refine (AY B 24).go hs o.swap fun r s H _ ⟨v,e,_⟩ hs o=>?_;subst e;refine tt ?_;apply bk <;> intro h1
 focus
  refine tt ?_;refine AO o.tl (by simp) (tt ?_);refine (JP B 20000 (by omega) c hc).go hs o fun r s H _ ⟨c2,e⟩ hs o=>?_;subst e;refine tt ?_;refine sw (o.pull [_,_]) fun H o=>?_
 rotate_left 1
 focus
  refine tt ?_;refine AO o.tl (by simp) (tt ?_);refine sw (o.pull [_,_]) fun H o=>?_
 all_goals
  refine tt ?_
  have CG:=o.rc 5 0 (by simp);simp only [List.drop_zero] at CG;rw [CG];refine tt ?_;exact B4 (jQ _ _ _ _ _) hs o.swap
theorem NR (B : Nat) : Rd B 296 [] b8:=by
 intro id s H0 H hs o;refine wJ.go fun _=>?_;refine tt ?_;refine Ai o fun GD H o=>tt ?_;refine (AY B 3).go hs o.swap fun r s H _ ⟨v,e,_⟩ hs o=>?_;subst e;refine tt ?_;apply bk <;> intro h1
 focus
  refine tt ?_;refine (NN B 2 6).go hs o fun r s H _ ⟨c,e⟩ hs o=>?_
 rotate_left 1
 focus
  refine tt ?_;refine (NN B 4 12).go hs o fun r s H _ ⟨c,e⟩ hs o=>?_
 all_goals
  subst e;refine tt ?_;refine sw o.swap fun H o=>tt ?_
  have CG:=o.rc 5 0 (by simp);simp only [List.drop_zero] at CG;rw [CG];exact B4 (jQ _ _ _ _ _) hs o.swap
theorem Vm {α : Type} (n x : Nat) : (List.replicate n ([] : List α)).getD x default=[]:=by
 rw [Go.AW.gE,List.getElem?_replicate]
 split <;> rfl
theorem Jp.add {sz : List Int} {PP : List (List (List Int))} (h : Jp sz PP) {x : Nat} (hx : x<sz.length) {a b : Int} (ha : 0≤a∧a<sz.getD x default) (hb : 0≤b∧b<sz.getD x default) :
  Jp sz (PP.set x (PP.getD x default++[[a,b]])):=by
 refine ⟨by rw [List.length_set]; exact h.1,fun y hy q hq=>?_⟩;rw [E5 _ _ (by rw [h.1]; exact hx)] at hq
 by_cases e : y=x
 ·rw [if_pos e] at hq;subst e
  rcases List.mem_append.mp hq with hq | hq
  ·exact h.2 y hy q hq
  ·rw [List.mem_singleton] at hq;subst hq;exact ⟨by simp,ha,hb⟩
 ·rw [if_neg e] at hq; exact h.2 y hy q hq
def vI (c : Ax) (size : Int) (r : AV) : Prop:=∃ f : SF,r=.agg f.cells∧f.shape=c∧f.AJ.length≤40∧(size≤16→f.Is∧∀ y,y∈f.A1→y≤max size 2)
theorem LD (B : Nat) (c : Ax) (hc : c.Is) (size : Int) (JC : 0≤size∧size≤1000) : Rd B 164 [.agg c.cells,iI size] (vI c size):=by
 intro id s H0 H hs o;refine sU.go fun _=>?_
 have hm:=hc.1.m
 have Ee:=hc.1.o;refine tt ?_;refine nb o fun Ba H o=>tt ?_;refine AD [0,2,4,6] (G:=Src) (fun k _=>[(7,some (.int .i64 (k : Int)))]) (fun k s H=>s.Ok∧A9 H0 H [(id,s.obj),(Ba,.cells 7 z7 0)]) 6 s ⟨hs,o.swap⟩ rfl ?_;clear o hs
 rintro k s H hk ⟨hs,o⟩;refine tt ?_;apply bk <;> intro h1
 ·have AU:=A6 h1
  have w1:=ws k;refine tt ?_;refine Az iI o fun Cm H o=>tt ?_;refine (AY B 4).go hs o.swap fun r s H _ ⟨v,e,v0,v1,_⟩ hs o=>?_;subst e
  have hv:=v1 (by omega)
  obtain ⟨n,rfl⟩ : ∃ n : Nat,v=n:=⟨_,(Int.toNat_of_nonneg v0).symm⟩;clear v0 v1;refine tt ?_
  refine E3 [0,2,4,6,7] (G:=Src × (Nat × List Int) × Nat) (fun g=>[(8,some (.buf g.2.1.1 g.2.1.2.length)),(9,some (.int .i64 (g.2.2 : Int)))])
   (fun m g H=>m=g.2.2∧g.1.Ok∧g.2.1.2.length+g.2.2≤3∧A9 H0 H [(id,g.1.obj),(g.2.1.1,.cells 1 (g.2.1.2.map iI) 0),(Ba,.cells 7 z7 0)]) n (s,(Cm,[]),n) ⟨rfl,hs,by simp; omega,o⟩ rfl ?_
  clear o hs
  rintro m ⟨s,⟨Cm,os⟩,n⟩ H ⟨zt,hs,yT,o⟩;dsimp only at zt hs yT o;refine tt ?_;apply bk <;> intro h2
  focus
   refine tw h2 ?_;apply bk <;> intro h3
   focus
    have Aq:=A6 h2
    have w2 : IntKind.i64.wrap ((n : Int) - 1)=((n - 1 : Nat) : Int):=by rw [wrap_i64 (by omega) (by omega)]; omega
    refine tw h3 ?_;refine (AY B c.AF).go hs o fun r s H _ ⟨v,e,_⟩ hs o=>?_;subst e;refine tt ?_;refine Ae v o.swap rfl rfl (by simp only [AN]; omega) fun Cm H o=>?_;refine tw w2 ?_;exact CJ (n - 1) (s,(Cm,os++[v]),n - 1) (by omega) ⟨rfl,hs,by simp; omega,o.swap⟩ rfl
   refine tw h3 ?_
  rotate_left 1
  focus
   refine tw h2 ?_
  all_goals
   refine Am o.swap rfl fun H o=>tt ?_;refine (SI B c hc os (by omega)).go fun r _ ⟨e,hf⟩=>?_
   obtain ⟨f,zm⟩ : ∃ f,f=Dy c os:=⟨_,rfl⟩;rw [← zm] at e hf;subst e;refine tt ?_;refine nb o fun HZ H o=>tt ?_;refine sw o fun H o=>tt ?_;refine ⟨⟨by omega,by simp only [AN]; omega⟩, ?_⟩;rw [IX];refine AP o fun IL H o=>tt ?_;refine (AY B 4).go hs (o.pull [_,_]) fun r s H _ ⟨v,e,v0,v1,_⟩ hs o=>?_;subst e
   have hv:=v1 (by omega)
   obtain ⟨n,rfl⟩ : ∃ n : Nat,v=n:=⟨_,(Int.toNat_of_nonneg v0).symm⟩;clear v0 v1;refine tt ?_
   have Im:=hf.sl
   have hzf : ∀ x,x<f.A1.length→0≤f.A1.getD x default∧f.A1.getD x default≤120:=fun x hx=>hf.sz _ (AE.mpr ⟨x,hx,rfl⟩)
   refine E3 [0,2,4,6,7,10,11] (G:=Src × (List AV × List (List (List Int)) × Ob) × Nat) (fun g=>[(12,some (.int .i64 (g.2.2 : Int)))])
    (fun m g H=>m=g.2.2∧g.1.Ok∧ED iL g.2.1.1 g.2.1.2.1 g.2.1.2.2∧Jp f.A1 g.2.1.2.1∧(∀ x,(g.2.1.2.1.getD x default).length+g.2.2≤3) ∧
     A9 H0 H ((id,g.1.obj)::(IL,.cells 1 g.2.1.1 0)::(g.2.1.2.2++[(HZ,AG.cells 7 f.cells 0),(Ba,AG.cells 7 z7 0)]))) n (s,(List.replicate c.AF.toNat .A0,List.replicate c.AF.toNat [],[]),n)
    ⟨rfl,hs,ED.rep iL _,⟨by rw [List.length_replicate]; omega,fun x hx q hq=>by rw [show (List.replicate c.AF.toNat ([] : List (List Int))).getD x default=[] from Vm _ _] at hq; simp at hq⟩,fun x=>by
     rw [show (List.replicate c.AF.toNat ([] : List (List Int))).getD x default=[] from Vm _ _]; simp; omega,o⟩ rfl ?_
   clear o hs
   rintro m ⟨s,⟨Xs,PP,ob⟩,n⟩ H ⟨zt,hs,hR,yR,pA,o⟩;dsimp only at zt hs hR yR pA o
   have Iw:=hR.len
   have hPPl:=yR.1
   have hn3 : n≤3:=by have:=pA 0; omega
   refine tt ?_;apply bk <;> intro k2
   focus
    refine tw k2 ?_;apply bk <;> intro k3
    focus
     have k2p:=A6 k2
     have k3p:=A6 k3
     have w2 : IntKind.i64.wrap ((n : Int) - 1)=((n - 1 : Nat) : Int):=by rw [wrap_i64 (by omega) (by omega)]; omega
     refine tw k3 ?_;refine (AY B c.AF).go hs o fun r s H _ ⟨x,e,x0,x1,_⟩ hs o=>?_;subst e
     have oS:=x1 (by omega)
     obtain ⟨x,rfl⟩ : ∃ n : Nat,x=n:=⟨_,(Int.toNat_of_nonneg x0).symm⟩;clear x0 x1
     have Pd : x<f.A1.length:=by omega
     have jr:=hzf x Pd
     have Zu : H.get HZ=some (.cells 7 f.cells 0):=o.get (HZ,_) (by simp);refine tt ?_;refine Aj Zu (by simp [SF.cells]) (tt ?_);refine ⟨Pd, ?_⟩;apply bk <;> intro k4
     ·have k4p:=A6 k4;refine tt ?_;refine ⟨by omega,⟨_,_,o.tl.h0⟩,Aj o.tl.h0 (by omega) ?_⟩;refine tt ?_;refine ⟨⟨_,_,Zu⟩,Aj Zu (by simp [SF.cells]) ?_⟩;refine tt ?_;refine ⟨Pd,⟨_,_,Zu⟩,Aj Zu (by simp [SF.cells]) ?_⟩;refine tt ?_;refine ⟨Pd, ?_⟩;refine (AY B _).IE hs o fun r s H _ ⟨a,e,a0,a1,_⟩ hs o hz=>⟨hz, ?_⟩;subst e
      have ha1:=a1 (by omega);refine tt ?_;refine (AY B _).IE hs o fun r s H _ ⟨b,e,b0,b1,_⟩ hs o hz=>⟨hz, ?_⟩;subst e
      have RE:=b1 (by omega);refine tt ?_
      have o : A9 H0 H ((IL,.cells 1 Xs 0)::(ob++[(id,s.obj),(HZ,.cells 7 f.cells 0),(Ba,.cells 7 z7 0)])):=o.pm;refine Hv o hR (by omega) [a,b] rfl (by show (PP.getD _ default).length+1≤AN; have:=pA x; simp only [AN]; omega) fun X' o' H V1 hR o=>?_;try simp only [go_sem,↓reduceIte,reduceEqDiff,reduceAdd,reduceMul,reduceLeDiff,reduceLT,AV.DH V1]
      refine ⟨by omega,AS o (by omega) rfl (by simp only [Gk,JL]; exact ⟨V1,trivial⟩) fun H o=>?_⟩;simp only [Ej,Gv] at o;refine tw w2 ?_;refine CJ (n - 1) (s,(Xs.set x X',PP.set x (PP.getD x default++[[a,b]]),o'),n - 1) (by omega) ⟨rfl,hs,hR,yR.add Pd ⟨a0,ha1⟩ ⟨b0,RE⟩,fun y=>?_,(by simp only [SF.cells] at o; exact o.pm)⟩ rfl
      show ((PP.set x (PP.getD x default++[[a,b]])).getD y default).length+(n - 1)≤3
      rw [E5 _ _ (by omega)]
      have:=pA y
      split
      ·rename_i e; subst e; rw [List.length_append,List.length_singleton]; omega
      ·omega
     ·refine tw w2 ?_;exact CJ (n - 1) (s,(Xs,PP,ob),n - 1) (by omega) ⟨rfl,hs,hR,yR,fun x=>by have:=pA x; show (PP.getD x default).length+(n - 1)≤3; omega,o⟩ rfl
    refine tw k3 ?_
   rotate_left 1
   focus
    refine tw k2 ?_
   all_goals
    have o : A9 H0 H ((IL,.cells 1 Xs 0)::(ob++[(id,s.obj),(HZ,.cells 7 f.cells 0),(Ba,.cells 7 z7 0)])):=o.pm;refine EA hR [] H o fun H o=>AX ?_;rw [List.nil_append] at o
    have o : A9 H0 H ((IL,.cells 1 (PP.map B5) 0)::[(id,s.obj),(HZ,.cells 7 f.cells 0),(Ba,.cells 7 z7 0)]):=o;refine tt ?_;refine Am (f:=B5) o (by omega) fun H o=>tt ?_;refine AO o.tl (by simp [SF.cells]) (tt ?_);refine (Rl B f c hc hf PP yR).go fun r TT ⟨CC,f2,e,Zy,hQ⟩=>?_;subst e
    have HB:=AZ (TT.agg (c:=iL f2.A1) (by simp [SF.cells]));simp only [AN] at HB;clear TT;refine tt ?_;refine AS o.swap (by simp [SF.cells]) (by (try simp only [go_sem]); (try simp)) (by first | (simp only [go_sem]; done) | ((try simp only [go_sem]); simp [AV.one,Ay])) fun H o=>?_;have o:=s2 o;refine tt ?_;refine AD [0,2,4,6,7,10] (G:=Bool) (fun k b=>[(14,some (.bool b)),(15,some (.int .i64 (k : Int)))]) (fun k b H=>(b=true→∀ i : Nat,i<k→f2.A1.getD i default≤size)∧A9 H0 H [(HZ,AG.cells 7 f2.cells 0),(id,s.obj),(Ba,AG.cells 7 z7 0)]) f2.A1.length true ⟨fun _ i h=>absurd h (Nat.not_lt_zero i),o⟩ rfl ?_;clear o
    rintro q sm H hq ⟨yO,o⟩
    replace o : A9 H0 H [(HZ,.cells 7 f2.cells 0),(id,s.obj),(Ba,.cells 7 z7 0)]:=o;refine tt ?_;refine AH o (by simp [SF.cells]) (tt ?_);apply bk <;> intro j1
    ·have j1p:=A6 j1
     have w3:=ws q;refine tt ?_
     cases sm
     ·refine tw w3 ?_;exact A4 false (by omega) ⟨fun h=>absurd h (by simp),o⟩ rfl
     ·refine tt ?_;refine AH o (by simp [SF.cells]) (tt ?_);refine ⟨j1p, ?_⟩;refine tw w3 ?_;exact A4 _ (by omega) ⟨fun h=>AM (yO rfl) (by simpa using h),o⟩ rfl
    ·have j1p:=A7 j1;refine tt ?_
     cases sm
     ·refine tw w1 ?_;exact A4 s (by omega) ⟨hs,o.tl⟩ rfl
     ·refine tt ?_;refine AO o (by simp [SF.cells]) (tt ?_);refine sw (o.pull [_,_]) fun H o=>tt ?_
      have hr:=o.rc 7 0 (by simp);simp only [List.drop_zero] at hr;rw [hr]
      have hle : ∀ y,y∈f2.A1→y≤size:=fun y hy=>by
       obtain ⟨i,hi,rfl⟩:=AE.mp hy;exact yO rfl i (by omega)
      have Tc:=hQ.al
      have Nk:=hf.al;exact B4 ⟨f2,rfl,hQ.sh.trans hf.sh,by omega,fun yl=>⟨Vp.is (os:=os) hc (by rw [← zm]; exact Zy.toClsOk) (fun x hx=>Zy.ct x (by rw [← Zy.len]; exact hx)) (by rw [← zm]; exact hQ) fun y hy=>by have:=hle y hy; omega,fun y hy=>by have:=hle y hy; omega⟩⟩ hs (o.pull [_,_])
 ·have AU:=A7 h1;refine tt ?_
  have hw : IntKind.i64.wrap ((if false=true then if 2 > size then 2 else size else if 2<size then 2 else size)+1)=min size 2+1:=by
   rw [if_neg (by decide)]
   split <;> rw [wrap_i64 (by omega) (by omega)] <;> omega
  rw [hw];refine (AY B _).go hs o fun r s H _ ⟨v,e,v0,v1,_⟩ hs o=>?_;subst e
  have hv:=v1 (by omega);refine tt ?_;refine ⟨_,(Mk B c hc.1 v ⟨v0,by omega⟩).run,tt ?_⟩;refine sw o.swap fun H o=>tt ?_
  have hr:=o.rc 7 0 (by simp);simp only [List.drop_zero] at hr;rw [hr]
  obtain ⟨w,rfl⟩ : ∃ w : Nat,v=w:=⟨_,(Int.toNat_of_nonneg v0).symm⟩
  exact B4 ⟨CH c w,rfl,rfl,by simp [CH]; omega,fun yl=>⟨WK hc (by omega),fun y hy=>by
   simp only [CH,List.mem_replicate,List.mem_map] at hy; omega⟩⟩ hs o.swap
end Go.Proofs.Shf
namespace Go.Shf
open Go.AW
theorem Ax.Shape.sh {c : Ax} (h : c.Shape) : c.Sh 40:=⟨by have:=h.o; omega,h.il,h.m,h.L5,h.cl,h.row⟩
end Go.Shf
namespace Go.Proofs.Shf
open Go.AW Go.Proofs Go.Shf
theorem YH (i : Decidable True) : @decide True i=true:=decide_eq_true trivial
def OFb (f : SF) (p : Ob) (X : AV) : Prop:=∃ z d Xs ob,X=.agg [iI f.shape.AF,iL f.shape.AB,iL f.shape.to,iL f.shape.Ac,B5 f.shape.comp,.buf z f.A1.length,.buf d Xs.length]∧ED iI Xs f.AJ ob ∧
 p=(z,.cells 1 (f.A1.map iI) 0)::(d,.cells 1 Xs 0)::ob
theorem Ud (B : Nat) (f : SF) : ID Tryz.prog B 234 [.agg f.cells] (OFb f):=by
 refine ⟨fun H0=>u5.go fun _=>?_⟩
 have o : A9 H0 H0 []:=.nil _;refine tt ?_;refine nb o fun id H o=>tt ?_;refine ⟨_,(DI B f.shape).run,tt ?_⟩;refine ID.go' (E7 B f.A1) o fun X1 p1 H ⟨z,e1,e2⟩ o hs=>⟨hs, ?_⟩;subst e1 e2;refine tt ?_;refine ID.go' (IF B f.AJ) o fun X1 p1 H ⟨d,Xs,ob,e1,h,e2⟩ o hs=>⟨hs, ?_⟩;subst e1 e2;refine tt ?_
 have o : A9 H0 H ((id,AG.cells 7 [.int .i64 0,.A0,.A0,.A0,.A0,.A0,.A0] 0)::(z,AG.cells 1 (f.A1.map iI) 0)::(d,AG.cells 1 Xs 0)::ob):=o.pm;refine sw o fun H o=>tt ?_
 have hr:=o.rc 7 0 (by simp);simp only [List.drop_zero] at hr;rw [hr];exact ⟨H,.refl H,_,⟨z,d,Xs,ob,rfl,h,rfl⟩,o.tl⟩
theorem tH {F : Env→AA→Prop} {σ : Env} {H0 H : AA} {l : Ob} {id fr : Nat} {c : Ax} {z d : Nat} {S : List Int} {Xs : List AV} {As : List (List Int)} {ob : Ob} (h : ED iI Xs As ob)
  (o : A9 H0 H ((id,.cells 7 [iI c.AF,iL c.AB,iL c.to,iL c.Ac,B5 c.comp,.buf z S.length,.buf d Xs.length] fr)::(z,.cells 1 (S.map iI) 0)::(d,.cells 1 Xs 0)::(ob++l)))
  (hk : ∀ H',A9 H0 H' ((id,.cells 7 (SF.cells ⟨c,S,As⟩) fr)::l)→EX F σ H') : EX F σ H:=by
 have hl:=h.len
 have od : A9 H0 H ((d,.cells 1 Xs 0)::(ob++((id,.cells 7 [iI c.AF,iL c.AB,iL c.to,iL c.Ac,B5 c.comp,.buf z S.length,.buf d Xs.length] fr)::(z,.cells 1 (S.map iI) 0)::l))):=o.pm;refine EA h [] H od fun H o=>?_;simp only [List.nil_append] at o;rw [hl] at o
 have o : A9 H0 H ((id,.cells 7 [iI c.AF,iL c.AB,iL c.to,iL c.Ac,B5 c.comp,.buf z S.length,.buf d As.length] fr)::(z,.cells 1 (S.map iI) 0)::(d,.cells 1 (As.map iL) 0)::l):=o.pm;refine B6 5 o rfl rfl fun H o=>?_;have o:=s1 o;refine B6 6 o rfl rfl fun H o=>?_;have o:=s1 o;exact hk H o
@[go_sem] def DP (C9 : Nat) (c : Ax) (z : Nat) (S : List Int) (d : Nat) (Xs : List AV) (l : Ob) : Ob :=
 (C9,.cells 7 [iI c.AF,iL c.AB,iL c.to,iL c.Ac,B5 c.comp,.buf z S.length,.buf d Xs.length] 0)::(z,.cells 1 (S.map iI) 0)::(d,.cells 1 Xs 0)::l
def uR (f : SF) (r : AV) : Prop:=∃ f2 : SF,r=.agg f2.cells∧(f2.shape=f.shape∨(f2.A1=f.A1∧f2.AJ=f.AJ))
theorem Tk (B : Nat) (f : SF) (hc : f.shape.Shape) (xh : f.AJ.length≤40) : Rd B 165 [.agg f.cells] (uR f):=by
 intro id s H0 H hs o
 obtain ⟨c,S,A⟩:=f;dsimp only at xh;refine wW.go fun Zj=>?_
 have HB:=AZ (Zj.2.1.agg (c:=iL S) (by simp [SF.cells]))
 have dH:=AZ (Zj.2.1.agg (c:=B5 A) (by simp [SF.cells]));simp only [AN] at HB dH;clear Zj;refine tt ?_;refine nb o fun C9 H o=>tt ?_;refine nb o fun B1 H o=>tt ?_;refine AO o.tl (by simp) (tt ?_);refine ID.go' (Ud B ⟨c,S,A⟩) o fun X1 p1 H ⟨z,d,Xs,ob,e1,hX,e2⟩ o _=>?_;subst e1 e2
 have Iw:=hX.len;simp only at hX Iw;refine tt ?_
 have o : A9 H0 H ((C9,AG.cells 7 [iI c.AF,iL c.AB,iL c.to,iL c.Ac,B5 c.comp,iL S,B5 A] 0)::(z,.cells 1 (S.map iI) 0)::(d,.cells 1 Xs 0)::(ob++[(id,s.obj),(B1,AG.cells 7 [.int .i64 0,.A0,.A0,.A0,.A0,.A0,.A0] 0)])):=o.pm;refine sw o fun H o=>tt ?_
 have DA : ∀ {H : AA} {s : Src} {Xs : List AV} {ob : Ob} {c : Ax} {z d : Nat} {S : List Int},A9 H0 H (DP C9 c z S d Xs (ob++[(id,s.obj),(B1,AG.cells 7 [.int .i64 0,.A0,.A0,.A0,.A0,.A0,.A0] 0)])) →
   A9 H0 H ((id,s.obj)::DP C9 c z S d Xs (ob++[(B1,AG.cells 7 [.int .i64 0,.A0,.A0,.A0,.A0,.A0,.A0] 0)])):=by
  intro H s Xs ob c z d S o;unfold DP at o ⊢;exact o.pm
 have o:=DA (by unfold DP; exact o);refine (AY B 5).go hs o fun r s H _ ⟨v,e,v0,v1,_⟩ hs o=>?_;subst e;unfold DP at o;refine tt ?_
 have Uz : ∀ {c' : Ax} {z' d' : Nat} {S' : List Int} {Xs' : List AV} {A' : List (List Int)} {ob' : Ob} {F : Env→AA→Prop} {σ : Env} {H : AA} {s : Src},ED iI Xs' A' ob' →
   A9 H0 H ((id,s.obj)::DP C9 c' z' S' d' Xs' (ob'++[(B1,AG.cells 7 [.int .i64 0,.A0,.A0,.A0,.A0,.A0,.A0] 0)])) →
   (∀ H',A9 H0 H' ((C9,.cells 7 (SF.cells ⟨c',S',A'⟩) 0)::[(id,s.obj),(B1,AG.cells 7 [.int .i64 0,.A0,.A0,.A0,.A0,.A0,.A0] 0)])→F σ H')→EX F σ H:=by
  intro c' z' d' S' Xs' A' ob' F σ H s hR o hk;unfold DP at o
  have od : A9 H0 H ((C9,.cells 7 [iI c'.AF,iL c'.AB,iL c'.to,iL c'.Ac,B5 c'.comp,.buf z' S'.length,.buf d' Xs'.length] 0)::(z',.cells 1 (S'.map iI) 0)::(d',.cells 1 Xs' 0)::(ob'++[(id,s.obj),(B1,AG.cells 7 [.int .i64 0,.A0,.A0,.A0,.A0,.A0,.A0] 0)])):=o.pm;exact tH hR od fun H o=>AX (hk H o)
 apply bk <;> intro h0
 focus
  refine tt ?_;refine AO o.tl (by simp) (tt ?_);refine (JP B 40 (by omega) c (show c.Shape from hc).sh).go hs o fun r s H _ ⟨c2,e⟩ hs o=>?_;subst e;refine tt ?_;refine sw o.swap fun H o=>?_
  have o : A9 H0 H ((id,s.obj)::DP C9 c2 z S d Xs (ob++[(B1,AG.cells 7 [.int .i64 0,.A0,.A0,.A0,.A0,.A0,.A0] 0)])):=by unfold DP; exact o.swap
  refine tt ?_;refine Uz hX o fun H o=>?_
 rotate_left 1
 focus
  refine tt ?_;apply bk <;> intro h1
  focus
   refine tt ?_;refine AH o.tl (by simp) (tt ?_);apply bk <;> intro h2
   focus
    have Aq:=A6 h2;refine tt ?_
    have Xe:=o.tl.h0;simp only at Xe;refine ⟨⟨_,_,Xe⟩,Aj Xe (by simp) ?_⟩;refine tt ?_;refine ⟨⟨_,_,Xe⟩,Aj Xe (by simp) ?_⟩;refine tt ?_;refine (AY B _).IE hs o fun r s H _ ⟨i,e,i0,i1,_⟩ hs o hz=>⟨hz, ?_⟩;subst e
    have hi:=i1 (by omega);refine tt ?_;refine (N0 B [-1,0,1,2,17] (by simp)).IE hs o fun r s H _ ⟨y,e,_⟩ hs o hz=>⟨hz, ?_⟩;subst e;refine tt ?_;refine ⟨⟨i0,by omega⟩, ?_⟩;refine BT (f:=iI) y (o.pull [_,_]) rfl (by omega) fun H o=>?_
    have o : A9 H0 H ((id,s.obj)::DP C9 c z (S.set i.toNat y) d Xs (ob++[(B1,AG.cells 7 [.int .i64 0,.A0,.A0,.A0,.A0,.A0,.A0] 0)])):=by unfold DP; rw [List.length_set]; exact o.pm
    refine tt ?_;refine Uz hX o fun H o=>?_
   rotate_left 1
   focus
    have o : A9 H0 H ((id,s.obj)::DP C9 c z S d Xs (ob++[(B1,AG.cells 7 [.int .i64 0,.A0,.A0,.A0,.A0,.A0,.A0] 0)])):=by unfold DP; exact o
    refine tt ?_;refine Uz hX o fun H o=>?_
  rotate_left 2
  focus
   have MG:=A7 h0
   have AU:=A7 h1
   have v5:=v1 (by omega)
   have c32 : decide ((3 : Int)=2)=false:=rfl
   have c42 : decide ((4 : Int)=2)=false:=rfl
   have qb : decide ((4 : Int)=3)=false:=rfl
   obtain rfl | rfl | rfl : v=2∨v=3∨v=4:=by omega
   rotate_left 2
   focus
    try simp only [go_sem,↓reduceIte,reduceEqDiff,reduceAdd,reduceMul,reduceLeDiff,reduceLT,c42,qb,YH]
    refine AH o.tl (by simp) (tt ?_);refine AP o fun O0 H o=>tt ?_
    have o : A9 H0 H ((d,.cells 1 Xs 0)::((O0,.cells 1 [] 0)::(id,s.obj)::(C9,.cells 7 [iI c.AF,iL c.AB,iL c.to,iL c.Ac,B5 c.comp,.buf z S.length,.buf d Xs.length] 0)::(z,.cells 1 (S.map iI) 0)::(ob++[(B1,AG.cells 7 [.int .i64 0,.A0,.A0,.A0,.A0,.A0,.A0] 0)]))):=o.pm;refine VF o rfl rfl rfl (by simp only [AN]; omega) fun d H o=>tt ?_;refine sw (o.pull [_,_,_]) fun H o=>?_
    have Uw:=hX.eO (p:=[(O0,.cells 1 [] 0)]) (X:=.buf O0 0) (A:=[]) (.inr ⟨O0,rfl,rfl⟩)
    have o : A9 H0 H ((id,s.obj)::DP C9 c z S d (Xs++[.buf O0 0]) ((ob++[(O0,.cells 1 [] 0)])++[(B1,AG.cells 7 [.int .i64 0,.A0,.A0,.A0,.A0,.A0,.A0] 0)])):=by
     unfold DP;rw [List.length_append,List.length_singleton];exact o.pm
    refine tt ?_;refine Uz Uw o fun H o=>tt ?_;refine AO o (by simp [SF.cells]) (tt ?_);refine sw (o.pull [_,_]) fun H o=>tt ?_
    have hr:=o.rc 7 0 (by simp);simp only [List.drop_zero] at hr;rw [hr];exact B4 ⟨⟨_,_,_⟩,rfl,by first | exact .inl rfl | exact .inr ⟨rfl,rfl⟩⟩ hs (o.pull [_,_])
   all_goals
    try simp only [go_sem,↓reduceIte,reduceEqDiff,reduceAdd,reduceMul,reduceLeDiff,reduceLT,c32,YH]
    refine AH o.tl (by simp) (tt ?_);refine (AY B _).go hs o fun r s H _ ⟨a,e,a0,a1,a2⟩ hs o=>?_;subst e
    obtain ⟨a,rfl⟩ : ∃ n : Nat,a=n:=⟨_,(Int.toNat_of_nonneg a0).symm⟩;clear a0 a2
    have Xe:=o.tl.h0;simp only at Xe
    have Ha : H.get d=some (.cells 1 Xs 0):=o.get (d,.cells 1 Xs 0) (by simp);refine tt ?_;refine Aj Xe (by simp) (tt ?_);apply bk <;> intro k1
    focus
     have k1p:=A6 k1
     have ha:=a1 (by omega)
     have hi : a<Xs.length:=by omega
     obtain ⟨pr,rr,_,xn,_⟩:=hX.split a hi
     have hlr:=xn.Ds;refine tw k1 ?_;refine Aj Xe (by simp) (tt ?_);refine ⟨hi,Aj Ha hi ?_⟩;refine tw hlr ?_;apply bk <;> intro k2
     focus
      have k2p:=A6 k2
      obtain ⟨Bt,er,Iv⟩:=hX.row hi (by omega);refine tw k2 ?_;refine ⟨⟨_,_,Xe⟩,Aj Xe (by simp) ?_⟩;refine tt ?_;refine ⟨hi,⟨_,_,Ha⟩,Aj Ha hi ?_⟩;refine tt ?_;refine ⟨⟨_,_,Xe⟩,Aj Xe (by simp) ?_⟩;refine tt ?_;refine ⟨hi,⟨_,_,Ha⟩,Aj Ha hi ?_⟩;rw [er];refine tt ?_;refine (AY B _).IE hs o fun r s H _ ⟨i,e,i0,i1,_⟩ hs o hz=>⟨hz, ?_⟩;subst e
      have dV:=i1 (by omega);refine (AY B _).IE hs o fun r s H _ ⟨y1,e,_⟩ hs o hz=>⟨hz, ?_⟩;subst e;refine (AY B _).IE hs o fun r s H _ ⟨y2,e,_⟩ hs o hz=>⟨hz, ?_⟩;subst e;refine tt ?_;refine ⟨by omega, ?_⟩
      generalize IntKind.i64.wrap (y1 - _)=y3;refine ⟨⟨i0,by omega⟩, ?_⟩
      have od : A9 H0 H ((d,.cells 1 Xs 0)::(ob++[(id,s.obj),(C9,.cells 7 [iI c.AF,iL c.AB,iL c.to,iL c.Ac,B5 c.comp,.buf z S.length,.buf d Xs.length] 0),(z,.cells 1 (S.map iI) 0),(B1,AG.cells 7 [.int .i64 0,.A0,.A0,.A0,.A0,.A0,.A0] 0)])):=o.pm;refine Iv od i.toNat (by omega) y3 rfl fun H ob' Iq o=>?_
      have o : A9 H0 H ((id,s.obj)::DP C9 c z S d Xs (ob'++[(B1,AG.cells 7 [.int .i64 0,.A0,.A0,.A0,.A0,.A0,.A0] 0)])):=by unfold DP; exact o.pm
      refine tt ?_;refine Uz Iq o fun H o=>?_
     rotate_left 1
     focus
      refine tw k2 ?_
      have o : A9 H0 H ((id,s.obj)::DP C9 c z S d Xs (ob++[(B1,AG.cells 7 [.int .i64 0,.A0,.A0,.A0,.A0,.A0,.A0] 0)])):=by unfold DP; exact o
      refine Uz hX o fun H o=>?_
    rotate_left 2
    focus
     refine tw k1 ?_
     have o : A9 H0 H ((id,s.obj)::DP C9 c z S d Xs (ob++[(B1,AG.cells 7 [.int .i64 0,.A0,.A0,.A0,.A0,.A0,.A0] 0)])):=by unfold DP; exact o
     refine Uz hX o fun H o=>?_
 all_goals
  refine tt ?_;refine AO o (by simp [SF.cells]) (tt ?_);refine sw (o.pull [_,_]) fun H o=>tt ?_
  have hr:=o.rc 7 0 (by simp);simp only [List.drop_zero] at hr;rw [hr];exact B4 ⟨⟨_,_,_⟩,rfl,by first | exact .inl rfl | exact .inr ⟨rfl,rfl⟩⟩ hs (o.pull [_,_])
def tB (c : Ax) (size : Int) (r : AV) : Prop:=∃ f : SF,r=.agg f.cells∧(c.Is→size≤16→f.Is→SF.Is ⟨c,f.A1,f.AJ⟩)
theorem LQ (B : Nat) (c : Ax) (size : Int) (JC : 0≤size∧size≤1000) : Rd B 52 [.agg c.cells,iI size] (tB c size):=by
 intro id s H0 H hs o;refine uw.go fun _=>?_;refine tt ?_;refine nb o fun Ba H o=>tt ?_;refine (Jk B c).go fun _=>tt ?_
 by_cases hc : c.Is
 ·rw [Av hc];refine tt ?_;refine (LD B c hc size JC).go hs o.swap fun r s H _ ⟨f,e,Kf,Nk,hfI⟩ hs o=>?_;subst e;refine tt ?_;refine nb o fun CT H o=>tt ?_;refine sw o fun H o=>tt ?_;refine (AY B 40).go hs o.swap fun r s H _ ⟨v,e,_⟩ hs o=>?_;subst e;refine tt ?_;apply bk <;> intro h1
  ·refine tt ?_;refine AO o.tl (by simp) (tt ?_);refine (Tk B f (by rw [Kf]; exact hc.1) Nk).go hs o fun r s H _ ⟨f2,e,hb⟩ hs o=>?_;subst e;refine tt ?_;refine sw (o.pull [_,_]) fun H o=>tt ?_;refine AX ?_
   have hr:=o.rc 7 0 (by simp);simp only [List.drop_zero] at hr;refine tt ?_;rw [hr]
   exact B4 ⟨f2,rfl,fun _ yl h2=>by
    obtain ⟨c2,S2,A2⟩:=f2
    rcases hb with hb | ⟨h1,h2⟩
    ·have hb : c2=f.shape:=hb;subst hb;rw [← Kf]; exact h2
    ·have h1 : S2=f.A1:=h1
     have h2 : A2=f.AJ:=h2;subst h1 h2;rw [← Kf]; exact (hfI yl).1⟩ hs o.swap
  ·refine tt ?_;refine AO o.tl (by simp) (tt ?_);refine sw (o.pull [_,_]) fun H o=>tt ?_;refine AX ?_
   have hr:=o.rc 7 0 (by simp);simp only [List.drop_zero] at hr;refine tt ?_;rw [hr];exact B4 ⟨f,rfl,fun _ _ h=>by rw [← Kf]; exact h⟩ hs o.swap
 ·rw [Ad hc];refine tt ?_;refine sw o fun H o=>tt ?_;refine UY 5 o rfl fun H o=>?_;have o:=s1 o;refine UY 6 o rfl fun H o=>AX ?_;have o:=s1 o
  have hr:=o.rc 7 0 (by simp);simp only [List.drop_zero] at hr;refine tt ?_;rw [hr];exact B4 ⟨⟨c,[],[]⟩,rfl,fun h=>absurd h hc⟩ hs o.swap
theorem F5 (B : Nat) (c : Ax) (size : Int) (JC : 0≤size∧size≤1000) : Rd B 52 [.agg c.cells,iI size] kl:=fun id s H0 H hs o=>(LQ B c size JC id s H0 H hs o).mono fun r H' ⟨⟨f,e,_⟩,h⟩=>⟨⟨f,e⟩,h⟩
end Go.Proofs.Shf
