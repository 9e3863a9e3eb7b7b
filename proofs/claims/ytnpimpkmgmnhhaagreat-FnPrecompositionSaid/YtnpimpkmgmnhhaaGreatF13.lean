/- A part of a proof. -/
import Derived.Test.YtnpimpkmgmnhhaaGreatF12
set_option linter.unusedVariables false
set_option linter.unusedSimpArgs false
set_option linter.unusedSectionVars false
set_option maxRecDepth 100000
open Nat (reduceEqDiff reduceAdd reduceMul reduceLeDiff reduceLT)
namespace Go.Shf
open Go.AW
def movP (c : Cat) (f : Nat) : Bool:=!decide (ix c.idn (ix c.frm (f : Int))=(f : Int))
def movL (c : Cat) : List Int:=nats (movP c) c.frm.length
theorem nats_both (p : Nat→Bool) (n : Nat) : (nats p n).length+(nats (fun k=>!p k) n).length=n:=by
 induction n with
 | zero=>rfl
 | succ n ih =>
  by_cases h : p n=true
  ·rw [nats_t h,nats_f (p:=fun k=>!p k) (by simp [h])]; simp; omega
  ·rw [nats_f (by simpa using h),nats_t (p:=fun k=>!p k) (by simpa using h)]; simp; omega
theorem movL_len {c : Cat} (hc : c.Is) : ((movL c).length : Int)+c.objs=c.frm.length:=by
 have h1:=nats_both (movP c) c.frm.length
 have h2 : (nats (fun k=>!movP c k) c.frm.length).length=c.idn.length:=by
  refine List.Perm.length_eq ((List.perm_ext_iff_of_nodup ((rising_pw.mp (nats_rising _ _)).imp fun {a b} h=>by omega) ?_).mpr fun y=>?_)
  ·rw [List.nodup_iff_pairwise_ne,List.pairwise_iff_getElem]
   intro i j hi hj hij e
   have a:=(hc.1.ide i hi).1
   have b:=(hc.1.ide j hj).1;rw [List.getD_eq_getElem?_getD,List.getElem?_eq_getElem hi] at a;rw [List.getD_eq_getElem?_getD,List.getElem?_eq_getElem hj] at b;simp only [Option.getD_some] at a b;rw [e,b] at a;omega
  ·rw [mem_nats]
   constructor
   ·rintro ⟨h0,hl,hp⟩
    have hp : ix c.idn (ix c.frm ((y.toNat : Nat) : Int))=((y.toNat : Nat) : Int):=by simpa [movP] using hp
    have hx:=hc.1.frm' (f:=y.toNat) hl
    have e : ((y.toNat : Nat) : Int)=y:=by omega
    rw [e] at hp;rw [← hp];exact ix_mem hx.2
   ·intro hy
    obtain ⟨x,hx,rfl⟩:=mem_getD.mp hy
    have a:=(hc.1.ide x hx).1
    have b:=hc.1.idn _ hy;refine ⟨b.1,by omega, ?_⟩
    have e : (((c.idn.getD x default).toNat : Nat) : Int)=c.idn.getD x default:=by omega
    simp only [movP,Bool.not_not,decide_eq_true_eq];rw [e,a]
    rfl
 have:=hc.1.il;rw [movL]; omega
end Go.Shf
namespace Go.Proofs.Shf
open Go.AW Go.Proofs Go.Shf
theorem l06MovingX (B : Nat) (c : Cat) (hc : c.Is) : Pur Tryz.prog B 168 [.agg c.cells] (iL (movL c)):=by
 refine ⟨fun H0=>c168 (by simp) fun _=>?_⟩
 have sm:=hc.1.m;unfold s168
 have o : Owns H0 H0 []:=.nil _;refine tt ?_;refine new_list iI o fun id H o=>tt ?_;refine awp_for [1] (G:=Nat × List Int) (fun k g=>[(3,some (.buf g.1 g.2.length)),(4,some (.int .i64 (k : Int)))]) (fun k g H=>g.2=nats (movP c) k∧Owns H0 H [(g.1,.cells 1 (g.2.map iI) 0)]) c.frm.length (id,[]) ⟨by simp,o⟩ rfl ?_;clear o
 rintro k ⟨id,out⟩ H hk ⟨hl,o⟩;dsimp only at hl o
 have hol : out.length≤k:=by rw [hl]; exact nats_len _ _
 refine tt ?_;apply bk <;> intro h1
 ·have h1p:=of_decide h1
  have w:=wsucc (k:=k) (by omega);refine tt ?_;refine (l02Unit_ok B c hc.1 k ⟨by omega,by show (k : Int).toNat<_; omega⟩).go fun _=>?_
  by_cases e : ix c.idn (ix c.frm k)=k
  ·rw [decide_eq_true e];refine tw w ?_;exact for_next (_,_) h1p ⟨by show out=_; rw [nats_f (by simp [movP,e]),hl],o⟩ rfl
  ·rw [decide_eq_false e];refine tt ?_;refine app_own (k : Int) o rfl rfl (by simp only [maxL]; omega) fun id H o=>?_;refine tw w ?_;exact for_next (id,out++[(k : Int)]) h1p ⟨by show out++_=_; rw [nats_t (by simp [movP,e]),hl],o⟩ rfl
 ·have h1p:=of_ndecide h1
  have : k=c.frm.length:=by omega
  subst this;subst hl;refine tt ?_;refine fz_own (f:=iI) o rfl fun H o=>tt ?_;exact pure_ret rfl o.sub
def SmallC (c d : Cat) : Prop:=(c.frm.length : Int) - c.objs≤8∧d.frm.length≤16
theorem l06SmallX (B : Nat) (c d : Cat) (hc : c.Is) : Pur Tryz.prog B 88 [.agg c.cells,.agg d.cells] (.bool (dec (SmallC c d))):=by
 refine ⟨fun H0=>c88 (by simp) fun _=>?_⟩;unfold s88
 have e:=movL_len hc;refine tt ?_;refine (l06MovingX B c hc).go fun _=>tt ?_
 by_cases h : ((movL c).length : Int)≤8
 ·rw [decide_eq_true h];refine tt ?_
  exact pure_ret (by rw [show dec (SmallC c d)=decide ((d.frm.length : Int)≤16) from by
   by_cases q : (d.frm.length : Int)≤16
   ·rw [decide_eq_true q,dec_t ⟨by omega,by omega⟩]
   ·rw [decide_eq_false q,dec_f fun z=>q (by have:=z.2; omega)]]) (.refl _)
 ·rw [decide_eq_false h];refine tt ?_;exact pure_ret (by rw [dec_f fun z=>h (by have:=z.1; omega)]) (.refl _)
def RoomQ (c d : Cat) (ob : List Int) (r : AV) : Prop:=r=.bool true∨(r=.bool false∧∀ n,fnsP c d false n ob=[])
theorem l06RoomsX (B : Nat) (c d : Cat) (hc : c.Is) (hd : d.Is) (ob : List Int) : Rets B 218 [.agg c.cells,.agg d.cells,iL ob] (RoomQ c d ob):=by
 intro H0;refine c218 (by simp) fun _=>?_
 have sm:=hc.1.m
 have tl:=hc.1.tol;unfold s218;refine tt ?_;refine awp_for [2,3,4] (G:=Unit) (fun k _=>[(7,some (.int .i64 (k : Int)))]) (fun k _ H'=>H'=H0) c.frm.length () rfl rfl ?_
 rintro k _ H hk rfl;refine tt ?_;apply bk <;> intro h1
 ·have h1p:=of_decide h1
  have w:=wsucc (k:=k) (by omega)
  have f0:=(hc.1.frmObj (f:=(k : Int)) h1p).1
  have t0:=(hc.1.toObj (f:=(k : Int)) h1p).1
  have f0 : 0≤c.frm.getD k default:=f0
  have t0 : 0≤c.to.getD k default:=t0;refine tt ?_
  (repeat (refine ⟨by first | exact h1p | exact (by omega : k<c.to.length), ?_⟩))
  refine tt ?_
  by_cases g1 : c.frm.getD k default<(ob.length : Int)
  ·rw [decide_eq_true g1];refine tt ?_
   by_cases g2 : c.to.getD k default<(ob.length : Int)
   ·rw [decide_eq_true g2];refine tt ?_;refine ⟨⟨f0,by omega⟩,⟨t0,by omega⟩, ?_⟩;refine ⟨_,(l02Hom_ok B d hd.1 _ _).run, ?_⟩
    have hhc : ∀ x y,homC d x y=hom d x y:=fun x y=>(hom_homC d x y).symm;refine tt ?_;apply bk <;> intro g3
    ·have g3p:=of_decide g3;refine tt ?_;refine rets_ret (.inr ⟨rfl,fun n=>fnsP_rooms h1p ⟨f0,by omega⟩ ⟨t0,by omega⟩ ?_⟩) (.refl _);rw [← hhc];exact List.length_eq_zero_iff.mp (by omega)
    ·refine tw w ?_;exact for_next () h1p rfl rfl
   ·rw [decide_eq_false g2];refine tw w ?_;exact for_next () h1p rfl rfl
  ·rw [decide_eq_false g1];refine tw w ?_;exact for_next () h1p rfl rfl
 ·refine tt ?_;exact rets_ret (.inl rfl) (.refl _)
def ForceX (c d : Cat) (O A : List Int) (H0 : Heap) (id : Nat) (l : Ob) : Kont:=fun r H'=>∃ (b : Bool) (A' : List Int),r=.bool b∧SprD c d O A A'∧(b=true→ClosD c d A')∧(b=false→extP c d false O A=[])∧Owns H0 H' ((id,.cells 1 (A'.map iI) 0)::l)
theorem l06ForceX (B : Nat) {c d : Cat} (hC : c.Is) (hD : d.Is) {O A : List Int} (pa : ParD c d O A) (id : Nat) (l : Ob) (H0 H : Heap) (o : Owns H0 H ((id,.cells 1 (A.map iI) 0)::l)) :
  CallH Tryz.prog B 246 [.agg c.cells,.agg d.cells,.buf id c.frm.length] H (ForceX c d O A H0 id l):=by
 refine c246 (by simp) fun _=>?_
 have hc:=hC.1
 have hd:=hD.1
 have sm:=hc.m
 have hcl:=hc.cl;unfold s246;refine tt ?_
 refine awp_while [2,3,4] (G:=Bool × List Int) (fun g=>[(7,some (.bool g.1))])
  (fun m g H=>(m=2*negs g.2+(if g.1=true then 1 else 0)∧SprD c d O A g.2∧(g.1=false→ClosD c d g.2))∧Owns H0 H ((id,.cells 1 (g.2.map iI) 0)::l))
  (2*negs A+1) (true,A) ⟨⟨by simp,.refl pa,fun h=>by cases h⟩,o⟩ rfl ?_
 clear o
 rintro m ⟨more,A1⟩ H ⟨⟨hm,hsp1,hcl1⟩,o⟩;dsimp only at hm hsp1 hcl1 o
 cases more
 ·refine tt ?_;exact ⟨H,.refl _,true,A1,rfl,hsp1,fun _=>hcl1 rfl,(fun h=>by cases h),o⟩
 rw [if_pos rfl] at hm;refine tt ?_
 refine awp_for [2,3,4] (G:=Bool × List Int) (fun a g=>[(7,some (.bool g.1)),(8,some (.int .i64 (a : Int)))])
  (fun a g H=>(SprD c d O A g.2∧negs g.2≤negs A1∧(g.1=true→negs g.2<negs A1)∧(g.1=false→CloK c d g.2 a 0))∧Owns H0 H ((id,.cells 1 (g.2.map iI) 0)::l)) c.frm.length (false,A1) ⟨⟨hsp1,Nat.le_refl _,(fun h=>by cases h),fun _=>.zero⟩,o⟩ rfl ?_
 clear o
 rintro a ⟨more,A2⟩ H ha ⟨⟨hsp2,hn2,hag2,hck⟩,o⟩;dsimp only at hsp2 hn2 hag2 hck o
 have hl2:=hsp2.par.len;refine tt ?_;apply bk <;> intro h1
 rotate_left
 ·have h1p : a=A2.length:=by have:=of_ndecide h1; omega
  refine tt ?_;refine while_next (2*negs A2+(if more=true then 1 else 0)) (more,A2) ?_ ⟨⟨rfl,hsp2,fun h=>(h1p ▸ hck h).all⟩,o⟩ rfl
  cases more
  ·simp; omega
  ·have:=hag2 rfl; simp; omega
 have h1p:=of_decide h1
 have w1:=wsucc (k:=a) (by omega)
 have ra:=hc.row a (by omega);refine tt ?_
 refine awp_for [2,3,4,8] (G:=Bool × List Int) (fun b g=>[(7,some (.bool g.1)),(9,some (.int .i64 (b : Int)))])
  (fun b g H=>(SprD c d O A g.2∧negs g.2≤negs A1∧(g.1=true→negs g.2<negs A1)∧(g.1=false→CloK c d g.2 a b))∧Owns H0 H ((id,.cells 1 (g.2.map iI) 0)::l)) c.frm.length (more,A2) ⟨⟨hsp2,hn2,hag2,hck⟩,o⟩ rfl ?_
 clear o hsp2 hn2 hag2 hck hl2
 rintro b ⟨more,A2⟩ H hb ⟨⟨hsp2,hn2,hag2,hck⟩,o⟩;dsimp only at hsp2 hn2 hag2 hck o
 have hl2:=hsp2.par.len;refine tt ?_;apply bk <;> intro h2
 rotate_left
 ·have h2p : b=A2.length:=by have:=of_ndecide h2; omega
  refine tw w1 ?_;exact for_next (more,A2) h1p ⟨⟨hsp2,hn2,hag2,fun h=>by have:=hck h; rw [h2p] at this; exact this.row⟩,o⟩ rfl
 have h2p:=of_decide h2
 have w2:=wsucc (k:=b) (by omega)
 have hth:=th_ran hC (a:=a) (b:=b) (by omega) h2p;refine tt ?_;refine ⟨by omega,by omega, ?_⟩
 by_cases e1 : (c.comp.getD a default).getD b default<0
 ·rw [decide_eq_true e1];refine tw w2 ?_;exact for_next (more,A2) h2p ⟨⟨hsp2,hn2,hag2,fun h=>(hck h).step fun t ht=>by omega⟩,o⟩ rfl
 obtain ⟨h,hh⟩ : ∃ h : Nat,(c.comp.getD a default).getD b default=h:=⟨_,(Int.toNat_of_nonneg (by omega)).symm⟩;rw [decide_eq_false e1,hh]
 have hhn : h<A2.length:=by omega
 refine tt ?_;refine ⟨h1p,rd_own o (by omega) ?_⟩;refine tt ?_
 by_cases na : A2.getD a default<0
 ·rw [decide_eq_true na];refine tw w2 ?_;exact for_next (more,A2) h2p ⟨⟨hsp2,hn2,hag2,fun h=>(hck h).step fun t ht q=>by omega⟩,o⟩ rfl
 rw [decide_eq_false na];refine tt ?_;refine ⟨h2p,rd_own o (by omega) ?_⟩;refine tt ?_
 by_cases nb : A2.getD b default<0
 ·rw [decide_eq_true nb];refine tw w2 ?_;exact for_next (more,A2) h2p ⟨⟨hsp2,hn2,hag2,fun h=>(hck h).step fun t ht q q2=>by omega⟩,o⟩ rfl
 rw [decide_eq_false nb]
 have hset:=fun hn=>hsp2.set hC hD (a:=a) (b:=b) (t:=h) (by omega) (by omega) (by omega) (by omega) hh hn
 have hclash:=hsp2.clash (once:=false) (a:=a) (b:=b) (t:=h) (by omega) (by omega) (by omega) (by omega) hh hhn
 obtain ⟨_,har⟩:=hsp2.par.th hC hD (a:=a) (b:=b) (by omega) (by omega) (by omega) (by omega) hh
 have ka:=(hsp2.par.known (i:=a) (by omega) (by omega)).r
 have kb:=(hsp2.par.known (i:=b) (by omega) (by omega)).r
 have hrow:=hd.row' ka.2
 have hdl:=hd.cl
 have dj2 : (A2.getD b default).toNat<(ix d.comp (A2.getD a default)).length:=by rw [hrow]; exact kb.2
 have kb0:=kb.1;refine tt ?_;refine ⟨h1p,rd_own o (by omega) ?_⟩;refine tt ?_;refine ⟨⟨ka.1,by omega⟩, ?_⟩;refine ⟨h2p,rd_own o (by omega) ?_⟩;refine tt ?_;refine ⟨⟨kb0,dj2⟩, ?_⟩
 have hstep : ∀ K,ix (ix d.comp (A2.getD a default)) (A2.getD b default)=K→A2.getD h default=K→more=false→CloK c d A2 a (b+1):=fun K eK e q=>(hck q).step fun t ht _ _=>by
  have : t=h:=by omega
  rw [this,e,← eK]; rfl
 rw [show d.th (A2.getD a default) (A2.getD b default)=ix (ix d.comp (A2.getD a default)) (A2.getD b default) from rfl] at hset hclash har
 generalize hK : ix (ix d.comp (A2.getD a default)) (A2.getD b default)=K at *
 have hh2 : h<c.frm.length:=by omega
 refine tt ?_;refine ⟨hh2,rd_own o hhn ?_⟩;refine tt ?_
 by_cases g : 0≤A2.getD h default
 ·rw [decide_eq_true g];refine tt ?_;refine ⟨hh2,rd_own o hhn ?_⟩;refine tt ?_
  by_cases e5 : A2.getD h default=K
  rotate_left
  ·rw [decide_eq_false e5];refine tt ?_;exact ⟨H,.refl _,false,A2,rfl,hsp2,(fun q=>by cases q),fun _=>hclash g e5,o⟩
  rw [decide_eq_true e5]
  have hs : A2.set h K=A2:=by
   rw [← e5];refine List.ext_getElem (by simp) fun i q1 q2=>?_
   by_cases e : h=i
   ·subst e; simp [List.getD_eq_getElem?_getD,q2]
   ·simp [List.getElem_set,e]
  cases more
  ·refine tt ?_;refine ⟨hh2,rd_own o hhn ?_⟩;refine tt ?_;rw [decide_eq_false (show ¬ A2.getD h default<0 by omega)];refine tt ?_;refine ⟨hh2,set_own K o rfl hhn fun H o=>?_⟩;rw [hs] at o;refine tw w2 ?_;exact for_next (false,A2) h2p ⟨⟨hsp2,hn2,hag2,hstep K rfl e5⟩,o⟩ rfl
  ·refine tt ?_;refine ⟨hh2,set_own K o rfl hhn fun H o=>?_⟩;rw [hs] at o;refine tw w2 ?_;exact for_next (true,A2) h2p ⟨⟨hsp2,hn2,hag2,hstep K rfl e5⟩,o⟩ rfl
 ·rw [decide_eq_false g]
  have hneg:=negs_set (A:=A2) (i:=h) (v:=K) hhn (by omega) har.r.1
  have hn3 : A2.getD h default<0:=by omega
  cases more
  ·refine tt ?_;refine ⟨hh2,rd_own o hhn ?_⟩;refine tt ?_;rw [decide_eq_true hn3];refine tt ?_;refine ⟨hh2,set_own K o rfl hhn fun H o=>?_⟩;refine tw w2 ?_;exact for_next (true,A2.set h K) h2p ⟨⟨hset hn3,by show negs (A2.set h K)≤_; omega,(fun _=>by show negs (A2.set h K)<_; omega),fun q=>by cases q⟩,o⟩ rfl
  ·refine tt ?_;refine ⟨hh2,set_own K o rfl hhn fun H o=>?_⟩;refine tw w2 ?_;exact for_next (true,A2.set h K) h2p ⟨⟨hset hn3,by show negs (A2.set h K)≤_; omega,(fun _=>by show negs (A2.set h K)<_; omega),fun q=>by cases q⟩,o⟩ rfl
theorem IdI.clo {C D : Cat} (hC : C.Is) (hD : D.Is) {O g : List Int} (h : IdI C D O g C.idn.length) (hO : ∀ x : Nat,x<C.idn.length→0≤O.getD x default∧O.getD x default<D.objs) : ClosD C D g:=by
 intro a b t ha hb ht h1 h2
 have hl:=h.len
 have hil:=hC.1.il
 obtain ⟨x,hx,ex,gx⟩:=(h.all a ha).resolve_left (by omega)
 obtain ⟨y,hy,ey,gy⟩:=(h.all b hb).resolve_left (by omega)
 have e:=th_meets hC (a:=a) (b:=b) (by omega) (by omega) (by omega)
 have q1:=hC.idA (x:=(x : Int)) (by omega)
 have q2:=hC.idA (x:=(y : Int)) (by omega);rw [ix_nat,ex] at q1;rw [ix_nat,ey] at q2
 have s1:=q1.t
 have s2:=q2.s;rw [ix_nat] at s1 s2
 obtain rfl : x=y:=by omega
 obtain rfl : a=b:=by omega
 have k:=q1.idl hC;rw [ix_nat,ex,Cat.th,ix_nat,ix_nat,ht] at k
 obtain rfl : t=a:=by omega
 have w:=(hD.idA (hO x hx)).idl hD;rw [gx];exact w.symm
theorem colF_len {α : Type} {most : Nat} {L l : List α} : (colF most L l).length≤most+1:=by rw [colF,List.length_take]; omega
theorem colF_few {α : Type} {most : Nat} {L l : List α} (h : (colF most L l).length≤most) : (L++l).length≤most∧colF most L l=L++l:=by
 rw [colF,List.length_take] at h
 have : (L++l).length≤most:=by omega
 exact ⟨this,colF_all this⟩
theorem colF_more {α : Type} {most : Nat} {L l l' : List α} (h : (colF most L l).length≤most) : colF most (colF most L l) l'=colF most L (l++l'):=by
 have q:=colF_few h;rw [q.2,colF_app q.1]
theorem colF_full {α : Type} {most : Nat} {L l l' : List α} (h : ¬ (colF most L l).length≤most) : colF most L l=colF most L (l++l'):=by
 rw [colF_stop];rw [colF,List.length_take] at h; omega
def ArrX (c d : Cat) (O A : List Int) (out : List (List Int)) (H0 : Heap) (l : Ob) : Kont:=fun r H'=>∃ id : Nat,r=.buf id (colF 200 out (extP c d false O A)).length∧Owns H0 H' ((id,.cells 1 ((colF 200 out (extP c d false O A)).map iL) 0)::l)
theorem l06ArrowsX (B : Nat) {c d : Cat} (hC : c.Is) (hD : d.Is) {ob : List Int} (hob : TyO c d ob) (l : Ob) (H0 : Heap) : ∀ (n f : Nat) (ar : List Int) (id idF : Nat) (out : List (List Int)) (H : Heap),c.frm.length - f=n→f≤c.frm.length →
  ParD c d ob ar→ClosD c d ar→IdsD c d ob ar→(∀ i,i<f→ar.getD i default≠-1)→out.length≤200→Owns H0 H ((id,.cells 1 (ar.map iI) 0)::(idF,.cells 1 (out.map iL) 0)::l) →
  CallH Tryz.prog B 219 [.agg c.cells,.agg d.cells,iL ob,.buf id c.frm.length,iI f,.buf idF out.length] H (ArrX c d ob ar out H0 l):=by
 intro n
 induction n using Nat.strongRecOn with
 | _ n ih =>
 intro f ar id idF out H hn hf pa hcl hid hkn hout o;refine c219p (by simp) fun _=>?_
 have hc:=hC.1
 have hd:=hD.1
 have sm:=hc.m
 have hl:=pa.len
 have tl:=hc.tol;unfold s219p;refine tt ?_;refine fz_own (f:=iI) o hl.symm fun H o=>tt ?_;refine cut_mp (fun σ H=>∃ g : Nat,f≤g∧g≤c.frm.length∧(∀ i,i<g→ar.getD i default≠-1)∧(g<c.frm.length→ar.getD g default<0)∧σ=[(2,some (iL ob)),(3,some (iL ar)),(4,some (iI g)),(5,some (.buf idF out.length)),(6,some (.ptr c.cells)),(7,some (.ptr d.cells))]∧Owns H0 H ((idF,.cells 1 (out.map iL) 0)::l)) ?_ ?_
 ·refine tt ?_;refine awp_for [2,3,5,6,7] (G:=Unit) (fun k _=>[(4,some (.int .i64 ((f+k : Nat) : Int)))]) (fun k _ H'=>H'=H∧∀ i,i<f+k→ar.getD i default≠-1) (c.frm.length - f) () ⟨rfl,hkn⟩ rfl ?_
  rintro k _ H' hk ⟨rfl,hkn⟩;refine tt ?_
  by_cases h1 : f+k<ar.length
  ·have h1p:=h1;rw [decide_eq_true h1]
   have w:=wsucc (k:=f+k) (by omega);refine tt ?_;refine ⟨h1p, ?_⟩
   by_cases h2 : 0≤ar.getD (f+k) default
   ·rw [decide_eq_true h2];refine tw w ?_
    exact for_next () (by omega) ⟨rfl,fun i hi=>by
     by_cases e : i=f+k
     ·rw [e]; omega
     ·exact hkn i (by omega)⟩ rfl
   ·rw [decide_eq_false h2];refine tt ?_;exact wkW_done ⟨f+k,by omega,by omega,hkn,fun _=>by omega,rfl,o⟩
  ·rw [decide_eq_false h1];refine tt ?_;exact wkW_done ⟨f+k,by omega,by omega,hkn,fun h=>by omega,rfl,o⟩
 clear o
 rintro σ H ⟨g,hfg,hg,hkg,hneg,rfl,o⟩;refine tt ?_;apply bk <;> intro h1
 ·have h1p:=of_decide h1
  have hone:=extP_one (once:=false) (full_fun pa hcl hid fun i hi=>hkg i (by omega)) (fun q=>by cases q) fun i hi=>hkg i (by omega)
  have hco : colF 200 out (extP c d false ob ar)=out++[ar]:=by rw [hone,colF,List.take_of_length_le (by simp; omega)]
  refine tt ?_;refine (l01Own_ok B ar).go fun _=>tt ?_;refine app_own (f:=iL) ar o rfl rfl (by simp only [maxL]; omega) fun idF H o=>tt ?_;exact ⟨H,.refl _,idF,by rw [hco],by rw [hco]; exact o⟩
 have h1p : g<c.frm.length:=by have:=of_ndecide h1; omega
 have hgo : c.ArR g:=⟨by omega,h1p⟩
 have w:=wsucc (k:=g) (by omega)
 have tI:=hc.toI hgo
 have fo:=hc.frO hgo
 have to:=hc.toO hgo
 have ol:=hob.len
 have i1 : 0≤ix c.frm g∧(ix c.frm g).toNat<ob.length:=⟨fo.1,by have:=fo.1; have:=fo.2; omega⟩
 have i2 : 0≤ix c.to g∧(ix c.to g).toNat<ob.length:=⟨to.1,by have:=to.1; have:=to.2; omega⟩
 have hg1 : ar.getD g default=-1:=(pa.neg (i:=g) (by omega)).resolve_right (by have:=hneg h1p; omega)
 have hsplit:=extP_split (once:=false) (c:=c) (d:=d) (O:=ob) (A:=ar) (a:=g) (by omega) hl hg1 hkg;refine tt ?_
 (repeat (refine ⟨by first | exact h1p | exact i1 | exact i2 | exact tI.2, ?_⟩))
 refine ⟨_,(l02Hom_ok B d hd _ _).run, ?_⟩;rw [hom_homC] at hsplit
 obtain ⟨hm,hhm⟩ : ∃ L,homC d (ix ob (c.frm.getD g default)) (ix ob (c.to.getD g default))=L:=⟨_,rfl⟩;rw [hhm] at hsplit ⊢
 have hmt : ∀ v,v∈hm→d.Ar v (ix ob (c.frm.getD g default)) (ix ob (c.to.getD g default)):=fun v hv=>by rw [← hhm,← hom_homC] at hv; exact ar_hom.mp hv
 have hml : hm.length≤40:=by
  have h5:=hd.m
  have h6 : (homK d (ix ob (c.frm.getD g default)) (ix ob (c.to.getD g default)) d.frm.length).length≤d.frm.length:=homK_len _ _ _;rw [homK_full,hhm] at h6; omega
 refine tt ?_;refine awp_for [2,3,4,6,7,13] (G:=Nat × List (List Int)) (fun i g=>[(5,some (.buf g.1 g.2.length)),(14,some (.int .i64 (i : Int)))]) (fun i p H=>p.2=colF 200 out ((hm.take i).flatMap fun b=>extP c d false ob (ar.set g b))∧Owns H0 H ((p.1,.cells 1 (p.2.map iL) 0)::l)) hm.length (idF,out) ⟨by simp only [List.take_zero,List.flatMap_nil]; rw [colF_nil (by omega)],o⟩ rfl ?_;clear o
 rintro i ⟨idF,out2⟩ H hi ⟨hout2,o⟩;dsimp only at hout2 o
 have hol : out2.length≤201:=by rw [hout2]; exact colF_len
 refine tt ?_
 by_cases h2 : i<hm.length
 rotate_left
 ·rw [decide_eq_false h2]
  have : i=hm.length:=by omega
  subst this;rw [List.take_length] at hout2;rw [← hsplit] at hout2;subst hout2;refine tt ?_;exact ⟨H,.refl _,idF,rfl,o⟩
 have h2p : i<hm.length:=by omega
 have w2:=wsucc (k:=i) (by omega)
 have ht : (hm.take (i+1)).flatMap (fun b=>extP c d false ob (ar.set g b))=(hm.take i).flatMap (fun b=>extP c d false ob (ar.set g b))++extP c d false ob (ar.set g (hm.getD i default)):=flat_take h2p;rw [decide_eq_true h2];refine tt ?_
 by_cases h3 : (out2.length : Int)≤200
 rotate_left
 ·rw [decide_eq_false h3]
  have hfu : colF 200 out (extP c d false ob ar)=out2:=by
   rw [hsplit,flat_at h2p,hout2];exact (colF_full (by rw [← hout2]; omega)).symm
  refine tt ?_;exact ⟨H,.refl _,idF,by rw [hfu],by rw [hfu]; exact o⟩
 rw [decide_eq_true h3]
 have hmore : ∀ l',colF 200 out2 l'=colF 200 out ((hm.take i).flatMap (fun b=>extP c d false ob (ar.set g b))++l'):=fun l'=>by rw [hout2]; exact colF_more (by rw [← hout2]; omega)
 refine tt ?_;refine (l01Own_own B ar H0 H _ o).own fun idn A H o e=>?_;rw [e] at o ⊢
 have tv:=hmt _ (mem_getD.mpr ⟨i,h2p,rfl⟩)
 have pb:=pa.set (i:=g) (by omega) tv;refine tw hl ?_;refine ⟨h2p, ?_⟩;refine ⟨h1p,set_own (hm.getD i default) o rfl (by omega) fun H o=>?_⟩;refine tt ?_;refine (l06ForceX B hC hD pb idn _ H0 H o).mono ?_
 rintro r H ⟨b,ar2,rfl,sp,hb1,hb2,o⟩
 cases b
 ·refine tw w2 ?_;exact for_next (idF,out2) h2p ⟨by show out2=_; rw [ht,hb2 rfl,List.append_nil]; exact hout2,o.tl⟩ rfl
 ·have hO : ∀ x : Nat,x<c.idn.length→0≤ob.getD x default∧ob.getD x default<d.objs:=fun x hx=>by
   have hil:=hc.il
   have:=hob.ob x ⟨by omega,by show (x : Int)<_; omega⟩;exact this
  have k1 : IdsD c d ob (ar.set g (hm.getD i default)):=hid.ext hC hD hO hl (.set (by omega) (by rw [hg1]; decide))
  have k2 : IdsD c d ob ar2:=k1.ext hC hD hO pb.len sp.ext
  have k3 : ∀ j,j<g+1→ar2.getD j default≠-1:=fun j hj=>by
   have e : (ar.set g (hm.getD i default)).getD j default≠-1:=by
    rw [getD_setI (by omega)]
    by_cases q : g=j
    ·rw [if_pos q]; have:=tv.r.1; omega
    ·rw [if_neg q]; exact hkg j (by omega)
   have e0 : 0≤(ar.set g (hm.getD i default)).getD j default:=(pb.neg (i:=j) (by rw [List.length_set]; omega)).resolve_left e;rw [sp.ext.keep j (by rw [List.length_set]; omega) e0];exact e
  refine tw w ?_;refine (ih (c.frm.length - (g+1)) (by omega) (g+1) ar2 idn idF out2 H rfl (by omega) sp.par (hb1 rfl) k2 k3 (by omega) o).mono ?_
  rintro r H ⟨idF2,rfl,o⟩;rw [← sp.same pb,hmore,← ht] at o ⊢;refine tw w2 ?_;exact for_next (idF2,_) h2p ⟨rfl,o⟩ rfl
end Go.Proofs.Shf
namespace Go.Shf
open Go.AW
def FirstN (A : List Int) (j : Nat) (x : Int) : Prop:=(x=-1∧∀ i,j≤i→i<A.length→A.getD i default≠-1)∨∃ i : Nat,x=i∧j≤i∧i<A.length∧A.getD i default=-1∧∀ i',j≤i'→i'<i→A.getD i' default≠-1
def FdQ (V : AV) (out : List (List Int)) (q : List (Nat × MObj)) : Prop:=(V=.nilsl∧out=[]∧q=[])∨∃ z,V=.buf z out.length∧q=[(z,.cells 1 (out.map iL) 0)]
theorem FdQ.cells {V : AV} {out : List (List Int)} {q : List (Nat × MObj)} (h : FdQ V out q) : V.cells=[V]:=by
 rcases h with ⟨rfl,_⟩ | ⟨z,rfl,_⟩ <;> rfl
theorem FdQ.one {V : AV} {out : List (List Int)} {q : List (Nat × MObj)} (h : FdQ V out q) : V.one=true:=by
 rcases h with ⟨rfl,_⟩ | ⟨z,rfl,_⟩ <;> rfl
theorem FdQ.len {V : AV} {out : List (List Int)} {q : List (Nat × MObj)} (h : FdQ V out q) : lenE (some V)=some (True,.int .i64 (out.length : Int)):=by
 rcases h with ⟨rfl,rfl,_⟩ | ⟨z,rfl,_⟩ <;> rfl
theorem stN_last (f g : FU) (m : Int) (V W : AV) : wr (stN f g m++[V]) 26 [W]=stN f g m++[W]:=rfl
theorem ConsZ.ran {f g : FU} {Z : Int→Prop} {A : List Int} (h : ConsZ f g Z A) : ∀ y,0≤y∧y<f.src.objs→ix A y<0∨f.tgt.ArR (ix A y):=fun y hy=>by
 rcases h.val y hy with q | q
 ·left; omega
 ·rcases q.2 with q | q
  ·left; omega
  ·exact .inr q.r
end Go.Shf
namespace Go.Proofs.Shf
open Go.AW Go.Proofs Go.Shf
def GoK (f g : FU) (most : Int) (id : Nat) (R : List (List Int)) (H0 : Heap) (l : Ob) : Kont:=fun r H'=>∃ V q,FdQ V R q∧Owns H0 H' ((id,.cells 27 (stN f g most++[V]) 26)::(q++l))
theorem app_fd {V : AV} {out : List (List Int)} {q : Ob} {H0 H : Heap} {r l : Ob} {K : Kont} (A : List Int) (h : FdQ V out q) (o : Owns H0 H (r++(q++l))) (hm : out.length+1≤maxL)
  (hk : ∀ V' q' H',FdQ V' (out++[A]) q'→Owns H0 H' (r++(q'++l))→K V' H') : appW 1 (some V) (some (.sl [iL A])) K H:=by
 rcases h with ⟨rfl,rfl,rfl⟩ | ⟨z,rfl,rfl⟩
 ·refine ⟨⟨by simp [maxL],by simp [maxL], ?_⟩,newBuf_own o fun id H o=>?_⟩
  ·intro e he
   obtain rfl:=List.mem_singleton.mp he;exact ⟨rfl,fun c hc=>by obtain rfl:=List.mem_singleton.mp hc; rfl⟩
  ·have o2 : Owns H0 H ((id,.cells 1 ([A].map iL) 0)::(r++l)):=o;exact hk _ [(id,.cells 1 ([A].map iL) 0)] _ (.inr ⟨id,rfl,rfl⟩) (o2.pm)
 ·refine app_own (f:=iL) A (show Owns H0 H ((z,.cells 1 (out.map iL) 0)::(r++l)) from o.pm) rfl rfl hm fun id H o=>?_;exact hk _ [(id,.cells 1 ((out++[A]).map iL) 0)] _ (.inr ⟨id,rfl,rfl⟩) (o.pm)
theorem l07Go_ok (B : Nat) {f g : FU} (hf : FuOk f) (hg : FuOk g) (e1 : f.src=g.src) (e2 : f.tgt=g.tgt) {m : Nat} (hm : m≤1000) (id : Nat) (l : Ob) (H0 : Heap) (Z : Int→Prop) : ∀ (n : Nat) (A : List Int),negs A=n→ConsZ f g Z A →
  ∀ (V : AV) (q : Ob) (out : List (List Int)) (H : Heap),FdQ V out q→out.length≤m→Owns H0 H ((id,.cells 27 (stN f g ((m+1 : Nat) : Int)++[V]) 26)::(q++l)) →
  CallH Tryz.prog B 248 [.dual (stN f g ((m+1 : Nat) : Int)) id,iL A] H (GoK f g ((m+1 : Nat) : Int) id (colF m out (natZ f g Z A)) H0 l):=by
 intro n
 induction n using Nat.strongRecOn with
 | _ n ih =>
 intro A hn cz V q out H hfd hout o;refine c248p (by simp) fun _=>?_;unfold s248p
 have hso:=hf.s.o
 have hA:=cz.len
 have hR:=cz.ran
 have q0:=fun (x : Int) hx=>l07Choices_ok B hf hg e1 e2 hA hR (x:=x) hx ((m+1 : Nat) : Int) id
 have w0 : IntKind.i64.wrap ((A.length : Int) - 1)=(A.length : Int) - 1 - ((0 : Nat) : Int):=by rw [wrap_i64 (by omega) (by omega)]; omega
 refine tw w0 ?_;refine awp_for [0,1] (G:=Int) (fun k x=>[(4,some (iI x)),(5,some (iI ((A.length : Int) - 1 - (k : Int))))]) (fun k x H'=>H'=H∧FirstN A (A.length - k) x) A.length (-1) ⟨rfl,.inl ⟨rfl,fun i h1 h2=>by omega⟩⟩ rfl ?_
 rintro k x H' hk ⟨rfl,hx⟩
 replace hx : FirstN A (A.length - k) x:=hx;refine tt ?_
 by_cases h1 : 0≤(A.length : Int) - 1 - (k : Int)
 ·rw [decide_eq_true h1]
  obtain ⟨y,hy⟩ : ∃ y : Nat,(A.length : Int) - 1 - (k : Int)=y:=⟨_,(Int.toNat_of_nonneg h1).symm⟩
  have wy : IntKind.i64.wrap ((y : Int) - 1)=(A.length : Int) - 1 - ((k+1 : Nat) : Int):=by rw [wrap_i64 (by omega) (by omega)]; omega
  rw [hy];refine tt ?_;refine ⟨by omega, ?_⟩
  by_cases c1 : A.getD y default=-1
  ·rw [decide_eq_true c1];refine tt ?_;refine (q0 (y : Int) (by omega)).go fun _=>tt ?_;apply bk <;> intro h2
   ·have h2p:=of_decide h2
    have e0 : chz f g A (y : Int)=[]:=List.length_eq_zero_iff.mp (by omega)
    have hz : natZ f g Z A=[]:=natZ_none cz hf.s (x:=(y : Int)) (by omega) (by rw [ix_nat]; exact c1) fun b hb hfit=>by
     have : b∈chz f g A (y : Int):=List.mem_filter.mpr ⟨hb,dec_t hfit⟩;rw [e0] at this
     cases this
    refine tt ?_;exact ⟨_,.refl _,V,q,by rw [hz,colF_nil (by omega)]; exact hfd,o⟩
   ·refine tw wy ?_;exact for_next (y : Int) (by omega) ⟨rfl,.inr ⟨y,rfl,by omega,by omega,c1,fun i' a1 a2=>by omega⟩⟩ rfl
  ·rw [decide_eq_false c1];refine tw wy ?_;refine for_next x (by omega) ⟨rfl, ?_⟩ rfl
   rcases hx with ⟨h1,h2⟩ | ⟨i,h1,h2,h3,h4,h5⟩
   ·exact .inl ⟨h1,fun i a1 a2=>by
     by_cases e : i=y
     ·rw [e]; exact c1
     ·exact h2 i (by omega) a2⟩
   ·exact .inr ⟨i,h1,by omega,h3,h4,fun i' a1 a2=>by
     by_cases e : i'=y
     ·rw [e]; exact c1
     ·exact h5 i' (by omega) a2⟩
 rw [decide_eq_false h1]
 have hk0 : A.length - k=0:=by omega
 rw [hk0] at hx;refine tt ?_
 rcases hx with ⟨rfl,hno⟩ | ⟨a,rfl,_,ha,hneg,hfst⟩
 ·rw [decide_eq_true (by decide : (-1 : Int)<0)]
  have hz : natZ f g Z A=[A]:=natZ_leaf cz hf.s fun i hi=>hno i (by omega) hi;refine tt ?_;refine rd_cells o (by simp [stN]) ?_
  have eV : (stN f g ((m+1 : Nat) : Int)++[V]).getD 26 nv=V:=rfl
  have oa:=l01Own_ok B A;refine tw eV ?_;refine ⟨_,oa.run,tt ?_⟩;refine app_fd (r:=[(id,.cells 27 (stN f g ((m+1 : Nat) : Int)++[V]) 26)]) A hfd o (by simp only [maxL]; omega) fun V2 q2 H hfd o=>?_
  have o : Owns H0 H ((id,.cells 27 (stN f g ((m+1 : Nat) : Int)++[V]) 26)::(q2++l)):=o
  have hc2:=hfd.cells
  have h12:=hfd.one;refine tw hc2 ?_;refine st_cells2 o (by omega) (by simp [stN]) rfl (fun c hc=>by obtain rfl:=List.mem_singleton.mp hc; exact h12) fun H o=>?_;rw [stN_last] at o;refine tt ?_;exact ⟨_,.refl _,V2,q2,by rw [hz,colF,List.take_of_length_le (by simp; omega)]; exact hfd,o⟩
 rw [decide_eq_false (by omega)];refine tt ?_
 have hsp:=natZ_split cz hf.s ha hneg fun i hi=>hfst i (by omega) hi
 have hch : ((hom f.tgt (ix f.ob a) (ix g.ob a)).filter fun b=>dec (FitZ f g A a b))=chz f g A (a : Int):=rfl;rw [hch] at hsp;refine (q0 (a : Int) (by omega)).go fun _=>?_
 have hcl:=chz_len (f:=f) (g:=g) (A:=A) (x:=(a : Int))
 have hcm : ∀ b,b∈chz f g A (a : Int)→f.tgt.Ar b (ix f.ob a) (ix g.ob a)∧FitZ f g A a b:=fun b hb=>by
  have:=List.mem_filter.mp hb;exact ⟨ar_hom.mp this.1,dec_iff.mp this.2⟩
 generalize chz f g A (a : Int)=L at hsp hcl hcm
 have htm:=hf.t.m;refine tt ?_;refine awp_for [0,1,4,6] (G:=Unit) (fun k _=>[(7,some (.int .i64 (k : Int)))]) (fun k _ H=>∃ V q,FdQ V (colF m out ((L.take k).flatMap fun b=>natZ f g Z (A.set a b))) q∧Owns H0 H ((id,.cells 27 (stN f g ((m+1 : Nat) : Int)++[V]) 26)::(q++l))) L.length () ⟨V,q,by rw [List.take_zero,List.flatMap_nil,colF_nil (by omega)]; exact hfd,o⟩ rfl ?_;clear o hfd
 rintro k _ H hk ⟨V,q,hfd,o⟩;refine tt ?_
 by_cases h2p : k<L.length
 rotate_left
 ·rw [decide_eq_false h2p]
  have : k=L.length:=by omega
  subst this;rw [List.take_length,← hsp] at hfd;refine tt ?_;exact ⟨_,.refl _,V,q,hfd,o⟩
 rw [decide_eq_true h2p]
 have w2:=wsucc (k:=k) (by omega)
 have eV : (stN f g ((m+1 : Nat) : Int)++[V]).getD 26 nv=V:=rfl
 have eL:=hfd.len
 obtain ⟨out2,ho2⟩ : ∃ R,colF m out ((L.take k).flatMap fun b=>natZ f g Z (A.set a b))=R:=⟨_,rfl⟩;rw [ho2] at hfd eL;refine tt ?_;refine rd_cells o (by simp [stN]) ?_;try simp only [go_sem,↓reduceIte,reduceEqDiff,reduceAdd,reduceMul,reduceLeDiff,reduceLT,eV,eL]
 have hat:=flat_at (f:=fun b=>natZ f g Z (A.set a b)) h2p
 have htk:=flat_take (f:=fun b=>natZ f g Z (A.set a b)) h2p
 by_cases h3 : out2.length<m+1
 rotate_left
 ·rw [decide_eq_false h3]
  have hfu : out2=colF m out (natZ f g Z A):=by
   rw [hsp,hat,← ho2];exact colF_full (by rw [ho2]; omega)
  rw [hfu] at hfd;refine tt ?_;exact ⟨_,.refl _,V,q,hfd,o⟩
 rw [decide_eq_true h3]
 have hb:=hcm _ (mem_getD.mpr ⟨k,h2p,rfl⟩)
 have hmore : colF m out2 (natZ f g Z (A.set a (L.getD k default)))=colF m out ((L.take (k+1)).flatMap fun b=>natZ f g Z (A.set a b)):=by
  rw [htk,← ho2]; exact colF_more (by rw [ho2]; omega)
 have cz2:=cz.set hf.s (x:=(a : Int)) (b:=L.getD k default) (by omega) (by rw [ix_nat]; exact hneg) hb.1 hb.2;rw [toNat_nat] at cz2;refine tt ?_;refine (l01Own_own B A H0 H _ o).own fun idn AA H o e=>?_;rw [e] at o ⊢;refine tt ?_;refine ⟨h2p,ha, ?_⟩;refine set_own (L.getD k default) o rfl ha fun H o=>tt ?_;refine fz_own (f:=iI) o (by simp) fun H o=>tt ?_
 have hng:=negs_set (A:=A) (i:=a) (v:=L.getD k default) ha (by omega) hb.1.r.1;refine (ih (negs (A.set a (L.getD k default))) (by omega) _ rfl cz2 V q out2 H hfd (by omega) o).mono ?_
 rintro r H ⟨V,q,hfd,o⟩;rw [hmore] at hfd;refine tw w2 ?_;exact for_next () h2p ⟨V,q,hfd,o⟩ rfl
end Go.Proofs.Shf
namespace Go.Shf
open Go.AW
def vth (d : Cat) (s t : List Int) : List Int:=(List.range s.length).map fun x : Nat=>d.th (s.getD x default) (t.getD x default)
def idT (k : FU) : List Int:=thenL k.ob k.tgt.idn
section
variable {f g h k : FU} {s t u : List Int} {x : Int}
theorem vth_ix {d : Cat} (hx : 0≤x∧x.toNat<s.length) : ix (vth d s t) x=d.th (ix s x) (ix t x):=by rw [ix,vth,getD_map_range _ _ hx.2]; rfl
theorem vth_len {d : Cat} : (vth d s t).length=s.length:=by simp [vth]
theorem nat_then (hf : f.Is) (hg : g.Is) (hh : h.Is) (e1 : g.src=f.src) (e2 : g.tgt=f.tgt) (e3 : h.src=f.src) (e4 : h.tgt=f.tgt) (m : NatF f g s) (n : NatF g h t) : NatF f h (vth f.tgt s t):=by
 have l1:=m.len
 have ob:=hf.sI.1.o
 have n1:=fun x hx=>n.ar x (by rw [e1]; exact hx);rw [e2] at n1
 have n2:=fun a x y (q : f.src.Ar a x y)=>n.nat a x y (by rw [e1]; exact q);rw [e2] at n2;refine ⟨by simp [vth]; exact l1,fun x hx=>?_,fun a x y q=>?_⟩
 ·rw [vth_ix (by omega)];exact (m.ar x hx).comp hf.tI (n1 x hx)
 ·have hx:=q.src hf.sI
  have hy:=q.tgt hf.sI;rw [vth_ix (by omega),vth_ix (by omega)]
  have a1:=hf.arA q
  have a2:=hg.arA (a:=a) (x:=x) (y:=y) (by rw [e1]; exact q)
  have a3:=hh.arA (a:=a) (x:=x) (y:=y) (by rw [e3]; exact q);rw [e2] at a2;rw [e4] at a3;rw [← a1.assoc hf.tI (m.ar y hy) (n1 y hy),m.nat a x y q,(m.ar x hx).assoc hf.tI a2 (n1 y hy),n2 a x y q,← (m.ar x hx).assoc hf.tI (n1 x hx) a3]
theorem idT_ix (hk : k.Is) (hx : 0≤x∧x<k.src.objs) : ix (idT k) x=ix k.tgt.idn (ix k.ob x):=ix_map _ (hk.obAt hx).1
theorem nat_id (hk : k.Is) : NatF k k (idT k):=by
 refine ⟨by simp [idT,thenL]; exact hk.fit.ol,fun x hx=>?_,fun a x y q=>?_⟩
 ·rw [idT_ix hk hx]; exact hk.tI.idA (hk.obA hx)
 ·have a1:=hk.arA q;rw [idT_ix hk (q.src hk.sI),idT_ix hk (q.tgt hk.sI),a1.idl hk.tI,a1.idr hk.tI]
theorem nat_eq {d : Cat} (h1 : (s.length : Int)=d.objs) (h2 : t.length=s.length) (h : ∀ x,0≤x∧x<d.objs→ix s x=ix t x) : s=t:=by
 refine List.ext_getElem h2.symm fun i a b=>?_
 have:=h i (by omega);rw [ix_nat,ix_nat,List.getD_eq_getElem?_getD,List.getD_eq_getElem?_getD,List.getElem?_eq_getElem a,List.getElem?_eq_getElem b] at this;exact this
end
noncomputable def arrN (Fs : List FU) : List (List Int):=(List.range Fs.length).flatMap fun i=>(List.range Fs.length).flatMap fun j=>(natL (Fs.getD i default) (Fs.getD j default)).map fun t=>Int.ofNat i::Int.ofNat j::t
theorem arrN_lex (Fs : List FU) : (arrN Fs).Pairwise LexI:=by
 rw [arrN,List.pairwise_flatMap];refine ⟨fun i _=>?_,List.pairwise_lt_range.imp fun {a b} hab p hp q hq=>?_⟩
 ·rw [List.pairwise_flatMap];refine ⟨fun j _=>?_,List.pairwise_lt_range.imp fun {a b} hab p hp q hq=>?_⟩
  ·rw [List.pairwise_map];exact ((allZ_lex _ _).filter _).imp fun h=>h.cons.cons
  ·obtain ⟨u,_,rfl⟩:=List.mem_map.mp hp
   obtain ⟨v,_,rfl⟩:=List.mem_map.mp hq;exact LexI.cons ⟨0,fun i hi=>by omega,by simpa using hab⟩
 ·obtain ⟨i,_,hp⟩:=List.mem_flatMap.mp hp
  obtain ⟨j,_,hq⟩:=List.mem_flatMap.mp hq
  obtain ⟨u,_,rfl⟩:=List.mem_map.mp hp
  obtain ⟨v,_,rfl⟩:=List.mem_map.mp hq;exact ⟨0,fun i hi=>by omega,by simpa using hab⟩
theorem arrN_nodup (Fs : List FU) : (arrN Fs).Nodup:=(arrN_lex Fs).imp fun h=>h.ne
theorem mem_arrN {Fs : List FU} {s : List Int} : s∈arrN Fs↔∃ (i j : Nat) (t : List Int),i<Fs.length∧j<Fs.length∧t∈natL (Fs.getD i default) (Fs.getD j default)∧s=(i : Int)::(j : Int)::t:=by
 rw [arrN,List.mem_flatMap]
 constructor
 ·rintro ⟨i,hi,h⟩
  obtain ⟨j,hj,h⟩:=List.mem_flatMap.mp h
  obtain ⟨t,ht,rfl⟩:=List.mem_map.mp h;exact ⟨i,j,t,List.mem_range.mp hi,List.mem_range.mp hj,ht,rfl⟩
 ·rintro ⟨i,j,t,hi,hj,ht,rfl⟩;exact ⟨i,List.mem_range.mpr hi,List.mem_flatMap.mpr ⟨j,List.mem_range.mpr hj,List.mem_map.mpr ⟨t,ht,rfl⟩⟩⟩
noncomputable def fcat (d : Cat) (Fs : List FU) : Cat:=⟨Fs.length,(arrN Fs).map fun s=>s.getD 0 default,(arrN Fs).map fun s=>s.getD 1 default,
 (List.range Fs.length).map fun i=>indexOf (arrN Fs) (Int.ofNat i::Int.ofNat i::idT (Fs.getD i default)),
 (arrN Fs).map fun s=>(arrN Fs).map fun t=>if s.getD 1 default=t.getD 0 default then indexOf (arrN Fs) (s.getD 0 default::t.getD 1 default::vth d (s.drop 2) (t.drop 2)) else -1⟩
structure FunsOf (c d : Cat) (Fs : List FU) : Prop where
 f : ∀ i : Nat,i<Fs.length→(Fs.getD i default).Is∧(Fs.getD i default).src=c∧(Fs.getD i default).tgt=d
theorem funs_all {c d : Cat} (hc : c.Is) (hd : d.Is) : FunsOf c d (allF c d false):=⟨fun i hi=>by
 have:=(mem_allF (once:=false) hc hd).mp (mem_getD.mpr ⟨i,hi,rfl⟩);exact ⟨this.2.2.1,this.1,this.2.1⟩⟩
section
variable {c d : Cat} {Fs : List FU} {i j l : Nat} {s t : List Int}
theorem arr_mem (hF : FunsOf c d Fs) (hi : i<Fs.length) (hj : j<Fs.length) (h : NatF (Fs.getD i default) (Fs.getD j default) t) : (i : Int)::(j : Int)::t∈arrN Fs :=
 mem_arrN.mpr ⟨i,j,t,hi,hj,(mem_natL (hF.f i hi).1.sI.1.o.1).mpr h,rfl⟩
theorem arr_at (hF : FunsOf c d Fs) {a : Nat} (ha : a<(arrN Fs).length) : ∃ (i j : Nat) (t : List Int),i<Fs.length∧j<Fs.length∧NatF (Fs.getD i default) (Fs.getD j default) t∧(arrN Fs).getD a default=(i : Int)::(j : Int)::t:=by
 obtain ⟨i,j,t,hi,hj,ht,e⟩:=mem_arrN.mp (mem_getD.mpr ⟨a,ha,rfl⟩ : (arrN Fs).getD a default∈arrN Fs);exact ⟨i,j,t,hi,hj,(mem_natL (hF.f i hi).1.sI.1.o.1).mp ht,e⟩
theorem idx_at {l : List (List Int)} {x : List Int} (h : x∈l) : (0≤indexOf l x∧(indexOf l x).toNat<l.length)∧l.getD (indexOf l x).toNat default=x:=by
 have:=indexOf_in h;exact ⟨⟨this.1,by omega⟩,this.2.2⟩
theorem arr_id (hF : FunsOf c d Fs) (hi : i<Fs.length) : (i : Int)::(i : Int)::idT (Fs.getD i default)∈arrN Fs:=arr_mem hF hi hi (nat_id (hF.f i hi).1)
theorem arr_comp (hF : FunsOf c d Fs) (hi : i<Fs.length) (hj : j<Fs.length) (hl : l<Fs.length) (m : NatF (Fs.getD i default) (Fs.getD j default) s) (n : NatF (Fs.getD j default) (Fs.getD l default) t) :
  NatF (Fs.getD i default) (Fs.getD l default) (vth d s t):=by
 have a:=hF.f i hi
 have b:=hF.f j hj
 have e:=hF.f l hl
 have:=nat_then a.1 b.1 e.1 (by rw [a.2.1,b.2.1]) (by rw [a.2.2,b.2.2]) (by rw [a.2.1,e.2.1]) (by rw [a.2.2,e.2.2]) m n
 rwa [a.2.2] at this
theorem fcat_th (hF : FunsOf c d Fs) {a b : Nat} (ha : a<(arrN Fs).length) (hb : b<(arrN Fs).length) : ((fcat d Fs).comp.getD a default).getD b default =
  if ((arrN Fs).getD a default).getD 1 default=((arrN Fs).getD b default).getD 0 default then indexOf (arrN Fs) (((arrN Fs).getD a default).getD 0 default::((arrN Fs).getD b default).getD 1 default::vth d (((arrN Fs).getD a default).drop 2) (((arrN Fs).getD b default).drop 2)) else -1:=by
 rw [fcat]
 simp only;rw [map_getD _ ha,map_getD _ hb]
theorem fcat_is (hc : c.Is) (hd : d.Is) (hF : FunsOf c d Fs) (h8 : Fs.length≤8) (h40 : (arrN Fs).length≤40) : (fcat d Fs).Is:=by
 have ide : ∀ x : Nat,x<Fs.length→((fcat d Fs).idn.getD x default)=indexOf (arrN Fs) ((x : Int)::(x : Int)::idT (Fs.getD x default)):=fun x hx=>by
  rw [fcat]; simp only; rw [getD_map_range _ _ hx]; rfl
 have fr : ∀ {a : Nat},a<(arrN Fs).length→(fcat d Fs).frm.getD a default=((arrN Fs).getD a default).getD 0 default:=fun ha=>map_getD _ ha
 have tt : ∀ {a : Nat},a<(arrN Fs).length→(fcat d Fs).to.getD a default=((arrN Fs).getD a default).getD 1 default:=fun ha=>map_getD _ ha
 have fl : (fcat d Fs).frm.length=(arrN Fs).length:=by simp [fcat]
 have yes : ∀ a b : Nat,a<(arrN Fs).length→b<(arrN Fs).length→(fcat d Fs).to.getD a default=(fcat d Fs).frm.getD b default→∃ (i j l : Nat) (s t : List Int),i<Fs.length∧j<Fs.length∧l<Fs.length ∧
   NatF (Fs.getD i default) (Fs.getD j default) s∧NatF (Fs.getD j default) (Fs.getD l default) t∧(arrN Fs).getD a default=(i : Int)::(j : Int)::s∧(arrN Fs).getD b default=(j : Int)::(l : Int)::t ∧
   ((fcat d Fs).comp.getD a default).getD b default=indexOf (arrN Fs) ((i : Int)::(l : Int)::vth d s t)∧((i : Int)::(l : Int)::vth d s t)∈arrN Fs:=fun a b ha hb e=>by
  obtain ⟨i,j,s,hi,hj,hs,ea⟩:=arr_at hF ha
  obtain ⟨j',l,t,hj',hl,ht,eb⟩:=arr_at hF hb;rw [tt ha,fr hb,ea,eb] at e
  have e : (j : Int)=j':=e
  obtain rfl : j=j':=by omega
  refine ⟨i,j,l,s,t,hi,hj,hl,hs,ht,ea,eb, ?_,arr_mem hF hi hl (arr_comp hF hi hj hl hs ht)⟩;rw [fcat_th hF ha hb,ea,eb];exact if_pos rfl
 refine ⟨⟨⟨by simp [fcat],by simp only [fcat]; omega⟩,by rw [fl]; exact h40,fun y hy=>?_,by simp [fcat],fun y hy=>?_,by simp [fcat],by simp [fcat],fun y hy=>?_,fun x hx=>?_,fun a ha=>?_,fun a b ha hb e=>?_,fun a b ha hb e=>?_⟩,⟨fun a ha=>?_,fun a b e ha hb he e1 e2=>?_⟩⟩
 ·obtain ⟨s,hs,rfl⟩:=List.mem_map.mp hy
  obtain ⟨i,j,t,hi,hj,_,rfl⟩:=mem_arrN.mp hs
  show 0≤(i : Int)∧(i : Int)<((Fs.length : Nat) : Int); omega
 ·obtain ⟨s,hs,rfl⟩:=List.mem_map.mp hy
  obtain ⟨i,j,t,hi,hj,_,rfl⟩:=mem_arrN.mp hs
  show 0≤(j : Int)∧(j : Int)<((Fs.length : Nat) : Int); omega
 ·obtain ⟨i,hi,rfl⟩:=List.mem_map.mp hy
  have:=(idx_at (arr_id hF (List.mem_range.mp hi))).1;rw [fl]
  show 0≤indexOf (arrN Fs) ((i : Int)::(i : Int)::idT (Fs.getD i default))∧indexOf (arrN Fs) ((i : Int)::(i : Int)::idT (Fs.getD i default))<_
  omega
 ·have hx : x<Fs.length:=by simpa [fcat] using hx
  have:=idx_at (arr_id hF hx);rw [ide x hx,ix,ix,fr this.1.2,tt this.1.2,this.2];exact ⟨rfl,rfl⟩
 ·rw [fl] at ha;rw [fcat]; simp only; rw [map_getD _ ha,List.length_map,List.length_map]
 ·rw [fl] at ha hb;rw [fcat_th hF ha hb,if_neg];rw [tt ha,fr hb] at e;exact e
 ·rw [fl] at ha hb
  obtain ⟨i,j,l,s,t,hi,hj,hl,hs,ht,ea,eb,ec,hm⟩:=yes a b ha hb e
  have:=idx_at hm;rw [ec,ix,ix,fr this.1.2,tt this.1.2,fr ha,tt hb,this.2,ea,eb,fl];exact ⟨⟨this.1.1,by omega⟩,rfl,rfl⟩
 ·rw [fl] at ha
  obtain ⟨i,j,t,hi,hj,ht,ea⟩:=arr_at hF ha
  have F1:=hF.f i hi
  have F2:=hF.f j hj
  have fi : (fcat d Fs).frm.getD a default=i:=by rw [fr ha,ea]; rfl
  have ti : (fcat d Fs).to.getD a default=j:=by rw [tt ha,ea]; rfl
  have x1:=idx_at (arr_id hF hi)
  have x2:=idx_at (arr_id hF hj)
  have tl:=ht.len;rw [F1.2.1] at tl
  have key : indexOf (arrN Fs) ((i : Int)::(j : Int)::t)=a:=by rw [← ea]; exact indexOf_nodup (arrN_nodup Fs) ha
  constructor
  ·rw [fi,show ix (fcat d Fs).idn (i : Int)=_ from (ix_nat _ _).trans (ide i hi),ix_nat,ix,fcat_th hF x1.1.2 ha,x1.2,ea];refine (if_pos rfl).trans ?_;rw [← key]
   show indexOf (arrN Fs) ((i : Int)::(j : Int)::vth d (idT (Fs.getD i default)) t)=_
   congr 3
   refine nat_eq (d:=c) (by have:=(nat_id F1.1).len; rw [F1.2.1] at this; rw [vth_len]; exact this) (by have:=(nat_id F1.1).len; rw [F1.2.1] at this; rw [vth_len]; omega) fun x hx=>?_;rw [vth_ix (by have:=(nat_id F1.1).len; rw [F1.2.1] at this; omega),idT_ix F1.1 (by rw [F1.2.1]; exact hx),F1.2.2]
   have:=ht.ar x (by rw [F1.2.1]; exact hx);rw [F1.2.2] at this;exact this.idl hd
  ·rw [ti,show ix (fcat d Fs).idn (j : Int)=_ from (ix_nat _ _).trans (ide j hj),ix,fcat_th hF ha x2.1.2,x2.2,ea];refine (if_pos rfl).trans ?_;rw [← key]
   show indexOf (arrN Fs) ((i : Int)::(j : Int)::vth d t (idT (Fs.getD j default)))=_
   congr 3
   refine nat_eq (d:=c) (by rw [vth_len]; exact tl) (by rw [vth_len]) fun x hx=>?_;rw [vth_ix (by omega),idT_ix F2.1 (by rw [F2.2.1]; exact hx),F2.2.2]
   have:=ht.ar x (by rw [F1.2.1]; exact hx);rw [F1.2.2] at this;exact this.idr hd
 ·rw [fl] at ha hb he
  obtain ⟨i,j,l,s,t,hi,hj,hl,hs,ht,ea,eb,ec,hm⟩:=yes a b ha hb e1
  obtain ⟨j',l',m,t',u,hj',hl',hmm,ht',hu,eb',ee,ed,hn⟩:=yes b e hb he e2;rw [eb] at eb'
  obtain ⟨rfl,rfl,rfl⟩ : j=j'∧l=l'∧t=t':=by
   injection eb' with q1 q2
   injection q2 with q2 q3
   exact ⟨by omega,by omega,q3⟩
  have x1:=idx_at hm
  have x2:=idx_at hn;rw [ec,ed,ix_nat]
  show ((fcat d Fs).comp.getD (indexOf (arrN Fs) ((i : Int)::(l : Int)::vth d s t)).toNat default).getD e default=((fcat d Fs).comp.getD a default).getD (indexOf (arrN Fs) ((j : Int)::(m : Int)::vth d t u)).toNat default
  rw [fcat_th hF x1.1.2 he,fcat_th hF ha x2.1.2,x1.2,x2.2,ea,ee];refine (if_pos rfl).trans (Eq.trans ?_ (if_pos rfl).symm)
  show indexOf (arrN Fs) ((i : Int)::(m : Int)::vth d (vth d s t) u)=indexOf (arrN Fs) ((i : Int)::(m : Int)::vth d s (vth d t u))
  have F1:=hF.f i hi
  have F2:=hF.f j hj
  have F3:=hF.f l hl
  have l1:=hs.len
  have l2:=ht.len
  have l3:=hu.len;rw [F1.2.1] at l1;rw [F2.2.1] at l2
  congr 3
  refine nat_eq (d:=c) (by rw [vth_len,vth_len]; exact l1) (by rw [vth_len,vth_len,vth_len]) fun x hx=>?_;rw [vth_ix (by rw [vth_len]; omega),vth_ix (by omega),vth_ix (by omega),vth_ix (by omega)]
  have a1:=hs.ar x (by rw [F1.2.1]; exact hx)
  have a2:=ht.ar x (by rw [F2.2.1]; exact hx)
  have a3:=hu.ar x (by rw [F3.2.1]; exact hx);rw [F1.2.2] at a1;rw [F2.2.2] at a2;rw [F3.2.2] at a3;exact a1.assoc hd a2 a3
end
end Go.Shf
namespace Go.Shf
open Go.AW
noncomputable def cutZ (Z : Int→Prop) (t : List Int) : List Int:=(List.range t.length).map fun i : Nat=>if dec (Z (i : Int)) then -2 else t.getD i default
theorem cutZ_ix {Z : Int→Prop} {t : List Int} {x : Int} (hx : 0≤x∧x.toNat<t.length) : ix (cutZ Z t) x=if dec (Z x) then -2 else ix t x:=by
 rw [ix,cutZ,getD_map_range _ _ hx.2,Int.toNat_of_nonneg hx.1]; rfl
theorem cutZ_nat {f g : FU} (hf : f.src.Shape) {Z : Int→Prop} {t : List Int} (h : NatF f g t) : NatZ f g Z (cutZ Z t):=by
 have hl:=h.len
 have h0:=hf.o.1
 have at_ : ∀ x,0≤x∧x<f.src.objs→¬ Z x→ix (cutZ Z t) x=ix t x:=fun x hx z=>by rw [cutZ_ix ⟨hx.1,by omega⟩,dec_f z]; rfl
 refine ⟨by simp [cutZ]; omega,fun x hx z=>?_,fun x hx z=>?_,fun a x y k zx zy=>?_⟩
 ·rw [cutZ_ix ⟨hx.1,by omega⟩,dec_t z]; rfl
 ·rw [at_ x hx z]; exact h.ar x hx
 ·rw [at_ x (k.srcS hf) zx,at_ y (k.tgtS hf) zy]; exact h.nat a x y k
theorem natL_none {f g : FU} (hf : f.src.Shape) {Z : Int→Prop} {A : List Int} (hA : A.length=f.src.objs.toNat) (hv : ∀ i : Nat,i<A.length→(Z (i : Int)∧A.getD i default=-2)∨A.getD i default=-1) (h : natZ f g Z A=[]) : natL f g=[]:=by
 refine List.eq_nil_iff_forall_not_mem.mpr fun t ht=>?_
 have hn:=(mem_natL hf.o.1).mp ht
 have hc:=cutZ_nat hf (Z:=Z) hn
 have : cutZ Z t∈natZ f g Z A:=mem_natZ.mpr ⟨hc,fun i hi=>by
  rcases hv i hi with ⟨z,e⟩ | e
  ·right
   have:=hc.out (i : Int) (by omega) z;rw [ix_nat] at this;rw [e,this]
  ·exact .inl e⟩
 rw [h] at this
 cases this
def stK (p : List Int) (x : Int) (k : Nat) : List Int:=(List.range k).map fun i=>if p.getD i default=x then -1 else -2
theorem stK_at {p : List Int} {x : Int} {k i : Nat} (h : i<k) : (stK p x k).getD i default=if p.getD i default=x then -1 else -2:=by rw [stK,getD_map_range _ _ h]
theorem stK_succ (p : List Int) (x : Int) (k : Nat) : stK p x (k+1)=stK p x k++[if p.getD k default=x then -1 else -2]:=by rw [stK,stK,List.range_succ,List.map_append]; rfl
theorem stK_cons {f g : FU} (hf : f.src.Shape) (p : List Int) (x : Int) : ConsZ f g (fun y=>ix p y≠x) (stK p x f.src.objs.toNat):=by
 have e : ∀ y,0≤y∧y<f.src.objs→ix (stK p x f.src.objs.toNat) y=if ix p y=x then -1 else -2:=fun y hy=>by rw [ix,stK_at (by omega)]; rfl
 refine ⟨by simp [stK],fun y hy=>?_,fun a u v k h1 h2=>?_⟩
 ·rw [e y hy]
  by_cases q : ix p y=x
  ·right; rw [if_pos q]; exact ⟨fun z=>z q,.inl rfl⟩
  ·left; rw [if_neg q]; exact ⟨q,rfl⟩
 ·rw [e u (k.srcS hf)] at h1
  split at h1 <;> omega
def pairsK (c : Cat) (k : Nat) : List (List Int):=(List.range k).map fun a=>[c.frm.getD a default,c.to.getD a default]
theorem pairsK_succ (c : Cat) (k : Nat) : pairsK c (k+1)=pairsK c k++[[c.frm.getD k default,c.to.getD k default]]:=by rw [pairsK,pairsK,List.range_succ,List.map_append]; rfl
theorem FdQ.drop {V : AV} {out : List (List Int)} {q l : List (Nat × MObj)} {H0 H : Heap} (h : FdQ V out q) (o : Owns H0 H (q++l)) : Owns H0 H l:=by
 rcases h with ⟨_,_,rfl⟩ | ⟨z,_,rfl⟩
 ·exact o
 ·exact o.tl
end Go.Shf
namespace Go.Proofs.Shf
open Go.AW Go.Proofs Go.Shf
theorem l07Find_ok (B : Nat) {f g : FU} (hf : FuOk f) (hg : FuOk g) (e1 : f.src=g.src) (e2 : f.tgt=g.tgt) {m : Nat} (hm : m≤1000) : Pur Tryz.prog B 221 [.agg f.cells,.agg g.cells,.bool false,iI ((m+1 : Nat) : Int)] (mL iL ((natL f g).take (m+1))):=by
 refine ⟨fun H0=>c221p (by simp) fun _=>?_⟩;unfold s221p
 have o : Owns H0 H0 []:=.nil _
 have hso:=hf.s.o
 have hsm:=hf.s.m
 have stl:=hf.s.tol
 have gF:=fun (m : Nat) (hm : m≤1000)=>l07Go_ok B hf hg e1 e2 hm;refine tt ?_;refine newRef_own o fun i9 H o=>tt ?_;refine sw o fun H o=>tt ?_;refine wk_ref 9 o rfl fun H o=>wkW_done ?_;refine tt ?_;refine new_list iL o fun i10 H o=>tt ?_;refine awp_for [2,3,4,5,9] (G:=Nat) (fun k b=>[(10,some (.buf b k)),(11,some (.int .i64 (k : Int)))]) (fun k b H=>Owns H0 H [(b,.cells 1 ((pairsK f.src k).map iL) 0)]) f.src.frm.length i10 o rfl ?_;clear o
 rintro k b H hk o
 replace o : Owns H0 H [(b,.cells 1 ((pairsK f.src k).map iL) 0)]:=o
 have hpl : (pairsK f.src k).length=k:=by simp [pairsK]
 refine tt ?_;apply bk <;> intro h1
 ·have h1p : k<f.src.frm.length:=of_decide h1
  have w1:=wsucc (k:=k) (by omega);refine tt ?_;refine ⟨h1p,by omega, ?_⟩;refine app_own (f:=iL) [f.src.frm.getD k default,f.src.to.getD k default] o rfl hpl.symm (by rw [hpl]; simp only [maxL]; omega) fun b H o=>?_;rw [← pairsK_succ] at o
  have hpl2 : (pairsK f.src k++[[f.src.frm.getD k default,f.src.to.getD k default]]).length=k+1:=by rw [← pairsK_succ]; simp [pairsK]
  try simp only [go_sem,↓reduceIte,reduceEqDiff,reduceAdd,reduceMul,reduceLeDiff,reduceLT,w1,hpl2]
  exact for_next b h1p o rfl
 have h1p:=of_ndecide h1
 have : k=f.src.frm.length:=by omega
 subst this;refine tt ?_;refine fz_own (f:=iL) o hpl.symm fun H o=>tt ?_
 have en : f.src.objs=((f.src.objs.toNat : Nat) : Int):=(Int.toNat_of_nonneg hso.1).symm
 have hj:=l01Join_ok B f.src.objs.toNat (by omega) (pairsK f.src f.src.frm.length) (fun q hq=>by
  obtain ⟨a,ha,rfl⟩:=List.mem_map.mp hq
  have ha:=List.mem_range.mp ha
  have x1:=hf.s.frm _ (mem_getD.mpr ⟨a,ha,rfl⟩)
  have x2:=hf.s.to _ (mem_getD.mpr ⟨a,(by omega : a<f.src.to.length),rfl⟩);exact ⟨by simp,⟨x1.1,by show (f.src.frm.getD a default).toNat<_; omega⟩,⟨x2.1,by show (f.src.to.getD a default).toNat<_; omega⟩⟩) H
 rw [← en] at hj;refine hj.mono ?_
 rintro r H' ⟨rfl,p,hpl2,_,rfl⟩
 have o : Owns H0 H' []:=o;refine tt ?_;refine new_list iI o fun i13 H o=>tt ?_;refine awp_for [2,3,4,5,12] (G:=Nat) (fun k b=>[(13,some (.buf b k)),(14,some (.int .i64 (k : Int)))]) (fun k b H=>Owns H0 H [(b,.cells 1 ((List.replicate k (-1 : Int)).map iI) 0)]) p.length i13 o rfl ?_;clear o
 rintro k b H hk o
 replace o : Owns H0 H [(b,.cells 1 ((List.replicate k (-1 : Int)).map iI) 0)]:=o
 have hrl : (List.replicate k (-1 : Int)).length=k:=by simp
 refine tt ?_;apply bk <;> intro h2
 ·have h2p : k<p.length:=of_decide h2
  have w2:=wsucc (k:=k) (by omega);refine tt ?_;refine app_own (-1 : Int) o rfl hrl.symm (by rw [hrl]; simp only [maxL]; omega) fun b H o=>?_;rw [repl_succ1] at o
  have hl2 : (List.replicate k (-1 : Int)++[-1]).length=k+1:=by simp
  refine tw hl2 ?_;refine new_list iI o fun i15 H o=>tt ?_;refine awp_for [2,3,4,5,12,13,14] (G:=Nat) (fun y b2=>[(15,some (.buf b2 y)),(16,some (.int .i64 (y : Int)))]) (fun y b2 H=>Owns H0 H [(b2,.cells 1 ((stK p (k : Int) y).map iI) 0),(b,.cells 1 ((List.replicate (k+1) (-1 : Int)).map iI) 0)]) p.length i15 o rfl ?_;clear o
  rintro y b2 H hy o
  replace o : Owns H0 H [(b2,.cells 1 ((stK p (k : Int) y).map iI) 0),(b,.cells 1 ((List.replicate (k+1) (-1 : Int)).map iI) 0)]:=o
  have hsl : (stK p (k : Int) y).length=y:=by simp [stK]
  have hss:=stK_succ p (k : Int) y;refine tt ?_;apply bk <;> intro h3
  ·have h3p : y<p.length:=of_decide h3
   have w3:=wsucc (k:=y) (by omega);refine tt ?_;refine ⟨h3p, ?_⟩
   by_cases c1 : p.getD y default=(k : Int)
   ·rw [decide_eq_true c1];rw [if_pos c1] at hss;refine tt ?_;refine app_own (-1 : Int) o rfl hsl.symm (by rw [hsl]; simp only [maxL]; omega) fun b2 H o=>?_;rw [← hss] at o
    have hl3 : (stK p (k : Int) y++[-1]).length=y+1:=by rw [← hss]; simp [stK]
    try simp only [go_sem,↓reduceIte,reduceEqDiff,reduceAdd,reduceMul,reduceLeDiff,reduceLT,w3,hl3]
    exact for_next b2 h3p o rfl
   ·rw [decide_eq_false c1];rw [if_neg c1] at hss;refine tt ?_;refine app_own (-2 : Int) o rfl hsl.symm (by rw [hsl]; simp only [maxL]; omega) fun b2 H o=>?_;rw [← hss] at o
    have hl3 : (stK p (k : Int) y++[-2]).length=y+1:=by rw [← hss]; simp [stK]
    try simp only [go_sem,↓reduceIte,reduceEqDiff,reduceAdd,reduceMul,reduceLeDiff,reduceLT,w3,hl3]
    exact for_next b2 h3p o rfl
  have h3p:=of_ndecide h3
  have : y=f.src.objs.toNat:=by omega
  subst this;refine tt ?_;refine fz_own (f:=iI) o hsl.symm fun H o=>tt ?_;refine nb o fun i17 H o=>tt ?_
  have o : Owns H0 H ((i17,.cells 27 (stN f g ((0+1 : Nat) : Int)++[.nilsl]) 0)::[(b,.cells 1 ((List.replicate (k+1) (-1 : Int)).map iI) 0)]):=o;refine wk_dual 17 26 (by simp [stN]) o rfl fun H o=>wkW_done ?_
  have et : (stN f g ((0+1 : Nat) : Int)++[AV.nilsl]).take 26=stN f g ((0+1 : Nat) : Int):=rfl;rw [et]
  have cz:=stK_cons (f:=f) (g:=g) hf.s p (k : Int);refine tt ?_;refine (gF 0 (by omega) i17 [(b,.cells 1 ((List.replicate (k+1) (-1 : Int)).map iI) 0)] H0 (fun y=>ix p y≠(k : Int)) _ (stK p (k : Int) f.src.objs.toNat) rfl cz .nilsl [] [] H (.inl ⟨rfl,rfl,rfl⟩) (by simp) o).mono ?_;clear o
  rintro r H ⟨V,q,hfd,o⟩
  have eV : (stN f g ((0+1 : Nat) : Int)++[V]).getD 26 nv=V:=rfl
  have eL:=hfd.len
  obtain ⟨R,hR⟩ : ∃ R,colF 0 [] (natZ f g (fun y=>ix p y≠(k : Int)) (stK p (k : Int) f.src.objs.toNat))=R:=⟨_,rfl⟩;rw [hR] at hfd eL;refine tt ?_;refine rd_cells o (by simp [stN]) ?_;try simp only [go_sem,↓reduceIte,reduceEqDiff,reduceAdd,reduceMul,reduceLeDiff,reduceLT,eV,eL]
  apply bk <;> intro h4
  ·have h4p:=of_decide h4
   have hnil : natL f g=[]:=by
    refine natL_none hf.s (Z:=fun y=>ix p y≠(k : Int)) cz.len (fun i hi=>?_) (A:=stK p (k : Int) f.src.objs.toNat) ?_
    ·rw [stK_at (by simpa [stK] using hi)]
     by_cases e : p.getD i default=(k : Int)
     ·rw [if_pos e]; exact .inr rfl
     ·rw [if_neg e]; exact .inl ⟨by rw [ix_nat]; exact e,rfl⟩
    ·cases hq : natZ f g (fun y=>ix p y≠(k : Int)) (stK p (k : Int) f.src.objs.toNat) with
     | nil=>rfl
     | cons y ys=>rw [hq] at hR; rw [← hR,colF] at h4p; simp at h4p
   refine tt ?_;refine new_list iL o fun i90 H o=>tt ?_;refine fz_own (f:=iL) o rfl fun H o=>tt ?_;exact pure_ret (by rw [hnil]; rfl) o.sub
  ·have o2:=hfd.drop o.tl;refine tw w2 ?_;exact for_next b h2p o2 rfl
 have h2p:=of_ndecide h2
 have : k=p.length:=by omega
 subst this;refine tt ?_;refine fz_own (f:=iI) o hrl.symm fun H o=>tt ?_;refine new_list iL o fun i95 H o=>tt ?_;refine nb o fun i18 H o=>tt ?_
 have o : Owns H0 H ((i18,.cells 27 (stN f g ((m+1 : Nat) : Int)++[.buf i95 ([] : List (List Int)).length]) 0)::([(i95,.cells 1 (([] : List (List Int)).map iL) 0)]++[])):=o;refine wk_dual 18 26 (by simp [stN]) o rfl fun H o=>wkW_done ?_
 have et : (stN f g ((m+1 : Nat) : Int)++[AV.buf i95 ([] : List (List Int)).length]).take 26=stN f g ((m+1 : Nat) : Int):=rfl;rw [et]
 have en2 : List.replicate p.length (-1 : Int)=List.replicate f.src.objs.toNat (-1 : Int):=by rw [hpl2]
 rw [en2];refine tt ?_;refine (gF m hm i18 [] H0 (fun _=>False) _ (List.replicate f.src.objs.toNat (-1 : Int)) rfl (free_cons hf.s) _ _ [] H (.inr ⟨i95,rfl,rfl⟩) (by simp) o).mono ?_;clear o
 rintro r H ⟨V,q,hfd,o⟩
 have eV : (stN f g ((m+1 : Nat) : Int)++[V]).getD 26 nv=V:=rfl
 have hR : colF m [] (natZ f g (fun _=>False) (List.replicate f.src.objs.toNat (-1 : Int)))=(natL f g).take (m+1):=rfl;rw [hR] at hfd;refine tt ?_;refine rd_cells o (by simp [stN]) ?_;refine tw eV ?_
 generalize (natL f g).take (m+1)=R at hfd ⊢
 replace o:=o.tl
 rcases hfd with ⟨rfl,rfl,rfl⟩ | ⟨z,rfl,rfl⟩
 ·refine tt ?_;exact pure_ret rfl o.sub
 ·refine tt ?_;refine fz_own (f:=iL) (show Owns H0 H ((z,.cells 1 (R.map iL) 0)::[]) from o) rfl fun H o=>tt ?_;exact pure_ret rfl o.sub
theorem l07All_ok (B : Nat) {f g : FU} (hf : FuOk f) (hg : FuOk g) (e1 : f.src=g.src) (e2 : f.tgt=g.tgt) {m : Nat} (hm : m≤1000) : Pur Tryz.prog B 172 [.agg f.cells,.agg g.cells,iI ((m+1 : Nat) : Int)] (mL iL ((natL f g).take (m+1))):=by
 refine ⟨fun H0=>c172 (by simp) fun _=>?_⟩;unfold s172;refine tt ?_;refine (l07Find_ok B hf hg e1 e2 hm).go fun _=>tt ?_;exact pure_ret rfl (.refl _)
theorem l07Self_ok (B : Nat) {k : FU} (hk : FuOk k) : Pur Tryz.prog B 173 [.agg k.cells] (iL (idT k)):=by
 refine ⟨fun H0=>c173 (by simp) fun _=>?_⟩;unfold s173;refine tt ?_;refine (l01Then_ok B k.ob k.tgt.idn fun y hy=>?_).go fun _=>?_
 ·have h2:=hk.t.il
  obtain ⟨i,hi,rfl⟩:=mem_getD.mp hy
  have h1:=hk.o.ob (i : Int) ⟨by omega,by have:=hk.o.len; omega⟩;rw [ix_nat] at h1
  have a1:=h1.1
  have a2:=h1.2;exact ⟨a1,by omega⟩
 refine tt ?_;exact pure_ret rfl (.refl _)
theorem l07Then_ok (B : Nat) {d : Cat} (hd : d.Shape) {s t : List Int} (hl : t.length=s.length) (hn : s.length≤100) (hs : ∀ i : Nat,i<s.length→d.ArR (s.getD i default)) (ht : ∀ i : Nat,i<s.length→d.ArR (t.getD i default)) :
  Pur Tryz.prog B 174 [.agg d.cells,iL s,iL t] (iL (vth d s t)):=by
 refine ⟨fun H0=>c174 (by simp) fun _=>?_⟩;unfold s174
 have o : Owns H0 H0 []:=.nil _
 have cl:=hd.cl;refine tt ?_;refine new_list iI o fun i9 H o=>tt ?_;refine awp_for [1,2,3] (G:=Nat) (fun k b=>[(7,some (.buf b k)),(8,some (.int .i64 (k : Int)))]) (fun k b H=>Owns H0 H [(b,.cells 1 (((List.range k).map fun x : Nat=>d.th (s.getD x default) (t.getD x default)).map iI) 0)]) s.length i9 o rfl ?_;clear o
 rintro k b H hk o
 replace o : Owns H0 H [(b,.cells 1 (((List.range k).map fun x : Nat=>d.th (s.getD x default) (t.getD x default)).map iI) 0)]:=o
 obtain ⟨R,hR⟩ : ∃ R,((List.range k).map fun x : Nat=>d.th (s.getD x default) (t.getD x default))=R:=⟨_,rfl⟩
 have hRl : R.length=k:=by rw [← hR]; simp
 have hS : ((List.range (k+1)).map fun x : Nat=>d.th (s.getD x default) (t.getD x default))=R++[d.th (s.getD k default) (t.getD k default)]:=by rw [← hR,List.range_succ,List.map_append]; rfl
 rw [hR] at o;refine tt ?_;apply bk <;> intro h1
 ·have h1p : k<s.length:=of_decide h1
  have w1:=wsucc (k:=k) (by omega)
  have a1:=hs k h1p
  have a2:=ht k h1p
  have rw1:=hd.row' (a:=s.getD k default) a1.2
  have a10:=a1.1
  have a11:=a1.2
  have a20:=a2.1
  have a21:=a2.2;refine tt ?_;refine ⟨h1p,⟨a10,by omega⟩,by omega,⟨a20,by omega⟩, ?_⟩;refine app_own (d.th (s.getD k default) (t.getD k default)) o rfl hRl.symm (by rw [hRl]; simp only [maxL]; omega) fun b H o=>?_
  have hl2 : (R++[d.th (s.getD k default) (t.getD k default)]).length=k+1:=by simp [hRl]
  try simp only [go_sem,↓reduceIte,reduceEqDiff,reduceAdd,reduceMul,reduceLeDiff,reduceLT,w1,hl2]
  exact for_next b h1p (by show Owns H0 H [(b,.cells 1 (List.map iI (List.map _ (List.range (k+1)))) 0)]; rw [hS]; exact o) rfl
 have h1p:=of_ndecide h1
 have : k=s.length:=by omega
 subst this;refine tt ?_;refine fz_own (f:=iI) o hRl.symm fun H o=>tt ?_;exact pure_ret (by rw [← hR]; rfl) o.sub
theorem colF_take {α : Type} {most : Nat} {L l : List α} : colF most L (l.take (most+1))=colF most L l:=by
 rw [colF,colF,List.take_append,List.take_append,List.take_take]
 congr 2
 omega
theorem colF_map {α β : Type} {f : α→β} {most : Nat} {L l : List α} : (colF most L l).map f=colF most (L.map f) (l.map f):=by
 rw [colF,colF,List.map_take,List.map_append]
def SrX (R : List FU) (H0 : Heap) (l : Ob) : Kont:=fun r H'=>∃ (idF : Nat),r=.buf idF R.length∧Owns H0 H' ((idF,.cells 12 (flat (R.map fuE)) 0)::l)
theorem l06SearchX (B : Nat) {c d : Cat} (hC : c.Is) (hD : d.Is) (l : Ob) (H0 : Heap) : ∀ (n : Nat) (ob : List Int) (idB idF : Nat) (ms : List FU) (H : Heap),ob.length+n=c.objs.toNat →
  (∀ x : Nat,x<ob.length→d.ObR (ob.getD x default))→ms.length≤200→Owns H0 H ((idB,.cells 1 (ob.map iI) 0)::(idF,.cells 12 (flat (ms.map fuE)) 0)::l) →
  CallH Tryz.prog B 169 [.agg c.cells,.agg d.cells,.buf idB ob.length,.buf idF ms.length] H (SrX (colF 200 ms (fnsP c d false n ob)) H0 l):=by
 intro n
 induction n using Nat.strongRecOn with
 | _ n ih =>
 intro ob idB idF ms H hn hob hms o;refine c169p (by simp) fun _=>?_
 have hc:=hC.1
 have hd:=hD.1
 have sm:=hc.m
 have so:=hc.o
 have dO:=hd.o
 have hil:=hc.il;unfold s169p;refine tt ?_;refine fz_own (f:=iI) o rfl fun H o=>tt ?_;refine (l06RoomsX B c d hC hD ob).go fun r _ q=>?_
 rcases q with rfl | ⟨rfl,q⟩
 rotate_left
 ·have q:=q n;refine tt ?_;exact ⟨H,.refl _,idF,by rw [q,colF_nil (by omega)],by rw [q,colF_nil (by omega)]; exact o⟩
 refine tt ?_
 by_cases hfull : (ob.length : Int)=c.objs
 ·rw [decide_eq_true hfull]
  obtain rfl : n=0:=by omega
  have tO : TyO c d ob:=⟨hfull,fun x hx=>by have:=hob x.toNat (by have:=hx.1; have:=hx.2; omega); exact this⟩
  have hO : ∀ x : Nat,x<c.idn.length→0≤ob.getD x default∧ob.getD x default<d.objs:=fun x hx=>hob x (by omega);refine tt ?_;refine newBuf_own o fun id9 H o=>?_
  have o : Owns H0 H ((id9,.cells 1 ((List.replicate 0 (-1 : Int)).map iI) 0)::(idF,.cells 12 (flat (ms.map fuE)) 0)::l):=o;refine tt ?_;refine awp_for [2,3,4,5] (G:=Nat) (fun k b=>[(9,some (.buf b k)),(10,some (.int .i64 (k : Int)))]) (fun k b H=>Owns H0 H ((b,.cells 1 ((List.replicate k (-1 : Int)).map iI) 0)::(idF,.cells 12 (flat (ms.map fuE)) 0)::l)) c.frm.length id9 o rfl ?_;clear o
  rintro k b H hk o
  replace o : Owns H0 H ((b,.cells 1 ((List.replicate k (-1 : Int)).map iI) 0)::(idF,.cells 12 (flat (ms.map fuE)) 0)::l):=o;refine tt ?_;apply bk <;> intro h1
  ·have h1p:=of_decide h1
   have w:=wsucc (k:=k) (by omega)
   have hrl : (List.replicate k (-1 : Int)).length=k:=by simp
   refine tt ?_;refine app_own (-1 : Int) o rfl hrl.symm (by rw [hrl]; simp only [maxL]; omega) fun id H o=>?_;rw [repl_succ1] at o
   have hl2 : (List.replicate k (-1 : Int)++[-1]).length=k+1:=by simp
   try simp only [go_sem,↓reduceIte,reduceEqDiff,reduceAdd,reduceMul,reduceLeDiff,reduceLT,w,hl2]
   exact for_next id h1p o rfl
  have h1p:=of_ndecide h1
  obtain rfl : k=c.frm.length:=by omega
  clear h1;refine tt ?_;refine awp_for [2,3,4,5,9] (G:=List Int) (fun x _=>[(11,some (.int .i64 (x : Int)))]) (fun x st H=>IdI c d ob st x∧Owns H0 H ((b,.cells 1 (st.map iI) 0)::(idF,.cells 12 (flat (ms.map fuE)) 0)::l)) ob.length (List.replicate c.frm.length (-1)) ⟨⟨by simp,fun i hi=>.inl (by rw [List.length_replicate] at hi; rw [List.getD_eq_getElem?_getD,List.getElem?_replicate,if_pos hi]; rfl),fun y hy=>by omega⟩,o⟩ rfl ?_;clear o
  rintro x st H hx ⟨ts,o⟩
  replace ts : IdI c d ob st x:=ts
  replace o : Owns H0 H ((b,.cells 1 (st.map iI) 0)::(idF,.cells 12 (flat (ms.map fuE)) 0)::l):=o
  have tsl:=ts.len;refine tt ?_;apply bk <;> intro h1
  ·have h1p:=of_decide h1
   have w:=wsucc (k:=x) (by omega)
   have hxo : c.ObR x:=⟨by omega,by omega⟩
   have hyo:=hob x h1p
   have ii:=(hc.idI hxo).2
   have jj:=hd.idI hyo
   have ia:=(hc.idA hxo).1
   have ia1 : (c.idn.getD x default).toNat<c.frm.length:=ia.2
   have ia0 : 0≤c.idn.getD x default:=ia.1
   have ie : c.idn.getD x default=(((c.idn.getD x default).toNat : Nat) : Int):=by omega
   have t2:=ts.next hC (k:=x) (by omega) ie;refine tt ?_
   (repeat (refine ⟨by first | exact ii | exact h1p | exact jj, ?_⟩))
   refine ⟨⟨ia0,ia1⟩,set_own (ix d.idn (ix ob x)) o rfl (by rw [tsl]; exact ia1) fun H o=>?_⟩;refine tw w ?_;exact for_next (st.set (c.idn.getD x default).toNat (ix d.idn (ob.getD x default))) h1p ⟨t2,o⟩ rfl
  have h1p:=of_ndecide h1;clear h1
  have hxe : x=c.idn.length:=by omega
  rw [hxe] at ts
  have pa:=ts.par hC hD hO
  have cl:=ts.clo hC hD hO
  have hfn : fnsP c d false 0 ob=(extP c d false ob st).map fun P=>⟨c,d,ob,P⟩:=by
   show (extP c d false ob (List.replicate c.frm.length (-1))).map _=_
   rw [extP_ids tsl ts.all]
  refine tt ?_;refine newBuf_own o fun id62 H o=>tt ?_;refine (l06ArrowsX B hC hD tO ((idF,.cells 12 (flat (ms.map fuE)) 0)::l) H0 _ 0 st b id62 [] H rfl (by omega) pa cl ts.at_ (fun i hi=>by omega) (by simp) o.swap).mono ?_;clear o
  rintro r H ⟨idL,rfl,o⟩
  have hfn2 : colF 200 ms (fnsP c d false 0 ob)=colF 200 ms ((colF 200 [] (extP c d false ob st)).map fun P=>⟨c,d,ob,P⟩):=by
   rw [hfn,colF_map,List.map_nil]
   show _=colF 200 _ (List.take 201 _)
   rw [colF_take,List.nil_append]
  rw [hfn2]
  have hout : (colF 200 [] (extP c d false ob st)).length≤201:=colF_len
  generalize colF 200 [] (extP c d false ob st)=out at *;refine tt ?_;refine fz_own (f:=iL) o rfl fun H o=>tt ?_;refine awp_for [2,4,5,12] (G:=Nat × List FU) (fun i g=>[(3,some (.buf g.1 g.2.length)),(13,some (.int .i64 (i : Int)))]) (fun i g H=>g.2=colF 200 ms ((out.take i).map fun P=>⟨c,d,ob,P⟩)∧Owns H0 H ((g.1,.cells 12 (flat (g.2.map fuE)) 0)::l)) out.length (idF,ms) ⟨by show _=colF 200 _ (List.map _ (List.take 0 _)); rw [List.take_zero,List.map_nil,colF_nil (by simp; omega)],o⟩ rfl ?_;clear o
  rintro i ⟨idF,ms2⟩ H hi ⟨hms2,o⟩;dsimp only at hms2 o
  have hml : ms2.length=(colF 200 ms ((out.take i).map fun P=>(⟨c,d,ob,P⟩ : FU))).length:=by rw [← hms2]
  have hmle : ms2.length≤201:=by rw [hml]; exact colF_len
  refine tt ?_
  by_cases h2 : i<out.length
  rotate_left
  ·rw [decide_eq_false h2]
   have : i=out.length:=by omega
   subst this;rw [List.take_length] at hms2;subst hms2;refine tt ?_;exact ⟨H,.refl _,idF,rfl,o⟩
  rw [decide_eq_true h2]
  have w2:=wsucc (k:=i) (by omega);refine tt ?_
  by_cases h3 : (ms2.length : Int)≤200
  rotate_left
  ·rw [decide_eq_false h3]
   have hfu : colF 200 ms (out.map fun P=>(⟨c,d,ob,P⟩ : FU))=ms2:=by
    rw [hms2]
    conv=>lhs; rw [← List.take_append_drop i out,List.map_append]
    exact (colF_full (by rw [← hml]; omega)).symm
   refine tt ?_;exact ⟨H,.refl _,idF,by rw [hfu],by rw [hfu]; exact o⟩
  rw [decide_eq_true h3]
  have hfew:=colF_few (L:=ms) (l:=(out.take i).map fun P=>(⟨c,d,ob,P⟩ : FU)) (most:=200) (by rw [← hml]; omega)
  have hstep : ms2++[(⟨c,d,ob,out.getD i default⟩ : FU)]=colF 200 ms ((out.take (i+1)).map fun P=>(⟨c,d,ob,P⟩ : FU)):=by
   have e : (out.take (i+1)).map (fun P=>(⟨c,d,ob,P⟩ : FU))=(out.take i).map (fun P=>(⟨c,d,ob,P⟩ : FU))++[⟨c,d,ob,out.getD i default⟩]:=by
    rw [List.take_succ_eq_append_getElem h2,List.map_append]
    congr 1
    simp [List.getD_eq_getElem?_getD,h2]
   rw [e,← colF_more (by rw [← hml]; omega),← hms2,colF,List.take_of_length_le (by simp; omega)]
  refine tt ?_;refine ⟨h2, ?_⟩;refine (l06MakeP B c d ob (out.getD i default)).go fun _=>tt ?_;refine ⟨.refl _, ?_⟩;refine app_ownN (f:=fuE) (⟨c,d,ob,out.getD i default⟩ : FU) o rfl rfl (by simp only [maxL]; omega) fun idF H o=>?_;refine tw w2 ?_;exact for_next (idF,ms2++[(⟨c,d,ob,out.getD i default⟩ : FU)]) h2 ⟨hstep,o⟩ rfl
 rw [decide_eq_false hfull]
 obtain ⟨m,rfl⟩ : ∃ m,n=m+1:=⟨n - 1,by omega⟩
 have eX : fnsP c d false (m+1) ob=(natsL d.objs).flatMap fun y=>fnsP c d false m (ob++[y]):=rfl;rw [eX]
 have hWl : (natsL d.objs).length=d.objs.toNat:=by simp [natsL]
 have hWa : ∀ y : Nat,y<d.objs.toNat→(natsL d.objs).getD y default=y:=fun y hy=>by have:=natsL_ix (n:=d.objs) (y:=(y : Int)) (by omega); rwa [ix_nat] at this
 generalize natsL d.objs=W at *;refine tt ?_;refine awp_for [2,4,5] (G:=Nat × List FU) (fun y g=>[(3,some (.buf g.1 g.2.length)),(14,some (.int .i64 (y : Int)))]) (fun y g H=>g.2=colF 200 ms ((W.take y).flatMap fun y=>fnsP c d false m (ob++[y]))∧Owns H0 H ((g.1,.cells 12 (flat (g.2.map fuE)) 0)::l)) d.objs.toNat (idF,ms) ⟨by show _=colF 200 _ (List.flatMap _ (List.take 0 _)); rw [List.take_zero,List.flatMap_nil,colF_nil (by simp; omega)],o⟩ rfl ?_;clear o
 rintro y ⟨idF,ms2⟩ H hy ⟨hms2,o⟩;dsimp only at hms2 o
 have hml : ms2.length=(colF 200 ms ((W.take y).flatMap fun y=>fnsP c d false m (ob++[y]))).length:=by rw [← hms2]
 have hmle : ms2.length≤201:=by rw [hml]; exact colF_len
 refine tt ?_
 by_cases h2 : (y : Int)<d.objs
 rotate_left
 ·rw [decide_eq_false h2]
  have : y=W.length:=by omega
  subst this;rw [List.take_length] at hms2;subst hms2;refine tt ?_;exact ⟨H,.refl _,idF,rfl,o⟩
 rw [decide_eq_true h2]
 have w2:=wsucc (k:=y) (by omega)
 have hyW : y<W.length:=by omega
 have ht:=flat_take (f:=fun y=>fnsP c d false m (ob++[y])) hyW
 have hat:=flat_at (f:=fun y=>fnsP c d false m (ob++[y])) hyW;rw [hWa y (by omega)] at ht hat;refine tt ?_
 by_cases h3 : (ms2.length : Int)≤200
 rotate_left
 ·rw [decide_eq_false h3]
  have hfu : colF 200 ms (W.flatMap fun y=>fnsP c d false m (ob++[y]))=ms2:=by
   rw [hms2,hat];exact (colF_full (by rw [← hml]; omega)).symm
  refine tt ?_;exact ⟨H,.refl _,idF,by rw [hfu],by rw [hfu]; exact o⟩
 rw [decide_eq_true h3]
 have hmore : ∀ l',colF 200 (ms2) l'=colF 200 ms ((W.take y).flatMap (fun y=>fnsP c d false m (ob++[y]))++l'):=fun l'=>by rw [hms2]; exact colF_more (by rw [← hml]; omega)
 refine tt ?_;refine ((l01OwnN B ob).run H).mono ?_
 rintro r H ⟨p,⟨u,rfl,rfl⟩,o2⟩;refine ⟨o2.sub, ?_⟩
 have o:=o.trans o2;refine tt ?_;refine app_own (y : Int) (show Owns H0 H ((u,.cells 1 (ob.map iI) 0)::(idF,.cells 12 (flat (ms2.map fuE)) 0)::l) from o) rfl rfl (by simp only [maxL]; omega) fun u H o=>tt ?_;refine (ih m (by omega) (ob++[(y : Int)]) u idF ms2 H (by simp; omega) (fun x hx=>?_) (by omega) o).mono ?_
 ·by_cases h : x<ob.length
  ·have:=hob x h
   simpa [List.getD_eq_getElem?_getD,List.getElem?_append_left h] using this
  ·obtain rfl : x=ob.length:=by simp at hx; omega
   have : d.ObR y:=⟨by omega,h2⟩
   simpa [List.getD_eq_getElem?_getD] using this
 clear o
 rintro r H ⟨idF,rfl,o⟩;rw [hmore,← ht] at o ⊢;refine tw w2 ?_;exact for_next (idF,_) (by omega) ⟨rfl,o⟩ rfl
noncomputable def allS (c d : Cat) : List FU:=(allF c d false).take 201
theorem l06AllX (B : Nat) {c d : Cat} (hC : c.Is) (hD : d.Is) : Pur Tryz.prog B 89 [.agg c.cells,.agg d.cells] (mL fuE (allS c d)):=by
 refine ⟨fun H0=>c89 (by simp) fun _=>?_⟩;unfold s89
 have o : Owns H0 H0 []:=.nil _;refine tt ?_;refine newBuf_own o fun id7 H o=>tt ?_;refine new_listN fuE o fun id8 H o=>tt ?_;refine (l06SearchX B hC hD [] H0 c.objs.toNat [] id7 id8 [] H (by simp) (fun x hx=>by simp at hx) (by simp) o.swap).mono ?_
 rintro r H ⟨idF,rfl,o⟩
 have e : colF 200 [] (fnsP c d false c.objs.toNat [])=allS c d:=rfl;rw [e] at o ⊢
 generalize allS c d=R at o ⊢;refine tt ?_;refine fz_ownN o rfl fun H o=>tt ?_;exact pure_ret rfl o.sub
def FuS (c d : Cat) (k : FU) : Prop:=k.src=c∧k.tgt=d∧FuOk k
def ShY (c d : Cat) (ms : List FU) : Prop:=∀ m,m∈ms→FuS c d m
def SrY (c d : Cat) (H0 : Heap) (l : Ob) : Kont:=fun r H'=>∃ (idF : Nat) (ms : List FU),r=.buf idF ms.length∧(ms.length≤201∧ShY c d ms)∧Owns H0 H' ((idF,.cells 12 (flat (ms.map fuE)) 0)::l)
theorem l06SearchY (B : Nat) {c d : Cat} (hc : c.Shape) (hd : d.Shape) (l : Ob) (H0 : Heap) : ∀ (n : Nat) (ob : List Int) (idB idF : Nat) (ms : List FU) (H : Heap),c.objs.toNat - ob.length=n→ob.length≤c.objs.toNat →
  (∀ x : Nat,x<ob.length→d.ObR (ob.getD x default))→ms.length≤200→ShY c d ms→Owns H0 H ((idB,.cells 1 (ob.map iI) 0)::(idF,.cells 12 (flat (ms.map fuE)) 0)::l) →
  CallH Tryz.prog B 169 [.agg c.cells,.agg d.cells,.buf idB ob.length,.buf idF ms.length] H (SrY c d H0 l):=by
 intro n
 induction n using Nat.strongRecOn with
 | _ n ih =>
 intro ob idB idF ms H hn hol hob hms hsh o;refine c169p (by simp) fun _=>?_
 have sm:=hc.m
 have so:=hc.o
 have dO:=hd.o;unfold s169p;refine tt ?_;refine fz_own (f:=iI) o rfl fun H o=>tt ?_;refine (l06Rooms_ok B c d hc hd ob).go fun r _ ⟨b,e⟩=>?_;subst e
 cases b
 ·refine tt ?_;exact ⟨H,.refl _,idF,ms,rfl,⟨by omega,hsh⟩,o⟩
 refine tt ?_
 by_cases hfull : (ob.length : Int)=c.objs
 ·rw [decide_eq_true hfull]
  have tO : TyO c d ob:=⟨hfull,fun x hx=>by have:=hob x.toNat (by have:=hx.1; have:=hx.2; omega); exact this⟩;refine tt ?_;refine newBuf_own o fun id9 H o=>?_
  have o : Owns H0 H ((id9,.cells 1 ((List.replicate 0 (-1 : Int)).map iI) 0)::(idF,.cells 12 (flat (ms.map fuE)) 0)::l):=o;refine tt ?_;refine awp_for [2,3,4,5] (G:=Nat) (fun k b=>[(9,some (.buf b k)),(10,some (.int .i64 (k : Int)))]) (fun k b H=>Owns H0 H ((b,.cells 1 ((List.replicate k (-1 : Int)).map iI) 0)::(idF,.cells 12 (flat (ms.map fuE)) 0)::l)) c.frm.length id9 o rfl ?_;clear o
  rintro k b H hk o
  replace o : Owns H0 H ((b,.cells 1 ((List.replicate k (-1 : Int)).map iI) 0)::(idF,.cells 12 (flat (ms.map fuE)) 0)::l):=o;refine tt ?_;apply bk <;> intro h1
  ·have h1p:=of_decide h1
   have w:=wsucc (k:=k) (by omega)
   have hrl : (List.replicate k (-1 : Int)).length=k:=by simp
   refine tt ?_;refine app_own (-1 : Int) o rfl hrl.symm (by rw [hrl]; simp only [maxL]; omega) fun id H o=>?_;rw [repl_succ1] at o
   have hl2 : (List.replicate k (-1 : Int)++[-1]).length=k+1:=by simp
   try simp only [go_sem,↓reduceIte,reduceEqDiff,reduceAdd,reduceMul,reduceLeDiff,reduceLT,w,hl2]
   exact for_next id h1p o rfl
  have h1p:=of_ndecide h1
  obtain rfl : k=c.frm.length:=by omega
  clear h1;refine tt ?_;refine awp_for [2,3,4,5,9] (G:=List Int) (fun x _=>[(11,some (.int .i64 (x : Int)))]) (fun x st H=>TyA c d ob st∧Owns H0 H ((b,.cells 1 (st.map iI) 0)::(idF,.cells 12 (flat (ms.map fuE)) 0)::l)) ob.length (List.replicate c.frm.length (-1)) ⟨.blank,o⟩ rfl ?_;clear o
  rintro x st H hx ⟨ts,o⟩
  replace ts : TyA c d ob st:=ts
  replace o : Owns H0 H ((b,.cells 1 (st.map iI) 0)::(idF,.cells 12 (flat (ms.map fuE)) 0)::l):=o;refine tt ?_;apply bk <;> intro h1
  ·have h1p:=of_decide h1
   have w:=wsucc (k:=x) (by omega)
   have hxo : c.ObR x:=⟨by omega,by omega⟩
   have hyo:=hob x h1p
   have ii:=(hc.idI hxo).2
   have jj:=hd.idI hyo
   have ia:=(hc.idA hxo).1
   have te : TyE c d ob (ix c.idn x) (ix d.idn (ix ob x)):=TyE.idn hc hd hxo hyo
   have t2:=ts.set ia te
   have ia1 : (c.idn.getD x default).toNat<c.frm.length:=ia.2
   have ia0 : 0≤c.idn.getD x default:=ia.1;refine tt ?_
   (repeat (refine ⟨by first | exact ii | exact h1p | exact jj, ?_⟩))
   refine ⟨⟨ia0,ia1⟩,set_own (ix d.idn (ix ob x)) o rfl (by rw [ts.len]; exact ia1) fun H o=>?_⟩;refine tw w ?_;exact for_next (st.set (ix c.idn x).toNat (ix d.idn (ix ob x))) h1p ⟨t2,o⟩ rfl
  have h1p:=of_ndecide h1;clear h1;refine tt ?_;refine newBuf_own o fun id62 H o=>tt ?_;refine (l06ArrowsT_ok B hc hd tO ((idF,.cells 12 (flat (ms.map fuE)) 0)::l) H0 _ 0 st b id62 [] H rfl (by omega) ts (fun i hi=>by omega) (by simp) (fun a h=>by simp at h) o.swap).mono ?_;clear o
  rintro r H ⟨idL,out,rfl,⟨hout,hfn⟩,o⟩;refine tt ?_;refine fz_own (f:=iL) o rfl fun H o=>tt ?_;refine awp_for [2,4,5,12] (G:=Nat × List FU) (fun i g=>[(3,some (.buf g.1 g.2.length)),(13,some (.int .i64 (i : Int)))]) (fun i g H=>(g.2.length≤201∧ShY c d g.2)∧Owns H0 H ((g.1,.cells 12 (flat (g.2.map fuE)) 0)::l)) out.length (idF,ms) ⟨⟨by simp only; omega,hsh⟩,o⟩ rfl ?_;clear o
  rintro i ⟨idF,ms⟩ H hi ⟨⟨hms,hsh⟩,o⟩;dsimp only at hms hsh o;refine tt ?_
  by_cases h2 : i<out.length
  rotate_left
  ·rw [decide_eq_false h2];refine tt ?_;exact ⟨H,.refl _,idF,ms,rfl,⟨hms,hsh⟩,o⟩
  rw [decide_eq_true h2]
  have w2:=wsucc (k:=i) (by omega);refine tt ?_
  by_cases h3 : (ms.length : Int)≤200
  rotate_left
  ·rw [decide_eq_false h3];refine tt ?_;exact ⟨H,.refl _,idF,ms,rfl,⟨hms,hsh⟩,o⟩
  rw [decide_eq_true h3];refine tt ?_;refine ⟨h2, ?_⟩;refine (l06MakeP B c d ob (out.getD i default)).go fun _=>tt ?_;refine ⟨.refl _, ?_⟩;refine app_ownN (f:=fuE) (⟨c,d,ob,out.getD i default⟩ : FU) o rfl rfl (by simp only [maxL]; omega) fun idF H o=>?_;refine tw w2 ?_
  exact for_next (idF,ms++[(⟨c,d,ob,out.getD i default⟩ : FU)]) h2 ⟨⟨by simp; omega,fun m hm=>by
   rcases List.mem_append.mp hm with h | h
   ·exact hsh m h
   ·obtain rfl:=List.mem_singleton.mp h;exact ⟨rfl,rfl,hc,hd,tO,hfn _ (mem_getD.mpr ⟨i,h2,rfl⟩)⟩⟩,o⟩ rfl
 rw [decide_eq_false hfull];refine tt ?_;refine awp_for [2,4,5] (G:=Nat × List FU) (fun y g=>[(3,some (.buf g.1 g.2.length)),(14,some (.int .i64 (y : Int)))]) (fun y g H=>(g.2.length≤201∧ShY c d g.2)∧Owns H0 H ((g.1,.cells 12 (flat (g.2.map fuE)) 0)::l)) d.objs.toNat (idF,ms) ⟨⟨by simp only; omega,hsh⟩,o⟩ rfl ?_;clear o
 rintro y ⟨idF,ms⟩ H hy ⟨⟨hms,hsh⟩,o⟩;dsimp only at hms hsh o;refine tt ?_
 by_cases h2 : (y : Int)<d.objs
 rotate_left
 ·rw [decide_eq_false h2];refine tt ?_;exact ⟨H,.refl _,idF,ms,rfl,⟨hms,hsh⟩,o⟩
 rw [decide_eq_true h2]
 have w2:=wsucc (k:=y) (by omega);refine tt ?_
 by_cases h3 : (ms.length : Int)≤200
 rotate_left
 ·rw [decide_eq_false h3];refine tt ?_;exact ⟨H,.refl _,idF,ms,rfl,⟨hms,hsh⟩,o⟩
 rw [decide_eq_true h3];refine tt ?_;refine ((l01OwnN B ob).run H).mono ?_
 rintro r H ⟨p,⟨u,rfl,rfl⟩,o2⟩;refine ⟨o2.sub, ?_⟩
 have o:=o.trans o2;refine tt ?_;refine app_own (y : Int) (show Owns H0 H ((u,.cells 1 (ob.map iI) 0)::(idF,.cells 12 (flat (ms.map fuE)) 0)::l) from o) rfl rfl (by simp only [maxL]; omega) fun u H o=>tt ?_;refine (ih (c.objs.toNat - (ob++[(y : Int)]).length) (by simp; omega) (ob++[(y : Int)]) u idF ms H rfl (by simp; omega) (fun x hx=>?_) (by omega) hsh o).mono ?_
 ·by_cases h : x<ob.length
  ·have:=hob x h
   simpa [List.getD_eq_getElem?_getD,List.getElem?_append_left h] using this
  ·obtain rfl : x=ob.length:=by simp at hx; omega
   have : d.ObR y:=⟨by omega,h2⟩
   simpa [List.getD_eq_getElem?_getD] using this
 clear o
 rintro r H ⟨idF,ms,rfl,hms,o⟩;refine tw w2 ?_;exact for_next (idF,ms) (by omega) ⟨hms,o⟩ rfl
def AllQ (c d : Cat) (r : AV) : Prop:=∃ Fs : List FU,(Fs.length≤201∧ShY c d Fs)∧r=mL fuE Fs
theorem l06AllY (B : Nat) {c d : Cat} (hc : c.Shape) (hd : d.Shape) : Rets B 89 [.agg c.cells,.agg d.cells] (AllQ c d):=by
 intro H0;refine c89 (by simp) fun _=>?_;unfold s89
 have o : Owns H0 H0 []:=.nil _;refine tt ?_;refine newBuf_own o fun id7 H o=>tt ?_;refine new_listN fuE o fun id8 H o=>tt ?_;refine (l06SearchY B hc hd [] H0 _ [] id7 id8 [] H rfl (by simp) (fun x hx=>by simp at hx) (by simp) (fun m hm=>by simp at hm) o.swap).mono ?_
 rintro r H ⟨idF,ms,rfl,hms,o⟩;refine tt ?_;refine fz_ownN o rfl fun H o=>tt ?_;exact rets_ret ⟨ms,hms,rfl⟩ o.sub
end Go.Proofs.Shf
namespace Go.Shf
open Go.AW
def FuNe (k m : FU) : Prop:=k.ob≠m.ob∨k.ar≠m.ar
theorem fnsP_ne {c d : Cat} {once : Bool} : ∀ (n : Nat) (O : List Int),(fnsP c d once n O).Pairwise FuNe
 | 0,O=>by
  rw [fnsP,List.pairwise_map];exact ((allL_lex _ _).filter _).imp fun h=>.inr h.ne
 | n+1,O=>by
  rw [fnsP,List.pairwise_flatMap];refine ⟨fun y _=>fnsP_ne n _, ?_⟩;rw [natsL,List.pairwise_map];refine List.pairwise_lt_range.imp fun {a b} hab p hp q hq=>?_
  obtain ⟨O1,P1,_,_,_,_,rfl⟩:=mem_fnsP.mp hp
  obtain ⟨O2,P2,_,_,_,_,rfl⟩:=mem_fnsP.mp hq
  left
  intro e
  have e : (O++[Int.ofNat a])++O1=(O++[Int.ofNat b])++O2:=e;rw [List.append_assoc,List.append_assoc] at e
  have:=List.append_cancel_left e
  injection this with e1 _
  have : (a : Int)=b:=e1;omega
theorem allF_ne {c d : Cat} {once : Bool} : (allF c d once).Pairwise FuNe:=fnsP_ne _ _
def SamF (m k : FU) : Prop:=k.ob=m.ob∧k.ar=m.ar
noncomputable def posF (Gs : List FU) (m : FU) : Nat:=Gs.findIdx fun k=>dec (SamF m k)
section
variable {c d : Cat} {Gs Fs : List FU} {m : FU}
theorem posF_at (hm : m∈Gs) : posF Gs m<Gs.length∧SamF m (Gs.getD (posF Gs m) default):=by
 have h : posF Gs m<Gs.length:=List.findIdx_lt_length_of_exists ⟨m,hm,dec_t ⟨rfl,rfl⟩⟩;refine ⟨h, ?_⟩
 have:=List.findIdx_getElem (p:=fun k=>dec (SamF m k)) (w:=h);rw [List.getD_eq_getElem?_getD,List.getElem?_eq_getElem h];exact dec_iff.mp this
theorem posF_eq (hn : Gs.Pairwise FuNe) {i : Nat} (hi : i<Gs.length) (h : SamF m (Gs.getD i default)) : posF Gs m=i:=by
 have ei : Gs.getD i default=Gs[i]:=by rw [List.getD_eq_getElem?_getD,List.getElem?_eq_getElem hi]; rfl
 rw [ei] at h
 have hlt : posF Gs m<Gs.length:=List.findIdx_lt_length_of_exists ⟨Gs[i],List.getElem_mem hi,dec_t h⟩
 have hp:=dec_iff.mp (List.findIdx_getElem (p:=fun k=>dec (SamF m k)) (w:=hlt))
 have hpw:=List.pairwise_iff_getElem.mp hn
 rcases Nat.lt_trichotomy (posF Gs m) i with q | q | q
 ·exfalso
  rcases hpw _ _ hlt hi q with w | w
  ·exact w (hp.1.trans h.1.symm)
  ·exact w (hp.2.trans h.2.symm)
 ·exact q
 ·exfalso
  rcases hpw _ _ hi hlt q with w | w
  ·exact w (h.1.trans hp.1.symm)
  ·exact w (h.2.trans hp.2.symm)
noncomputable def betw (d e : Cat) (Fs Gs : List FU) (im : FU→FU) (cm : List Int→List Int) : FU :=
 ⟨fcat d Fs,fcat e Gs,Fs.map fun k=>((posF Gs (im k) : Nat) : Int),(arrN Fs).map fun s=>indexOf (arrN Gs) (((posF Gs (im (Fs.getD (s.getD 0 default).toNat default)) : Nat) : Int)::((posF Gs (im (Fs.getD (s.getD 1 default).toNat default)) : Nat) : Int)::cm (s.drop 2))⟩
noncomputable def evF (d : Cat) (Fs : List FU) (x : Int) : FU:=⟨fcat d Fs,d,Fs.map fun k=>ix k.ob x,(arrN Fs).map fun s=>ix (s.drop 2) x⟩
theorem fcat_frl : (fcat d Fs).frm.length=(arrN Fs).length:=by simp [fcat]
theorem fcat_ar (hF : FunsOf c d Fs) {a x y : Int} (u : (fcat d Fs).Ar a x y) : ∃ (i j : Nat) (t : List Int),i<Fs.length∧j<Fs.length∧NatF (Fs.getD i default) (Fs.getD j default) t∧x=i∧y=j ∧
  (0≤a∧a.toNat<(arrN Fs).length)∧(arrN Fs).getD a.toNat default=(i : Int)::(j : Int)::t:=by
 have ha:=u.r;rw [fcat_frl] at ha
 obtain ⟨i,j,t,hi,hj,ht,e⟩:=arr_at hF ha.2
 have s:=u.s
 have k:=u.t;rw [fcat,ix] at s k;simp only at s k;rw [map_getD _ ha.2,e] at s k;exact ⟨i,j,t,hi,hj,ht,s.symm,k.symm,ha,e⟩
theorem fcat_idn (hF : FunsOf c d Fs) {i : Nat} (hi : i<Fs.length) : ix (fcat d Fs).idn (i : Int)=indexOf (arrN Fs) ((i : Int)::(i : Int)::idT (Fs.getD i default)):=by
 rw [ix_nat,fcat]; simp only; rw [getD_map_range _ _ hi]; rfl
theorem fcat_comp (hF : FunsOf c d Fs) {a b : Int} {i j l : Nat} {s t : List Int} (ha : 0≤a∧a.toNat<(arrN Fs).length) (hb : 0≤b∧b.toNat<(arrN Fs).length) (ea : (arrN Fs).getD a.toNat default=(i : Int)::(j : Int)::s)
  (eb : (arrN Fs).getD b.toNat default=(j : Int)::(l : Int)::t) : (fcat d Fs).th a b=indexOf (arrN Fs) ((i : Int)::(l : Int)::vth d s t):=by
 rw [Cat.th,ix,ix,fcat_th hF ha.2 hb.2,ea,eb];exact if_pos rfl
theorem evF_is (hc : c.Is) (hd : d.Is) (hF : FunsOf c d Fs) (h8 : Fs.length≤8) (h40 : (arrN Fs).length≤40) {x : Int} (hx : 0≤x∧x<c.objs) : (evF d Fs x).Is:=by
 have ob : ∀ i : Nat,i<Fs.length→ix (evF d Fs x).ob (i : Int)=ix (Fs.getD i default).ob x:=fun i hi=>by rw [ix_nat]; exact map_getD _ hi
 have ar : ∀ {a : Int} {i j : Nat} {t : List Int},a.toNat<(arrN Fs).length→(arrN Fs).getD a.toNat default=(i : Int)::(j : Int)::t→ix (evF d Fs x).ar a=ix t x:=fun {a i j t} ha e=>by
  rw [ix,show (evF d Fs x).ar=(arrN Fs).map fun s=>ix (s.drop 2) x from rfl,map_getD _ ha,e]; rfl
 refine fu_mk (fcat_is hc hd hF h8 h40) hd (by simp [evF,fcat]) (by simp [evF,fcat]) (fun y hy=>?_) (fun a y z u=>?_) (fun y hy=>?_) fun a b y z w u v=>?_
 ·have hy' : 0≤y∧y<(Fs.length : Int):=hy
  obtain ⟨i,rfl⟩ : ∃ i : Nat,y=i:=⟨y.toNat,by omega⟩;rw [ob i (by omega)]
  have F1:=hF.f i (by omega)
  have:=F1.1.obA (x:=x) (by rw [F1.2.1]; exact hx);rw [F1.2.2] at this; exact this
 ·obtain ⟨i,j,t,hi,hj,ht,rfl,rfl,ha,e⟩:=fcat_ar hF u
  have F1:=hF.f i hi;rw [ar ha.2 e,ob i hi,ob j hj]
  have:=ht.ar x (by rw [F1.2.1]; exact hx);rw [F1.2.2] at this; exact this
 ·have hy' : 0≤y∧y<(Fs.length : Int):=hy
  obtain ⟨i,rfl⟩ : ∃ i : Nat,y=i:=⟨y.toNat,by omega⟩
  have hi : i<Fs.length:=by omega
  have F1:=hF.f i hi
  have q:=idx_at (arr_id hF hi);rw [show (evF d Fs x).src=fcat d Fs from rfl,fcat_idn hF hi,ar q.1.2 q.2,ob i hi,idT_ix F1.1 (by rw [F1.2.1]; exact hx),F1.2.2]
  rfl
 ·obtain ⟨i,j,t,hi,hj,ht,rfl,rfl,ha,ea⟩:=fcat_ar hF u
  obtain ⟨j',l,s,hj',hl,hs,e1,rfl,hb,eb⟩:=fcat_ar hF v
  obtain rfl : j=j':=by omega
  have F1:=hF.f i hi
  have q:=idx_at (arr_mem hF hi hl (arr_comp hF hi hj hl ht hs))
  have tl:=ht.len;rw [F1.2.1] at tl;rw [show (evF d Fs x).src=fcat d Fs from rfl,fcat_comp hF ha hb ea eb,ar q.1.2 q.2,ar ha.2 ea,ar hb.2 eb,vth_ix (by omega)]
  rfl
structure BetH (c d c' e : Cat) (Fs Gs : List FU) (im : FU→FU) (cm : List Int→List Int) : Prop where
 hF : FunsOf c d Fs
 hG : FunsOf c' e Gs
 mem : ∀ i : Nat,i<Fs.length→im (Fs.getD i default)∈Gs
 nat : ∀ (i j : Nat) (t : List Int),i<Fs.length→j<Fs.length→NatF (Fs.getD i default) (Fs.getD j default) t→NatF (im (Fs.getD i default)) (im (Fs.getD j default)) (cm t)
 idt : ∀ i : Nat,i<Fs.length→cm (idT (Fs.getD i default))=idT (im (Fs.getD i default))
 cmp : ∀ (i j l : Nat) (s t : List Int),i<Fs.length→j<Fs.length→l<Fs.length→NatF (Fs.getD i default) (Fs.getD j default) s→NatF (Fs.getD j default) (Fs.getD l default) t→cm (vth d s t)=vth e (cm s) (cm t)
section
variable {c' e : Cat} {im : FU→FU} {cm : List Int→List Int}
theorem BetH.pos (h : BetH c d c' e Fs Gs im cm) {i : Nat} (hi : i<Fs.length) : posF Gs (im (Fs.getD i default))<Gs.length∧Gs.getD (posF Gs (im (Fs.getD i default))) default=im (Fs.getD i default):=by
 have hm:=h.mem i hi
 obtain ⟨h1,h2⟩:=posF_at hm;refine ⟨h1, ?_⟩
 obtain ⟨n,hn,en⟩:=mem_getD.mp hm
 have a:=(h.hG.f _ h1).2
 have b:=(h.hG.f n hn).2;rw [en] at b
 generalize Gs.getD (posF Gs (im (Fs.getD i default))) default=k at *
 generalize im (Fs.getD i default)=m at *
 obtain ⟨k1,k2,k3,k4⟩:=k
 obtain ⟨m1,m2,m3,m4⟩:=m
 obtain ⟨a1,a2⟩:=a
 obtain ⟨b1,b2⟩:=b
 obtain ⟨q1,q2⟩:=h2;simp only at a1 a2 b1 b2 q1 q2;rw [a1,a2,b1,b2,q1,q2]
theorem BetH.arr (h : BetH c d c' e Fs Gs im cm) {i j : Nat} {t : List Int} (hi : i<Fs.length) (hj : j<Fs.length) (k : NatF (Fs.getD i default) (Fs.getD j default) t) :
  ((posF Gs (im (Fs.getD i default)) : Nat) : Int)::((posF Gs (im (Fs.getD j default)) : Nat) : Int)::cm t∈arrN Gs:=by
 have p:=h.pos hi
 have q:=h.pos hj;exact arr_mem h.hG p.1 q.1 (by rw [p.2,q.2]; exact h.nat i j t hi hj k)
theorem betw_ob {i : Nat} (hi : i<Fs.length) : ix (betw d e Fs Gs im cm).ob (i : Int)=((posF Gs (im (Fs.getD i default)) : Nat) : Int):=by rw [ix_nat]; exact map_getD _ hi
theorem betw_ar {a : Int} {i j : Nat} {t : List Int} (ha : a.toNat<(arrN Fs).length) (ea : (arrN Fs).getD a.toNat default=(i : Int)::(j : Int)::t) :
  ix (betw d e Fs Gs im cm).ar a=indexOf (arrN Gs) (((posF Gs (im (Fs.getD i default)) : Nat) : Int)::((posF Gs (im (Fs.getD j default)) : Nat) : Int)::cm t):=by
 rw [ix,betw]
 simp only;rw [map_getD _ ha,ea]
 rfl
theorem betw_is (h : BetH c d c' e Fs Gs im cm) (h1 : (fcat d Fs).Is) (h2 : (fcat e Gs).Is) : (betw d e Fs Gs im cm).Is:=by
 refine fu_mk h1 h2 (by simp [betw,fcat]) (by simp [betw,fcat]) (fun y hy=>?_) (fun a y z u=>?_) (fun y hy=>?_) fun a b y z w u v=>?_
 ·have hy' : 0≤y∧y<(Fs.length : Int):=hy
  obtain ⟨i,rfl⟩ : ∃ i : Nat,y=i:=⟨y.toNat,by omega⟩;rw [betw_ob (by omega)]
  have:=(h.pos (i:=i) (by omega)).1
  show 0≤((_ : Nat) : Int)∧_<((Gs.length : Nat) : Int)
  omega
 ·obtain ⟨i,j,t,hi,hj,ht,rfl,rfl,ha,ea⟩:=fcat_ar h.hF u
  have q:=idx_at (h.arr hi hj ht);rw [betw_ar ha.2 ea,betw_ob hi,betw_ob hj];refine ⟨by show 0≤_∧_<(fcat e Gs).frm.length; rw [fcat_frl]; exact q.1, ?_, ?_⟩
  ·show ix (fcat e Gs).frm _=_
   rw [ix,fcat]; simp only; rw [map_getD _ q.1.2,q.2]; rfl
  ·show ix (fcat e Gs).to _=_
   rw [ix,fcat]; simp only; rw [map_getD _ q.1.2,q.2]; rfl
 ·have hy' : 0≤y∧y<(Fs.length : Int):=hy
  obtain ⟨i,rfl⟩ : ∃ i : Nat,y=i:=⟨y.toNat,by omega⟩
  have hi : i<Fs.length:=by omega
  have q:=idx_at (arr_id h.hF hi)
  have p:=h.pos hi;rw [show (betw d e Fs Gs im cm).src=fcat d Fs from rfl,show (betw d e Fs Gs im cm).tgt=fcat e Gs from rfl,fcat_idn h.hF hi,betw_ar q.1.2 q.2,betw_ob hi,fcat_idn h.hG p.1,p.2,h.idt i hi]
 ·obtain ⟨i,j,t,hi,hj,ht,rfl,rfl,ha,ea⟩:=fcat_ar h.hF u
  obtain ⟨j',l,s,hj',hl,hs,e1,rfl,hb,eb⟩:=fcat_ar h.hF v
  obtain rfl : j=j':=by omega
  have q:=idx_at (arr_mem h.hF hi hl (arr_comp h.hF hi hj hl ht hs))
  have r1:=idx_at (h.arr hi hj ht)
  have r2:=idx_at (h.arr hj hl hs);rw [show (betw d e Fs Gs im cm).src=fcat d Fs from rfl,show (betw d e Fs Gs im cm).tgt=fcat e Gs from rfl,fcat_comp h.hF ha hb ea eb,betw_ar q.1.2 q.2,betw_ar ha.2 ea,betw_ar hb.2 eb,fcat_comp h.hG r1.1 r2.1 r1.2 r2.2,h.cmp i j l t s hi hj hl ht hs]
theorem betw_ev (h : BetH c d c' e Fs Gs im cm) {x y : Int} {p : Int→Int} {q : Int→Int}
  (ho : ∀ i : Nat,i<Fs.length→ix (im (Fs.getD i default)).ob y=p (ix (Fs.getD i default).ob x))
  (ha : ∀ (i j : Nat) (t : List Int),i<Fs.length→j<Fs.length→NatF (Fs.getD i default) (Fs.getD j default) t→ix (cm t) y=q (ix t x)) :
  thenL (betw d e Fs Gs im cm).ob (evF e Gs y).ob=(evF d Fs x).ob.map p∧thenL (betw d e Fs Gs im cm).ar (evF e Gs y).ar=(evF d Fs x).ar.map q:=by
 constructor
 ·rw [thenL,betw,evF,evF]
  simp only;rw [List.map_map,List.map_map];refine List.map_congr_left fun k hk=>?_
  obtain ⟨i,hi,rfl⟩:=mem_getD.mp hk
  have:=h.pos hi;simp only [Function.comp];rw [ix_nat,map_getD _ this.1,this.2];exact ho i hi
 ·rw [thenL,betw,evF,evF]
  simp only;rw [List.map_map,List.map_map];refine List.map_congr_left fun s hs=>?_
  obtain ⟨i,j,t,hi,hj,ht,rfl⟩:=mem_arrN.mp hs
  have hn:=(mem_natL (h.hF.f i hi).1.sI.1.o.1).mp ht
  have r:=idx_at (h.arr hi hj hn);simp only [Function.comp];rw [ix]
  show ((arrN Gs).map fun s=>ix (s.drop 2) y).getD (indexOf (arrN Gs) (((posF Gs (im (Fs.getD i default)) : Nat) : Int)::((posF Gs (im (Fs.getD j default)) : Nat) : Int)::cm t)).toNat default=q (ix t x)
  rw [map_getD _ r.1.2,r.2];exact ha i j t hi hj hn
end
section
variable {g f : FU} {e : Cat}
theorem before_h (hf : f.Is) (hd : d.Is) : BetH f.tgt d f.src d (allF f.tgt d false) (allF f.src d false) (fun k=>f.thn k) (fun t=>thenL f.ob t):=by
 have hF:=funs_all hf.tI hd
 have tix : ∀ (t : List Int) x,0≤x∧x<f.src.objs→ix (thenL f.ob t) x=ix t (ix f.ob x):=fun t x hx=>ix_map _ (hf.obAt hx).1;refine ⟨hF,funs_all hf.sI hd,fun i hi=>?_,fun i j t hi hj ht=>?_,fun i hi=>?_,fun i j l s t hi hj hl hs ht=>?_⟩
 ·have F1:=hF.f i hi;exact (mem_allF hf.sI hd).mpr ⟨rfl,F1.2.2,thn_is hf F1.1 F1.2.1.symm,fun h=>by cases h⟩
 ·have F1:=hF.f i hi
  have F2:=hF.f j hj
  generalize (allF f.tgt d false).getD i default=k at *
  generalize (allF f.tgt d false).getD j default=m at *
  have hx : ∀ {x},0≤x∧x<f.src.objs→0≤ix f.ob x∧ix f.ob x<k.src.objs:=fun h=>by rw [F1.2.1]; exact hf.obA h
  refine ⟨by simp [thenL]; exact hf.fit.ol,fun x h=>?_,fun a x y u=>?_⟩
  ·have h : 0≤x∧x<f.src.objs:=h;rw [tix t x h,thn_ob hf h,thn_ob hf h];exact ht.ar _ (hx h)
  ·have u : f.src.Ar a x y:=u
   show k.tgt.th _ _=k.tgt.th _ _
   rw [tix t x (u.src hf.sI),tix t y (u.tgt hf.sI),thn_ar hf u.r,thn_ar hf u.r];exact ht.nat _ _ _ (by rw [F1.2.1]; exact hf.arA u)
 ·have F1:=hF.f i hi
  generalize (allF f.tgt d false).getD i default=k at *
  have I:=thn_is hf F1.1 F1.2.1.symm;refine nat_eq (d:=f.src) (by simp [thenL]; exact hf.fit.ol) (by simp [thenL,idT,FU.thn]) fun x hx=>?_;rw [tix _ x hx,idT_ix F1.1 (by rw [F1.2.1]; exact hf.obA hx),idT_ix I hx,thn_ob hf hx]
  rfl
 ·have F1:=hF.f i hi
  have l1:=hs.len;rw [F1.2.1] at l1
  have ol:=hf.fit.ol;refine nat_eq (d:=f.src) (by simp [thenL]; exact ol) (by simp [thenL,vth]) fun x hx=>?_
  have ho:=hf.obA hx
  have v1:=vth_ix (d:=d) (s:=s) (t:=t) (x:=ix f.ob x) (by omega)
  have v2:=vth_ix (d:=d) (s:=thenL f.ob s) (t:=thenL f.ob t) (x:=x) (by simp [thenL]; omega);rw [tix _ x hx,v1,v2,tix s x hx,tix t x hx]
theorem before_ev (hf : f.Is) (hd : d.Is) {x : Int} (hx : 0≤x∧x<f.src.objs) :
  (betw d d (allF f.tgt d false) (allF f.src d false) (fun k=>f.thn k) (fun t=>thenL f.ob t)).thn (evF d (allF f.src d false) x)=evF d (allF f.tgt d false) (ix f.ob x):=by
 have h:=before_h hf hd
 obtain ⟨q1,q2⟩:=betw_ev h (x:=ix f.ob x) (y:=x) (p:=fun y=>y) (q:=fun y=>y) (fun i hi=>thn_ob hf hx) (fun i j t hi hj ht=>ix_map _ (hf.obAt hx).1);rw [FU.thn,q1,q2,List.map_id',List.map_id']
 rfl
end
end
end Go.Shf
namespace Go.Proofs.Shf
open Go.AW Go.Proofs Go.Shf
theorem l08Arrow_ok (B : Nat) (x0 x1 x2 x3 x4 x5 : AV) (h0 : x0.one=true) (h1 : x1.one=true) (h2 : x2.one=true) (h3 : x3.one=true) (h4 : x4.one=true) (h5 : x5.one=true) (L : List (List Int)) (i j : Int) (t : List Int) (hl : t.length≤1000) :
  Pur Tryz.prog B 79 [.agg [x0,x1,x2,x3,x4,x5,iLL L],iI i,iI j,iL t] (iI (indexOf L (i::j::t))):=by
 refine ⟨fun H0=>c79p (by simp) fun _=>?_⟩;unfold s79p
 have o : Owns H0 H0 []:=.nil _;refine tt ?_;refine ⟨⟨h0,h1,h2,h3,h4,h5⟩, ?_⟩;refine newBuf_own o fun i13 H o=>tt ?_
 have o : Owns H0 H [(i13,.cells 1 (([i,j] : List Int).map iI) 0)]:=o;refine app_list (f:=iI) (r:=t) o rfl (by simp [maxL]; omega) fun i15 H o=>?_
 have e : ([i,j] : List Int)++t=i::j::t:=rfl;rw [e] at o
 have q:=l05Place_ok B L (i::j::t);refine tt ?_;refine call_lent (f:=iI) (A:=i::j::t) 1 rfl o rfl (.int _ _) q.run ?_;refine tt ?_;exact pure_ret rfl o.sub
noncomputable def objP (Fs : List FU) (m : FU) : Int:=if dec (∃ k,k∈Fs∧SamF m k) then ((posF Fs m : Nat) : Int) else -1
theorem objP_none {Fs : List FU} {m : FU} (h : ∀ i,i<Fs.length→¬ ((Fs.getD i default).ob=m.ob∧(Fs.getD i default).ar=m.ar)) : objP Fs m=-1:=by
 rw [objP,dec_f]
 ·rfl
 ·rintro ⟨k,hk,q⟩
  obtain ⟨i,hi,rfl⟩:=mem_getD.mp hk;exact h i hi q
theorem objP_hit {Fs : List FU} {m : FU} {n : Nat} (hn : n<Fs.length) (h : ∀ i,i<n→¬ ((Fs.getD i default).ob=m.ob∧(Fs.getD i default).ar=m.ar)) (q : (Fs.getD n default).ob=m.ob∧(Fs.getD n default).ar=m.ar) : objP Fs m=(n : Int):=by
 have e : ∀ i,(hi : i<Fs.length)→Fs.getD i default=Fs[i]:=fun i hi=>by simp [List.getD_eq_getElem?_getD,hi]
 rw [objP,dec_t ⟨_,mem_getD.mpr ⟨n,hn,rfl⟩,q⟩,if_pos rfl]
 congr 1
 rw [posF,List.findIdx_eq hn];refine ⟨?_,fun i hi=>?_⟩
 ·rw [e n hn] at q; exact dec_t q
 ·have w:=h i hi;rw [e i (by omega)] at w;exact dec_f w
theorem l08Object_ok (B : Nat) (x0 x1 x2 x3 x4 x6 : AV) (h0 : x0.one=true) (h1 : x1.one=true) (h2 : x2.one=true) (h3 : x3.one=true) (h4 : x4.one=true) (h6 : x6.one=true) (Fs : List FU) (m : FU) (hl : Fs.length≤1000) :
  Pur Tryz.prog B 77 [.agg [x0,x1,x2,x3,x4,mL fuE Fs,x6],.agg m.cells] (iI (objP Fs m)):=by
 refine ⟨fun H0=>c77 (by simp) fun _=>?_⟩;unfold s77;refine tt ?_;refine ⟨⟨h0,h1,h2,h3,h4,h6⟩, ?_⟩;refine awp_for [2,3] (G:=Unit) (fun k _=>[(5,some (.int .i64 (k : Int)))]) (fun k _ H'=>H'=H0∧∀ i,i<k→¬ ((Fs.getD i default).ob=m.ob∧(Fs.getD i default).ar=m.ar)) Fs.length () ⟨rfl,fun i hi=>by omega⟩ rfl ?_
 rintro k _ H' hk ⟨rfl,hall⟩;refine tt ?_;apply bk <;> intro b1
 rotate_left
 ·have b1p:=of_ndecide b1
  have : k=Fs.length:=by omega
  subst this;refine tt ?_;exact pure_ret (by rw [objP_none hall]) (.refl _)
 have b1p : k<Fs.length:=of_decide b1
 have w1:=wsucc (k:=k) (by omega)
 have q1:=l01Same_ok B (Fs.getD k default).ob m.ob
 have q2:=l01Same_ok B (Fs.getD k default).ar m.ar;refine tt ?_;refine ⟨b1p, ?_⟩;refine ⟨_,q1.run, ?_⟩
 by_cases c1 : (Fs.getD k default).ob=m.ob
 rotate_left
 ·rw [dec_f c1];refine tw w1 ?_
  exact for_next () b1p ⟨rfl,fun i hi q=>by
   by_cases e : i=k
   ·rw [e] at q; exact c1 q.1
   ·exact hall i (by omega) q⟩ rfl
 rw [dec_t c1];refine tt ?_;refine ⟨b1p,_,q2.run, ?_⟩
 by_cases c2 : (Fs.getD k default).ar=m.ar
 ·rw [dec_t c2];refine tt ?_;exact pure_ret (by rw [objP_hit b1p hall ⟨c1,c2⟩]) (.refl _)
 ·rw [dec_f c2];refine tw w1 ?_
  exact for_next () b1p ⟨rfl,fun i hi q=>by
   by_cases e : i=k
   ·rw [e] at q; exact c2 q.2
   ·exact hall i (by omega) q⟩ rfl
end Go.Proofs.Shf
namespace Go.Shf
open Go.AW
noncomputable def rowA (Fs : List FU) (i j : Nat) : List (List Int):=(natL (Fs.getD i default) (Fs.getD j default)).map fun t=>Int.ofNat i::Int.ofNat j::t
noncomputable def arrA (Fs : List FU) (i j : Nat) : List (List Int):=((List.range i).flatMap fun i=>(List.range Fs.length).flatMap fun j=>rowA Fs i j)++(List.range j).flatMap fun j=>rowA Fs i j
theorem arrA_zero (Fs : List FU) : arrA Fs 0 0=[]:=rfl
theorem arrA_row (Fs : List FU) (i : Nat) : arrA Fs (i+1) 0=arrA Fs i Fs.length:=by
 rw [arrA,arrA,List.range_succ,List.flatMap_append]
 simp
theorem arrA_step (Fs : List FU) (i j : Nat) : arrA Fs i (j+1)=arrA Fs i j++rowA Fs i j:=by
 rw [arrA,arrA,List.range_succ (n:=j),List.flatMap_append,List.append_assoc]
 simp
theorem arrA_all (Fs : List FU) : arrA Fs Fs.length 0=arrN Fs:=by
 rw [arrA,arrN];simp only [List.range_zero,List.flatMap_nil,List.append_nil]
 rfl
theorem flat_range {β : Type} (F : Nat→List β) {i n : Nat} (h : i≤n) : ∃ r,(List.range n).flatMap F=(List.range i).flatMap F++r:=by
 obtain ⟨k,rfl⟩ : ∃ k,n=i+k:=⟨n - i,by omega⟩;refine ⟨((List.range k).map (i+·)).flatMap F, ?_⟩;rw [List.range_add,List.flatMap_append]
theorem arrA_pre (Fs : List FU) {i j : Nat} (hi : i<Fs.length) (hj : j≤Fs.length) : (arrA Fs i j).length≤(arrN Fs).length:=by
 obtain ⟨r1,h1⟩:=flat_range (fun i=>(List.range Fs.length).flatMap fun j=>rowA Fs i j) (show i+1≤Fs.length by omega)
 obtain ⟨r2,h2⟩:=flat_range (fun j=>rowA Fs i j) hj
 have e : arrN Fs=(List.range Fs.length).flatMap fun i=>(List.range Fs.length).flatMap fun j=>rowA Fs i j:=rfl;rw [e,h1,List.range_succ,List.flatMap_append,arrA];simp only [List.flatMap_cons,List.flatMap_nil,List.append_nil];rw [h2];simp only [List.length_append];omega
noncomputable def cmpT (d : Cat) (A : List (List Int)) (s t : List Int) : Int:=if s.getD 1 default=t.getD 0 default then indexOf A (s.getD 0 default::t.getD 1 default::vth d (s.drop 2) (t.drop 2)) else -1
theorem fcat_frm (d : Cat) (Fs : List FU) : (fcat d Fs).frm=(arrN Fs).map fun s=>s.getD 0 default:=rfl
theorem fcat_to (d : Cat) (Fs : List FU) : (fcat d Fs).to=(arrN Fs).map fun s=>s.getD 1 default:=rfl
theorem fcat_ids (d : Cat) (Fs : List FU) : (fcat d Fs).idn=(List.range Fs.length).map fun i=>indexOf (arrN Fs) (Int.ofNat i::Int.ofNat i::idT (Fs.getD i default)):=rfl
theorem fcat_comps (d : Cat) (Fs : List FU) : (fcat d Fs).comp=(arrN Fs).map fun s=>(arrN Fs).map fun t=>cmpT d (arrN Fs) s t:=rfl
theorem arr_look {Fs : List FU} {n : Int} (h0 : 0≤n) (hF : ∀ i : Nat,i<Fs.length→(Fs.getD i default).src.objs=n) {s : List Int} (h : s∈arrN Fs) : ∃ (i j : Nat) (t : List Int),i<Fs.length∧j<Fs.length∧s=(i : Int)::(j : Int)::t∧NatF (Fs.getD i default) (Fs.getD j default) t:=by
 obtain ⟨i,j,t,hi,hj,ht,e⟩:=mem_arrN.mp h;exact ⟨i,j,t,hi,hj,e,(mem_natL (by rw [hF i hi]; exact h0)).mp ht⟩
end Go.Shf
namespace Go.Proofs.Shf
open Go.AW Go.Proofs Go.Shf
def z7s : List AV:=[.int .i64 0,.nilsl,.nilsl,.nilsl,.nilsl,.nilsl,.nilsl]
@[go_sem] noncomputable def spC (d : Cat) (Fs : List FU) : List AV:=[iI (Fs.length : Int),iL (fcat d Fs).frm,iL (fcat d Fs).to,iL (fcat d Fs).idn,iLL (fcat d Fs).comp,mL fuE Fs,iLL (arrN Fs)]
noncomputable def spR (d : Cat) (Fs : List FU) : AV:=if Fs.length≤8∧(arrN Fs).length≤40 then .tup [.agg (spC d Fs),iI 0] else .tup [.agg z7s,iI 3]
abbrev x7 (V : AV) (Fs : List FU) : List AV:=[.int .i64 0,.nilsl,.nilsl,.nilsl,.nilsl,mL fuE Fs,V]
abbrev OneV:={a : AV // a.cells=[a]∧a.one=true}
instance : Inhabited OneV:=⟨⟨.nilp,rfl,rfl⟩⟩
instance : One (Subtype.val : OneV→AV):=⟨fun a=>a.2.1,fun a=>a.2.2⟩
theorem ones_map : ∀ {Xs : List AV},(∀ x,x∈Xs→x.cells=[x]∧x.one=true)→∃ L : List OneV,Xs=L.map Subtype.val
 | [],_=>⟨[],rfl⟩
 | x::Xs,h=>by
  obtain ⟨L,e⟩:=ones_map (Xs:=Xs) fun y hy=>h y (List.mem_cons_of_mem _ hy);exact ⟨⟨x,h x List.mem_cons_self⟩::L,congrArg (x::·) e⟩
theorem app_rows {V : AV} {A : List (List Int)} {p : Ob} {H0 H : Heap} {l : Ob} {K : Kont} {b n : Nat} (h : LsP iL p V A) (o : Owns H0 H (p++l)) (hm : A.length+1≤maxL)
  (hk : ∀ z H',Owns H0 H' ((z,.cells 1 (A.map iL++[.buf b n]) 0)::l)→K (.buf z (A.length+1)) H') : appW 1 (some V) (some (.sl [.buf b n])) K H:=by
 have hv : (AV.buf b n).cells=[AV.buf b n]∧(AV.buf b n).one=true:=⟨rfl,rfl⟩
 rcases h with ⟨rfl,rfl,rfl⟩ | ⟨z,rfl,rfl⟩
 ·refine nil_own (f:=(Subtype.val : OneV→AV)) (⟨.buf b n,hv⟩ : OneV) o rfl fun z H' o'=>?_;exact hk z H' o'
 ·obtain ⟨L,e⟩:=ones_map (Xs:=A.map iL) fun x hx=>by
   obtain ⟨s,_,rfl⟩:=List.mem_map.mp hx;exact ⟨rfl,rfl⟩
  have el : L.length=A.length:=by have:=congrArg List.length e; simpa using this.symm
  have o2 : Owns H0 H ((z,.cells 1 (L.map Subtype.val) 0)::l):=by rw [← e]; exact o
  refine app_own (f:=(Subtype.val : OneV→AV)) (⟨.buf b n,hv⟩ : OneV) o2 rfl el.symm (by omega) fun z H' o'=>?_
  have e2 : (L++[(⟨.buf b n,hv⟩ : OneV)]).map Subtype.val=A.map iL++[.buf b n]:=by rw [List.map_append,← e]; rfl
  have e3 : (L++[(⟨.buf b n,hv⟩ : OneV)]).length=A.length+1:=by simp [el]
  rw [e2] at o';rw [e3];exact hk z H' o'
theorem x7_set (V W : AV) (Fs : List FU) : wr (x7 V Fs) 6 [W]=x7 W Fs:=rfl
noncomputable abbrev y7 (V1 V2 V3 V4 : AV) (Fs : List FU) : List AV:=[.int .i64 (Fs.length : Int),V1,V2,V3,V4,mL fuE Fs,iLL (arrN Fs)]
theorem LsP_one {α : Type} {f : α→AV} {p : Ob} {V : AV} {A : List α} (h : LsP f p V A) : V.one=true:=by
 rcases h with ⟨_,rfl,_⟩ | ⟨z,_,rfl⟩ <;> rfl
theorem l08MakeG (B : Nat) {c d : Cat} (hc : c.Shape) (hd : d.Shape) {Ps : Bool→Prop} {Q : List FU→Prop} (hQ : ∀ Fs,Q Fs→Fs.length≤201∧ShY c d Fs)
  (hs : Rets B 88 [.agg c.cells,.agg d.cells] fun r=>∃ b,r=.bool b∧Ps b) (ha : Rets B 89 [.agg c.cells,.agg d.cells] fun r=>∃ Fs,Q Fs∧r=mL fuE Fs) :
  Rets B 101 [.agg c.cells,.agg d.cells] fun r=>(Ps false∧r=.tup [.agg z7s,iI 3])∨(Ps true∧∃ Fs,Q Fs∧r=spR d Fs):=by
 intro H0;refine c101p (by simp) fun _=>?_;unfold s101p
 have o : Owns H0 H0 []:=.nil _;refine tt ?_;refine nb o fun i4 H o=>tt ?_;refine hs.go fun r _ ⟨b,e,hb⟩=>?_;subst e
 cases b
 ·refine tt ?_;refine sw o fun H o=>tt ?_;rw [o.rc 7 0 (by simp)];refine tt ?_;exact rets_ret (.inl ⟨hb,rfl⟩) o.sub
 refine tt ?_;refine ha.go fun r _ ⟨Fs,hq,e⟩=>?_;subst e
 obtain ⟨hl,hsh⟩:=hQ Fs hq;refine tt ?_;refine nb o fun i6 H o=>tt ?_;refine sw o fun H o=>?_
 have o : Owns H0 H ((i6,.cells 7 (x7 .nilsl Fs) 0)::[(i4,.cells 7 z7s 0)]):=o;refine tt ?_;refine rd_cells o (by simp) ?_;refine tt ?_;apply bk <;> intro h1
 ·have h1p : ¬ Fs.length≤8:=by have:=of_decide h1; omega
  refine tt ?_;refine st_cells o.swap (by simp [z7s]) (by (try simp only [go_sem]); (try simp)) (by first | (simp only [go_sem]; done) | ((try simp only [go_sem]); simp [AV.one,one_mL])) fun H o=>?_;unfold z7s at o;simp only [wr_cons,wr_nil,List.set_cons_zero,List.set_cons_succ] at o;refine tt ?_;rw [o.rc 7 0 (by simp)];refine tt ?_;exact rets_ret (.inr ⟨hb,Fs,hq,by rw [spR,if_neg (fun q=>h1p q.1)]; rfl⟩) o.sub
 have h1p : Fs.length≤8:=by have:=of_ndecide h1; omega
 refine tt ?_;refine awp_for [3,4,6] (G:=AV × Ob) (fun i _=>[(7,some (.int .i64 (i : Int)))]) (fun i g H=>((arrA Fs i 0).length≤40∧LsP iL g.2 g.1 (arrA Fs i 0))∧Owns H0 H ((i6,.cells 7 (x7 g.1 Fs) 0)::(g.2++[(i4,.cells 7 z7s 0)]))) Fs.length (.nilsl,[]) ⟨⟨by simp [arrA_zero],.inl ⟨rfl,rfl,rfl⟩⟩,o⟩ rfl ?_;clear o
 rintro i ⟨V,p⟩ H hi ⟨⟨hlen,hp⟩,o⟩;dsimp only at hlen hp o;refine tt ?_;refine rd_cells o (by simp) ?_;refine tt ?_;apply bk <;> intro h2
 ·have h2p : i<Fs.length:=of_decide h2
  have w2:=wsucc (k:=i) (by omega);refine tt ?_;refine awp_for [3,4,6,7] (G:=AV × Ob) (fun j _=>[(8,some (.int .i64 (j : Int)))]) (fun j g H=>((arrA Fs i j).length≤40∧LsP iL g.2 g.1 (arrA Fs i j))∧Owns H0 H ((i6,.cells 7 (x7 g.1 Fs) 0)::(g.2++[(i4,.cells 7 z7s 0)]))) Fs.length (V,p) ⟨⟨hlen,hp⟩,o⟩ rfl ?_;clear o hp hlen
  rintro j ⟨V,p⟩ H hj ⟨⟨hlen,hp⟩,o⟩;dsimp only at hlen hp o;refine tt ?_;refine rd_cells o (by simp) ?_;refine tt ?_;apply bk <;> intro h3
  ·have h3p : j<Fs.length:=of_decide h3
   have w3:=wsucc (k:=j) (by omega)
   have f1:=hsh _ (mem_getD.mpr ⟨i,h2p,rfl⟩)
   have f2:=hsh _ (mem_getD.mpr ⟨j,h3p,rfl⟩)
   have qa : Pur Tryz.prog B 172 [.agg (Fs.getD i default).cells,.agg (Fs.getD j default).cells,.int .i64 41] (mL iL ((natL (Fs.getD i default) (Fs.getD j default)).take 41)):=l07All_ok B f1.2.2 f2.2.2 (by rw [f1.1,f2.1]) (by rw [f1.2.1,f2.2.1]) (m:=40) (by omega)
   obtain ⟨T,hT⟩ : ∃ T,(natL (Fs.getD i default) (Fs.getD j default)).take 41=T:=⟨_,rfl⟩;rw [hT] at qa
   have hTl : T.length≤41:=by rw [← hT,List.length_take]; omega
   refine tt ?_;refine rd_cells o (by simp) ?_;refine tt ?_;refine ⟨h2p,rd_cells o (by simp) ?_⟩;refine tt ?_;refine ⟨h3p,_,qa.run,tt ?_⟩;refine awp_for [3,4,6,7,8,9] (G:=AV × Ob) (fun k _=>[(10,some (.int .i64 (k : Int)))]) (fun k g H=>LsP iL g.2 g.1 (arrA Fs i j++(T.take k).map fun t=>(i : Int)::(j : Int)::t)∧Owns H0 H ((i6,.cells 7 (x7 g.1 Fs) 0)::(g.2++[(i4,.cells 7 z7s 0)]))) T.length (V,p) ⟨by rw [List.take_zero,List.map_nil,List.append_nil]; exact hp,o⟩ rfl ?_;clear o hp
   rintro k ⟨V,p⟩ H hk ⟨hp,o⟩;dsimp only at hp o
   obtain ⟨A,hA⟩ : ∃ A,arrA Fs i j++((T.take k).map fun t=>(i : Int)::(j : Int)::t)=A:=⟨_,rfl⟩
   have hAl : A.length≤40+k:=by rw [← hA,List.length_append,List.length_map,List.length_take]; omega
   rw [hA] at hp;refine tt ?_;apply bk <;> intro h4
   ·have h4p : k<T.length:=of_decide h4
    have w4:=wsucc (k:=k) (by omega)
    have hTt : (T.getD k default)∈T:=mem_getD.mpr ⟨k,h4p,rfl⟩
    have hA2 : arrA Fs i j++((T.take (k+1)).map fun t=>(i : Int)::(j : Int)::t)=A++[(i : Int)::(j : Int)::T.getD k default]:=by
     rw [List.take_succ_eq_append_getElem h4p,List.map_append,← List.append_assoc,hA]
     simp [List.getD_eq_getElem?_getD,h4p]
    have htl : (T.getD k default).length≤8:=by
     have hTt2 : T.getD k default∈(natL (Fs.getD i default) (Fs.getD j default)).take 41:=by rw [hT]; exact hTt
     have h1:=(mem_natL (f1.2.2.s.o.1)).mp (List.mem_of_mem_take hTt2)
     have h2:=h1.len
     have h3:=f1.2.2.s.o.2;omega
    refine tt ?_;refine ⟨⟨_,_,o.h0⟩,rd_cells o (by simp) ?_⟩;refine tt ?_;refine ⟨h4p,newBuf_own o fun i66 H o=>?_⟩;refine tt ?_
    have o : Owns H0 H ((i66,.cells 1 (([(i : Int),(j : Int)]).map iI) 0)::(i6,.cells 7 (x7 V Fs) 0)::(p++[(i4,.cells 7 z7s 0)])):=o;refine app_list (f:=iI) (r:=T.getD k default) o rfl (by rw [List.length_cons,List.length_cons,List.length_nil]; simp only [maxL]; omega) fun i71 H o=>tt ?_
    have o : Owns H0 H (p++((i71,.cells 1 ((([(i : Int),(j : Int)])++T.getD k default).map iI) 0)::(i6,.cells 7 (x7 V Fs) 0)::[(i4,.cells 7 z7s 0)])):=o.pm;refine app_rows hp o (by simp only [maxL]; omega) fun z H o=>?_
    have o : Owns H0 H ((i6,.cells 7 (x7 V Fs) 0)::(z,.cells 1 (A.map iL++[.buf i71 ((([(i : Int),(j : Int)])++T.getD k default).length)]) 0)::(i71,.cells 1 ((([(i : Int),(j : Int)])++T.getD k default).map iI) 0)::[(i4,.cells 7 z7s 0)]):=o.pm;refine tt ?_;refine stc o fun H o=>?_;rw [x7_set] at o
    have o : Owns H0 H ((z,.cells 1 (A.map iL++[.buf i71 ((([(i : Int),(j : Int)])++T.getD k default).length)]) 0)::(i71,.cells 1 ((([(i : Int),(j : Int)])++T.getD k default).map iI) 0)::(i6,.cells 7 (x7 (.buf z (A.length+1)) Fs) 0)::[(i4,.cells 7 z7s 0)]):=o.pm;refine tt ?_;refine wk_cell (f:=iI) (A:=([(i : Int),(j : Int)])++T.getD k default) A.length o (by rw [List.getElem?_append_right (by simp)]; simp) rfl fun H o=>wkW_done ?_
    have es : (A.map iL++[AV.buf i71 ((([(i : Int),(j : Int)])++T.getD k default).length)]).set A.length (mL iI (([(i : Int),(j : Int)])++T.getD k default))=(A++[(i : Int)::(j : Int)::T.getD k default]).map iL:=by
     rw [List.set_append_right _ _ (by simp)]; simp
    rw [es] at o;refine tw w4 ?_;refine for_next (.buf z (A.length+1),[(z,.cells 1 ((A++[(i : Int)::(j : Int)::T.getD k default]).map iL) 0)]) h4p ⟨?_, ?_⟩ rfl
    ·rw [hA2];exact .inr ⟨z,rfl,by simp⟩
    ·exact o.pm
   have h4p:=of_ndecide h4
   have : k=T.length:=by omega
   subst this;rw [List.take_length] at hA
   have hrow : (rowA Fs i j).length=(natL (Fs.getD i default) (Fs.getD j default)).length:=by rw [rowA,List.length_map]
   have hstep:=arrA_step Fs i j
   have hAT : A.length=(arrA Fs i j).length+T.length:=by rw [← hA,List.length_append,List.length_map]
   have hTn : T.length≤(natL (Fs.getD i default) (Fs.getD j default)).length:=by rw [← hT,List.length_take]; omega
   have hsl : (arrA Fs i (j+1)).length=(arrA Fs i j).length+(natL (Fs.getD i default) (Fs.getD j default)).length:=by rw [hstep,List.length_append,hrow]
   have hpre:=arrA_pre Fs h2p (show j+1≤Fs.length by omega)
   have eV : lenE (some V)=some (True,.int .i64 (A.length : Int)):=by
    rcases hp with ⟨rfl,rfl,rfl⟩ | ⟨z,rfl,rfl⟩ <;> rfl
   refine tt ?_;refine rd_cells o (by simp) ?_;refine tw eV ?_;apply bk <;> intro h5
   ·have h5p:=of_decide h5
    have o : Owns H0 H ((i4,.cells 7 z7s 0)::((i6,.cells 7 (x7 V Fs) 0)::p)):=o.pm;refine tt ?_;refine st_cells o (by simp [z7s]) (by (try simp only [go_sem]); (try simp)) (by first | (simp only [go_sem]; done) | ((try simp only [go_sem]); simp [AV.one,one_mL])) fun H o=>?_;unfold z7s at o;simp only [wr_cons,wr_nil,List.set_cons_zero,List.set_cons_succ] at o;refine tt ?_;rw [o.rc 7 0 (by simp)];refine tt ?_;exact rets_ret (.inr ⟨hb,Fs,hq,by rw [spR,if_neg (fun q=>by have:=q.2; omega)]; rfl⟩) o.sub
   ·have h5p:=of_ndecide h5
    have hTe : T=natL (Fs.getD i default) (Fs.getD j default):=by
     rw [← hT];refine List.take_of_length_le ?_
     have : T.length≤40:=by omega
     rw [← hT,List.length_take] at this;omega
    have hAe : arrA Fs i (j+1)=A:=by rw [hstep,← hA,hTe]; rfl
    refine tw w3 ?_;exact for_next (V,p) h3p ⟨by show (arrA Fs i (j+1)).length≤40∧LsP iL p V (arrA Fs i (j+1)); rw [hAe]; exact ⟨by omega,hp⟩,o⟩ rfl
  have h3p:=of_ndecide h3
  have : j=Fs.length:=by omega
  subst this;rw [← arrA_row] at hlen hp;refine tw w2 ?_;exact for_next (V,p) h2p ⟨⟨hlen,hp⟩,o⟩ rfl
 have h2p:=of_ndecide h2
 have : i=Fs.length:=by omega
 subst this;rw [arrA_all] at hlen hp;refine tt ?_;refine wk_ls (f:=iL) (A:=arrN Fs) 6 (LsO.mk (l:=(i6,.cells 7 (x7 V Fs) 0)::[(i4,.cells 7 z7s 0)]) (o.pm) hp) rfl fun H o=>wkW_done ?_;clear hp
 have o : Owns H0 H ((i6,.cells 7 (x7 (iLL (arrN Fs)) Fs) 0)::[(i4,.cells 7 z7s 0)]):=o
 have hAm : ∀ s,s∈arrN Fs→∃ (i j : Nat) (t : List Int),i<Fs.length∧j<Fs.length∧s=(i : Int)::(j : Int)::t∧NatF (Fs.getD i default) (Fs.getD j default) t:=fun s h=>arr_look (n:=c.objs) hc.o.1 (fun i hi=>by rw [(hsh _ (mem_getD.mpr ⟨i,hi,rfl⟩)).1]) h
 obtain ⟨A,hA⟩ : ∃ A,arrN Fs=A:=⟨_,rfl⟩;refine tt ?_;refine rd_cells o (by simp) ?_;refine tt ?_;refine stc o fun H o=>?_
 have o : Owns H0 H ((i6,.cells 7 (y7 .nilsl .nilsl .nilsl .nilsl Fs) 0)::[(i4,.cells 7 z7s 0)]):=o;refine tt ?_;refine awp_for [3,4,6] (G:=AV × Ob) (fun x _=>[(11,some (.int .i64 (x : Int)))]) (fun x g H=>LsP iI g.2 g.1 ((List.range x).map fun i=>indexOf (arrN Fs) (Int.ofNat i::Int.ofNat i::idT (Fs.getD i default)))∧Owns H0 H ((i6,.cells 7 (y7 .nilsl .nilsl g.1 .nilsl Fs) 0)::(g.2++[(i4,.cells 7 z7s 0)]))) Fs.length (.nilsl,[]) ⟨.inl ⟨rfl,rfl,rfl⟩,o⟩ rfl ?_;clear o
 rintro x ⟨V3,p⟩ H hx ⟨hp,o⟩;dsimp only at hp o;refine tt ?_;refine rd_cells o (by simp) ?_;refine tt ?_;apply bk <;> intro c1
 ·have c1p : x<Fs.length:=of_decide c1
  have v1:=wsucc (k:=x) (by omega)
  have f1:=hsh _ (mem_getD.mpr ⟨x,c1p,rfl⟩)
  have qs:=l07Self_ok B f1.2.2
  have hil : (idT (Fs.getD x default)).length≤1000:=by
   have h1:=f1.2.2.o.len
   have h2:=f1.2.2.s.o.2;simp only [idT,thenL,List.length_map]; omega
  have qr:=l08Arrow_ok B (.int .i64 (Fs.length : Int)) .nilsl .nilsl V3 .nilsl (mL fuE Fs) rfl rfl rfl (LsP_one hp) rfl rfl (arrN Fs) (x : Int) (x : Int) (idT (Fs.getD x default)) hil;refine tt ?_;refine rd_cells o (by simp) ?_
  have e3 : (y7 .nilsl .nilsl V3 .nilsl Fs).getD 3 nv=V3:=rfl;refine tt ?_;refine rd_celln o (by simp) ?_
  have ea : ((y7 .nilsl .nilsl V3 .nilsl Fs).drop 0).take 7=y7 .nilsl .nilsl V3 .nilsl Fs:=rfl;refine tw ea ?_;refine rd_cells o (by simp) ?_;refine tt ?_;refine ⟨c1p,_,qs.run,_,qr.run,tt ?_⟩
  obtain ⟨R,hR⟩ : ∃ R,((List.range x).map fun i=>indexOf (arrN Fs) (Int.ofNat i::Int.ofNat i::idT (Fs.getD i default)))=R:=⟨_,rfl⟩
  have hRl : R.length=x:=by rw [← hR]; simp
  have hR2 : ((List.range (x+1)).map fun i=>indexOf (arrN Fs) (Int.ofNat i::Int.ofNat i::idT (Fs.getD i default)))=R++[indexOf (arrN Fs) ((x : Int)::(x : Int)::idT (Fs.getD x default))]:=by rw [List.range_succ,List.map_append,hR]; rfl
  rw [hR] at hp;refine LsO.app (f:=iI) (indexOf (arrN Fs) ((x : Int)::(x : Int)::idT (Fs.getD x default))) (LsO.mk (l:=(i6,.cells 7 (y7 .nilsl .nilsl V3 .nilsl Fs) 0)::[(i4,.cells 7 z7s 0)]) (o.pm) hp) rfl (by simp only [maxL]; omega) fun z H o=>tt ?_;refine stc o.swap fun H o=>?_
  have ew : ∀ W,wr (y7 .nilsl .nilsl V3 .nilsl Fs) 3 [W]=y7 .nilsl .nilsl W .nilsl Fs:=fun _=>rfl;rw [ew] at o
  have hlR : (R++[indexOf (arrN Fs) ((x : Int)::(x : Int)::idT (Fs.getD x default))]).length=x+1:=by simp [hRl]
  refine tw v1 ?_;refine for_next (_,[(z,.cells 1 ((R++[indexOf (arrN Fs) ((x : Int)::(x : Int)::idT (Fs.getD x default))]).map iI) 0)]) c1p ⟨?_,o⟩ rfl;rw [hR2];exact .inr ⟨z,rfl,rfl⟩
 have c1p:=of_ndecide c1
 have : x=Fs.length:=by omega
 subst this;refine tt ?_;rw [← fcat_ids d Fs] at hp
 obtain ⟨I,hI⟩ : ∃ I,(fcat d Fs).idn=I:=⟨_,rfl⟩;rw [hI] at hp
 refine awp_for [3,4,6] (G:=(AV × Ob) × (AV × Ob) × (AV × Ob)) (fun a _=>[(12,some (.int .i64 (a : Int)))]) (fun a g H=>(LsP iI g.1.2 g.1.1 (((arrN Fs).take a).map fun s=>s.getD 0 default)∧LsP iI g.2.1.2 g.2.1.1 (((arrN Fs).take a).map fun s=>s.getD 1 default)∧LsP iL g.2.2.2 g.2.2.1 (((arrN Fs).take a).map fun s=>(arrN Fs).map fun t=>cmpT d (arrN Fs) s t)) ∧
  Owns H0 H ((i6,.cells 7 (y7 g.1.1 g.2.1.1 V3 g.2.2.1 Fs) 0)::(g.1.2++(g.2.1.2++(g.2.2.2++(p++[(i4,.cells 7 z7s 0)])))))) (arrN Fs).length ((.nilsl,[]),(.nilsl,[]),(.nilsl,[])) ⟨⟨.inl ⟨rfl,rfl,rfl⟩,.inl ⟨rfl,rfl,rfl⟩,.inl ⟨rfl,rfl,rfl⟩⟩,o⟩ rfl ?_
 clear o
 rintro a ⟨⟨V1,p1⟩,⟨V2,p2⟩,⟨V4,p4⟩⟩ H ha ⟨⟨hp1,hp2,hp4⟩,o⟩;dsimp only at hp1 hp2 hp4 o
 have hv3:=LsP_one hp;refine tt ?_;refine rd_cells o (by simp) ?_;refine tt ?_;apply bk <;> intro c2
 ·have c2p : a<(arrN Fs).length:=of_decide c2
  have v2:=wsucc (k:=a) (by omega)
  obtain ⟨i,j,t,hi,hj,hse,hn⟩:=hAm _ (mem_getD.mpr ⟨a,c2p,rfl⟩)
  have ht1 : ((arrN Fs).take (a+1)).map (fun s=>s.getD 0 default)=(((arrN Fs).take a).map fun s=>s.getD 0 default)++[(i : Int)]:=by
   rw [List.take_succ_eq_append_getElem c2p,List.map_append]
   have : (arrN Fs)[a]=(i : Int)::(j : Int)::t:=by rw [← hse]; simp [List.getD_eq_getElem?_getD,c2p]
   rw [this]; rfl
  have ht2 : ((arrN Fs).take (a+1)).map (fun s=>s.getD 1 default)=(((arrN Fs).take a).map fun s=>s.getD 1 default)++[(j : Int)]:=by
   rw [List.take_succ_eq_append_getElem c2p,List.map_append]
   have : (arrN Fs)[a]=(i : Int)::(j : Int)::t:=by rw [← hse]; simp [List.getD_eq_getElem?_getD,c2p]
   rw [this]; rfl
  have ht4 : ((arrN Fs).take (a+1)).map (fun s=>(arrN Fs).map fun t=>cmpT d (arrN Fs) s t)=(((arrN Fs).take a).map fun s=>(arrN Fs).map fun t=>cmpT d (arrN Fs) s t)++[(arrN Fs).map fun u=>cmpT d (arrN Fs) ((i : Int)::(j : Int)::t) u]:=by
   rw [List.take_succ_eq_append_getElem c2p,List.map_append]
   have : (arrN Fs)[a]=(i : Int)::(j : Int)::t:=by rw [← hse]; simp [List.getD_eq_getElem?_getD,c2p]
   rw [this]; rfl
  have hl1 : (((arrN Fs).take a).map fun s=>s.getD 0 default).length=a:=by rw [List.length_map,List.length_take]; omega
  have hl2 : (((arrN Fs).take a).map fun s=>s.getD 1 default).length=a:=by rw [List.length_map,List.length_take]; omega
  have hl4 : (((arrN Fs).take a).map fun s=>(arrN Fs).map fun t=>cmpT d (arrN Fs) s t).length=a:=by rw [List.length_map,List.length_take]; omega
  generalize (((arrN Fs).take a).map fun s=>s.getD 0 default)=L1 at hp1 ht1 hl1
  generalize (((arrN Fs).take a).map fun s=>s.getD 1 default)=L2 at hp2 ht2 hl2
  generalize (((arrN Fs).take a).map fun s=>(arrN Fs).map fun t=>cmpT d (arrN Fs) s t)=L4 at hp4 ht4 hl4;refine tt ?_;refine rd_cells o (by simp) ?_;refine tt ?_;refine ⟨c2p, ?_⟩;rw [hse];refine tt ?_;refine rd_cells o (by simp) ?_;refine tt ?_;refine ⟨⟨by decide,by simp⟩, ?_⟩
  have x0 : ix ((i : Int)::(j : Int)::t) 0=(i : Int):=rfl
  have x1 : ix ((i : Int)::(j : Int)::t) 1=(j : Int):=rfl;rw [x0];refine LsO.app (f:=iI) (i : Int) (LsO.mk (l:=(i6,.cells 7 (y7 V1 V2 V3 V4 Fs) 0)::(p2++(p4++(p++[(i4,.cells 7 z7s 0)])))) (o.pm) hp1) rfl (by simp only [maxL]; omega) fun z1 H o=>?_
  have hp1 : LsP iI [(z1,.cells 1 ((L1++[(i : Int)]).map iI) 0)] (.buf z1 (L1++[(i : Int)]).length) (L1++[(i : Int)]):=.inr ⟨z1,rfl,rfl⟩;refine tt ?_;refine stc o.swap fun H o=>?_
  have ew : ∀ W,wr (y7 V1 V2 V3 V4 Fs) 1 [W]=y7 W V2 V3 V4 Fs:=fun _=>rfl;rw [ew] at o
  have o : Owns H0 H ((i6,.cells 7 (y7 (.buf z1 (L1++[(i : Int)]).length) V2 V3 V4 Fs) 0)::([(z1,.cells 1 ((L1++[(i : Int)]).map iI) 0)]++(p2++(p4++(p++[(i4,.cells 7 z7s 0)]))))):=o;rw [← ht1] at o hp1
  generalize [(z1,MObj.cells 1 (List.map iI (List.map (fun s=>s.getD 0 default) (List.take (a+1) (arrN Fs)))) 0)]=p1 at o hp1
  generalize AV.buf z1 (List.map (fun s : List Int=>s.getD 0 default) (List.take (a+1) (arrN Fs))).length=V1 at o hp1;refine tt ?_;refine rd_cells o (by simp) ?_;refine tt ?_;refine ⟨⟨by decide,by simp⟩, ?_⟩;rw [x1];refine LsO.app (f:=iI) (j : Int) (LsO.mk (l:=(i6,.cells 7 (y7 V1 V2 V3 V4 Fs) 0)::(p1++(p4++(p++[(i4,.cells 7 z7s 0)])))) (o.pm) hp2) rfl (by simp only [maxL]; omega) fun z2 H o=>?_
  have hp2 : LsP iI [(z2,.cells 1 ((L2++[(j : Int)]).map iI) 0)] (.buf z2 (L2++[(j : Int)]).length) (L2++[(j : Int)]):=.inr ⟨z2,rfl,rfl⟩;refine tt ?_;refine stc o.swap fun H o=>?_
  have ew : ∀ W,wr (y7 V1 V2 V3 V4 Fs) 2 [W]=y7 V1 W V3 V4 Fs:=fun _=>rfl;rw [ew] at o
  have o : Owns H0 H ((i6,.cells 7 (y7 V1 (.buf z2 (L2++[(j : Int)]).length) V3 V4 Fs) 0)::(p1++([(z2,.cells 1 ((L2++[(j : Int)]).map iI) 0)]++(p4++(p++[(i4,.cells 7 z7s 0)]))))):=o.pm;rw [← ht2] at o hp2
  generalize [(z2,MObj.cells 1 (List.map iI (List.map (fun s=>s.getD 1 default) (List.take (a+1) (arrN Fs)))) 0)]=p2 at o hp2
  generalize AV.buf z2 (List.map (fun s : List Int=>s.getD 1 default) (List.take (a+1) (arrN Fs))).length=V2 at o hp2;refine tt ?_;refine new_list iI o fun i14 H o=>tt ?_
  obtain ⟨rest,hrest⟩ : ∃ rest,p1++(p2++(p4++(p++[(i4,MObj.cells 7 z7s 0)])))=rest:=⟨_,rfl⟩;rw [hrest] at o;refine awp_for [3,4,6,12,13] (G:=Nat) (fun b g=>[(14,some (.buf g b)),(15,some (.int .i64 (b : Int)))]) (fun b g H=>Owns H0 H ((g,.cells 1 ((((arrN Fs).take b).map fun u=>cmpT d (arrN Fs) ((i : Int)::(j : Int)::t) u).map iI) 0)::(i6,.cells 7 (y7 V1 V2 V3 V4 Fs) 0)::rest)) (arrN Fs).length i14 o rfl ?_;clear o
  rintro b g H hb' o
  replace o : Owns H0 H ((g,.cells 1 ((((arrN Fs).take b).map fun u=>cmpT d (arrN Fs) ((i : Int)::(j : Int)::t) u).map iI) 0)::(i6,.cells 7 (y7 V1 V2 V3 V4 Fs) 0)::rest):=o
  have hl5 : (((arrN Fs).take b).map fun u=>cmpT d (arrN Fs) ((i : Int)::(j : Int)::t) u).length=b:=by rw [List.length_map,List.length_take]; omega
  refine tt ?_;refine rd_cells o.tl (by simp) ?_;refine tt ?_;apply bk <;> intro c3
  ·have c3p : b<(arrN Fs).length:=of_decide c3
   have v3:=wsucc (k:=b) (by omega)
   obtain ⟨j2,k2,t2,hj2,hk2,hue,hn2⟩:=hAm _ (mem_getD.mpr ⟨b,c3p,rfl⟩)
   have ht5 : ((arrN Fs).take (b+1)).map (fun u=>cmpT d (arrN Fs) ((i : Int)::(j : Int)::t) u)=(((arrN Fs).take b).map fun u=>cmpT d (arrN Fs) ((i : Int)::(j : Int)::t) u)++[cmpT d (arrN Fs) ((i : Int)::(j : Int)::t) ((j2 : Int)::(k2 : Int)::t2)]:=by
    rw [List.take_succ_eq_append_getElem c3p,List.map_append]
    have : (arrN Fs)[b]=(j2 : Int)::(k2 : Int)::t2:=by rw [← hue]; simp [List.getD_eq_getElem?_getD,c3p]
    rw [this]; rfl
   generalize (((arrN Fs).take b).map fun u=>cmpT d (arrN Fs) ((i : Int)::(j : Int)::t) u)=L5 at o ht5 hl5
   have y0 : ix ((j2 : Int)::(k2 : Int)::t2) 0=(j2 : Int):=rfl
   have y1 : ix ((j2 : Int)::(k2 : Int)::t2) 1=(k2 : Int):=rfl;refine tt ?_;refine rd_cells o.tl (by simp) ?_;refine tt ?_;refine ⟨c3p, ?_⟩;rw [hue];refine tt ?_;refine ⟨⟨by decide,by simp⟩,⟨by decide,by simp⟩, ?_⟩;rw [x1,y0]
   by_cases e : j=j2
   rotate_left
   ·rw [decide_eq_false (by omega)]
    have hct : cmpT d (arrN Fs) ((i : Int)::(j : Int)::t) ((j2 : Int)::(k2 : Int)::t2)=-1:=by rw [cmpT,if_neg (fun q=>by have q : (j : Int)=j2:=q; omega)]
    rw [hct] at ht5;refine tt ?_;refine app_own (f:=iI) (-1 : Int) o rfl hl5.symm (by rw [hl5]; simp only [maxL]; omega) fun g H o=>?_
    have hl6 : (L5++[(-1 : Int)]).length=b+1:=by simp [hl5]
    rw [← ht5] at o;try simp only [go_sem,↓reduceIte,reduceEqDiff,reduceAdd,reduceMul,reduceLeDiff,reduceLT,v3,hl6]
    exact for_next g c3p o rfl
   rw [decide_eq_true (by omega)];subst e
   have hct : cmpT d (arrN Fs) ((i : Int)::(j : Int)::t) ((j : Int)::(k2 : Int)::t2)=indexOf (arrN Fs) ((i : Int)::(k2 : Int)::vth d t t2):=if_pos (show (((i : Int)::(j : Int)::t).getD 1 default : Int)=((j : Int)::(k2 : Int)::t2).getD 0 default from rfl);rw [hct] at ht5;refine tt ?_;refine rd_celln o.tl (by simp) ?_
   have ea : ((y7 V1 V2 V3 V4 Fs).drop 0).take 7=y7 V1 V2 V3 V4 Fs:=rfl;refine tw ea ?_
   have g1:=hsh _ (mem_getD.mpr ⟨i,hi,rfl⟩)
   have g2:=hsh _ (mem_getD.mpr ⟨j,hj,rfl⟩)
   have tl1:=hn.len
   have tl2:=hn2.len;rw [g1.1] at tl1;rw [g2.1] at tl2
   have hco:=hc.o
   have q1:=l07Then_ok B hd (s:=t) (t:=t2) (by omega) (by omega) (fun x hx=>by
    have:=(hn.ar (x : Int) (by rw [g1.1]; omega)).r;rw [g1.2.1,ix_nat] at this;exact this) (fun x hx=>by
    have:=(hn2.ar (x : Int) (by rw [g2.1]; omega)).r;rw [g2.2.1,ix_nat] at this;exact this)
   have hvl : (vth d t t2).length≤1000:=by rw [vth_len]; omega
   have q2:=l08Arrow_ok B (.int .i64 (Fs.length : Int)) V1 V2 V3 V4 (mL fuE Fs) rfl (LsP_one hp1) (LsP_one hp2) hv3 (LsP_one hp4) rfl (arrN Fs) (i : Int) (k2 : Int) (vth d t t2) hvl
   have z1 : List.drop (Int.toNat 2) ((i : Int)::(j : Int)::t)=t:=rfl
   have z2 : List.drop (Int.toNat 2) ((j : Int)::(k2 : Int)::t2)=t2:=rfl;rw [z1,z2,x0,y1];refine ⟨⟨by decide,by simp⟩,⟨by decide,by simp⟩,⟨by decide,by omega⟩,⟨by decide,by omega⟩,_,q1.run,_,q2.run,⟨rfl,fun c hc=>by obtain rfl:=List.mem_singleton.mp hc; rfl⟩, ?_⟩;refine app_own (f:=iI) (indexOf (arrN Fs) ((i : Int)::(k2 : Int)::vth d t t2)) o rfl hl5.symm (by rw [hl5]; simp only [maxL]; omega) fun g H o=>?_
   have hl6 : (L5++[indexOf (arrN Fs) ((i : Int)::(k2 : Int)::vth d t t2)]).length=b+1:=by simp [hl5]
   rw [← ht5] at o;try simp only [go_sem,↓reduceIte,reduceEqDiff,reduceAdd,reduceMul,reduceLeDiff,reduceLT,v3,hl6]
   exact for_next g c3p o rfl
  have c3p:=of_ndecide c3
  have : b=(arrN Fs).length:=by omega
  subst this;rw [List.take_length] at o hl5;refine tt ?_;refine fz_own (f:=iI) o hl5.symm fun H o=>tt ?_;refine rd_cells o (by simp) ?_;refine tt ?_;rw [← hrest] at o;refine LsO.app (f:=iL) ((arrN Fs).map fun u=>cmpT d (arrN Fs) ((i : Int)::(j : Int)::t) u) (LsO.mk (l:=(i6,.cells 7 (y7 V1 V2 V3 V4 Fs) 0)::(p1++(p2++(p++[(i4,.cells 7 z7s 0)])))) (o.pm) hp4) rfl (by simp only [maxL]; omega) fun z4 H o=>?_
  obtain ⟨row,hrow⟩ : ∃ row,((arrN Fs).map fun u=>cmpT d (arrN Fs) ((i : Int)::(j : Int)::t) u)=row:=⟨_,rfl⟩;rw [hrow] at o ht4;rw [hrow]
  have hp4 : LsP iL [(z4,.cells 1 ((L4++[row]).map iL) 0)] (.buf z4 (L4++[row]).length) (L4++[row]):=.inr ⟨z4,rfl,rfl⟩;refine tt ?_;refine stc o.swap fun H o=>?_
  have ew : ∀ W,wr (y7 V1 V2 V3 V4 Fs) 4 [W]=y7 V1 V2 V3 W Fs:=fun _=>rfl;rw [ew] at o;rw [← ht4] at o hp4
  generalize hW : AV.buf z4 (List.map (fun s=>List.map (fun t=>cmpT d (arrN Fs) s t) (arrN Fs)) (List.take (a+1) (arrN Fs))).length=W at o hp4
  generalize [(z4,MObj.cells 1 (List.map iL (List.map (fun s=>List.map (fun t=>cmpT d (arrN Fs) s t) (arrN Fs)) (List.take (a+1) (arrN Fs)))) 0)]=p4' at hp4;refine tw v2 ?_;refine for_next ((V1,p1),(V2,p2),(W,[(z4,MObj.cells 1 (List.map iL (List.map (fun s=>List.map (fun t=>cmpT d (arrN Fs) s t) (arrN Fs)) (List.take (a+1) (arrN Fs)))) 0)])) c2p ⟨⟨hp1,hp2, ?_⟩,o.pm⟩ rfl;exact .inr ⟨z4,rfl,hW.symm⟩
 have c2p:=of_ndecide c2
 have : a=(arrN Fs).length:=by omega
 subst this;rw [List.take_length] at hp1 hp2 hp4;rw [← fcat_frm d Fs] at hp1;rw [← fcat_to d Fs] at hp2;rw [← fcat_comps d Fs] at hp4;refine tt ?_;refine wk_ls (f:=iI) (A:=(fcat d Fs).frm) 1 (LsO.mk (l:=(i6,.cells 7 (y7 V1 V2 V3 V4 Fs) 0)::(p2++(p4++(p++[(i4,.cells 7 z7s 0)])))) (o.pm) hp1) rfl fun H o=>?_
 have o : Owns H0 H ((i6,.cells 7 (y7 (iL (fcat d Fs).frm) V2 V3 V4 Fs) 0)::(p2++(p4++(p++[(i4,.cells 7 z7s 0)])))):=o;refine wk_ls (f:=iI) (A:=(fcat d Fs).to) 2 (LsO.mk (l:=(i6,.cells 7 (y7 (iL (fcat d Fs).frm) V2 V3 V4 Fs) 0)::(p4++(p++[(i4,.cells 7 z7s 0)]))) (o.pm) hp2) rfl fun H o=>?_
 have o : Owns H0 H ((i6,.cells 7 (y7 (iL (fcat d Fs).frm) (iL (fcat d Fs).to) V3 V4 Fs) 0)::(p4++(p++[(i4,.cells 7 z7s 0)]))):=o;refine wk_ls (f:=iL) (A:=(fcat d Fs).comp) 4 (LsO.mk (l:=(i6,.cells 7 (y7 (iL (fcat d Fs).frm) (iL (fcat d Fs).to) V3 V4 Fs) 0)::(p++[(i4,.cells 7 z7s 0)])) (o.pm) hp4) rfl fun H o=>?_
 have o : Owns H0 H ((i6,.cells 7 (y7 (iL (fcat d Fs).frm) (iL (fcat d Fs).to) V3 (iLL (fcat d Fs).comp) Fs) 0)::(p++[(i4,.cells 7 z7s 0)])):=o;rw [← hI] at hp;refine wk_ls (f:=iI) (A:=(fcat d Fs).idn) 3 (LsO.mk (l:=(i6,.cells 7 (y7 (iL (fcat d Fs).frm) (iL (fcat d Fs).to) V3 (iLL (fcat d Fs).comp) Fs) 0)::[(i4,.cells 7 z7s 0)]) (o.pm) hp) rfl fun H o=>wkW_done ?_
 have o : Owns H0 H ((i6,.cells 7 (spC d Fs) 0)::[(i4,.cells 7 z7s 0)]):=o
 obtain ⟨X,hX⟩ : ∃ X,spC d Fs=X:=⟨_,rfl⟩
 have hX7 : X.length=7:=by rw [← hX]; rfl
 have hX1 : ∀ c,c∈X→c.one=true:=by
  rw [← hX]
  intro c hc;simp only [spC,List.mem_cons,List.not_mem_nil,or_false] at hc
  rcases hc with rfl | rfl | rfl | rfl | rfl | rfl | rfl <;> rfl
 rw [hX] at o;refine tt ?_;refine rd_celln o (by omega) ?_
 have et : List.take 7 (List.drop 0 X)=X:=by rw [List.drop_zero,List.take_of_length_le (by omega)]
 rw [et];refine tt ?_;refine st_cells o.swap (by simp [z7s]) hX7 hX1 fun H o=>?_
 have ew : wr z7s 0 X=X:=by rw [← hX]; rfl
 rw [ew] at o;refine tt ?_;rw [o.rc 7 0 (by omega),et];refine tt ?_;exact rets_ret (.inr ⟨hb,Fs,hq,by rw [spR,if_pos ⟨h1p,hlen⟩,hX]⟩) o.sub
def SpOk (c d : Cat) : Prop:=SmallC c d∧(allF c d false).length≤8∧(arrN (allF c d false)).length≤40
noncomputable def spV (c d : Cat) : AV:=if dec (SpOk c d)=true then .tup [.agg (spC d (allF c d false)),iI 0] else .tup [.agg z7s,iI 3]
theorem allS_few {c d : Cat} (h : (allS c d).length≤8) : allS c d=allF c d false:=by
 rw [allS,List.length_take] at h;exact List.take_of_length_le (by omega)
theorem allS_many {c d : Cat} (h : ¬ (allS c d).length≤8) : ¬ (allF c d false).length≤8:=by
 rw [allS,List.length_take] at h;omega
theorem allS_sh {c d : Cat} (hc : c.Is) (hd : d.Is) : ShY c d (allS c d):=fun m hm=>by
 have:=(mem_allF (once:=false) hc hd).mp (List.mem_of_mem_take hm);exact ⟨this.1,this.2.1,FU.Is.ok this.2.2.1⟩
theorem l08MakeX (B : Nat) {c d : Cat} (hc : c.Is) (hd : d.Is) : Pur Tryz.prog B 101 [.agg c.cells,.agg d.cells] (spV c d):=by
 refine ⟨fun H0=>?_⟩
 refine (l08MakeG B hc.1 hd.1 (Ps:=fun b=>b=dec (SmallC c d)) (Q:=fun Fs=>Fs=allS c d) (fun Fs e=>by subst e; exact ⟨by rw [allS,List.length_take]; omega,allS_sh hc hd⟩)
  (fun H=>((l06SmallX B c d hc).run H).mono fun r H' ⟨e,h⟩=>⟨⟨_,e,rfl⟩,h⟩) (fun H=>((l06AllX B hc hd).run H).mono fun r H' ⟨e,h⟩=>⟨⟨_,rfl,e⟩,h⟩) H0).mono ?_
 rintro r H' ⟨q,h⟩;refine ⟨?_,h⟩
 rcases q with ⟨hs,rfl⟩ | ⟨hs,Fs,rfl,rfl⟩
 ·have hn : ¬ SpOk c d:=fun z=>by rw [dec_t z.1] at hs; cases hs
  rw [spV,dec_f hn,if_neg (by simp)]
 ·have hs : SmallC c d:=dec_iff.mp hs.symm;rw [spR]
  by_cases h8 : (allS c d).length≤8
  ·have ef:=allS_few h8;rw [ef] at h8 ⊢
   by_cases h40 : (arrN (allF c d false)).length≤40
   ·rw [if_pos ⟨h8,h40⟩,spV,dec_t ⟨hs,h8,h40⟩,if_pos rfl]
   ·rw [if_neg (fun q=>h40 q.2),spV,dec_f (fun q=>h40 q.2.2),if_neg (by simp)]
  ·rw [if_neg (fun q=>h8 q.1),spV,dec_f (fun q=>allS_many h8 q.2.1),if_neg (by simp)]
noncomputable def spB (c d e f : Cat) : AV:=if dec (SpOk c d∧SpOk e f)=true then .tup [.agg (spC d (allF c d false)),.agg (spC f (allF e f false)),iI 0] else .tup [.agg z7s,.agg z7s,iI 3]
theorem spC_one (d : Cat) (Fs : List FU) : ∀ c,c∈spC d Fs→c.one=true:=by
 intro c hc;simp only [spC,List.mem_cons,List.not_mem_nil,or_false] at hc
 rcases hc with rfl | rfl | rfl | rfl | rfl | rfl | rfl <;> rfl
theorem wr7 {X Y : List AV} (hx : X.length=7) (hy : Y.length=7) : wr Y 0 X=X:=by
 match X,Y,hx,hy with
 | [a,b,c,d,e,f,g],[a',b',c',d',e',f',g'],_,_=>rfl
theorem l08BothX (B : Nat) {c d e f : Cat} (hc : c.Is) (hd : d.Is) (he : e.Is) (hf : f.Is) : Pur Tryz.prog B 76 [.agg c.cells,.agg d.cells,.agg e.cells,.agg f.cells] (spB c d e f):=by
 refine ⟨fun H0=>c76p (by simp) fun _=>?_⟩;unfold s76p
 have o : Owns H0 H0 []:=.nil _;refine tt ?_;refine nb o fun i8 H o=>tt ?_;refine nb o fun i9 H o=>tt ?_;refine (l08MakeX B hc hd).go fun _=>?_
 by_cases h1 : SpOk c d
 rotate_left
 ·have hn : ¬ (SpOk c d∧SpOk e f):=fun q=>h1 q.1;rw [spV,dec_f h1,if_neg (by simp),spB,dec_f hn,if_neg (by simp)];refine tt ?_;refine nb o fun i11 H o=>tt ?_;refine st_cells o (by simp) (by simp [z7s]) (by simp [z7s,AV.one]) fun H o=>?_
  have h30 : (!decide ((3 : Int)=0))=true:=rfl;refine tw h30 ?_;refine st_cells (o.pull [_,_]) (by simp) (by simp) (by simp [AV.one]) fun H o=>?_;simp only [wr_cons,wr_nil,List.set_cons_zero,List.set_cons_succ] at o;refine tt ?_;refine st_cells (o.pull [_,_]) (by simp) (by simp) (by simp [AV.one]) fun H o=>?_;simp only [wr_cons,wr_nil,List.set_cons_zero,List.set_cons_succ] at o;refine tt ?_;rw [o.rc 7 0 (by simp),o.tl.rc 7 0 (by simp)];refine tt ?_;exact pure_ret rfl o.sub
 rw [spV,dec_t h1,if_pos rfl]
 obtain ⟨X,hX⟩ : ∃ X,spC d (allF c d false)=X:=⟨_,rfl⟩
 have hX7 : X.length=7:=by rw [← hX]; rfl
 have hX1 : ∀ c,c∈X→c.one=true:=by rw [← hX]; exact spC_one _ _
 have et : List.take 7 (List.drop 0 X)=X:=by rw [List.drop_zero,List.take_of_length_le (by omega)]
 rw [hX];refine tt ?_;refine nb o fun i11 H o=>tt ?_;refine st_cells o (by simp) hX7 hX1 fun H o=>?_;rw [wr7 hX7 rfl] at o;try simp only [go_sem,↓reduceIte,reduceEqDiff,reduceAdd,reduceMul,reduceLeDiff,reduceLT,decide_true,Bool.not_true]
 refine (l08MakeX B he hf).go fun _=>?_
 by_cases h2 : SpOk e f
 rotate_left
 ·have hn : ¬ (SpOk c d∧SpOk e f):=fun q=>h2 q.2;rw [spV,dec_f h2,if_neg (by simp),spB,dec_f hn,if_neg (by simp)];refine tt ?_;refine nb o fun i13 H o=>tt ?_;refine st_cells o (by simp) (by simp [z7s]) (by simp [z7s,AV.one]) fun H o=>?_
  have h30 : (!decide ((3 : Int)=0))=true:=rfl;refine tw h30 ?_;refine st_cells (o.pull [_,_,_]) (by simp) (by simp) (by simp [AV.one]) fun H o=>?_;simp only [wr_cons,wr_nil,List.set_cons_zero,List.set_cons_succ] at o;refine tt ?_;refine st_cells (o.pull [_,_,_]) (by simp) (by simp) (by simp [AV.one]) fun H o=>?_;simp only [wr_cons,wr_nil,List.set_cons_zero,List.set_cons_succ] at o;refine tt ?_;rw [o.rc 7 0 (by simp),o.tl.rc 7 0 (by simp)];refine tt ?_;exact pure_ret rfl o.sub
 rw [spV,dec_t h2,if_pos rfl]
 obtain ⟨Y,hY⟩ : ∃ Y,spC f (allF e f false)=Y:=⟨_,rfl⟩
 have hY7 : Y.length=7:=by rw [← hY]; rfl
 have hY1 : ∀ c,c∈Y→c.one=true:=by rw [← hY]; exact spC_one _ _
 have ey : List.take 7 (List.drop 0 Y)=Y:=by rw [List.drop_zero,List.take_of_length_le (by omega)]
 rw [hY];refine tt ?_;refine nb o fun i13 H o=>tt ?_;refine st_cells o (by simp) hY7 hY1 fun H o=>?_;rw [wr7 hY7 rfl] at o;try simp only [go_sem,↓reduceIte,reduceEqDiff,reduceAdd,reduceMul,reduceLeDiff,reduceLT,decide_true,Bool.not_true]
 refine wk_ref 13 o rfl fun H o=>wk_ref 11 o rfl fun H o=>wkW_done ?_;refine tt ?_;refine ⟨hX7,hY7, ?_⟩;refine st_cells (o.pull [_]) (by simp) hX7 hX1 fun H o=>?_;rw [wr7 hX7 rfl] at o;refine tt ?_;refine st_cells (o.pull [_]) (by simp) hY7 hY1 fun H o=>?_;rw [wr7 hY7 rfl] at o;refine tt ?_;rw [o.rc 7 0 (by omega),o.tl.rc 7 0 (by omega),et,ey];refine tt ?_;exact pure_ret (by rw [spB,dec_t ⟨h1,h2⟩,if_pos rfl,hX,hY]) o.sub
theorem l06ThenI (B : Nat) {k g : FU} (hk : k.Is) (hg : g.Is) (e : k.tgt=g.src) : Pur Tryz.prog B 78 [.agg k.cells,.agg g.cells] (.agg (k.thn g).cells):=by
 have h1:=hg.fit.ol
 have h2:=hg.fit.al;refine l06Then_ok B k g (fun y hy=>?_) fun y hy=>?_
 ·have:=hk.fit.obr y hy;rw [e] at this;omega
 ·have:=hk.fit.arr y hy;rw [e] at this;omega
end Go.Proofs.Shf
