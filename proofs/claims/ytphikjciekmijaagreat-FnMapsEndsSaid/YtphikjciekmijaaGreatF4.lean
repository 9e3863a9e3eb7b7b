/- Contracts, part 4. -/
import Derived.Test.YtphikjciekmijaaGreatF3
set_option linter.unusedVariables false
set_option linter.unusedSimpArgs false
set_option linter.unusedSectionVars false
set_option maxRecDepth 100000
open Nat (reduceEqDiff reduceAdd reduceMul reduceLeDiff reduceLT)
namespace Go.Proofs.Shf
open Go.AW Go.Proofs Go.Shf
theorem prodT_drop {s : List Int} {k : Nat} (hk : k<s.length) : prodT (s.drop k)=s.getD k default*prodT (s.drop (k+1)):=by
 have : s.drop k=s.getD k default::s.drop (k+1):=by
  rw [List.drop_eq_getElem_cons hk]; simp [List.getD_eq_getElem?_getD,hk]
 rw [this,prodT]
def atK (s : List Int) (n : Int) (k : Nat) : List Int:=(List.range s.length).map fun j=>if s.length≤j+k then digT s n j else 0
theorem atK_zero (s : List Int) (n : Int) : atK s n 0=List.replicate s.length 0:=by
 refine List.ext_getElem (by simp [atK]) fun i h1 h2=>?_
 have : i<s.length:=by simpa [atK] using h1
 simp [atK]; omega
theorem atK_full (s : List Int) (n : Int) : atK s n s.length=atT s n:=by
 refine List.ext_getElem (by simp [atK,atT]) fun i h1 h2=>?_
 simp [atK,atT]
theorem atK_succ (s : List Int) (n : Int) {k : Nat} (hk : k<s.length) : (atK s n k).set (s.length - 1 - k) (digT s n (s.length - 1 - k))=atK s n (k+1):=by
 refine List.ext_getElem (by simp [atK]) fun i h1 h2=>?_
 have hi : i<s.length:=by simpa [atK] using h2
 simp only [atK,List.getElem_set,List.getElem_map,List.getElem_range]
 by_cases e : s.length - 1 - k=i
 ·rw [if_pos e,if_pos (by omega),e]
 ·rw [if_neg e]
  by_cases e2 : s.length≤i+k
  ·rw [if_pos e2,if_pos (by omega)]
  ·rw [if_neg e2,if_neg (by omega)]
theorem atK_len (s : List Int) (n : Int) (k : Nat) : (atK s n k).length=s.length:=by simp [atK]
theorem at_step {s : List Int} (hp : ∀ a,a∈s→0<a) {n : Int} (hn : 0≤n) {k j : Nat} (hk : k<s.length) (hj : j=s.length - 1 - k) :
  (n / prodT (s.drop (s.length - k))).tmod (s.getD j default)=digT s n j∧(n / prodT (s.drop (s.length - k))).tdiv (s.getD j default)=n / prodT (s.drop (s.length - (k+1))) ∧
  0<s.getD j default∧0≤n / prodT (s.drop (s.length - (k+1)))∧n / prodT (s.drop (s.length - (k+1)))≤n∧0≤digT s n j∧s.length - k=j+1∧s.length - (k+1)=j∧j<s.length:=by
 have hjl : j<s.length:=by omega
 have e1 : s.length - k=j+1:=by omega
 have e2 : s.length - (k+1)=j:=by omega
 have hb:=hp _ (mem_getD.mpr ⟨j,hjl,rfl⟩)
 have hP : 0<prodT (s.drop (j+1)):=prodT_pos fun a ha=>hp a (List.mem_of_mem_drop ha)
 have hq : 0≤n / prodT (s.drop (j+1)):=Int.ediv_nonneg hn (by omega);rw [e1,e2,Int.tmod_eq_emod_of_nonneg hq,Int.tdiv_eq_ediv_of_nonneg hq,prodT_drop hjl,Int.mul_comm,← Int.ediv_ediv_of_nonneg (by omega)];refine ⟨rfl,rfl,hb,Int.ediv_nonneg hq (by omega),Int.le_trans (Int.ediv_le_self _ hq) (Int.ediv_le_self _ hn),Int.emod_nonneg _ (by omega),by omega,by omega,hjl⟩
theorem l01At_ok (B : Nat) (s : List Int) (hl : s.length≤4096) (hp : ∀ a,a∈s→0<a) (n : Int) (hn : 0≤n∧n<9223372036854775807) : Pur Tryz.prog B 69 [iL s,iI n] (iL (atT s n)):=by
 refine ⟨fun H0=>c69 (by simp) fun _=>?_⟩
 have w0 : IntKind.i64.wrap ((s.length : Int) - 1)=(s.length : Int) - 1:=wrap_i64 (by omega) (by omega);unfold s69
 have o : Owns H0 H0 []:=.nil _;refine tt ?_;refine ⟨⟨by omega,by simp only [maxL]; omega⟩,mks_list iI 0 rfl o fun id H o=>?_⟩;refine tw w0 ?_
 refine awp_for [0,5] (G:=List Int) (fun k _=>[(1,some (iI (n / prodT (s.drop (s.length - k))))),(6,some (iI ((s.length : Int) - 1 - k)))])
  (fun k A H=>A=atK s n k∧Owns H0 H [(id,.cells 1 (A.map iI) 0)]) s.length (List.replicate s.length 0) ⟨(atK_zero s n).symm,o⟩ (by simp [prodT]; rfl) ?_
 clear o
 rintro k A H hk ⟨hA,o⟩;refine tt ?_;apply bk <;> intro h1
 ·have h1p : k<s.length:=by simp at h1; omega
  obtain ⟨j,hj⟩ : ∃ j,j=s.length - 1 - k:=⟨_,rfl⟩
  obtain ⟨m1,m2,m3,m4,m5,m6,m7,m8,m9⟩:=at_step hp hn.1 h1p hj
  have ej : (s.length : Int) - 1 - k=(j : Int):=by omega
  have w1 : IntKind.i64.wrap ((j : Int) - 1)=(j : Int) - 1:=wrap_i64 (by omega) (by omega)
  have w2 : IntKind.i64.wrap (n / prodT (s.drop (s.length - (k+1))))=n / prodT (s.drop (s.length - (k+1))):=wrap_i64 (by omega) (by omega);rw [ej];refine tt ?_;refine ⟨m9,by omega,m9, ?_⟩;rw [m1];refine set_own (f:=iI) _ o rfl (by rw [hA,atK_len]; exact m9) fun H o=>tt ?_;refine ⟨m9,by omega, ?_⟩;rw [m2];try simp only [go_sem,↓reduceIte,reduceEqDiff,reduceAdd,reduceMul,reduceLeDiff,reduceLT,w2,w1]
  exact for_next (A.set j (digT s n j)) h1p ⟨by rw [hA,hj,atK_succ s n h1p],o⟩ (by rw [show (s.length : Int) - 1 - ((k+1 : Nat) : Int)=(j : Int) - 1 by omega])
 ·have h1p : k=s.length:=by simp at h1; omega
  subst h1p;refine tt ?_;refine fz_own o (by rw [hA,atK_len]) fun H o=>tt ?_;rw [hA,atK_full];exact pure_ret rfl o.sub
theorem l01Number_ok (B : Nat) (m n : Int) (t : List Int) (ht : MapB m n t) (hm : 0≤m∧m≤16) (hn : 0≤n∧n≤16) (hp : pw m n≤64) : Pur Tryz.prog B 67 [iL (rp m n),iL t] (iI (numT (rp m n) t)):=by
 refine ⟨fun H0=>c67 (by simp) fun _=>?_⟩;unfold s67
 have hl:=ht.len
 have hb:=horn_bd ht hm hn hp;refine tt ?_;refine awp_for [0,1] (G:=Unit) (fun k _=>[(5,some (.int .i64 (horn n (t.take k) 0))),(6,some (.int .i64 (k : Int)))]) (fun k _ H=>H=H0) t.length () rfl rfl ?_
 rintro k _ H hk rfl;refine tt ?_;apply bk <;> intro h1
 ·have h1p : k<t.length:=of_decide h1
  have w1:=wsucc (k:=k) (by omega)
  have b1:=hb k hk
  have b2:=hb (k+1) h1p
  have es : horn n (t.take (k+1)) 0=horn n (t.take k) 0*n+t.getD k default:=by rw [take_succ' t h1p,horn_snoc]
  have h2 : horn n (t.take k) 0*n≤64*16:=Int.mul_le_mul b1.2 hn.2 hn.1 (by omega)
  have h3 : 0≤horn n (t.take k) 0*n:=Int.mul_nonneg b1.1 hn.1
  have w2 : IntKind.i64.wrap (horn n (t.take k) 0*n)=horn n (t.take k) 0*n:=wrap_i64 (by omega) (by omega)
  have w3 : IntKind.i64.wrap (horn n (t.take k) 0*n+t.getD k default)=horn n (t.take (k+1)) 0:=by rw [← es]; exact wrap_i64 (by omega) (by omega)
  have hr : (rp m n).getD k default=n:=rp_at (by omega);try simp only [go_sem,↓reduceIte,reduceEqDiff,reduceAdd,reduceMul,reduceLeDiff,reduceLT,hr,w1,w2,w3]
  refine ⟨by rw [rp_len]; omega, ?_⟩;try simp only [go_sem,↓reduceIte,reduceEqDiff,reduceAdd,reduceMul,reduceLeDiff,reduceLT,hr,w1,w2,w3]
  exact ⟨h1p,for_next () h1p rfl rfl⟩
 ·have h1p : k=t.length:=by have:=of_ndecide h1; omega
  subst h1p
  have e : horn n (t.take t.length) 0=numT (rp m n) t:=by rw [List.take_length,horn_num,Int.zero_mul,Int.zero_add,rp,hl]
  rw [e];refine tt ?_;exact pure_ret rfl (.refl _)
def stopP (n : Int) : Nat→Int
 | 0=>1
 | k+1=>if stopP n k≤64 then stopP n k*n else stopP n k
theorem stopP_is {n : Int} (hn : 0≤n) : ∀ k,(prodT (List.replicate k n)≤64→stopP n k=prodT (List.replicate k n))∧(64<prodT (List.replicate k n)→64<stopP n k)
 | 0=>⟨fun _=>rfl,fun h=>by simp [prodT] at h⟩
 | k+1=>by
  obtain ⟨h1,h2⟩:=stopP_is hn k;rw [prodT_rep,stopP]
  have h0:=rep_nonneg hn k
  by_cases e : prodT (List.replicate k n)≤64
  ·rw [h1 e,if_pos e,Int.mul_comm]; exact ⟨fun _=>rfl,fun h=>h⟩
  ·have h3:=h2 (by omega);rw [if_neg (by omega)];refine ⟨fun h=>?_,fun _=>h3⟩
   by_cases en : n=0
   ·subst en
    cases k with
    | zero=>simp [prodT] at e
    | succ k=>rw [prodT_rep] at e; omega
   ·exfalso
    have : 1*prodT (List.replicate k n)≤n*prodT (List.replicate k n):=Int.mul_le_mul_of_nonneg_right (by omega) h0;omega
theorem stopP_bd {n : Int} (hn : 0≤n∧n≤16) : ∀ k,0≤stopP n k∧stopP n k≤1024
 | 0=>by simp [stopP]
 | k+1=>by
  have h:=stopP_bd hn k;rw [stopP]
  split
  ·have h1:=Int.mul_nonneg h.1 hn.1
   have h2 : stopP n k*n≤64*16:=Int.mul_le_mul (by omega) hn.2 hn.1 (by omega);omega
  ·exact h
theorem l22Power_ok (B : Nat) (m n : Int) (hm : 0≤m∧m≤16) (hn : 0≤n∧n≤16) : Pur Tryz.prog B 65 [iI m,iI n] (iI (stopP n m.toNat)):=by
 refine ⟨fun H0=>c65 (by simp) fun _=>?_⟩;unfold s65
 have stay : ∀ (k j : Nat),64<stopP n k→stopP n (k+j)=stopP n k:=fun k j h=>by
  induction j with
  | zero=>rfl
  | succ j ih=>rw [show k+(j+1)=(k+j)+1 from rfl,stopP,ih,if_neg (by omega)]
 refine tt ?_;refine awp_for [0,1] (G:=Unit) (fun k _=>[(5,some (.int .i64 (stopP n k))),(6,some (.int .i64 (k : Int)))]) (fun k _ H=>H=H0) m.toNat () rfl rfl ?_
 rintro k _ H hk rfl
 have hb:=stopP_bd hn k
 have hb2:=stopP_bd hn (k+1)
 have w1:=wsucc (k:=k) (by omega);refine tt ?_;apply bk <;> intro h1
 ·have h1p:=of_decide h1;refine tw h1 ?_;apply bk <;> intro h2
  ·have h2p:=of_decide h2
   have es : stopP n (k+1)=stopP n k*n:=by rw [stopP,if_pos (by omega)]
   have w2 : IntKind.i64.wrap (stopP n k*n)=stopP n (k+1):=by rw [← es]; exact wrap_i64 (by omega) (by omega)
   try simp only [go_sem,↓reduceIte,reduceEqDiff,reduceAdd,reduceMul,reduceLeDiff,reduceLT,w1,w2,h2]
   exact for_next () (by omega) rfl rfl
  ·have h2p:=of_ndecide h2;refine tw h2 ?_;exact pure_ret (by rw [show m.toNat=k+(m.toNat - k) by omega,stay _ _ (by omega)]) (.refl _)
 ·have h1p:=of_ndecide h1;refine tw h1 ?_;exact pure_ret (by rw [show m.toNat=k by omega]) (.refl _)
end Go.Proofs.Shf
namespace Go.AW
theorem cut_mp {P : Program} {B : Nat} {l : List Nat} {a b : SC} {Q : AQ} {σ : Env} {H : Heap} (M : Env→Heap→Prop) (h1 : awp P B a (ctQ l M Q) σ H) (h2 : ∀ σ' H',M σ' H'→awp P B b Q σ' H') : awp P B (.cut l a b) Q σ H:=⟨M,h1,h2⟩
theorem keep_get (σ : Env) : ∀ (l : List Nat) (s : Nat) (x : AV),(Env.keep l σ).get s=some x→σ.get s=some x
 | [],s,x,h=>by simp [Env.keep,Env.get] at h
 | t::r,s,x,h=>by
  rw [keep_cons] at h;simp only [Env.get] at h
  split at h
  ·rename_i e; subst e; exact h
  ·exact keep_get σ r s x h
theorem wk_keep (l : List Nat) {F : Env→Heap→Prop} {σ : Env} {H : Heap} (hk : F (Env.keep l σ) H) : wkW F σ H :=
 ⟨_,H,fun g B w tm a b=>⟨g,.refl g,a,fun s x e=>b s x (keep_get σ l s x e)⟩,hk⟩
end Go.AW
namespace Go.Proofs.Shf
open Go.AW Go.Proofs Go.Shf
theorem rd_mem {α : Type} [Inhabited α] {f : α→AV} {H0 H : Heap} {l : Ob} {K : Kont} {id off fr sz : Nat} {A : List α} (o : Owns H0 H l) (hm : (id,.cells sz (A.map f) fr)∈l) (ho : off<A.length) (hk : K (f (A.getD off default)) H) :
  rd1 (H.get id) none off K H:=by
 have h0:=o.get _ hm;simp only at h0;rw [h0,rd1_1];refine ⟨by simpa using ho, ?_⟩;rw [getD_map A ho]; exact hk
theorem rp_ok (B : Nat) (m n : Int) (hm : 0≤m∧m≤16) : Pur Tryz.prog B 66 [iI n,iI m] (iL (rp m n)):=by
 have:=l22Repeat_ok B n m.toNat (by omega);rw [Int.toNat_of_nonneg hm.1] at this;exact this
theorem szs_rg {f g : SF} {x : Int} (hx : f.shape.ObR x) : 0≤x∧x.toNat<(mapsP f g).sizes.length:=by
 have h : 0≤x∧x<f.shape.objs:=hx;rw [rwP_len]; omega
theorem szr_rg {f g : SF} {x y : Int} (hx : f.shape.ObR x) (hy : g.shape.ObR y) : 0≤y∧y.toNat<(ix (mapsP f g).sizes x).length:=by
 have h : 0≤y∧y<g.shape.objs:=hy;rw [rwP_ix hx,rowS_len]; omega
end Go.Proofs.Shf
namespace Go.AW
open Go.Proofs Go.Shf Go.Proofs.Shf
theorem EmP.buf {α : Type} {f : α→AV} {p : Ob} {X : AV} {A : List α} (h : EmP f p X A) (hA : 0<A.length) : ∃ id,p=[(id,.cells 1 (A.map f) 0)]∧X=.buf id A.length:=by
 rcases h with ⟨_,_,rfl⟩ | h
 ·simp at hA
 ·exact h
end Go.AW
namespace Go.Proofs.Shf
open Go.AW Go.Proofs Go.Shf
theorem mapsS_ok (B : Nat) {f g : SF} (hf : f.Is) (hg : g.Is) (H0 : Heap) :
  CallH Tryz.prog B 10 [.agg f.cells,.agg g.cells] H0 fun r H'=>H'=H0∧r=mpR f g:=by
 refine c10p (by simp) fun _=>?_
 have cf:=hf.1.is.1.o
 have cg:=hg.1.is.1.o;unfold s10p
 have o : Owns H0 H0 []:=.nil _;refine tt ?_;refine nb o fun idR H o=>tt ?_;refine (l19Is_ok B f).run.use ?_;rw [dec_t hf];refine tt ?_;refine (l19Is_ok B g).run.use ?_;rw [dec_t hg];refine tt ?_
 have o : Owns H0 H [(idR,.cells 13 z13 0)]:=o;refine cut_mp (fun σ H=>σ=[(2,some (.ptr f.cells)),(3,some (.ptr g.cells)),(4,some (.ref idR 0)),(6,some (.ptr f.shape.cells)),(7,some (.ptr g.shape.cells))]∧Owns H0 H [(idR,.cells 13 z13 0)]) ?_ ?_
 ·refine tt ?_;refine ⟨?_, ?_⟩
  ·refine newRef_own o fun id6 H o=>tt ?_;refine newRef_own o fun id7 H o=>tt ?_;refine sw o.swap fun H o=>tt ?_;refine sw o.swap fun H o=>tt ?_;refine wk_ref 7 o rfl fun H o=>?_;refine wk_ref 6 o rfl fun H o=>?_;exact wk_keep [2,3,4,6,7] ⟨rfl,o⟩
  ·refine newRef_own o fun id6 H o=>tt ?_;refine newRef_own o fun id7 H o=>tt ?_;refine sw o fun H o=>tt ?_;refine sw o.swap fun H o=>tt ?_;refine wk_ref 7 o rfl fun H o=>?_;refine wk_ref 6 o rfl fun H o=>?_;exact wk_keep [2,3,4,6,7] ⟨rfl,o⟩
 rintro σ H ⟨rfl,o⟩;refine tt ?_;refine ⟨_,(l02Own_ok B f.shape).run,_,(l02Own_ok B g.shape).run,tt ?_⟩;refine nb o fun idP H o=>tt ?_;refine sw o fun H o=>?_
 have o : Owns H0 H [(idP,.cells 13 (pfC f.shape g.shape .emsl .emsl .emsl) 0),(idR,.cells 13 z13 0)]:=o;refine tt ?_
 refine awp_for [2,3,4,6,7,8] (G:=AV × Ob) (fun k _=>[(9,some (.int .i64 (k : Int)))])
  (fun k g' H=>(∀ x y,0≤x∧x<(k : Int)→g.shape.ObR y→pw (ix f.sizes x) (ix g.sizes y)≤64)∧EmP iL g'.2 g'.1 ((mapsP f g).sizes.take k)∧Owns H0 H ((idP,.cells 13 (pfC f.shape g.shape g'.1 .emsl .emsl) 0)::(g'.2++[(idR,.cells 13 z13 0)]))) f.shape.objs.toNat (.emsl,[]) ⟨fun x y h=>by omega,.inl ⟨rfl,rfl,rfl⟩,o⟩ rfl ?_
 clear o
 rintro k ⟨X,q⟩ H hk ⟨hfew,hX,o⟩;dsimp only at hX o;refine tt ?_;apply bk <;> intro h1
 ·have h1p:=of_decide h1
  have w:=wsucc (k:=k) (by omega)
  have hkx : 0≤(k : Int)∧(k : Int)<f.shape.objs:=⟨by omega,h1p⟩;refine tt ?_;refine newBuf_own o fun idB H o=>?_
  have o : Owns H0 H ((idB,.cells 1 (((rowS f g k).take 0).map iI) 0)::(idP,.cells 13 (pfC f.shape g.shape X .emsl .emsl) 0)::(q++[(idR,.cells 13 z13 0)])):=o;refine tt ?_
  refine awp_for [2,3,4,6,7,8,9] (G:=Nat) (fun j b=>[(10,some (.buf b j)),(11,some (.int .i64 (j : Int)))])
   (fun j b H=>(∀ y,0≤y∧y<(j : Int)→pw (ix f.sizes k) (ix g.sizes y)≤64)∧Owns H0 H ((b,.cells 1 (((rowS f g k).take j).map iI) 0)::(idP,.cells 13 (pfC f.shape g.shape X .emsl .emsl) 0)::(q++[(idR,.cells 13 z13 0)]))) g.shape.objs.toNat idB ⟨fun y h=>by omega,o⟩ rfl ?_
  clear o
  rintro j b H hj ⟨hrow,o⟩
  replace o : Owns H0 H ((b,.cells 1 (((rowS f g k).take j).map iI) 0)::(idP,.cells 13 (pfC f.shape g.shape X .emsl .emsl) 0)::(q++[(idR,.cells 13 z13 0)])):=o;refine tt ?_;apply bk <;> intro h2
  ·have h2p:=of_decide h2
   have w2:=wsucc (k:=j) (by omega)
   have hjy : 0≤(j : Int)∧(j : Int)<g.shape.objs:=⟨by omega,h2p⟩
   have hl : ((rowS f g k).take j).length=j:=by rw [List.length_take,rowS_len]; omega
   have hz:=sz0 hg.1 hjy
   have q65:=(l22Power_ok B _ _ (sz0 hf.1 hkx) hz).run
   have hst:=stopP_is hz.1 (ix f.sizes k).toNat
   generalize stopP (ix g.sizes j) (ix f.sizes k).toNat=P at q65 hst
   have hst : (pw (ix f.sizes k) (ix g.sizes j)≤64→P=pw (ix f.sizes k) (ix g.sizes j))∧(64<pw (ix f.sizes k) (ix g.sizes j)→64<P):=hst;refine tt ?_;refine ⟨(obSz hf.1 hkx).2,(obSz hg.1 hjy).2,_,q65,tt ?_⟩;apply bk <;> intro h3
   ·have h3p:=of_decide h3
    have hno : ¬ FewP f g:=fun h=>by
     have q1 : pw (ix f.sizes k) (ix g.sizes j)≤64:=h k j hkx hjy
     have:=hst.1 q1; omega
    refine tt ?_
    have o : Owns H0 H ((idR,.cells 13 z13 0)::(((b,.cells 1 (((rowS f g k).take j).map iI) 0)::(idP,.cells 13 (pfC f.shape g.shape X .emsl .emsl) 0)::q)++[])):=o.pm;refine st_cells o (by simp [z13]) (by (try simp only [go_sem]); (try simp)) (by first | (simp only [go_sem]; done) | ((try simp only [go_sem]); simp [AV.one,one_mL])) fun H o=>?_;unfold z13 at o;simp only [wr_cons,wr_nil,List.set_cons_zero,List.set_cons_succ] at o;refine tt ?_;refine wk_z13 o fun H o=>wkW_done ?_;refine tt ?_;rw [o.rc 13 0 (by simp [PF.cells])];refine tt ?_;exact ⟨H0,o.sub,rfl,by rw [mpR_no hno]; rfl⟩
   ·have h3p:=of_ndecide h3
    have hle : pw (ix f.sizes k) (ix g.sizes j)≤64:=by omega
    have hP:=hst.1 hle
    have es:=takeS (l:=rowS f g k) (k:=j) (by rw [rowS_len]; omega) (rowS_ix hjy);rw [← hP] at es;refine tt ?_;refine app_own P o rfl hl.symm (by rw [hl]; simp only [maxL]; omega) fun b2 H o=>?_;rw [← es] at o;refine tw w2 ?_;refine for_next b2 (by omega) ⟨fun y hy=>?_,o⟩ ?_
    ·by_cases e : y=j
     ·subst e; exact hle
     ·exact hrow y (by omega)
    ·rw [List.length_append,hl]; rfl
  ·have h2p:=of_ndecide h2
   obtain rfl : j=g.shape.objs.toNat:=by omega
   rw [List.take_of_length_le (by rw [rowS_len]; omega)] at o;refine tt ?_;refine fz_own o (rowS_len f g k).symm fun H o=>tt ?_;refine rd_cells o (by simp [pfC]) ?_;refine tt ?_;refine (hX.o (l:=[(idP,.cells 13 (pfC f.shape g.shape X .emsl .emsl) 0),(idR,.cells 13 z13 0)]) (o.pm)).app (rowS f g k) rfl (by rw [List.length_take]; simp only [maxL]; omega) fun ids H o=>?_
   have es:=takeS (l:=(mapsP f g).sizes) (k:=k) (by rw [rwP_len]; omega) (rwP_ix hkx);rw [← es] at o;rw [← es];refine tt ?_;refine st_cells o.swap (by simp [pfC]) (by (try simp only [go_sem]); (try simp)) (by first | (simp only [go_sem]; done) | ((try simp only [go_sem]); simp [AV.one,one_mL])) fun H o=>?_;unfold pfC at o;simp only [wr_cons,wr_nil,List.set_cons_zero,List.set_cons_succ] at o;refine tw w ?_;refine for_next (.buf ids ((mapsP f g).sizes.take (k+1)).length,[(ids,.cells 1 (((mapsP f g).sizes.take (k+1)).map iL) 0)]) (by omega) ⟨fun x y hx hy=>?_,.inr ⟨ids,rfl,rfl⟩,o⟩ rfl
   by_cases e : x=k
   ·subst e
    have h1 : 0≤y∧y<g.shape.objs:=hy;exact hrow y (by omega)
   ·exact hfew x y (by omega) hy
 ·have h1p:=of_ndecide h1
  obtain rfl : k=f.shape.objs.toNat:=by omega
  have few : FewP f g:=fun x y hx hy=>hfew x y (by have h1 : 0≤x∧x<f.shape.objs:=hx; omega) hy;rw [List.take_of_length_le (by rw [rwP_len]; omega)] at hX;clear hfew h1 h1p hk
  have bl : (mapsP f g).before.length=f.shape.frm.length:=by simp [mapsP]
  have hl : (mapsP f g).behind.length=g.shape.frm.length:=by simp [mapsP]
  have am:=hf.1.is.1.m
  have bm:=hg.1.is.1.m
  have ftl:=hf.1.is.1.tol
  have gtl:=hg.1.is.1.tol;refine tt ?_
  refine awp_for [2,3,4,6,7,8] (G:=AV × Ob) (fun k _=>[(13,some (.int .i64 (k : Int)))])
   (fun k g' H=>EmP iLL g'.2 g'.1 ((mapsP f g).before.take k)∧Owns H0 H ((idP,.cells 13 (pfC f.shape g.shape X g'.1 .emsl) 0)::(g'.2++(q++[(idR,.cells 13 z13 0)])))) f.shape.frm.length (.emsl,[]) ⟨.inl ⟨rfl,rfl,rfl⟩,o⟩ rfl ?_
  clear o
  rintro k ⟨Y,p⟩ H hk ⟨hY,o⟩;dsimp only at hY o;refine tt ?_;apply bk <;> intro h1
  ·have h1p:=of_decide h1
   have w:=wsucc (k:=k) (by omega)
   have ha : f.shape.ArR k:=⟨by omega,by simpa using h1p⟩
   have oa:=ar_ob hf.1 ha;refine tt ?_;refine newBuf_own o fun idB H o=>?_
   have o : Owns H0 H ((idB,.cells 1 (((befR f g k).take 0).map iL) 0)::(idP,.cells 13 (pfC f.shape g.shape X Y .emsl) 0)::(p++(q++[(idR,.cells 13 z13 0)]))):=o;refine tt ?_
   refine awp_for [2,3,4,6,7,8,13] (G:=Nat) (fun j b=>[(14,some (.buf b j)),(15,some (.int .i64 (j : Int)))])
    (fun j b H=>Owns H0 H ((b,.cells 1 (((befR f g k).take j).map iL) 0)::(idP,.cells 13 (pfC f.shape g.shape X Y .emsl) 0)::(p++(q++[(idR,.cells 13 z13 0)])))) g.shape.objs.toNat idB o rfl ?_
   clear o
   rintro j b H hj o
   replace o : Owns H0 H ((b,.cells 1 (((befR f g k).take j).map iL) 0)::(idP,.cells 13 (pfC f.shape g.shape X Y .emsl) 0)::(p++(q++[(idR,.cells 13 z13 0)]))):=o;refine tt ?_;apply bk <;> intro h2
   ·have h2p:=of_decide h2
    have w2:=wsucc (k:=j) (by omega)
    have hjy : 0≤(j : Int)∧(j : Int)<g.shape.objs:=⟨by omega,h2p⟩
    have hl : ((befR f g k).take j).length=j:=by rw [List.length_take,befR_len]; omega
    have z1:=sz0 hf.1 oa.1
    have z2:=sz0 hf.1 oa.2
    have z3:=sz0 hg.1 hjy;refine tt ?_
    have p1:=few _ _ oa.2 hjy
    have p2:=few _ _ oa.1 hjy
    have hrow : (rowS f g (ix f.shape.to k)).getD j default=pw (ix f.sizes (ix f.shape.to k)) (ix g.sizes j):=by
     have:=rowS_ix (f:=f) (x:=ix f.shape.to k) hjy;rw [ix_nat] at this;exact this
    have hbl : (befL f g k j).length=(pw (ix f.sizes (ix f.shape.to k)) (ix g.sizes j)).toNat:=by simp [befL]
    have hbe : ∀ e : Int,0≤e∧e<pw (ix f.sizes (ix f.shape.to k)) (ix g.sizes j)→ix (befL f g k j) e=befN f g k j e:=fun e he=>befL_ix he
    have hbm:=fun (e : Int) (he : 0≤e∧e<pw (ix f.sizes (ix f.shape.to k)) (ix g.sizes j))=>bef_map hf.1 hg.1 ha hjy he
    have hbn : ∀ e : Int,befN f g k j e=numT (rp (ix f.sizes (ix f.shape.frm k)) (ix g.sizes j)) (thn (ix f.acts k) (atT (rp (ix f.sizes (ix f.shape.to k)) (ix g.sizes j)) e)):=fun e=>rfl
    have hac:=act_map hf.1 ha
    have r1:=(rp_ok B (ix f.sizes (ix f.shape.to k)) (ix g.sizes j) z2).run
    have r2:=(rp_ok B (ix f.sizes (ix f.shape.frm k)) (ix g.sizes j) z1).run
    have eg2:=(obSz hg.1 hjy).2
    have es1:=obSz hf.1 oa.1
    have es2:=obSz hf.1 oa.2
    have efr : k<f.shape.frm.length:=h1p
    generalize hN : ix g.sizes (j : Int)=N at *
    generalize hM : ix f.sizes (ix f.shape.to (k : Int))=M at *
    generalize hM1 : ix f.sizes (ix f.shape.frm (k : Int))=M1 at *
    have r1' : PureF Tryz.prog B 66 [iI (ix g.sizes (j : Int)),iI (ix f.sizes (ix f.shape.to (k : Int)))] (iL (rp M N)):=by rw [hN,hM]; exact r1
    have r2' : PureF Tryz.prog B 66 [iI (ix g.sizes (j : Int)),iI (ix f.sizes (ix f.shape.frm (k : Int)))] (iL (rp M1 N)):=by rw [hN,hM1]; exact r2
    refine ⟨eg2,by omega,es2,_,r1',eg2,h1p,es1,_,r2',newBuf_own o fun idL H o=>?_⟩
    have o : Owns H0 H ((idL,.cells 1 (((befL f g k j).take 0).map iI) 0)::(b,.cells 1 (((befR f g k).take j).map iL) 0)::(idP,.cells 13 (pfC f.shape g.shape X Y .emsl) 0)::(p++(q++[(idR,.cells 13 z13 0)]))):=o;refine tt ?_
    obtain ⟨L,hL⟩ : ∃ L : Nat,pw M N=L:=⟨_,(Int.toNat_of_nonneg (pw_nonneg z3.1)).symm⟩
    refine awp_for [2,3,4,6,7,8,13,14,15,16,17] (G:=Nat) (fun i b2=>[(18,some (.buf b2 i)),(19,some (.int .i64 (i : Int)))])
     (fun i b2 H=>Owns H0 H ((b2,.cells 1 (((befL f g k j).take i).map iI) 0)::(b,.cells 1 (((befR f g k).take j).map iL) 0)::(idP,.cells 13 (pfC f.shape g.shape X Y .emsl) 0)::(p++(q++[(idR,.cells 13 z13 0)])))) L idL o rfl ?_
    clear o
    rintro i b2 H hi o
    replace o : Owns H0 H ((b2,.cells 1 (((befL f g k j).take i).map iI) 0)::(b,.cells 1 (((befR f g k).take j).map iL) 0)::(idP,.cells 13 (pfC f.shape g.shape X Y .emsl) 0)::(p++(q++[(idR,.cells 13 z13 0)]))):=o;refine tt ?_;refine rd_cells (o.pull [_,_]) (by simp [pfC]) ?_
    obtain ⟨idX,rfl,rfl⟩:=hX.buf (by have:=szs_rg (g:=g) oa.2; omega);refine tt ?_
    have eR : (mapsP f g).sizes.getD (ix f.shape.to (k : Int)).toNat default=rowS f g (ix f.shape.to k):=rwP_ix oa.2;refine ⟨by omega,szs_rg oa.2,rd_mem (f:=iL) (A:=(mapsP f g).sizes) o (by repeat (first | exact List.mem_cons_self | refine List.mem_cons_of_mem _ ?_ | refine List.mem_append_right _ ?_)) (szs_rg (g:=g) oa.2).2 ?_⟩
    show putK _ _ _ (iL ((mapsP f g).sizes.getD (ix f.shape.to (k : Int)).toNat default)) _
    rw [eR];refine tw hrow ?_;refine ⟨by rw [rowS_len]; omega, ?_⟩;apply bk <;> intro h3
    ·have h3p:=of_decide h3
     have h3p : (i : Int)<pw M N:=by rw [← hrow]; exact h3p
     have hk' : 0≤(i : Int)∧(i : Int)<pw M N:=⟨by omega,h3p⟩
     have w3:=wsucc (k:=i) (by omega)
     have m3:=at_map z3.1 hk'
     have hli : ((befL f g k j).take i).length=i:=by rw [List.length_take,hbl]; omega
     refine tt ?_;refine ⟨(arAc hf.1 ha).2,_,(l01At_ok B (rp M N) (by rw [rp_len]; omega) (pw_pos z3.1 (by omega)) i ⟨by omega,by omega⟩).run,_,(l01Then_ok B _ _ fun y hy=>⟨(hac.mem hy).1,by have:=hac.mem hy; have:=m3.len; omega⟩).run,_,(l01Number_ok B M1 N _ (hbm i hk') z1 z3 p2).run,by simp [AV.cells,AV.one], ?_⟩
     have es:=takeS (l:=befL f g k j) (k:=i) (by rw [hbl]; omega) (hbe i hk');refine app_own (befN f g k j i) o (by rw [hbn]) hli.symm (by rw [hli]; simp only [maxL]; omega) fun b2 H o=>?_;rw [← es] at o;refine tw w3 ?_;exact for_next b2 (by omega) o (by rw [List.length_append,hli]; rfl)
    ·have h3p:=of_ndecide h3
     have h3p : ¬ (i : Int)<pw M N:=by rw [← hrow]; exact h3p
     obtain rfl : i=L:=by omega
     rw [List.take_of_length_le (by rw [hbl]; omega)] at o;refine tt ?_;refine fz_own o (by rw [hbl,hL]; rfl) fun H o=>tt ?_
     have es:=takeS (l:=befR f g k) (k:=j) (by rw [befR_len]; omega) (befR_ix hjy);refine app_own (befL f g k j) o rfl hl.symm (by rw [hl]; simp only [maxL]; omega) fun b H o=>?_;rw [← es] at o;refine tw w2 ?_;exact for_next b (by omega) o (by rw [List.length_append,hl]; rfl)
   ·have h2p:=of_ndecide h2
    obtain rfl : j=g.shape.objs.toNat:=by omega
    rw [List.take_of_length_le (by rw [befR_len]; omega)] at o;refine tt ?_;refine fz_own o (befR_len f g k).symm fun H o=>tt ?_;refine rd_cells o (by simp [pfC]) ?_;refine tt ?_;refine (hY.o (l:=(idP,.cells 13 (pfC f.shape g.shape X Y .emsl) 0)::(q++[(idR,.cells 13 z13 0)])) (o.pm)).app (befR f g k) rfl (by rw [List.length_take]; simp only [maxL]; omega) fun ids H o=>?_
    have es:=takeS (l:=(mapsP f g).before) (k:=k) (by rw [bl]; omega) (bef_ix' ha);rw [← es] at o;rw [← es];refine tt ?_;refine st_cells o.swap (by simp [pfC]) (by (try simp only [go_sem]); (try simp)) (by first | (simp only [go_sem]; done) | ((try simp only [go_sem]); simp [AV.one,one_mL])) fun H o=>?_;unfold pfC at o;simp only [wr_cons,wr_nil,List.set_cons_zero,List.set_cons_succ] at o;refine tw w ?_;exact for_next (.buf ids ((mapsP f g).before.take (k+1)).length,[(ids,.cells 1 (((mapsP f g).before.take (k+1)).map iLL) 0)]) (by omega) ⟨.inr ⟨ids,rfl,rfl⟩,o⟩ rfl
  ·have h1p:=of_ndecide h1
   obtain rfl : k=f.shape.frm.length:=by omega
   rw [List.take_of_length_le (by rw [bl]; omega)] at hY;clear h1 h1p hk;refine tt ?_
   refine awp_for [2,3,4,6,7,8] (G:=AV × Ob) (fun k _=>[(20,some (.int .i64 (k : Int)))])
    (fun k g' H=>EmP iLL g'.2 g'.1 ((mapsP f g).behind.take k)∧Owns H0 H ((idP,.cells 13 (pfC f.shape g.shape X Y g'.1) 0)::(g'.2++(p++(q++[(idR,.cells 13 z13 0)]))))) g.shape.frm.length (.emsl,[]) ⟨.inl ⟨rfl,rfl,rfl⟩,o⟩ rfl ?_
   clear o
   rintro k ⟨Z,r⟩ H hk ⟨hZ,o⟩;dsimp only at hZ o;refine tt ?_;apply bk <;> intro h1
   ·have h1p:=of_decide h1
    have w:=wsucc (k:=k) (by omega)
    have ha : g.shape.ArR k:=⟨by omega,by simpa using h1p⟩
    have oa:=ar_ob hg.1 ha;refine tt ?_;refine newBuf_own o fun idB H o=>?_
    have o : Owns H0 H ((idB,.cells 1 (((behR f g k).take 0).map iL) 0)::(idP,.cells 13 (pfC f.shape g.shape X Y Z) 0)::(r++(p++(q++[(idR,.cells 13 z13 0)])))):=o;refine tt ?_
    refine awp_for [2,3,4,6,7,8,20] (G:=Nat) (fun j b=>[(21,some (.buf b j)),(22,some (.int .i64 (j : Int)))])
     (fun j b H=>Owns H0 H ((b,.cells 1 (((behR f g k).take j).map iL) 0)::(idP,.cells 13 (pfC f.shape g.shape X Y Z) 0)::(r++(p++(q++[(idR,.cells 13 z13 0)]))))) f.shape.objs.toNat idB o rfl ?_
    clear o
    rintro j b H hj o
    replace o : Owns H0 H ((b,.cells 1 (((behR f g k).take j).map iL) 0)::(idP,.cells 13 (pfC f.shape g.shape X Y Z) 0)::(r++(p++(q++[(idR,.cells 13 z13 0)])))):=o;refine tt ?_;apply bk <;> intro h2
    ·have h2p:=of_decide h2
     have w2:=wsucc (k:=j) (by omega)
     have hjy : 0≤(j : Int)∧(j : Int)<f.shape.objs:=⟨by omega,h2p⟩
     have hl : ((behR f g k).take j).length=j:=by rw [List.length_take,behR_len]; omega
     have z1:=sz0 hg.1 oa.1
     have z2:=sz0 hg.1 oa.2
     have z3:=sz0 hf.1 hjy;refine tt ?_
     have p1:=few _ _ hjy oa.1
     have p2:=few _ _ hjy oa.2
     have hrow : ix (rowS f g j) (ix g.shape.frm k)=pw (ix f.sizes j) (ix g.sizes (ix g.shape.frm k)):=rowS_ix oa.1
     have hbl : (behL f g k j).length=(pw (ix f.sizes j) (ix g.sizes (ix g.shape.frm k))).toNat:=by simp [behL]
     have hbe : ∀ e : Int,0≤e∧e<pw (ix f.sizes j) (ix g.sizes (ix g.shape.frm k))→ix (behL f g k j) e=behN f g k j e:=fun e he=>behL_ix he
     have hbm:=fun (e : Int) (he : 0≤e∧e<pw (ix f.sizes j) (ix g.sizes (ix g.shape.frm k)))=>beh_map hf.1 hg.1 ha hjy he
     have hbn : ∀ e : Int,behN f g k j e=numT (rp (ix f.sizes j) (ix g.sizes (ix g.shape.to k))) (thn (atT (rp (ix f.sizes j) (ix g.sizes (ix g.shape.frm k))) e) (ix g.acts k)):=fun e=>rfl
     have hac:=act_map hg.1 ha
     have r1:=(rp_ok B (ix f.sizes j) (ix g.sizes (ix g.shape.frm k)) z3).run
     have r2:=(rp_ok B (ix f.sizes j) (ix g.sizes (ix g.shape.to k)) z3).run
     have eg2:=(obSz hf.1 hjy).2
     have es1:=obSz hg.1 oa.1
     have es2:=obSz hg.1 oa.2
     have hszr:=szr_rg (f:=f) (g:=g) hjy oa.1
     generalize hN : ix f.sizes (j : Int)=N at *
     generalize hM : ix g.sizes (ix g.shape.frm (k : Int))=M at *
     generalize hM1 : ix g.sizes (ix g.shape.to (k : Int))=M1 at *
     have r1' : PureF Tryz.prog B 66 [iI (ix g.sizes (ix g.shape.frm (k : Int))),iI (ix f.sizes (j : Int))] (iL (rp N M)):=by rw [hN,hM]; exact r1
     have r2' : PureF Tryz.prog B 66 [iI (ix g.sizes (ix g.shape.to (k : Int))),iI (ix f.sizes (j : Int))] (iL (rp N M1)):=by rw [hN,hM1]; exact r2
     refine ⟨h1p,es1,eg2,_,r1',by omega,es2,eg2,_,r2',newBuf_own o fun idL H o=>?_⟩
     have o : Owns H0 H ((idL,.cells 1 (((behL f g k j).take 0).map iI) 0)::(b,.cells 1 (((behR f g k).take j).map iL) 0)::(idP,.cells 13 (pfC f.shape g.shape X Y Z) 0)::(r++(p++(q++[(idR,.cells 13 z13 0)])))):=o;refine tt ?_
     obtain ⟨L,hL⟩ : ∃ L : Nat,pw N M=L:=⟨_,(Int.toNat_of_nonneg (pw_nonneg z1.1)).symm⟩
     refine awp_for [2,3,4,6,7,8,20,21,22,23,24] (G:=Nat) (fun i b2=>[(25,some (.buf b2 i)),(26,some (.int .i64 (i : Int)))])
      (fun i b2 H=>Owns H0 H ((b2,.cells 1 (((behL f g k j).take i).map iI) 0)::(b,.cells 1 (((behR f g k).take j).map iL) 0)::(idP,.cells 13 (pfC f.shape g.shape X Y Z) 0)::(r++(p++(q++[(idR,.cells 13 z13 0)]))))) L idL o rfl ?_
     clear o
     rintro i b2 H hi o
     replace o : Owns H0 H ((b2,.cells 1 (((behL f g k j).take i).map iI) 0)::(b,.cells 1 (((behR f g k).take j).map iL) 0)::(idP,.cells 13 (pfC f.shape g.shape X Y Z) 0)::(r++(p++(q++[(idR,.cells 13 z13 0)])))):=o;refine tt ?_;refine rd_cells (o.pull [_,_]) (by simp [pfC]) ?_
     obtain ⟨idX,rfl,rfl⟩:=hX.buf (by rw [rwP_len]; omega);refine tt ?_
     have eR : (mapsP f g).sizes.getD j default=rowS f g j:=by
      have:=rwP_ix (f:=f) (g:=g) hjy;rw [ix_nat] at this;exact this
     refine ⟨by rw [rwP_len]; omega,rd_mem (f:=iL) (A:=(mapsP f g).sizes) o (by repeat (first | exact List.mem_cons_self | refine List.mem_cons_of_mem _ ?_ | refine List.mem_append_right _ ?_)) (by rw [rwP_len]; omega) ?_⟩;rw [eR];refine tw hrow ?_;refine ⟨h1p,⟨oa.1.1,by rw [rowS_len]; have h5 : 0≤ix g.shape.frm k∧ix g.shape.frm k<g.shape.objs:=oa.1; have h6:=h5.1; have h7:=h5.2; show (ix g.shape.frm k).toNat<_; omega⟩, ?_⟩;apply bk <;> intro h3
     ·have h3p:=of_decide h3
      have h3p : (i : Int)<pw N M:=by rw [← hrow]; exact h3p
      have hk' : 0≤(i : Int)∧(i : Int)<pw N M:=⟨by omega,h3p⟩
      have w3:=wsucc (k:=i) (by omega)
      have m3:=at_map z1.1 hk'
      have hli : ((behL f g k j).take i).length=i:=by rw [List.length_take,hbl]; omega
      refine tt ?_;refine ⟨_,(l01At_ok B (rp N M) (by rw [rp_len]; omega) (pw_pos z1.1 (by omega)) i ⟨by omega,by omega⟩).run,(arAc hg.1 ha).2,_,(l01Then_ok B _ _ fun y hy=>⟨(m3.mem hy).1,by have:=m3.mem hy; have:=hac.len; show y.toNat<(ix g.acts (k : Int)).length; omega⟩).run,_,(l01Number_ok B N M1 _ (hbm i hk') z3 z2 p2).run,by simp [AV.cells,AV.one], ?_⟩
      have es:=takeS (l:=behL f g k j) (k:=i) (by rw [hbl]; omega) (hbe i hk');refine app_own (behN f g k j i) o (by rw [hbn]) hli.symm (by rw [hli]; simp only [maxL]; omega) fun b2 H o=>?_;rw [← es] at o;refine tw w3 ?_;exact for_next b2 (by omega) o (by rw [List.length_append,hli]; rfl)
     ·have h3p:=of_ndecide h3
      have h3p : ¬ (i : Int)<pw N M:=by rw [← hrow]; exact h3p
      obtain rfl : i=L:=by omega
      rw [List.take_of_length_le (by rw [hbl]; omega)] at o;refine tt ?_;refine fz_own o (by rw [hbl,hL]; rfl) fun H o=>tt ?_
      have es:=takeS (l:=behR f g k) (k:=j) (by rw [behR_len]; omega) (behR_ix hjy);refine app_own (behL f g k j) o rfl hl.symm (by rw [hl]; simp only [maxL]; omega) fun b H o=>?_;rw [← es] at o;refine tw w2 ?_;exact for_next b (by omega) o (by rw [List.length_append,hl]; rfl)
    ·have h2p:=of_ndecide h2
     obtain rfl : j=f.shape.objs.toNat:=by omega
     rw [List.take_of_length_le (by rw [behR_len]; omega)] at o;refine tt ?_;refine fz_own o (behR_len f g k).symm fun H o=>tt ?_;refine rd_cells o (by simp [pfC]) ?_;refine tt ?_;refine (hZ.o (l:=(idP,.cells 13 (pfC f.shape g.shape X Y Z) 0)::(p++(q++[(idR,.cells 13 z13 0)]))) (o.pm)).app (behR f g k) rfl (by rw [List.length_take]; simp only [maxL]; omega) fun ids H o=>?_
     have es:=takeS (l:=(mapsP f g).behind) (k:=k) (by rw [hl]; omega) (beh_ix' ha);rw [← es] at o;rw [← es];refine tt ?_;refine st_cells o.swap (by simp [pfC]) (by (try simp only [go_sem]); (try simp)) (by first | (simp only [go_sem]; done) | ((try simp only [go_sem]); simp [AV.one,one_mL])) fun H o=>?_;unfold pfC at o;simp only [wr_cons,wr_nil,List.set_cons_zero,List.set_cons_succ] at o;refine tw w ?_;exact for_next (.buf ids ((mapsP f g).behind.take (k+1)).length,[(ids,.cells 1 (((mapsP f g).behind.take (k+1)).map iLL) 0)]) (by omega) ⟨.inr ⟨ids,rfl,rfl⟩,o⟩ rfl
   ·have h1p:=of_ndecide h1
    obtain rfl : k=g.shape.frm.length:=by omega
    rw [List.take_of_length_le (by rw [hl]; omega)] at hZ;clear h1 h1p hk;refine tt ?_;refine wk_em (f:=iL) (id:=idP) (sz:=13) (fr:=0) (cs:=pfC f.shape g.shape X Y Z) 10 hX (l:=r++(p++[(idR,.cells 13 z13 0)])) (o.pm) rfl fun H o=>?_
    replace o : Owns H0 H ((idP,.cells 13 (pfC f.shape g.shape (iLL (mapsP f g).sizes) Y Z) 0)::(r++(p++[(idR,.cells 13 z13 0)]))):=o;refine wk_em (f:=iLL) (id:=idP) (sz:=13) (fr:=0) (cs:=pfC f.shape g.shape (iLL (mapsP f g).sizes) Y Z) 11 hY (l:=r++[(idR,.cells 13 z13 0)]) (o.pm) rfl fun H o=>?_
    replace o : Owns H0 H ((idP,.cells 13 (pfC f.shape g.shape (iLL (mapsP f g).sizes) (iLLL (mapsP f g).before) Z) 0)::(r++[(idR,.cells 13 z13 0)])):=o;refine wk_em (f:=iLL) (id:=idP) (sz:=13) (fr:=0) (cs:=pfC f.shape g.shape (iLL (mapsP f g).sizes) (iLLL (mapsP f g).before) Z) 12 hZ (l:=[(idR,.cells 13 z13 0)]) (o.pm) rfl fun H o=>wkW_done ?_
    replace o : Owns H0 H [(idP,.cells 13 (pf13 (mapsP f g)) 0),(idR,.cells 13 z13 0)]:=o;refine tt ?_;refine rd_celln o (by simp [pf13,pfC]) ?_;unfold pf13 pfC;refine tt ?_;refine st_cells o.swap (by simp [z13]) (by (try simp only [go_sem]); (try simp)) (by first | (simp only [go_sem]; done) | ((try simp only [go_sem]); simp [AV.one,one_mL])) fun H o=>?_;unfold z13 at o;simp only [wr_cons,wr_nil,List.set_cons_zero,List.set_cons_succ] at o
    have o : Owns H0 H [(idR,.cells 13 (pf13 (mapsP f g)) 0),(idP,.cells 13 (pf13 (mapsP f g)) 0)]:=o;refine tt ?_;refine wkW_done ?_;refine tt ?_;rw [o.rc 13 0 (by simp [pf13,pfC])];refine tt ?_;exact ⟨H0,o.sub,rfl,by rw [mpR_yes few]; rfl⟩
theorem maps22_ok (B : Nat) (p : PF) (hp : p.Shape) : Pur Tryz.prog B 216 [.agg p.cells] (.bool true):=by
 refine ⟨fun H0=>c216p (by simp) fun _=>?_⟩
 have so:=hp.sI.1.o
 have to:=hp.tI.1.o
 have sm:=hp.sI.1.m
 have tm:=hp.tI.1.m;unfold s216p
 have o : Owns H0 H0 []:=.nil _;refine tt ?_;refine cut_mp (fun σ H=>σ=[(1,some (.ptr p.cells)),(3,some (.ptr p.src.cells)),(4,some (.ptr p.tgt.cells))]∧H0.sub H) ?_ ?_
 ·refine tt ?_;refine ⟨?_, ?_⟩
  ·refine newRef_own o fun id6 H o=>tt ?_;refine newRef_own o fun id7 H o=>tt ?_;refine sw o.swap fun H o=>tt ?_;refine sw o.swap fun H o=>tt ?_;refine wk_ref 4 o rfl fun H o=>?_;refine wk_ref 3 o rfl fun H o=>?_;exact wk_keep [1,3,4] ⟨rfl,o.sub⟩
  ·refine newRef_own o fun id6 H o=>tt ?_;refine newRef_own o fun id7 H o=>tt ?_;refine sw o fun H o=>tt ?_;refine sw o.swap fun H o=>tt ?_;refine wk_ref 4 o rfl fun H o=>?_;refine wk_ref 3 o rfl fun H o=>?_;exact wk_keep [1,3,4] ⟨rfl,o.sub⟩
 clear o
 rintro σ H ⟨rfl,os⟩;refine tt ?_;refine awp_for [1,3,4] (G:=Unit) (fun k _=>[(5,some (.int .i64 (k : Int)))]) (fun k _ H'=>H'=H) p.before.length () rfl rfl ?_
 rintro k _ H' hk rfl;refine tt ?_;apply bk <;> intro h1
 ·have h1p:=of_decide h1
  have bl:=hp.bl
  have hka : p.src.ArR k:=⟨by omega,by show (k : Int).toNat<_; omega⟩
  have w:=wsucc (k:=k) (by omega)
  have hr:=hp.bm k hka
  have hr1 : ((p.before.getD k default).length : Int)=p.tgt.objs:=hr.1
  have toI:=hp.sI.1.toI hka
  have frO:=hp.sI.1.frO hka
  have toO:=hp.sI.1.toO hka
  have szF:=hp.szI frO
  have szT:=hp.szI toO;refine tt ?_;refine ⟨h1p, ?_⟩;rw [decide_eq_true hr1];refine tt ?_;refine awp_for [1,3,4,5] (G:=Unit) (fun k _=>[(6,some (.int .i64 (k : Int)))]) (fun k _ H=>H=H') (p.before.getD k default).length () rfl rfl ?_
  rintro j _ H2 hj rfl;refine tt ?_;refine ⟨h1p, ?_⟩;apply bk <;> intro h2
  ·have h2p:=of_decide h2
   have hjy : p.tgt.ObR j:=⟨by omega,by omega⟩
   have w2:=wsucc (k:=j) (by omega)
   have m:=hr.2 j hjy
   have szj:=hp.szJ frO hjy
   have szj2:=hp.szJ toO hjy
   have q1:=(hp.rl _ frO).2 _ hjy
   have q2:=(hp.rl _ toO).2 _ hjy
   have hm : (((p.before.getD k default).getD j default).length : Int)=(ix p.sizes (p.src.to.getD k default)).getD j default:=by
    have e : ((p.bf k j).length : Int)=p.sz (ix p.src.to k) j:=by (have:=m.len; omega)
    exact e
   have hm2 : ∀ y,y∈(p.before.getD k default).getD j default→0≤y∧y<(ix p.sizes (p.src.frm.getD k default)).getD j default:=fun y hy=>m.mem hy;refine tt ?_
   (repeat (refine ⟨by first | exact h2p | exact h1p | exact hka.2 | exact toI.2 | exact szF | exact szT | exact szj.2 | exact szj2.2, ?_⟩))
   rw [decide_eq_true hm];refine tt ?_
   (repeat (refine ⟨by first | exact h2p | exact h1p | exact hka.2 | exact toI.2 | exact szF | exact szT | exact szj.2 | exact szj2.2, ?_⟩))
   refine ⟨_,(l01Map_ok B _ _).run, ?_⟩;rw [dec_t hm2];refine tw w2 ?_;exact for_next () h2p rfl rfl
  ·refine tw w ?_;exact for_next () h1p rfl rfl
 clear h1 hk;refine tt ?_;refine awp_for [1,3,4] (G:=Unit) (fun k _=>[(8,some (.int .i64 (k : Int)))]) (fun k _ H=>H=H') p.behind.length () rfl rfl ?_
 rintro k _ H hk rfl;refine tt ?_;apply bk <;> intro h1
 ·have h1p:=of_decide h1
  have bl:=hp.hl
  have hka : p.tgt.ArR k:=⟨by omega,by show (k : Int).toNat<_; omega⟩
  have w:=wsucc (k:=k) (by omega)
  have hr:=hp.hm k hka
  have hr1 : ((p.behind.getD k default).length : Int)=p.src.objs:=hr.1
  have toI:=hp.tI.1.toI hka
  have frO:=hp.tI.1.frO hka
  have toO:=hp.tI.1.toO hka;refine tt ?_;refine ⟨h1p, ?_⟩;rw [decide_eq_true hr1];refine tt ?_;refine awp_for [1,3,4,8] (G:=Unit) (fun k _=>[(9,some (.int .i64 (k : Int)))]) (fun k _ H2=>H2=H) (p.behind.getD k default).length () rfl rfl ?_
  rintro j _ H2 hj rfl;refine tt ?_;refine ⟨h1p, ?_⟩;apply bk <;> intro h2
  ·have h2p:=of_decide h2
   have hjx : p.src.ObR j:=⟨by omega,by omega⟩
   have w2:=wsucc (k:=j) (by omega)
   have m:=hr.2 j hjx
   have szx:=hp.szI hjx
   have szj:=hp.szJ hjx frO
   have szj2:=hp.szJ hjx toO
   have q1:=(hp.rl _ hjx).2 _ frO
   have q2:=(hp.rl _ hjx).2 _ toO
   have hm : (((p.behind.getD k default).getD j default).length : Int)=ix (p.sizes.getD j default) (p.tgt.frm.getD k default):=by
    have e : ((p.bh k j).length : Int)=p.sz j (ix p.tgt.frm k):=by (have:=m.len; omega)
    exact e
   have hm2 : ∀ y,y∈(p.behind.getD k default).getD j default→0≤y∧y<ix (p.sizes.getD j default) (p.tgt.to.getD k default):=fun y hy=>m.mem hy;refine tt ?_
   (repeat (refine ⟨by first | exact h2p | exact h1p | exact hka.2 | exact toI.2 | exact szx.2 | exact szj | exact szj2, ?_⟩))
   rw [decide_eq_true hm];refine tt ?_
   (repeat (refine ⟨by first | exact h2p | exact h1p | exact hka.2 | exact toI.2 | exact szx.2 | exact szj | exact szj2, ?_⟩))
   refine ⟨_,(l01Map_ok B _ _).run, ?_⟩;rw [dec_t hm2];refine tw w2 ?_;exact for_next () h2p rfl rfl
  ·refine tw w ?_;exact for_next () h1p rfl rfl
 ·refine tt ?_;exact pure_ret rfl os
theorem laws22_ok (B : Nat) (p : PF) (hp : p.Is) : Pur Tryz.prog B 217 [.agg p.cells] (.bool true):=by
 refine ⟨fun H0=>c217p (by simp) fun _=>?_⟩
 have sh:=hp.shp
 have so:=sh.sI.1.o
 have to:=sh.tI.1.o
 have sm:=sh.sI.1.m
 have tm:=sh.tI.1.m;unfold s217p
 have o : Owns H0 H0 []:=.nil _;refine tt ?_;refine cut_mp (fun σ H=>σ=[(1,some (.ptr p.cells)),(3,some (.ptr p.src.cells)),(4,some (.ptr p.tgt.cells))]∧H0.sub H) ?_ ?_
 ·refine tt ?_;refine ⟨?_, ?_⟩
  ·refine newRef_own o fun id6 H o=>tt ?_;refine newRef_own o fun id7 H o=>tt ?_;refine sw o.swap fun H o=>tt ?_;refine sw o.swap fun H o=>tt ?_;refine wk_ref 4 o rfl fun H o=>?_;refine wk_ref 3 o rfl fun H o=>?_;exact wk_keep [1,3,4] ⟨rfl,o.sub⟩
  ·refine newRef_own o fun id6 H o=>tt ?_;refine newRef_own o fun id7 H o=>tt ?_;refine sw o fun H o=>tt ?_;refine sw o.swap fun H o=>tt ?_;refine wk_ref 4 o rfl fun H o=>?_;refine wk_ref 3 o rfl fun H o=>?_;exact wk_keep [1,3,4] ⟨rfl,o.sub⟩
 clear o
 rintro σ H ⟨rfl,os⟩;refine tt ?_;refine awp_for [1,3,4] (G:=Unit) (fun k _=>[(5,some (.int .i64 (k : Int)))]) (fun k _ H'=>H'=H) p.tgt.objs.toNat () rfl rfl ?_
 rintro y _ H1 hy rfl;refine tt ?_;apply bk <;> intro h1
 ·have h1p:=of_decide h1
  have w:=wsucc (k:=y) (by omega)
  have hyo : p.tgt.ObR y:=⟨by omega,h1p⟩;refine tt ?_;refine awp_for [1,3,4,5] (G:=Unit) (fun k _=>[(6,some (.int .i64 (k : Int)))]) (fun k _ H'=>H'=H1) p.src.objs.toNat () rfl rfl ?_
  rintro x _ H hx rfl;refine tt ?_;apply bk <;> intro h2
  ·have h2p:=of_decide h2
   have hxo : p.src.ObR x:=⟨by omega,by omega⟩
   have w2:=wsucc (k:=x) (by omega)
   have id1:=sh.sI.1.idA hxo
   have id2:=sh.tI.1.idA hyo
   have ii1:=sh.sI.1.idI hxo
   have ii2:=sh.tI.1.idI hyo
   have b1:=sh.bfI id1.1
   have b2:=sh.bfJ id1.1 hyo
   have b3:=sh.bhI id2.1
   have b4:=sh.bhJ id2.1 hxo
   have q:=(sh.rl _ hxo).2 _ hyo
   have qq : 0≤(p.sizes.getD x default).getD y default∧(p.sizes.getD x default).getD y default≤4096:=⟨q.1,Int.le_trans q.2 (by decide)⟩
   have e1 : (ix p.before (p.src.idn.getD x default)).getD y default=natsL ((p.sizes.getD x default).getD y default):=hp.laws.bi _ _ hxo hyo
   have e2 : (ix p.behind (p.tgt.idn.getD y default)).getD x default=natsL ((p.sizes.getD x default).getD y default):=hp.laws.hi _ _ hxo hyo;refine tt ?_
   (repeat (refine ⟨by first | exact h2p | exact ii1.2 | exact ii2.2 | exact b1 | exact b2.2 | exact b3 | exact b4.2, ?_⟩))
   refine ⟨_,calm_t B qq e1,tt ?_⟩
   (repeat (refine ⟨by first | exact h2p | exact ii1.2 | exact ii2.2 | exact b1 | exact b2.2 | exact b3 | exact b4.2, ?_⟩))
   refine ⟨_,calm_t B qq e2, ?_⟩;refine tw w2 ?_;exact for_next () (by omega) rfl rfl
  clear h2 hx;refine tt ?_;refine awp_for [1,3,4,5] (G:=Unit) (fun k _=>[(7,some (.int .i64 (k : Int)))]) (fun k _ H'=>H'=H) p.src.frm.length () rfl rfl ?_
  rintro a _ H ha rfl;refine tt ?_;apply bk <;> intro h2
  ·have h2p:=of_decide h2
   have hao : p.src.ArR a:=⟨by omega,h2p⟩
   have w2:=wsucc (k:=a) (by omega)
   have cj:=sh.sI.1.coJ hao
   have cj : (p.src.comp.getD a default).length=p.src.frm.length:=cj
   have ci:=sh.sI.1.coI hao
   have ci2 : a<p.src.comp.length:=by have:=ci.2; simpa using this
   refine tt ?_;refine awp_for [1,3,4,5,7] (G:=Unit) (fun k _=>[(8,some (.int .i64 (k : Int)))]) (fun k _ H'=>H'=H) p.src.frm.length () rfl rfl ?_
   rintro b _ H hb rfl;refine tt ?_;apply bk <;> intro h3
   ·have h3p:=of_decide h3
    have hbo : p.src.ArR b:=⟨by omega,h3p⟩
    have w3:=wsucc (k:=b) (by omega)
    have hb3 : b<(p.src.comp.getD a default).length:=by rw [cj]; exact h3p
    refine tt ?_;refine ⟨ci2,hb3, ?_⟩
    rcases sh.sI.1.comps hao hbo with ⟨hab,hc⟩ | hc
    ·have hc1 : 0≤(p.src.comp.getD a default).getD b default:=hc.1;rw [decide_eq_true hc1]
     have b1:=sh.bfI hc
     have b2:=sh.bfJ hc hyo
     have b3:=sh.bfI hao
     have b4:=sh.bfJ hao hyo
     have b5:=sh.bfI hbo
     have b6:=sh.bfJ hbo hyo
     have m1:=(sh.bm _ hao).2 _ hyo
     have m2:=(sh.bm _ hbo).2 _ hyo
     have hl:=hp.laws.bc _ _ _ hao hbo hab hyo;rw [← hab] at m2;refine tt ?_
     (repeat (refine ⟨by first | exact b1 | exact b2.2 | exact b3.2 | exact b4.2 | exact b5.2 | exact b6.2, ?_⟩))
     refine ⟨_,l01Then_t B m2 m1,_,l01Same_t B hl, ?_⟩;refine tw w3 ?_;exact for_next () h3p rfl rfl
    ·have hc1 : ¬ 0≤(p.src.comp.getD a default).getD b default:=by
      have e : (p.src.comp.getD a default).getD b default=-1:=hc;omega
     rw [decide_eq_false hc1];refine tw w3 ?_;exact for_next () h3p rfl rfl
   ·refine tw w2 ?_;exact for_next () h2p rfl rfl
  ·refine tw w ?_;exact for_next () (by omega) rfl rfl
 clear h1 hy;refine tt ?_;refine awp_for [1,3,4] (G:=Unit) (fun k _=>[(10,some (.int .i64 (k : Int)))]) (fun k _ H'=>H'=H1) p.src.objs.toNat () rfl rfl ?_
 rintro y _ H hy rfl;refine tt ?_;apply bk <;> intro h1
 ·have h1p:=of_decide h1
  have w:=wsucc (k:=y) (by omega)
  have hyo : p.src.ObR y:=⟨by omega,h1p⟩;refine tt ?_;refine awp_for [1,3,4,10] (G:=Unit) (fun k _=>[(11,some (.int .i64 (k : Int)))]) (fun k _ H'=>H'=H) p.tgt.frm.length () rfl rfl ?_
  rintro a _ H ha rfl;refine tt ?_;apply bk <;> intro h2
  ·have h2p:=of_decide h2
   have hao : p.tgt.ArR a:=⟨by omega,h2p⟩
   have w2:=wsucc (k:=a) (by omega)
   have cj:=sh.tI.1.coJ hao
   have cj : (p.tgt.comp.getD a default).length=p.tgt.frm.length:=cj
   have ci:=sh.tI.1.coI hao
   have ci2 : a<p.tgt.comp.length:=by have:=ci.2; simpa using this
   refine tt ?_;refine awp_for [1,3,4,10,11] (G:=Unit) (fun k _=>[(12,some (.int .i64 (k : Int)))]) (fun k _ H'=>H'=H) p.tgt.frm.length () rfl rfl ?_
   rintro b _ H hb rfl;refine tt ?_;apply bk <;> intro h3
   ·have h3p:=of_decide h3
    have hbo : p.tgt.ArR b:=⟨by omega,h3p⟩
    have w3:=wsucc (k:=b) (by omega)
    have hb3 : b<(p.tgt.comp.getD a default).length:=by rw [cj]; exact h3p
    refine tt ?_;refine ⟨ci2,hb3, ?_⟩
    rcases sh.tI.1.comps hao hbo with ⟨hab,hc⟩ | hc
    ·have hc1 : 0≤(p.tgt.comp.getD a default).getD b default:=hc.1;rw [decide_eq_true hc1]
     have b1:=sh.bhI hc
     have b2:=sh.bhJ hc hyo
     have b3:=sh.bhI hao
     have b4:=sh.bhJ hao hyo
     have b5:=sh.bhI hbo
     have b6:=sh.bhJ hbo hyo
     have m1:=(sh.hm _ hao).2 _ hyo
     have m2:=(sh.hm _ hbo).2 _ hyo
     have hl:=hp.laws.hc _ _ _ hao hbo hab hyo;rw [← hab] at m2;refine tt ?_
     (repeat (refine ⟨by first | exact b1 | exact b2.2 | exact b3.2 | exact b4.2 | exact b5.2 | exact b6.2, ?_⟩))
     refine ⟨_,l01Then_t B m1 m2,_,l01Same_t B hl, ?_⟩;refine tw w3 ?_;exact for_next () h3p rfl rfl
    ·have hc1 : ¬ 0≤(p.tgt.comp.getD a default).getD b default:=by
      have e : (p.tgt.comp.getD a default).getD b default=-1:=hc;omega
     rw [decide_eq_false hc1];refine tw w3 ?_;exact for_next () h3p rfl rfl
   ·refine tw w2 ?_;exact for_next () h2p rfl rfl
  ·refine tw w ?_;exact for_next () (by omega) rfl rfl
 clear h1 hy;refine tt ?_;refine awp_for [1,3,4] (G:=Unit) (fun k _=>[(14,some (.int .i64 (k : Int)))]) (fun k _ H'=>H'=H) p.src.frm.length () rfl rfl ?_
 rintro a _ H ha rfl;refine tt ?_;apply bk <;> intro h1
 ·have h1p:=of_decide h1
  have w:=wsucc (k:=a) (by omega)
  have hao : p.src.ArR a:=⟨by omega,h1p⟩;refine tt ?_;refine awp_for [1,3,4,14] (G:=Unit) (fun k _=>[(15,some (.int .i64 (k : Int)))]) (fun k _ H'=>H'=H) p.tgt.frm.length () rfl rfl ?_
  rintro b _ H hb rfl;refine tt ?_;apply bk <;> intro h2
  ·have h2p:=of_decide h2
   have w2:=wsucc (k:=b) (by omega)
   have hbo : p.tgt.ArR b:=⟨by omega,h2p⟩
   have fa:=sh.sI.1.frO hao
   have ta:=sh.sI.1.toO hao
   have fb:=sh.tI.1.frO hbo
   have tb:=sh.tI.1.toO hbo
   have i1:=sh.sI.1.toI hao
   have i2:=sh.tI.1.toI hbo
   have b0:=sh.bfI hao
   have c0:=sh.bhI hbo
   have b1:=sh.bfJ hao fb
   have b2:=sh.bfJ hao tb
   have b3:=sh.bhJ hbo fa
   have b4:=sh.bhJ hbo ta
   have m1:=(sh.bm _ hao).2 _ fb
   have m2:=(sh.bm _ hao).2 _ tb
   have m3:=(sh.hm _ hbo).2 _ fa
   have m4:=(sh.hm _ hbo).2 _ ta
   have law:=hp.laws.bb _ _ hao hbo;refine tt ?_
   (repeat (refine ⟨by first | exact h1p | exact h2p | exact b0.2 | exact c0.2 | exact i1.2 | exact i2.2 | exact b1 | exact b2 | exact b3 | exact b4, ?_⟩))
   refine ⟨_,l01Then_t B m1 m3,tt ?_⟩
   (repeat (refine ⟨by first | exact h1p | exact h2p | exact b0.2 | exact c0.2 | exact i1.2 | exact i2.2 | exact b1 | exact b2 | exact b3 | exact b4, ?_⟩))
   refine ⟨_,l01Then_t B m4 m2,tt ?_⟩;refine (l01Same_t B law).use ?_;refine tw w2 ?_;exact for_next () h2p rfl rfl
  ·refine tw w ?_;exact for_next () h1p rfl rfl
 ·refine tt ?_;exact pure_ret rfl os
theorem l22Is_ok (B : Nat) (p : PF) (hp : p.Is) : Pur Tryz.prog B 114 [.agg p.cells] (.bool true):=by
 refine ⟨fun H0=>c114 (by simp) fun _=>?_⟩;unfold s114;refine tt ?_;refine (l02Is_ok B p.src).go fun _=>?_;rw [dec_t hp.shp.sI];refine tt ?_;refine (l02Is_ok B p.tgt).go fun _=>?_;rw [dec_t hp.shp.tI];refine tt ?_;refine (sized_ok B p hp.shp).go fun _=>tt ?_;refine (maps22_ok B p hp.shp).go fun _=>tt ?_;refine (laws22_ok B p hp).go fun _=>tt ?_;exact pure_ret rfl (.refl _)
theorem found72_ok (B : Nat) (p : List Int) (H0 H : Heap) (l : List (Nat × MObj)) (idL idO n : Nat) (X : AV) (out : List (List Int)) (hn : n=p.length)
  (hX : LsO iL H0 H ((idO,.cells 1 [X] 0)::l) X out) (hm : (idL,.cells 1 (p.map iI) 0)∈l) (ho : out.length≤200) :
  CallH Tryz.prog B 72 [.buf idL n,.ref idO 0] H (fun r H'=>∃ X',r=.bool (decide (out.length+1≤200))∧LsO iL H0 H' ((idO,.cells 1 [X'] 0)::l) X' (out++[p])):=by
 refine c72p (by simp) fun _=>?_;unfold s72p;refine tt ?_;refine rd_get hX.obj (by simp) ?_;refine tt ?_
 have hc : CallH Tryz.prog B 73 [.buf idL n] H (OwnK iI H [] (·=p)) :=
  CallH.lentOwn (f:=iI) (Q:=(·=p)) (es:=[iL p]) (Owns.nil H) (fun _=>.int _ _) rfl (fun i hi=>by
   obtain rfl : i=0:=by simp only [List.length_cons,List.length_nil] at hi; omega
   exact lent_get (hX.get (x:=(idL,.cells 1 (p.map iI) 0)) (by simp [hm])) hn) (clone_own B p H.frz H.frz [] (.nil _)) fun id A H' o q=>⟨id,A,rfl,o,q⟩
 refine hc.gave fun A H1 hs hA=>⟨hs, ?_⟩;subst hA
 have hX:=hX.ext hs;refine tt ?_;refine hX.app A rfl (by simp only [maxL]; omega) fun idn H o=>tt ?_;refine sw o.swap fun H o=>tt ?_
 have hX : LsO iL H0 H ((idO,.cells 1 [.buf idn (out++[A]).length] 0)::l) (.buf idn (out++[A]).length) (out++[A]):=.inr ⟨idn,rfl,o.swap⟩;refine rd_get hX.obj (by simp) ?_;refine tt ?_;exact ⟨H,.refl _,_,by simp; omega,hX⟩
theorem of_nd2 {P : Prop} [Decidable P] (h : (!decide P)=true) : ¬ P:=by simpa using h
theorem of_nd3 {P : Prop} [Decidable P] (h : (!decide P)=false) : P:=by simpa using h
theorem of_nd4 {n m : Nat} (h : (!decide (n≤m))=true) : m<n:=by simpa using h
theorem of_nd5 {n m : Nat} (h : (!decide (n≤m))=false) : n≤m:=by simpa using h
section
variable (p : PF) (idC idS idB idR idO : Nat)
def fn72 : AV:=.fn (.func 72) [.ref idO 0]
def fn170 : AV:=.fn (.func 170) [.ref idC 0,.ptr [fn72 idO],.ref idS 0,.ptr [.ptr p.cells],.ref idR 0]
def stC (L : List Int) (X : AV) (pw : Ob) : Ob:=(idB,.cells 1 (L.map iI) 0)::(idO,.cells 1 [X] 0)::(idC,.cells 1 [.ptr p.src.cells] 0)::(idS,.cells 1 [.buf idB L.length] 0)::(idR,.cells 1 [fn170 p idC idS idR idO] 0)::pw
end
theorem choose_ok (B : Nat) {p : PF} (hb : p.Shape) (e0 : p.tgt=p.src) (idC idS idB idR idO : Nat) (H0 : Heap) : ∀ (n : Nat) (q s : List Int) (X : AV) (pw : Ob) (out : List (List Int)) (H : Heap),p.src.objs.toNat - q.length=n→GoodQ p q →
  (q++s).length=p.src.objs.toNat→out.length≤200→LsP iL pw X out→Owns H0 H (stC p idC idS idB idR idO (q++s) X pw) →
  CallH Tryz.prog B 170 [iI q.length,.ref idC 0,.ptr [fn72 idO],.ref idS 0,.ptr [.ptr p.cells],.ref idR 0] H fun r H'=>∃ (s' : List Int) (X' : AV) (pw' : Ob),r=.bool (decide ((cutE (out++endX p q)).length≤200))∧(q++s').length=p.src.objs.toNat ∧
   LsP iL pw' X' (cutE (out++endX p q))∧Owns H0 H' (stC p idC idS idB idR idO (q++s') X' pw'):=by
 intro n
 induction n using Nat.strongRecOn with
 | _ n ih =>
 intro q s X pw out H hn g hl ho hX o;refine c170 (by simp) fun _=>?_
 have so:=hb.sI.1.o
 have sm:=hb.sI.1.m
 have hobj : ∀ {H : Heap} {L : List Int} {X : AV} {pw : Ob} (_ : Owns H0 H (stC p idC idS idB idR idO L X pw)),H.get idC=some (.cells 1 [.ptr p.src.cells] 0)∧H.get idS=some (.cells 1 [.buf idB L.length] 0)∧H.get idR=some (.cells 1 [fn170 p idC idS idR idO] 0)∧H.get idB=some (.cells 1 (L.map iI) 0):=fun o =>
  ⟨o.get (idC,.cells 1 [.ptr p.src.cells] 0) (by simp [stC]),o.get (idS,.cells 1 [.buf idB _] 0) (by simp [stC]),o.get (idR,.cells 1 [fn170 p idC idS idR idO] 0) (by simp [stC]),o.get (idB,.cells 1 _ 0) (by simp [stC])⟩
 unfold s170
 obtain ⟨gC,gS,gR,gB⟩:=hobj o;refine tt ?_;refine rd_get gC (by simp) ?_;refine tt ?_;apply bk <;> intro h1
 ·have h1p:=of_decide h1
  have hq : q.length=p.src.objs.toNat:=by omega
  have hs : s=[]:=List.eq_nil_of_length_eq_zero (by rw [List.length_append] at hl; omega);subst hs;rw [List.append_nil] at o gB gS;refine tt ?_;refine rd_get gS (by simp) ?_
  have hf : fn72 idO=.fn (.func 72) [.ref idO 0]:=rfl;refine tw hf ?_
  have hL : LsO iL H0 H ((idO,.cells 1 [X] 0)::(idB,.cells 1 (q.map iI) 0)::(idC,.cells 1 [.ptr p.src.cells] 0)::(idS,.cells 1 [.buf idB q.length] 0)::(idR,.cells 1 [fn170 p idC idS idR idO] 0)::[]) X out :=
   LsO.mk (p:=pw) (by unfold stC at o; exact o.pm) hX
  refine (found72_ok B q H0 H _ idB idO q.length X out rfl hL (by simp) ho).mono ?_
  rintro r H' ⟨X',rfl,hL'⟩
  obtain ⟨pw',o',hX'⟩:=hL'.split
  have ec : cutE (out++endX p q)=out++[q]:=by rw [endX_full g hq,cutE_lo (by simp; omega)]
  refine tt ?_;refine ⟨H',.refl _,[],X',pw',by rw [ec]; simp,by simpa using hq,by rw [ec]; exact hX', ?_⟩;rw [List.append_nil]; unfold stC; exact o'.pm
 have h1p:=of_ndecide h1
 have hq : q.length<p.src.objs.toNat:=by have:=g.le; omega
 have hxo : p.src.ObR (q.length : Int):=⟨by omega,by omega⟩
 have hxt : p.tgt.ObR (q.length : Int):=by rw [e0]; exact hxo
 have hstep:=endX_step hb e0 g hq
 have z1:=hb.szI hxo
 have z2:=hb.szJ hxo hxt
 have zr:=(hb.rl _ hxo).2 _ hxt
 obtain ⟨N,hN⟩ : ∃ N : Nat,p.sz q.length q.length=N:=⟨(p.sz q.length q.length).toNat,by omega⟩;rw [hN,Int.toNat_natCast] at hstep;rw [hN] at zr
 have hN2 : (p.sizes.getD q.length default).getD q.length default=(N : Int):=by have:=hN; simp only [PF.sz,ix_nat] at this; exact this
 clear gC gS gR gB;refine tt ?_
 (repeat (refine ⟨by first | exact z1.2 | exact z2.2, ?_⟩))
 rw [hN2];refine tt ?_
 refine awp_for [0,1,3,4,5,30] (G:=AV × Ob × List Int) (fun k _=>[(31,some (.int .i64 (k : Int)))])
  (fun k G H=>(q++G.2.2).length=p.src.objs.toNat∧LsP iL G.2.1 G.1 (out++endG p q k)∧(out++endG p q k).length≤200∧Owns H0 H (stC p idC idS idB idR idO (q++G.2.2) G.1 G.2.1)) N (X,pw,s)
  ⟨hl,by rw [endG_zero,List.append_nil]; exact hX,by rw [endG_zero,List.append_nil]; exact ho,o⟩ rfl ?_
 clear o hX hl
 rintro k ⟨X,pw,s⟩ H hk ⟨hl,hX,ho2,o⟩;dsimp only at hl hX o
 obtain ⟨gC,gS,gR,gB⟩:=hobj o;refine tt ?_;apply bk <;> intro h2
 rotate_left
 ·have h2p:=of_ndecide h2
  obtain rfl : k=N:=by omega
  refine tt ?_;refine ⟨H,.refl _,s,X,pw, ?_,hl, ?_,o⟩
  ·rw [hstep,cutE_lo (by omega),decide_eq_true ho2]
  ·rw [hstep,cutE_lo (by omega)]; exact hX
 have h2p:=of_decide h2
 have w:=wsucc (k:=k) (by omega);refine tt ?_;refine rd_get gS (by simp) ?_
 obtain ⟨y,s',rfl⟩ : ∃ y s',s=y::s':=by
  cases s with
  | nil=>rw [List.append_nil] at hl; omega
  | cons y s'=>exact ⟨y,s',rfl⟩
 have hset : (q++y::s').set q.length (k : Int)=(q++[(k : Int)])++s':=by simp [List.set_append]
 have hlen : (q++y::s').length=((q++[(k : Int)])++s').length:=by simp
 refine tt ?_;refine ⟨by simp, ?_⟩;unfold stC at o;refine set_own (k : Int) o rfl (by simp) fun H o=>?_;rw [hset,hlen] at o
 have o : Owns H0 H (stC p idC idS idB idR idO ((q++[(k : Int)])++s') X pw):=o
 have hl : ((q++[(k : Int)])++s').length=p.src.objs.toNat:=by rw [← hlen]; exact hl
 obtain ⟨gC,gS,gR,gB⟩:=hobj o
 have he : 0≤(k : Int)∧(k : Int)<p.sz q.length q.length:=by rw [hN]; omega
 have hix : ∀ i : Int,0≤i∧i≤q.length→((q++[(k : Int)])++s').getD i.toNat default=ix (q++[(k : Int)]) i:=fun i hi=>by
  rw [ix]; simp only [List.getD_eq_getElem?_getD]; rw [List.getElem?_append_left (by simp; omega)]
 have hrg : ∀ i : Int,0≤i∧i≤q.length→0≤ix (q++[(k : Int)]) i∧ix (q++[(k : Int)]) i<p.sz i i:=fun i hi=>by
  by_cases h : i=q.length
  ·rw [h,snoc_last]; exact he
  ·rw [snoc_ix ⟨hi.1,by omega⟩]
   have:=g.ran i.toNat (by omega);rw [Int.toNat_of_nonneg hi.1] at this; exact this
 have hlq : ((q++[(k : Int)]).length : Int) - 1=q.length:=by simp
 refine tt ?_;refine rd_get gC (by simp) ?_;refine tt ?_;refine awp_for [0,1,3,4,5,30,31,42] (G:=Unit) (fun k _=>[(43,some (.int .i64 (k : Int)))]) (fun a _ H'=>H'=H∧∀ b : Nat,b<a→OkA p (q++[(k : Int)]) b) p.src.frm.length () ⟨rfl,fun b hb=>by omega⟩ rfl ?_
 rintro a _ H' ha ⟨rfl,hall⟩;refine tt ?_;apply bk <;> intro h3
 ·have h3p:=of_decide h3
  have w3:=wsucc (k:=a) (by omega)
  have hao : p.src.ArR a:=⟨by omega,h3p⟩
  have hat : p.tgt.ArR a:=by rw [e0]; exact hao
  have ob:=src_ar hb hao
  have obt : p.tgt.ObR (ix p.src.frm a)∧p.tgt.ObR (ix p.src.to a):=by rw [e0]; exact ob
  have tI:=hb.sI.1.toI hao;refine tt ?_;refine rd_get gC (by simp) ?_;refine tt ?_;refine ⟨h3p, ?_⟩;refine rd_get gC (by simp) ?_;refine tt ?_;refine ⟨tI.2, ?_⟩
  have hmm : (if p.src.to.getD a default > p.src.frm.getD a default then p.src.to.getD a default else p.src.frm.getD a default)=max (ix p.src.frm a) (ix p.src.to a):=by
   simp only [ix_nat]; split <;> omega
  rw [hmm]
  by_cases hm : max (ix p.src.frm a) (ix p.src.to a)=(q.length : Int)
  ·rw [decide_eq_true hm]
   have m1:=(hb.hm a hat).2 _ ob.1;rw [e0] at m1
   have l1:=m1.len
   have m2:=(hb.bm a hao).2 _ obt.2
   have l2:=m2.len
   have b1:=hb.bhI hat
   have b2:=hb.bhJ hat ob.1
   have b3:=hb.bfI hao
   have b4:=hb.bfJ hao obt.2
   have o1:=ob.1.1
   have o2:=ob.2.1
   have r1:=hrg (ix p.src.frm a) ⟨o1,by omega⟩
   have r2:=hrg (ix p.src.to a) ⟨o2,by omega⟩
   have x1:=hix (ix p.src.frm a) ⟨o1,by omega⟩
   have x2:=hix (ix p.src.to a) ⟨o2,by omega⟩
   have i1 : (ix p.src.frm a).toNat<((q++[(k : Int)])++s').length:=by rw [hl]; have:=ob.1.2; omega
   have i2 : (ix p.src.to a).toNat<((q++[(k : Int)])++s').length:=by rw [hl]; have:=ob.2.2; omega
   refine tt ?_
   (repeat (refine ⟨by first | exact b1.2 | exact b2, ?_⟩))
   refine rd_get gS (by simp) ?_;refine tt ?_;refine ⟨⟨o1,i1⟩,rd_inner (f:=iI) gB i1 ?_⟩;rw [show (p.src.frm.getD a default).toNat=(ix p.src.frm a).toNat from rfl,x1];refine tt ?_
   have c1 : (ix (q++[(k : Int)]) (ix p.src.frm a)).toNat<(p.bh a (ix p.src.frm a)).length:=by rw [l1]; have:=r1.2; omega
   have c2 : (ix (q++[(k : Int)]) (ix p.src.to a)).toNat<(p.bf a (ix p.src.to a)).length:=by rw [l2]; have:=r2.2; omega
   refine ⟨⟨r1.1,c1⟩,tt ?_⟩
   (repeat (refine ⟨by first | exact b3.2 | exact b4, ?_⟩))
   refine rd_get gS (by simp) ?_;refine tt ?_;refine ⟨⟨o2,i2⟩,rd_inner (f:=iI) gB i2 ?_⟩;rw [show (p.src.to.getD a default).toNat=(ix p.src.to a).toNat from rfl,x2];refine tt ?_;refine ⟨⟨r2.1,c2⟩, ?_⟩;apply bk <;> intro h4
   ·have hv : ¬ ix (p.bh a (ix p.src.frm a)) (ix (q++[(k : Int)]) (ix p.src.frm a))=ix (p.bf a (ix p.src.to a)) (ix (q++[(k : Int)]) (ix p.src.to a)):=of_nd2 h4
    have hno : ¬ OkQ p (q++[(k : Int)]):=fun hh=>hv (hh a hao (by rw [hlq]; exact hm))
    have ef:=endG_f hno;refine tw w ?_;rw [List.append_assoc] at o hl;exact for_next (X,pw,(k : Int)::s') (by omega) ⟨hl,by rw [ef]; exact hX,by rw [ef]; exact ho2,o⟩ rfl
   ·have hv : ix (p.bh a (ix p.src.frm a)) (ix (q++[(k : Int)]) (ix p.src.frm a))=ix (p.bf a (ix p.src.to a)) (ix (q++[(k : Int)]) (ix p.src.to a)):=of_nd3 h4;refine tw w3 ?_
    exact for_next () h3p ⟨rfl,fun b hb=>by
     rcases Nat.lt_succ_iff_lt_or_eq.mp hb with h | rfl
     ·exact hall b h
     ·exact fun _=>hv⟩ rfl
  ·rw [decide_eq_false hm];refine tw w3 ?_
   exact for_next () h3p ⟨rfl,fun b hb=>by
    rcases Nat.lt_succ_iff_lt_or_eq.mp hb with h | rfl
    ·exact hall b h
    ·exact fun h=>absurd (h.trans hlq) hm⟩ rfl
 ·have h3p:=of_ndecide h3
  have hok : OkQ p (q++[(k : Int)]):=fun b hb=>by
   have:=hall b.toNat (by have:=hb.2; omega)
   rwa [Int.toNat_of_nonneg hb.1] at this
  have et:=endG_t hok
  have wq:=wsucc (k:=q.length) (by omega)
  have ec : ((q++[(k : Int)]).length : Int)=((q.length+1 : Nat) : Int):=by simp
  have key:=ih (p.src.objs.toNat - (q++[(k : Int)]).length) (by simp; omega) (q++[(k : Int)]) s' X pw (out++endG p q k) H' rfl (goodQ_snoc hb e0 g hq he hok) hl ho2 hX o;rw [ec] at key;rw [List.append_assoc,← et] at key;refine tt ?_;refine rd_get gR (by simp) ?_
  have hf : fn170 p idC idS idR idO=.fn (.func 170) [.ref idC 0,.ptr [fn72 idO],.ref idS 0,.ptr [.ptr p.cells],.ref idR 0]:=rfl;try simp only [go_sem,↓reduceIte,reduceEqDiff,reduceAdd,reduceMul,reduceLeDiff,reduceLT,hf,wq]
  refine key.mono ?_
  rintro r H ⟨s2,X2,pw2,rfl,hl2,hX2,o2⟩;rw [List.append_assoc] at hl2 o2;refine tt ?_;apply bk <;> intro h5
  ·have h5p : 200<(cutE (out++endG p q (k+1))).length:=of_nd4 h5
   have ecut:=cutE_app (N:=endG p q N) h5p (endG_pre (by omega));refine tt ?_;refine ⟨H,.refl _,(k : Int)::s2,X2,pw2, ?_,hl2, ?_,o2⟩
   ·rw [hstep,← ecut,decide_eq_false (by omega)]
   ·rw [hstep,← ecut]; exact hX2
  ·have h5p : (cutE (out++endG p q (k+1))).length≤200:=of_nd5 h5
   have hle:=cutE_le h5p;rw [cutE_lo (by omega)] at hX2;refine tw w ?_;exact for_next (X2,pw2,(k : Int)::s2) (by omega) ⟨hl2,hX2,hle,o2⟩ rfl
theorem pends_ok (B : Nat) {p : PF} (hb : p.Shape) (e0 : p.tgt=p.src) (idO : Nat) (X : AV) (pw : Ob) (H0 H : Heap) (hX : LsP iL pw X []) (o : Owns H0 H ((idO,.cells 1 [X] 0)::pw)) :
  CallH Tryz.prog B 71 [.ptr p.cells,.fn (.func 72) [.ref idO 0]] H fun r H'=>∃ (X' : AV) (pw' : Ob),r=.bool (decide ((cutE (endL p)).length≤200))∧LsP iL pw' X' (cutE (endL p))∧Owns H0 H' ((idO,.cells 1 [X'] 0)::pw'):=by
 refine c71 (by simp) fun _=>?_
 have so:=hb.sI.1.o
 have sm:=hb.sI.1.m;unfold s71
 have hfc : (AV.fn (.func 72) [.ref idO 0]).cells=[.fn (.func 72) [.ref idO 0]]:=rfl;refine tw hfc ?_;refine ⟨by simp [hfc,AV.one], ?_⟩;refine newRef_own o fun idC H o=>tt ?_;refine sw o fun H o=>tt ?_;refine rd_cells o (by simp) ?_;refine tt ?_;refine ⟨⟨by omega,by simp only [maxL]; omega⟩, ?_⟩;refine mks_own iI o fun idB H o=>?_
 have o : Owns H0 H ((idB,.cells 1 ((List.replicate p.src.objs.toNat (0 : Int)).map iI) 0)::(idC,.cells 1 [.ptr p.src.cells] 0)::(idO,.cells 1 [X] 0)::pw):=by
  rw [List.map_replicate]; exact o
 refine tt ?_;refine newRef_own o fun idS H o=>tt ?_;refine sw o fun H o=>tt ?_;refine newRef_own o fun idR H o=>tt ?_;refine st_cells (off:=0) (n:=1) (vs:=[fn170 p idC idS idR idO]) o (by simp) rfl (fun c hc=>by obtain rfl:=List.mem_singleton.mp hc; rfl) fun H o=>?_;simp only [wr_cons,wr_nil,List.set_cons_zero,List.set_cons_succ] at o;refine tt ?_;refine rd_cells o (by simp) ?_;refine tt ?_
 have hl : ([]++List.replicate p.src.objs.toNat (0 : Int)).length=p.src.objs.toNat:=by simp
 have o : Owns H0 H (stC p idC idS idB idR idO ([]++List.replicate p.src.objs.toNat (0 : Int)) X pw):=by
  unfold stC;simp only [List.nil_append,List.length_replicate];exact o.pm
 refine (choose_ok B hb e0 idC idS idB idR idO H0 _ [] (List.replicate p.src.objs.toNat 0) X pw [] H rfl (goodQ_nil hb) hl (by simp) hX o).mono ?_
 rintro r H ⟨s',X',pw',rfl,hl',hX',o⟩;rw [List.nil_append,endX_nil] at hX' ⊢;refine tt ?_;refine ⟨H,.refl _,X',pw',rfl,hX', ?_⟩;unfold stC at o;refine Owns.subl o ?_;exact .cons _ (.cons_cons _ (.cons _ (.cons _ (.cons _ (.refl _)))))
open Classical in
noncomputable def pendR (p : PF) : AV:=if p.tgt=p.src then (if (endL p).length≤200 then .tup [iLL (endL p),iI 0] else .tup [iLL [],iI 3]) else .tup [iLL [],iI 5]
theorem loopI_ok (B : Nat) (p : PF) (hp : p.Is) : Pur Tryz.prog B 70 [.ptr p.cells] (iI (if dec (p.src=p.tgt) then 0 else 5)):=by
 refine ⟨fun H0=>c70 (by simp) fun _=>?_⟩;unfold s70;refine tt ?_;refine (isProf_ok B p hp).go fun _=>tt ?_;refine ⟨_,(sameCategory_ok B p.src p.tgt).run, ?_⟩
 cases h : dec (p.src=p.tgt)
 ·refine tt ?_;exact pure_ret rfl (.refl _)
 ·refine tt ?_;exact pure_ret rfl (.refl _)
theorem endOfI_ok (B : Nat) (p : PF) (hp : p.Is) : Pur Tryz.prog B 12 [.agg p.cells] (pendR p):=by
 refine ⟨fun H0=>c12 (by simp) fun _=>?_⟩;unfold s12;refine tt ?_;refine (loopI_ok B p hp).go fun _=>?_
 by_cases e0 : p.tgt=p.src
 rotate_left
 ·have h5 : decide ((5 : Int)=0)=false:=rfl;rw [dec_f (fun h=>e0 h.symm),show (if (false : Bool)=true then (0 : Int) else 5)=5 from rfl]
  have hr : pendR p=.tup [iLL [],iI 5]:=by rw [pendR,if_neg e0]
  refine tw h5 ?_;rw [hr];exact pure_ret rfl (.refl _)
 rw [dec_t e0.symm,show (if (true : Bool)=true then (0 : Int) else 5)=0 from rfl]
 have o : Owns H0 H0 []:=.nil _;refine td ?_;refine newBuf_own o fun idE H o=>tt ?_;refine newRef_own o fun idO H o=>tt ?_;refine sw o fun H o=>tt ?_;refine (pends_ok B hp.shp e0 idO (.buf idE 0) [(idE,.cells 1 [] 0)] H0 H (.inr ⟨idE,rfl,rfl⟩) o).mono ?_;clear o
 rintro r H ⟨X,pw,rfl,hX,o⟩;refine tt ?_;apply bk <;> intro h1
 ·have h1p:=of_nd4 h1
  have hl : ¬ (endL p).length≤200:=fun h=>by rw [cutE_lo (by omega)] at h1p; omega
  refine tt ?_
  have hr : pendR p=.tup [iLL [],iI 3]:=by rw [pendR,if_pos e0,if_neg hl]
  rw [hr];exact pure_ret rfl o.sub
 ·have h1p:=of_nd5 h1
  have hl:=cutE_le h1p;rw [cutE_lo (by omega)] at hX;refine tt ?_;refine rd_cells o (by simp) ?_;refine tt ?_
  have hr : pendR p=.tup [iLL (endL p),iI 0]:=by rw [pendR,if_pos e0,if_pos hl]
  rcases hX with ⟨rfl,rfl,hn⟩ | ⟨idn,rfl,rfl⟩
  ·refine tt ?_;rw [hr,hn];exact pure_ret rfl o.sub
  ·refine fz_own (f:=iL) (show Owns H0 H ((idn,.cells 1 ((endL p).map iL) 0)::[(idO,.cells 1 [.buf idn (endL p).length] 0)]) from o.swap) rfl fun H o=>tt ?_;rw [hr];exact pure_ret rfl o.sub
end Go.Proofs.Shf
namespace Go.Shf
open Go.AW
section
variable {p : PF}
theorem endSz_at {x : Nat} (h : x<p.src.objs.toNat) : (endSz p).getD x default=p.sz x x:=by rw [endSz,getD_map_range _ _ h]
theorem endLk_len (p : PF) : (endLk p).length=p.src.frm.length:=by simp [endLk]
theorem endLk_at {a : Nat} (h : a<p.src.frm.length) : (endLk p).getD a default=⟨ix p.src.frm a,ix p.src.to a,p.bh a (ix p.src.frm a),p.bf a (ix p.src.to a)⟩:=by rw [endLk,getD_map_range _ _ h]
end
end Go.Shf
namespace Go.Proofs.Shf
open Go.AW Go.Proofs Go.Shf
theorem loopS_ok (B : Nat) (p : PF) (hp : p.Is) : Pur Tryz.prog B 74 [.agg p.cells] (iI (if dec (p.src=p.tgt) then 0 else 5)):=by
 refine ⟨fun H0=>c74 (by simp) fun _=>?_⟩;unfold s74;refine tt ?_;refine (l22Is_ok B p hp).go fun _=>tt ?_;refine (l02Same_ok B p.src p.tgt).go fun _=>?_
 cases h : dec (p.src=p.tgt)
 ·refine tt ?_;exact pure_ret rfl (.refl _)
 ·refine tt ?_;exact pure_ret rfl (.refl _)
theorem l22End_ok (B : Nat) (p : PF) (hp : p.Shape) (e0 : p.tgt=p.src) : Pur Tryz.prog B 75 [.agg p.cells] (iLL ((endL p).take 201)):=by
 refine ⟨fun H0=>c75p (by simp) fun _=>?_⟩
 have so:=hp.sI.1.o
 have sm:=hp.sI.1.m;unfold s75p
 have o : Owns H0 H0 []:=.nil _;refine tt ?_;refine newBuf_own o fun id3 H o=>tt ?_;refine new_listN lkE o fun id4 H o=>?_
 have o : Owns H0 H [(id4,.cells 4 (flat (([] : List Lk).map lkE)) 0),(id3,.cells 1 (((endSz p).take 0).map iI) 0)]:=o;refine tt ?_
 refine awp_for [1,4] (G:=Nat) (fun k b=>[(3,some (.buf b k)),(5,some (.int .i64 (k : Int)))])
  (fun k b H=>Owns H0 H [(b,.cells 1 (((endSz p).take k).map iI) 0),(id4,.cells 4 (flat (([] : List Lk).map lkE)) 0)]) p.src.objs.toNat id3 o.swap rfl ?_
 clear o
 rintro k b H hk o
 replace o : Owns H0 H [(b,.cells 1 (((endSz p).take k).map iI) 0),(id4,.cells 4 (flat (([] : List Lk).map lkE)) 0)]:=o;refine tt ?_;apply bk <;> intro h1
 ·have h1p:=of_decide h1
  have w:=wsucc (k:=k) (by omega)
  have hxo : p.src.ObR k:=⟨by omega,h1p⟩
  have hxt : p.tgt.ObR k:=by rw [e0]; exact hxo
  have z1:=hp.szI hxo
  have z2:=hp.szJ hxo hxt
  have hl : ((endSz p).take k).length=k:=by rw [List.length_take,endSz_len]; omega
  have et:=take_succ' (endSz p) (k:=k) (by rw [endSz_len]; omega);rw [endSz_at (by omega)] at et;refine tt ?_
  (repeat (refine ⟨by first | exact z1.2 | exact z2.2, ?_⟩))
  refine app_own (p.sz k k) o rfl hl.symm (by rw [hl]; simp only [maxL]; omega) fun id H o=>?_;rw [← et] at o
  have hl2 : (((endSz p).take k)++[p.sz k k]).length=k+1:=by simp [hl]
  try simp only [go_sem,↓reduceIte,reduceEqDiff,reduceAdd,reduceMul,reduceLeDiff,reduceLT,w,hl2]
  exact for_next id (by omega) o rfl
 have h1p:=of_ndecide h1
 have hkk : (endSz p).take k=endSz p:=List.take_of_length_le (by rw [endSz_len]; omega)
 have hkn : k=(endSz p).length:=by rw [endSz_len]; omega
 rw [hkk] at o;clear h1;refine tt ?_
 refine awp_for [1,3] (G:=Nat) (fun k b=>[(4,some (.buf b k)),(6,some (.int .i64 (k : Int)))])
  (fun j b4 H=>Owns H0 H [(b4,.cells 4 (flat (((endLk p).take j).map lkE)) 0),(b,.cells 1 ((endSz p).map iI) 0)]) p.src.frm.length id4 o.swap rfl ?_
 clear o
 rintro a b4 H ha o
 replace o : Owns H0 H [(b4,.cells 4 (flat (((endLk p).take a).map lkE)) 0),(b,.cells 1 ((endSz p).map iI) 0)]:=o;refine tt ?_;apply bk <;> intro h1
 ·have h1p:=of_decide h1
  have w:=wsucc (k:=a) (by omega)
  have hao : p.src.ArR a:=⟨by omega,h1p⟩
  have hat : p.tgt.ArR a:=by rw [e0]; exact hao
  have ob:=src_ar hp hao
  have obt : p.tgt.ObR (ix p.src.frm a)∧p.tgt.ObR (ix p.src.to a):=by rw [e0]; exact ob
  have tI:=hp.sI.1.toI hao
  have b1:=hp.bhI hat
  have b2:=hp.bhJ hat ob.1
  have b3:=hp.bfI hao
  have b4':=hp.bfJ hao obt.2
  have hl : ((endLk p).take a).length=a:=by rw [List.length_take,endLk_len]; omega
  have et:=take_succ' (endLk p) (k:=a) (by rw [endLk_len]; omega);rw [endLk_at h1p] at et;refine tt ?_
  (repeat (refine ⟨by first | exact h1p | exact tI.2, ?_⟩))
  refine tt ?_
  (repeat (refine ⟨by first | exact b1.2 | exact b2 | exact b3.2 | exact b4', ?_⟩))
  refine app_ownN (f:=lkE) (⟨ix p.src.frm a,ix p.src.to a,p.bh a (ix p.src.frm a),p.bf a (ix p.src.to a)⟩ : Lk) o rfl hl.symm (by rw [hl]; simp only [maxL]; omega) fun id H o=>?_;rw [← et] at o
  have hl2 : ∀ z : Lk,((endLk p).take a++[z]).length=a+1:=fun z=>by simp [hl]
  try simp only [go_sem,↓reduceIte,reduceEqDiff,reduceAdd,reduceMul,reduceLeDiff,reduceLT,w,hl2]
  exact for_next id (by omega) o rfl
 have h1p:=of_ndecide h1
 have haa : (endLk p).take a=endLk p:=List.take_of_length_le (by rw [endLk_len]; omega)
 have han : a=(endLk p).length:=by rw [endLk_len]; omega
 rw [haa] at o;clear h1;refine tt ?_;refine fz_ownN (f:=lkE) o han fun H o=>tt ?_;refine fz_own (f:=iI) o hkn fun H o=>tt ?_;refine (l22Solve_ok B (endSz p) (endLk p) 201 (by omega) (by omega) (endLk_ok hp e0) (by rw [endSz_len]; omega) (by rw [endLk_len]; omega)).go fun _=>tt ?_;exact pure_ret rfl o.sub
theorem endOfS_ok (B : Nat) (p : PF) (hp : p.Is) : Pur Tryz.prog B 13 [.agg p.cells] (pendR p):=by
 refine ⟨fun H0=>c13 (by simp) fun _=>?_⟩;unfold s13;refine tt ?_;refine (loopS_ok B p hp).go fun _=>?_
 by_cases e0 : p.tgt=p.src
 rotate_left
 ·have h5 : decide ((5 : Int)=0)=false:=rfl
  have hr : pendR p=.tup [iLL [],iI 5]:=by rw [pendR,if_neg e0]
  rw [dec_f (fun h=>e0 h.symm),show (if (false : Bool)=true then (0 : Int) else 5)=5 from rfl]
  refine tw h5 ?_;rw [hr];exact pure_ret rfl (.refl _)
 rw [dec_t e0.symm,show (if (true : Bool)=true then (0 : Int) else 5)=0 from rfl]
 refine td ?_;refine (l22End_ok B p hp.shp e0).go fun _=>?_
 obtain ⟨n,hn⟩ : ∃ n,((endL p).take 201).length=n:=⟨_,rfl⟩
 have hn2:=hn;rw [List.length_take] at hn2;refine tw hn ?_;apply bk <;> intro h2
 ·have h2p : 200<n:=by have:=of_decide h2; omega
  have hr : pendR p=.tup [iLL [],iI 3]:=by rw [pendR,if_pos e0,if_neg (by omega)]
  refine tt ?_;rw [hr];exact pure_ret rfl (.refl _)
 ·have h2p : ¬ 200<n:=by have:=of_ndecide h2; omega
  have hr : pendR p=.tup [iLL (endL p),iI 0]:=by rw [pendR,if_pos e0,if_pos (by omega)]
  rw [List.take_of_length_le (by omega)];refine tt ?_;rw [hr];exact pure_ret rfl (.refl _)
theorem set_getD_selfT (A : List Int) (i : Nat) : A.set i (A.getD i default)=A:=by
 apply List.ext_getElem?
 intro j
 by_cases e : i=j
 ·subst e
  by_cases h : i<A.length
  ·simp [List.getD_eq_getElem?_getD,h]
  ·rw [List.getElem?_eq_none (by simp; omega),List.getElem?_eq_none (by omega)]
 ·rw [List.getElem?_set_ne e]
theorem classes_ok (B : Nat) (l : List Int) (hl : l.length≤100000) : Pur Tryz.prog B 265 [iL l] (iL (classL l)):=by
 refine ⟨fun H0=>c265p (by simp) fun _=>?_⟩;unfold s265p
 have o : Owns H0 H0 []:=.nil _;refine tt ?_;refine new_list iI o fun id3 H o=>tt ?_;refine new_list iI o fun id4 H o=>tt ?_
 refine awp_for [0] (G:=(Nat × List Int) × (Nat × List Int)) (fun k g=>[(3,some (.buf g.1.1 g.1.2.length)),(4,some (.buf g.2.1 g.2.2.length)),(5,some (.int .i64 (k : Int)))])
  (fun k g H=>(g.1.2=classL (l.take k)∧g.2.2=seenL (l.take k))∧Owns H0 H [(g.2.1,.cells 1 (g.2.2.map iI) 0),(g.1.1,.cells 1 (g.1.2.map iI) 0)]) l.length ((id3,[]),(id4,[])) ⟨⟨rfl,rfl⟩,o⟩ rfl ?_
 clear o
 rintro k ⟨⟨id3,out⟩,⟨id4,seen⟩⟩ H hk ⟨⟨hout,hseen⟩,o⟩;dsimp only at o hout hseen
 have hol : out.length=k:=by rw [hout,classL_len,List.length_take]; omega
 have hsl : seen.length≤k:=by rw [hseen]; exact Nat.le_trans (seenL_len _ _ rfl) (by rw [List.length_take]; omega)
 refine tt ?_;apply bk <;> intro h1
 ·refine tt ?_
  have h1p:=dd h1
  have w1:=wsucc (k:=k) (by omega)
  have hs1:=seenL_snoc (l.take k) (l.getD k default)
  have ho1:=classL_snoc (l.take k) (l.getD k default);rw [← take_one l h1p,← hseen] at hs1;rw [← take_one l h1p,← hout] at ho1;refine ⟨h1p,call_lent 0 rfl o rfl (.int _ _) (l01Index_ok ..).run ?_⟩
  have hb:=indexOf_bd seen (l.getD k default)
  have hm:=indexOf_mem seen (l.getD k default);refine tt ?_;apply bk <;> intro h2
  ·refine tt ?_
   have h2p:=dd h2
   have hni : l.getD k default ∉ seen:=fun h=>by have:=hm.mpr h; omega
   rw [if_neg hni] at hs1;rw [hs1,indexOf_newT hni] at ho1;refine ⟨h1p, ?_⟩;refine app_own (l.getD k default) o rfl rfl (by simp only [maxL]; omega) fun id4 H o=>tt ?_;refine app_own ((seen.length : Nat) : Int) o.swap rfl rfl (by simp only [maxL]; omega) fun id3 H o=>?_;refine tw w1 ?_;exact for_next ((_,_),(_,_)) (by omega) ⟨⟨ho1.symm,hs1.symm⟩,o.swap⟩ rfl
  ·refine tt ?_
   have h2p:=dd h2
   have hi : l.getD k default∈seen:=hm.mp (by omega);rw [if_pos hi] at hs1;rw [hs1] at ho1;refine app_own (indexOf seen (l.getD k default)) o.swap rfl rfl (by simp only [maxL]; omega) fun id3 H o=>?_;refine tw w1 ?_;exact for_next ((_,_),(_,_)) (by omega) ⟨⟨ho1.symm,hs1.symm⟩,o.swap⟩ rfl
 ·refine tt ?_
  have h1p:=dd h1
  obtain rfl : k=l.length:=by omega
  refine fz_own o.swap rfl fun H o=>tt ?_;exact pure_ret (by rw [hout,List.take_length]) o.sub
theorem join_pok (B : Nat) (n : Nat) (hn : n≤100000) (ps : List (List Int)) (hp : ∀ q,q∈ps→2≤q.length∧(0≤q.getD 0 default∧(q.getD 0 default).toNat<n)∧(0≤q.getD 1 default∧(q.getD 1 default).toNat<n)) :
  Pur Tryz.prog B 203 [iI n,iLL ps] (iL (joinL n ps)):=by
 refine ⟨fun H0=>c203p (by simp) fun ⟨_,hf,_⟩=>?_⟩
 have hl:=fine_mL_le hf;simp only [maxL] at hl;unfold s203p
 have o : Owns H0 H0 []:=.nil _;refine tt ?_;refine new_list iI o fun id H o=>tt ?_;refine awp_for [0,1] (G:=Nat × List Int) (fun k g=>[(5,some (.buf g.1 g.2.length)),(6,some (.int .i64 (k : Int)))]) (fun k g H=>g.2=(List.range k).map Int.ofNat∧Owns H0 H [(g.1,.cells 1 (g.2.map iI) 0)]) n (id,[]) ⟨rfl,o⟩ rfl ?_;clear o
 rintro k ⟨id,A⟩ H hk ⟨hA,o⟩;dsimp only at hA o
 have hAl : A.length=k:=by rw [hA]; simp
 refine tt ?_;apply bk <;> intro h1
 ·refine tt ?_
  have h1p:=dd h1
  have w1:=wsucc (k:=k) (by omega);refine app_own (k : Int) o rfl rfl (by simp only [maxL]; omega) fun id H o=>?_;refine tw w1 ?_;exact for_next (_,_) (by omega) ⟨by rw [hA,List.range_succ]; simp,o⟩ rfl
 ·refine tt ?_
  have h1p:=dd h1
  obtain rfl : k=n:=by omega
  refine awp_for [1,5] (fun q _=>[(7,some (.int .i64 (q : Int)))]) (fun q A H=>A=labs k (ps.take q)∧Owns H0 H [(id,.cells 1 (A.map iI) 0)]) ps.length A ⟨hA,o⟩ rfl ?_;clear o
  rintro q A2 H hq ⟨hA2,o⟩
  have hl2 : A2.length=k:=by rw [hA2,labs_len]
  refine tt ?_;apply bk <;> intro h2
  ·refine tt ?_
   have h2p:=dd h2
   have w2:=wsucc (k:=q) (by omega)
   have hqq:=hp _ (mem_getD.mpr ⟨q,h2p,rfl⟩)
   have e0 : ix (ps.getD q default) 0=(ps.getD q default).getD 0 default:=rfl
   have e1 : ix (ps.getD q default) 1=(ps.getD q default).getD 1 default:=rfl
   have hstep:=labs_succ k ps h2p;rw [← hA2,e0,e1] at hstep;refine ⟨h2p,⟨by omega,Nat.lt_of_lt_of_le (by decide) hqq.1⟩,⟨by rw [e0]; omega,by rw [e0]; omega⟩,rd_own o (by rw [e0]; omega) ?_⟩;refine tt ?_;refine ⟨h2p,⟨by omega,Nat.lt_of_lt_of_le (by decide) hqq.1⟩,⟨by rw [e1]; omega,by rw [e1]; omega⟩,rd_own o (by rw [e1]; omega) ?_⟩;refine tt ?_;rw [e0,e1]
   have ea : A2.getD ((ps.getD q default).getD 0 default).toNat default=ix A2 ((ps.getD q default).getD 0 default):=rfl
   have eb : A2.getD ((ps.getD q default).getD 1 default).toNat default=ix A2 ((ps.getD q default).getD 1 default):=rfl;rw [ea,eb]
   generalize ix A2 ((ps.getD q default).getD 0 default)=va at hstep ⊢
   generalize ix A2 ((ps.getD q default).getD 1 default)=vb at hstep ⊢;refine awp_for [1,5,7,8,9] (fun i _=>[(10,some (.int .i64 (i : Int)))]) (fun i A H=>A=relabTo A2 va vb i∧Owns H0 H [(id,.cells 1 (A.map iI) 0)]) k A2 ⟨(relabTo_zero _ _ _).symm,o⟩ rfl ?_;clear o
   rintro i A3 H hi ⟨hA3,o⟩
   have hl3 : A3.length=k:=by rw [hA3,relabTo_len _ _ _ (by omega)]; exact hl2
   rw [hAl];refine tt ?_;apply bk <;> intro h3
   ·refine tw h3 ?_
    have h3p:=dd h3
    have w3:=wsucc (k:=i) (by omega)
    have hg:=relabTo_get A2 va vb (i:=i) (by omega)
    have hs:=relabTo_succ A2 va vb (i:=i) (by omega);rw [← hA3] at hg hs;apply bk <;> intro h4
    ·refine tt ?_
     have h4p:=dd h4;refine ⟨h3p,rd_own o (by omega) ?_⟩;refine tt ?_;apply bk <;> intro h5
     ·refine tt ?_
      have h5p:=dd h5;refine ⟨h3p,set_own _ o rfl (by omega) fun H o=>?_⟩;refine tw w3 ?_;exact for_next _ (by omega) ⟨by rw [hs,if_pos (by rw [← hg]; exact h5p)],o⟩ rfl
     ·refine tw w3 ?_
      have h5p:=dd h5;refine for_next A3 (by omega) ⟨?_,o⟩ rfl;rw [hs,if_neg (by rw [← hg]; exact h5p),← hg,set_getD_selfT]
    ·refine tw w2 ?_
     have h4p:=dd h4;refine for_next A3 (by omega) ⟨?_,o⟩ rfl;subst h4p
     have : ∀ i,relabTo A2 va va i=A2:=fun i=>by rw [relabTo,relab_same,List.take_append_drop]
     rw [hA3,this,hstep,relab_same]
   ·try simp only [go_sem,↓reduceIte,reduceEqDiff,reduceAdd,reduceMul,reduceLeDiff,reduceLT,h3,w2]
    have h3p:=dd h3;refine for_next A3 (by omega) ⟨?_,o⟩ rfl
    have hik : i=A2.length:=by omega
    rw [hA3,hik,relabTo_all,hstep]
  ·refine tt ?_
   have h2p:=dd h2
   obtain rfl : q=ps.length:=by omega
   rw [List.take_length] at hA2;rw [hAl];refine fz_own o hl2.symm fun H o=>tt ?_;refine (classes_ok B A2 (by omega)).go fun _=>tt ?_;exact pure_ret (by rw [joinL,hA2]) o.sub
theorem l01Pairs_own (B : Nat) (p : List Int) (H0 H : Heap) (l : List (Nat × MObj)) (o : Owns H0 H l) : CallH Tryz.prog B 283 [iL p] H (OwnK iL H0 l (·=pairsOf p)):=by
 refine c283p (by simp) fun ⟨hf,_⟩=>?_
 have hl:=fine_mL_le hf;simp only [maxL] at hl;unfold s283p;refine tt ?_;refine new_list iL o fun id H o=>tt ?_
 refine awp_for [0] (G:=Nat × List (List Int)) (fun k g=>[(3,some (.buf g.1 g.2.length)),(4,some (.int .i64 (k : Int)))])
  (fun k g H=>g.2=(List.range k).map (fun i : Nat=>[indexOf p (p.getD i default),(i : Int)])∧Owns H0 H ((g.1,.cells 1 (g.2.map iL) 0)::l)) p.length (id,[]) ⟨rfl,o⟩ rfl ?_
 clear o
 rintro k ⟨id,out⟩ H hk ⟨hout,o⟩;dsimp only at hout o
 have hol : out.length=k:=by rw [hout]; simp
 refine tt ?_;apply bk <;> intro h1
 ·refine tt ?_
  have h1p:=dd h1
  have w1:=wsucc (k:=k) (by omega);refine ⟨h1p,(l01Index_ok ..).go fun _=>?_⟩;refine tt ?_;refine app_own [indexOf p (p.getD k default),(k : Int)] o rfl rfl (by simp only [maxL]; omega) fun id H o=>?_;refine tw w1 ?_;exact for_next (_,_) (by omega) ⟨by rw [hout,List.range_succ]; simp,o⟩ rfl
 ·refine tt ?_
  have h1p:=dd h1
  obtain rfl : k=p.length:=by omega
  exact own_ret o rfl (by rw [hout]; rfl)
end Go.Proofs.Shf
namespace Go.AW
end Go.AW
namespace Go.Proofs.Shf
open Go.AW Go.Proofs Go.Shf
theorem repeated_own (B : Nat) (x : Int) (n : Nat) (hn : n≤1048576) (H0 H : Heap) (l : List (Nat × MObj)) (o : Owns H0 H l) : CallH Tryz.prog B 110 [.int .i64 x,.int .i64 n] H (OwnK iI H0 l (·=List.replicate n x)):=by
 refine c110p (by simp) fun _=>?_;unfold s110p;refine tt ?_;refine ⟨by simp [maxL]; omega,mks_list iI 0 rfl o fun id H o=>?_⟩;refine tt ?_;refine awp_for [0,5,10] (G:=Unit) (fun k _=>[(11,some (.int .i64 (k : Int)))]) (fun k _ H=>Owns H0 H ((id,.cells 1 ((List.replicate k x++List.replicate (n - k) 0).map iI) 0)::l)) n () (by simpa using o) rfl ?_;clear o
 rintro k _ H hk o
 replace o : Owns H0 H ((id,.cells 1 ((List.replicate k x++List.replicate (n - k) 0).map iI) 0)::l):=o;refine tt ?_;apply bk <;> intro h1
 ·have h1p:=of_decide h1
  have w:=wsucc (k:=k) (by omega);refine tt ?_;refine ⟨by omega,set_own x o rfl (by simp; omega) fun H o=>?_⟩
  have e : (List.replicate k x++List.replicate (n - k) 0).set k x=List.replicate (k+1) x++List.replicate (n - (k+1)) 0:=by
   rw [List.set_append_right _ _ (by simp),List.length_replicate,Nat.sub_self,show n - k=(n - (k+1))+1 by omega,List.replicate_succ (n:=n - (k+1)),List.set_cons_zero,List.replicate_succ' (n:=k),List.append_assoc]
   rfl
  rw [e] at o;refine tw w ?_;exact for_next () (by omega) o rfl
 ·have h1p:=of_ndecide h1;refine tt ?_
  obtain rfl : k=n:=by omega
  exact own_ret o (by simp) (by simp)
theorem take_succ_getD {α : Type} [Inhabited α] (l : List α) {k : Nat} (hk : k<l.length) : l.take (k+1)=l.take k++[l.getD k default]:=by
 have hN : l[k]=l.getD k default:=by simp [List.getD_eq_getElem?_getD,hk]
 rw [← hN]; exact (List.take_append_getElem hk).symm
end Go.Proofs.Shf
namespace Go.Shf
open Go.AW
end Go.Shf
namespace Go.Proofs.Shf
open Go.AW Go.Proofs Go.Shf
end Go.Proofs.Shf
namespace Go.Shf
open Go.AW Go.Proofs.Shf
def keyB (L : List (List Int)) : List Int:=L.flatMap fun l=>l.map IntKind.u8.wrap++[255]
def keyS (L : List (List Int)) : List UInt8:=(keyB L).map fun n=>UInt8.ofNat n.toNat
def plS (L : List (List Int)) : Nat→List AV × List AV
 | 0=>([],[])
 | k+1=>mput (.str (keyS [L.getD k default])) (iI k) (plS L k).1 (plS L k).2
end Go.Shf
namespace Go.Proofs.Shf
open Go.AW Go.Proofs Go.Shf
end Go.Proofs.Shf
namespace Go.Shf
open Go.AW
structure Cov where
 shape : Cat
 sizes : List Int
 pulls : List (List Int)
 sieves : List (List (List Int))
 marks : List (List Bool)
@[go_sem] def Cov.cls (v : Cov) : List AV:=[iI v.shape.objs,iL v.shape.frm,iL v.shape.to,iL v.shape.idn,iLL v.shape.comp,iL v.sizes,iLL v.pulls,iLLL v.sieves]
@[go_sem] def Cov.cells (v : Cov) (cnt : AV) : List AV:=[.ptr v.cls,.ptr v.shape.cells,mL (mL AV.bool) v.marks,cnt]
end Go.Shf
namespace Go.Proofs.Shf
open Go.AW Go.Proofs Go.Shf
end Go.Proofs.Shf
namespace Go.Shf
open Go.AW
end Go.Shf
namespace Go.AW
end Go.AW
namespace Go.Shf
open Go.AW
def plE (L : List (List Int)) : AV:=.imap (plS L L.length).1 (plS L L.length).2
instance : One plE:=⟨fun _=>rfl,fun _=>rfl⟩
end Go.Shf
namespace Go.Proofs.Shf
open Go.AW Go.Proofs Go.Shf
@[go_sem] noncomputable def stepVal (f : SF) (V : List (List Int)) : AV:=.ptr [.ptr f.cells,iI f.shape.objs,iL f.shape.frm,iL f.shape.to,iL f.shape.idn,iLL f.shape.comp,iL (stepSizes f V),iLL (stepActs f V),iLL V,iLLL (famsOf f V),mL plE (famsOf f V)]
end Go.Proofs.Shf
