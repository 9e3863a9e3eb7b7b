/- Contracts, part 2. -/
import Derived.Test.YtnpimpkmgmnhhaaGreatF1
set_option linter.unusedVariables false
set_option linter.unusedSimpArgs false
set_option linter.unusedSectionVars false
set_option maxRecDepth 100000
open Nat (reduceEqDiff reduceAdd reduceMul reduceLeDiff reduceLT)
namespace Go.Proofs.Shf
open Go.AW Go.Proofs Go.Shf
instance : Inhabited SF:=⟨⟨⟨0,[],[],[],[]⟩,[],[]⟩⟩
theorem sameCategory_ok (B : Nat) (a b : Cat) : Pur Tryz.prog B 86 [.ptr a.cells,.ptr b.cells] (.bool (dec (a=b))):=by
 refine ⟨fun H0=>c86 (by simp) fun ⟨hf,hg,_⟩=>?_⟩
 have hl:=fine_mL_le (hf.ptr (c:=iLL a.comp) (by simp [Cat.cells]));simp only [maxL] at hl;unfold s86;refine tt ?_;apply bn <;> intro h0
 rotate_left
 ·refine tw h0 ?_
  have h0p:=dd h0;exact pure_ret (by rw [dec_f]; rintro rfl; exact h0p rfl) (.refl _)
 refine tw h0 ?_
 have h0p:=dd h0;refine ⟨_,(same_ok B a.frm b.frm).run,tt ?_⟩;apply bn <;> intro h1
 rotate_left
 ·refine tw h1 ?_
  have h1p:=dd h1;exact pure_ret (by rw [dec_f]; rintro rfl; exact h1p rfl) (.refl _)
 refine tw h1 ?_
 have h1p:=dd h1;refine ⟨_,(same_ok B a.to b.to).run,tt ?_⟩;apply bn <;> intro h2
 rotate_left
 ·refine tw h2 ?_
  have h2p:=dd h2;exact pure_ret (by rw [dec_f]; rintro rfl; exact h2p rfl) (.refl _)
 refine tw h2 ?_
 have h2p:=dd h2;refine ⟨_,(same_ok B a.idn b.idn).run,tt ?_⟩;apply bn <;> intro h3
 rotate_left
 ·refine tw h3 ?_
  have h3p:=dd h3;exact pure_ret (by rw [dec_f]; rintro rfl; exact h3p rfl) (.refl _)
 refine tw h3 ?_
 have h3p:=dd h3;apply bk <;> intro h4
 ·refine tw h4 ?_
  have h4p:=dd h4;exact pure_ret (by rw [dec_f]; rintro rfl; exact h4p rfl) (.refl _)
 refine tw h4 ?_
 have h4p:=dd h4;refine awp_for [0,1,68] (fun k _=>[(69,some (.int .i64 (k : Int)))]) (fun k _ H=>H=H0∧∀ i,i<k→a.comp.getD i default=b.comp.getD i default) a.comp.length () ⟨rfl,by simp⟩ rfl ?_
 rintro k _ H hk ⟨rfl,hall⟩;refine tt ?_;apply bk <;> intro g1
 ·have g1p:=dd g1
  have w1:=wsucc (k:=k) (by omega);refine tt ?_;refine ⟨g1p,by omega,_,(same_ok ..).run,tt ?_⟩;apply bk <;> intro g2
  ·refine tt ?_
   have g2p:=dd g2;exact pure_ret (by rw [dec_f]; rintro rfl; exact g2p rfl) (.refl _)
  ·refine tw w1 ?_
   have g2p:=dd g2;exact for_next () g1p ⟨rfl,lt_succ_all hall g2p⟩ rfl
 ·refine tt ?_
  have g1p:=dd g1;refine pure_ret ?_ (.refl _);rw [dec_t]
  have e : a.comp=b.comp:=by
   refine List.ext_getElem h4p fun i hi hj=>?_
   have:=hall i (by omega)
   simpa [List.getD_eq_getElem?_getD,hi,hj] using this
  cases a; cases b; simp_all
theorem l01Classes_ok (B : Nat) (l : List Int) (hl : l.length≤100000) (H0 : Heap) : CallH Tryz.prog B 261 [iL l] H0 (fun r H'=>H'=H0∧∃ p : List Int,p.length=l.length∧(∀ y,y∈p→0≤y∧y<1048576)∧r=iL p):=by
 refine c261p (by simp) fun _=>?_;unfold s261p;refine tt ?_;refine new_list iI (.nil _) fun id3 H o=>tt ?_;refine new_list iI o fun id4 H o=>tt ?_
 refine awp_for [0] (G:=(Nat × List Int) × (Nat × List Int)) (fun k g=>[(3,some (.buf g.1.1 g.1.2.length)),(4,some (.buf g.2.1 g.2.2.length)),(5,some (.int .i64 (k : Int)))])
  (fun k g H=>(g.1.2.length=k∧(∀ y,y∈g.1.2→0≤y∧y<1048576)∧g.2.2.length≤k)∧Owns H0 H [(g.2.1,.cells 1 (g.2.2.map iI) 0),(g.1.1,.cells 1 (g.1.2.map iI) 0)]) l.length ((id3,[]),(id4,[])) ⟨⟨rfl,by simp,by simp⟩,o⟩ rfl ?_
 rintro k ⟨⟨id3,out⟩,⟨id4,seen⟩⟩ H hk ⟨⟨hol,hoy,hsl⟩,o⟩;dsimp only at o hol hoy hsl;refine tt ?_;apply bk <;> intro h1
 ·refine tt ?_
  have h1p:=dd h1
  have w1:=wsucc (k:=k) (by omega);refine ⟨h1p,call_lent 0 rfl o rfl (.int _ _) (l01Index_ok ..).run ?_⟩
  have hb:=indexOf_bd seen (l.getD k default);refine tt ?_;apply bk <;> intro h2
  ·refine tt ?_
   have h2p:=dd h2;refine ⟨h1p, ?_⟩;refine app_own (l.getD k default) o rfl rfl (by simp only [maxL]; omega) fun id4 H o=>tt ?_;refine app_own ((seen.length : Nat) : Int) o.swap rfl rfl (by simp only [maxL]; omega) fun id3 H o=>?_;refine tw w1 ?_;refine for_next ((_,_),(_,_)) (by omega) ⟨⟨by simp [hol],fun y hy=>?_,by simp; omega⟩,o.swap⟩ rfl
   rcases List.mem_append.mp hy with hy | hy
   ·exact hoy y hy
   ·rw [List.mem_singleton] at hy; subst hy; omega
  ·refine tt ?_
   have h2p:=dd h2;refine app_own (indexOf seen (l.getD k default)) o.swap rfl rfl (by simp only [maxL]; omega) fun id3 H o=>?_;refine tw w1 ?_;refine for_next ((_,_),(_,_)) (by omega) ⟨⟨by simp [hol],fun y hy=>?_,by simp; omega⟩,o.swap⟩ rfl
   rcases List.mem_append.mp hy with hy | hy
   ·exact hoy y hy
   ·rw [List.mem_singleton] at hy; subst hy; omega
 ·refine tt ?_
  have h1p:=dd h1;refine fz_own o.swap rfl fun H o=>tt ?_;exact ⟨_,o.sub,rfl,out,by omega,hoy,rfl⟩
theorem l01Join_ok (B : Nat) (n : Nat) (hn : n≤100000) (ps : List (List Int)) (hp : ∀ q,q∈ps→2≤q.length∧(0≤q.getD 0 default∧(q.getD 0 default).toNat<n)∧(0≤q.getD 1 default∧(q.getD 1 default).toNat<n)) (H0 : Heap) :
  CallH Tryz.prog B 247 [.int .i64 n,iLL ps] H0 (fun r H'=>H'=H0∧∃ p : List Int,p.length=n∧(∀ y,y∈p→0≤y∧y<1048576)∧r=iL p):=by
 refine c247p (by simp) fun ⟨_,hf,_⟩=>?_
 have hl:=fine_mL_le hf;simp only [maxL] at hl;unfold s247p;refine tt ?_;refine new_list iI (.nil _) fun id H o=>tt ?_;refine awp_for [0,1] (G:=Nat × List Int) (fun k g=>[(5,some (.buf g.1 g.2.length)),(6,some (.int .i64 (k : Int)))]) (fun k g H=>g.2.length=k∧Owns H0 H [(g.1,.cells 1 (g.2.map iI) 0)]) n (id,[]) ⟨rfl,o⟩ rfl ?_
 rintro k ⟨id,A⟩ H hk ⟨hA,o⟩;dsimp only at hA;refine tt ?_;apply bk <;> intro h1
 ·refine tt ?_
  have h1p:=dd h1
  have w1:=wsucc (k:=k) (by omega);refine app_own (k : Int) o rfl rfl (by simp only [maxL]; omega) fun id H o=>?_;refine tw w1 ?_;exact for_next (_,_) (by omega) ⟨by simp [hA],o⟩ rfl
 ·refine tt ?_
  have h1p:=dd h1
  obtain rfl : k=n:=by omega
  refine awp_for [1,5] (fun q _=>[(7,some (.int .i64 (q : Int)))]) (fun q A H=>A.length=k∧Owns H0 H [(id,.cells 1 (A.map iI) 0)]) ps.length A ⟨hA,o⟩ rfl ?_
  rintro q A2 H hq ⟨hA2,o⟩;refine tt ?_;apply bk <;> intro h2
  ·refine tt ?_
   have h2p:=dd h2
   have w2:=wsucc (k:=q) (by omega)
   have hqq:=hp _ (mem_getD.mpr ⟨q,h2p,rfl⟩)
   have e0 : ix (ps.getD q default) 0=(ps.getD q default).getD 0 default:=rfl
   have e1 : ix (ps.getD q default) 1=(ps.getD q default).getD 1 default:=rfl;refine ⟨h2p,⟨by omega,Nat.lt_of_lt_of_le (by decide) hqq.1⟩,⟨by rw [e0]; omega,by rw [e0]; omega⟩,rd_own o (by rw [e0]; omega) ?_⟩;refine tt ?_;refine ⟨h2p,⟨by omega,Nat.lt_of_lt_of_le (by decide) hqq.1⟩,⟨by rw [e1]; omega,by rw [e1]; omega⟩,rd_own o (by rw [e1]; omega) ?_⟩;refine tt ?_;refine awp_for [1,5,7,8,9] (fun i _=>[(10,some (.int .i64 (i : Int)))]) (fun i A H=>A.length=k∧Owns H0 H [(id,.cells 1 (A.map iI) 0)]) k A2 ⟨hA2,o⟩ rfl ?_
   rintro i A3 H hi ⟨hA3,o⟩;rw [hA];refine tt ?_;apply bk <;> intro h3
   ·refine tw h3 ?_
    have h3p:=dd h3
    have w3:=wsucc (k:=i) (by omega);apply bk <;> intro h4
    ·refine tt ?_
     have h4p:=dd h4;refine ⟨h3p,rd_own o (by omega) ?_⟩;refine tt ?_;apply bk <;> intro h5
     ·refine tt ?_
      have h5p:=dd h5;refine ⟨h3p,set_own _ o rfl (by omega) fun H o=>?_⟩;refine tw w3 ?_;exact for_next _ (by omega) ⟨by rw [List.length_set]; exact hA3,o⟩ rfl
     ·refine tw w3 ?_;exact for_next _ (by omega) ⟨hA3,o⟩ rfl
    ·refine tw w2 ?_;exact for_next _ (by omega) ⟨hA3,o⟩ rfl
   ·try simp only [go_sem,↓reduceIte,reduceEqDiff,reduceAdd,reduceMul,reduceLeDiff,reduceLT,h3,w2]
    exact for_next _ (by omega) ⟨hA3,o⟩ rfl
  ·refine tt ?_
   have h2p:=dd h2;rw [hA,← hA2];refine fz_own o rfl fun H o=>tt ?_;refine (l01Classes_ok B A2 (by omega) H).mono ?_
   rintro r H' ⟨rfl,p,h3,h4,rfl⟩;refine tt ?_;exact ⟨_,o.sub,rfl,p,by omega,h4,rfl⟩
@[go_sem] def taskCells (sizes : List Int) (ls : List Lk) (at' : List (List Int)) (most : Nat) (X : AV) : List AV:=[iL sizes,mL lkE ls,iLL at',.int .i64 most,X]
end Go.Proofs.Shf
