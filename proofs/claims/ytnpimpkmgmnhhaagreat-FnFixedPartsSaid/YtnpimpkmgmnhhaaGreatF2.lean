/- Contracts, part 2. -/
import Derived.Test.YtnpimpkmgmnhhaaGreatF1
set_option linter.unusedVariables false
set_option linter.unusedSimpArgs false
set_option linter.unusedSectionVars false
set_option maxRecDepth 100000
open Nat (reduceEqDiff reduceAdd reduceMul reduceLeDiff reduceLT)
namespace Go.Proofs.Shf
open Go.AW Go.Proofs Go.Shf
instance : Inhabited SF:=⟨⟨⟨0,[],[],[],[]⟩,[],[]⟩⟩
theorem l02Same_ok (B : Nat) (a b : Cat) : Pur Tryz.prog B 171 [.agg a.cells,.agg b.cells] (.bool (dec (a=b))):=by
 refine ⟨fun H0=>c171 (by simp) fun hf=>?_⟩;unfold s171;refine tt ?_;apply bk <;> intro h0
 rotate_left
 ·refine tw h0 ?_
  have h0p:=dd h0;exact pure_ret (by rw [dec_f]; rintro rfl; exact h0p rfl) (.refl _)
 refine tw h0 ?_
 have h0p:=dd h0;refine (l01Same_ok B a.frm b.frm).go fun _=>tt ?_;apply bk <;> intro h1
 rotate_left
 ·refine tw h1 ?_
  have h1p:=dd h1;exact pure_ret (by rw [dec_f]; rintro rfl; exact h1p rfl) (.refl _)
 refine tw h1 ?_
 have h1p:=dd h1;refine (l01Same_ok B a.to b.to).go fun _=>tt ?_;apply bk <;> intro h2
 rotate_left
 ·refine tw h2 ?_
  have h2p:=dd h2;exact pure_ret (by rw [dec_f]; rintro rfl; exact h2p rfl) (.refl _)
 refine tw h2 ?_
 have h2p:=dd h2;refine (l01Same_ok B a.idn b.idn).go fun _=>tt ?_;apply bk <;> intro h3
 rotate_left
 ·refine tw h3 ?_
  have h3p:=dd h3;exact pure_ret (by rw [dec_f]; rintro rfl; exact h3p rfl) (.refl _)
 refine tw h3 ?_
 have h3p:=dd h3;refine (l01Same2_ok B a.comp b.comp).go fun _=>tt ?_;refine pure_ret ?_ (.refl _)
 congr 1
 refine dec_congr ⟨fun h=>?_,fun h=>by rw [h]⟩
 cases a; cases b; simp_all
theorem sameCategory_ok (B : Nat) (a b : Cat) : Pur Tryz.prog B 86 [.ptr a.cells,.ptr b.cells] (.bool (dec (a=b))):=by
 refine ⟨fun H0=>c86 (by simp) fun ⟨hf,hg,_⟩=>?_⟩
 have hl:=fine_mL_le (hf.ptr (c:=iLL a.comp) (by simp [Cat.cells]));simp only [maxL] at hl;unfold s86;refine tt ?_;apply bn <;> intro h0
 rotate_left
 ·refine tw h0 ?_
  have h0p:=dd h0;exact pure_ret (by rw [dec_f]; rintro rfl; exact h0p rfl) (.refl _)
 refine tw h0 ?_
 have h0p:=dd h0;refine ⟨_,(same_ok B a.frm b.frm).run,tt ?_⟩;apply bn <;> intro h1
 rotate_left
 ·refine tw h1 ?_
  have h1p:=dd h1;exact pure_ret (by rw [dec_f]; rintro rfl; exact h1p rfl) (.refl _)
 refine tw h1 ?_
 have h1p:=dd h1;refine ⟨_,(same_ok B a.to b.to).run,tt ?_⟩;apply bn <;> intro h2
 rotate_left
 ·refine tw h2 ?_
  have h2p:=dd h2;exact pure_ret (by rw [dec_f]; rintro rfl; exact h2p rfl) (.refl _)
 refine tw h2 ?_
 have h2p:=dd h2;refine ⟨_,(same_ok B a.idn b.idn).run,tt ?_⟩;apply bn <;> intro h3
 rotate_left
 ·refine tw h3 ?_
  have h3p:=dd h3;exact pure_ret (by rw [dec_f]; rintro rfl; exact h3p rfl) (.refl _)
 refine tw h3 ?_
 have h3p:=dd h3;apply bk <;> intro h4
 ·refine tw h4 ?_
  have h4p:=dd h4;exact pure_ret (by rw [dec_f]; rintro rfl; exact h4p rfl) (.refl _)
 refine tw h4 ?_
 have h4p:=dd h4;refine awp_for [0,1,68] (fun k _=>[(69,some (.int .i64 (k : Int)))]) (fun k _ H=>H=H0∧∀ i,i<k→a.comp.getD i default=b.comp.getD i default) a.comp.length () ⟨rfl,by simp⟩ rfl ?_
 rintro k _ H hk ⟨rfl,hall⟩;refine tt ?_;apply bk <;> intro g1
 ·have g1p:=dd g1
  have w1:=wsucc (k:=k) (by omega);refine tt ?_;refine ⟨g1p,by omega,_,(same_ok ..).run,tt ?_⟩;apply bk <;> intro g2
  ·refine tt ?_
   have g2p:=dd g2;exact pure_ret (by rw [dec_f]; rintro rfl; exact g2p rfl) (.refl _)
  ·refine tw w1 ?_
   have g2p:=dd g2;exact for_next () g1p ⟨rfl,lt_succ_all hall g2p⟩ rfl
 ·refine tt ?_
  have g1p:=dd g1;refine pure_ret ?_ (.refl _);rw [dec_t]
  have e : a.comp=b.comp:=by
   refine List.ext_getElem h4p fun i hi hj=>?_
   have:=hall i (by omega)
   simpa [List.getD_eq_getElem?_getD,hi,hj] using this
  cases a; cases b; simp_all
@[go_sem] def taskCells (sizes : List Int) (ls : List Lk) (at' : List (List Int)) (most : Nat) (X : AV) : List AV:=[iL sizes,mL lkE ls,iLL at',.int .i64 most,X]
end Go.Proofs.Shf
