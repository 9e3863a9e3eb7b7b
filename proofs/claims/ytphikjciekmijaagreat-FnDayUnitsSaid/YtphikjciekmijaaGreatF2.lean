/- Contracts, part 2. -/
import Derived.Test.YtphikjciekmijaaGreatF1
set_option linter.unusedVariables false
set_option linter.unusedSimpArgs false
set_option linter.unusedSectionVars false
set_option maxRecDepth 100000
open Nat (reduceEqDiff reduceAdd reduceMul reduceLeDiff reduceLT)
namespace Go.Proofs.Shf
open Go.AW Go.Proofs Go.Shf
theorem l19Shape_ok (B : Nat) (f : SF) : Pur Tryz.prog B 166 [.agg f.cells] (.bool (dec f.Shape)):=by
 refine ⟨fun H0=>c166.go fun ⟨hf,_⟩=>?_⟩
 have hl:=fine_mL_le (hf.agg (c:=iL f.sizes) (by simp [SF.cells]))
 have hl2:=fine_mL_le (hf.agg (c:=iLL f.acts) (by simp [SF.cells]));simp only [maxL] at hl hl2;refine tt ?_;refine (l02Is_ok B f.shape).go fun _=>tt ?_;apply bn <;> intro h1
 rotate_left
 ·refine tw h1 ?_
  have h1p:=dd h1;exact pure_ret (by rw [dec_f]; intro s; exact h1p s.is) (.refl _)
 refine tw h1 ?_
 have h1p:=dd h1
 have hs:=h1p.1
 have htl:=hs.tol;apply bn <;> intro h2
 rotate_left
 ·refine tw h2 ?_
  have h2p:=dd h2;exact pure_ret (by rw [dec_f]; intro s; exact h2p s.sl) (.refl _)
 refine tw h2 ?_
 have h2p:=dd h2;apply bk <;> intro h3
 ·refine tw h3 ?_
  have h3p:=dd h3;exact pure_ret (by rw [dec_f]; intro s; exact h3p s.al) (.refl _)
 refine tw h3 ?_
 have h3p:=dd h3;refine awp_for [1] (fun k _=>[(3,some (.int .i64 (k : Int)))]) (fun k _ H=>H=H0∧∀ x,x<k→0≤f.sizes.getD x default∧f.sizes.getD x default<17) f.sizes.length () ⟨rfl,by simp⟩ rfl ?_
 rintro x _ H hx ⟨rfl,hall⟩;refine tt ?_;apply bk <;> intro g1
 ·have g1p:=dd g1
  have wx:=wsucc (k:=x) (by omega);refine tt ?_;refine ⟨g1p,(l01In_ok ..).go fun _=>?_⟩;refine tt ?_;apply bk <;> intro g2
  ·refine tt ?_
   have g2p:=dd g2;exact pure_ret (by rw [dec_f]; intro s; have:=s.sz _ (mem_getD.mpr ⟨x,g1p,rfl⟩); omega) (.refl _)
  ·refine tw wx ?_
   have g2p:=dd g2;exact for_next () g1p ⟨rfl,lt_succ_all hall (by omega)⟩ rfl
 have g1p:=dd g1
 have hsz : ∀ y,y∈f.sizes→0≤y∧y<17:=all_getD.mpr fun i hi=>hall i (by omega);refine tt ?_
 refine awp_for [1] (fun k _=>[(4,some (.int .i64 (k : Int)))]) (fun k _ H'=>H'=H∧∀ a,a<k→((f.acts.getD a default).length : Int)=ix f.sizes (f.shape.frm.getD a default) ∧
  ∀ y,y∈f.acts.getD a default→0≤y∧y<ix f.sizes (f.shape.to.getD a default)) f.acts.length () ⟨rfl,by simp⟩ rfl ?_
 rintro a _ H' ha ⟨rfl,hact⟩;refine tt ?_;apply bk <;> intro g2
 rotate_left
 ·refine tt ?_
  have g2p:=dd g2;exact pure_ret (by rw [dec_t]; exact ⟨h1p,h2p,h3p,hsz,fun a h=>hact a (by omega)⟩) (.refl _)
 have g2p:=dd g2
 have wa:=wsucc (k:=a) (by omega)
 have haf : a<f.shape.frm.length:=by omega
 have f1:=hs.frm' haf
 have f2:=hs.to' haf
 have hil:=hs.il;refine tt ?_;refine ⟨g2p,haf,⟨f1.1,by omega⟩, ?_⟩;apply bn <;> intro g3
 rotate_left
 ·refine tw g3 ?_
  have g3p:=dd g3;exact pure_ret (by rw [dec_f]; intro s; exact g3p (s.act a g2p).1) (.refl _)
 refine tw g3 ?_
 have g3p:=dd g3;refine ⟨by omega,⟨f2.1,by omega⟩,g2p,_,(l01Map_ok ..).run,tt ?_⟩;apply bk <;> intro g4
 ·refine tt ?_
  have g4p:=dd g4;exact pure_ret (by rw [dec_f]; intro s; exact g4p (s.act a g2p).2) (.refl _)
 ·refine tw wa ?_
  have g4p:=dd g4;exact for_next () g2p ⟨rfl,lt_succ_all hact ⟨g3p,g4p⟩⟩ rfl
theorem sfIsShape_ok (B : Nat) (f : SF) : Pur Tryz.prog B 204 [.ptr f.cells] (.bool (dec f.Shape)):=by
 refine ⟨fun H0=>c204.go fun ⟨hf,_⟩=>?_⟩
 have hl:=fine_mL_le (hf.ptr (c:=iL f.sizes) (by simp [SF.cells]))
 have hl2:=fine_mL_le (hf.ptr (c:=iLL f.acts) (by simp [SF.cells]));simp only [maxL] at hl hl2;refine tt ?_;refine ⟨_,(isCategory_ok B f.shape).run,tt ?_⟩;apply bn <;> intro h1
 rotate_left
 ·refine tw h1 ?_
  have h1p:=dd h1;exact pure_ret (by rw [dec_f]; intro s; exact h1p s.is) (.refl _)
 refine tw h1 ?_
 have h1p:=dd h1
 have hs:=h1p.1
 have htl:=hs.tol;apply bn <;> intro h2
 rotate_left
 ·refine tw h2 ?_
  have h2p:=dd h2;exact pure_ret (by rw [dec_f]; intro s; exact h2p s.sl) (.refl _)
 refine tw h2 ?_
 have h2p:=dd h2;refine ⟨_,(within_ok B f.sizes 17 (by omega)).run,tt ?_⟩;apply bn <;> intro h3
 rotate_left
 ·refine tw h3 ?_
  have h3p:=dd h3;exact pure_ret (by rw [dec_f]; intro s; exact h3p s.sz) (.refl _)
 refine tw h3 ?_
 have h3p:=dd h3;refine ⟨_,(arrows_ok B f.shape).run,tt ?_⟩;apply bk <;> intro h4
 ·refine tw h4 ?_
  have h4p:=dd h4;exact pure_ret (by rw [dec_f]; intro s; exact h4p s.al) (.refl _)
 refine tw h4 ?_
 have h4p:=dd h4
 refine awp_for [0,3,45,46] (fun k _=>[(47,some (.int .i64 (k : Int)))]) (fun k _ H'=>H'=H0∧∀ a,a<k→((f.acts.getD a default).length : Int)=ix f.sizes (f.shape.frm.getD a default) ∧
  ∀ y,y∈f.acts.getD a default→0≤y∧y<ix f.sizes (f.shape.to.getD a default)) f.acts.length () ⟨rfl,by simp⟩ rfl ?_
 rintro a _ H' ha ⟨rfl,hact⟩;refine tt ?_;apply bk <;> intro g2
 rotate_left
 ·refine tt ?_
  have g2p:=dd g2;exact pure_ret (by rw [dec_t]; exact ⟨h1p,h2p,h4p,h3p,fun a h=>hact a (by omega)⟩) (.refl _)
 have g2p:=dd g2
 have wa:=wsucc (k:=a) (by omega)
 have haf : a<f.shape.frm.length:=by omega
 have f1:=hs.frm' haf
 have f2:=hs.to' haf
 have hil:=hs.il
 have hto:=h3p _ (ix_mem (l:=f.sizes) (i:=f.shape.to.getD a default) (by omega));refine tt ?_;refine ⟨g2p,haf,⟨f1.1,by omega⟩,by omega,⟨f2.1,by omega⟩,_,(isMapOf_ok B _ _ _ (by omega)).run,tt ?_⟩;apply bk <;> intro g4
 ·refine tt ?_
  have g4p:=dd g4;exact pure_ret (by rw [dec_f]; intro s; exact g4p (s.act a g2p)) (.refl _)
 ·refine tw wa ?_
  have g4p:=dd g4;exact for_next () g2p ⟨rfl,lt_succ_all hact g4p⟩ rfl
theorem l19Fault_ok (B : Nat) (f : SF) (s : f.Shape) (H0 : Heap) : CallH Tryz.prog B 167 [.agg f.cells] H0 (faultK f.Laws H0):=by
 refine c167.go fun ⟨hf,_⟩=>?_
 have hs:=s.is.1
 have hm:=hs.m
 have hcl:=hs.cl
 have htl:=hs.tol
 have hil:=hs.il
 have hal:=s.al
 have hsl:=s.sl
 have hob:=hs.o;refine tt ?_;refine ⟨by simp [maxL],fun i1 n1=>?_⟩;refine tt ?_
 generalize hH : ((H0.set i1 _).set i1 _)=H1
 have hg : H1.get i1=some (.cells 5 [iI f.shape.objs,iL f.shape.frm,iL f.shape.to,iL f.shape.idn,iLL f.shape.comp] 0):=by rw [← hH]; simp
 have hsub : H0.sub H1:=by rw [← hH]; exact sub_set (sub_set (.refl _) n1) n1
 clear hH;refine awp_for [1,6] (fun k _=>[(7,some (.int .i64 (k : Int)))]) (fun k _ H=>H=H1∧∀ x,x<k→∀ e : Nat,e<(ix f.acts (f.shape.idn.getD x default)).length→(ix f.acts (f.shape.idn.getD x default)).getD e default=e) f.shape.idn.length () ⟨rfl,by simp⟩ rfl ?_
 rintro x _ H hx ⟨rfl,hall⟩;refine tw hg ?_;apply bk <;> intro g1
 ·have g1p:=dd g1
  have hxi : x<f.shape.idn.length:=by omega
  have wx:=wsucc (k:=x) (by omega)
  have hid:=hs.idn _ (mem_getD.mpr ⟨x,hxi,rfl⟩)
  have hlen:=s.idLen hxi;refine tw hg ?_;refine awp_for [1,6,7] (fun k _=>[(8,some (.int .i64 (k : Int)))]) (fun k _ H'=>H'=H∧∀ e : Nat,e<k→(ix f.acts (f.shape.idn.getD x default)).getD e default=e) (ix f.acts (f.shape.idn.getD x default)).length () ⟨rfl,by simp⟩ rfl ?_
  rintro e _ H' he ⟨rfl,hall2⟩;refine tw hg ?_;refine ⟨by omega, ?_⟩;apply bk <;> intro g2
  rotate_left
  ·refine tw wx ?_
   have g2p:=dd g2;exact for_next () hxi ⟨rfl,lt_succ_all hall fun e he=>hall2 e (by omega)⟩ rfl
  have g2p:=dd g2
  have hel : e<(ix f.acts (f.shape.idn.getD x default)).length:=by omega
  have hz : f.sizes.getD x default<17:=(s.sz _ (mem_getD.mpr ⟨x,by omega,rfl⟩)).2
  have we:=wsucc (k:=e) (by omega);refine tw hg ?_;refine ⟨hxi,⟨hid.1,by omega⟩,hel, ?_⟩;apply bk <;> intro g3
  ·refine tt ?_
   have g3p:=dd g3;exact fault_ret (by constructor; (intro h; cases h); intro l; exact absurd (l.idl x hxi e hel) g3p) hsub
  ·refine tw we ?_
   have g3p:=dd g3;exact for_next () hel ⟨rfl,lt_succ_all hall2 g3p⟩ rfl
 have g1p:=dd g1
 have hidl : ∀ x : Nat,x<f.shape.idn.length→∀ e : Nat,e<(ix f.acts (f.shape.idn.getD x default)).length→(ix f.acts (f.shape.idn.getD x default)).getD e default=e:=fun x hx=>hall x (by omega);refine tt ?_;refine awp_for [1,6] (fun k _=>[(9,some (.int .i64 (k : Int)))]) (fun k _ H'=>H'=H∧∀ a,a<k→∀ b,b<f.shape.frm.length→f.CompAt a b) f.shape.frm.length () ⟨rfl,by simp⟩ rfl ?_
 rintro a _ H' ha ⟨rfl,hA⟩;refine tw hg ?_;apply bk <;> intro g1
 rotate_left
 ·refine tt ?_
  have g1p:=dd g1;exact fault_ret (by simp only [true_iff]; exact ⟨hidl,fun a b ha hb=>hA a (by omega) b hb⟩) hsub
 have g1p:=dd g1
 have wa:=wsucc (k:=a) (by omega)
 have ra:=hs.row a g1p
 have fa:=hs.frm' g1p
 have la:=s.actLen (a:=(a : Int)) (by omega);rw [ix_nat2,ix_nat2] at la
 have za:=s.sz _ (ix_mem (l:=f.sizes) (i:=f.shape.frm.getD a default) (by omega));refine tw hg ?_;refine awp_for [1,6,9] (fun k _=>[(10,some (.int .i64 (k : Int)))]) (fun k _ H=>H=H'∧∀ b,b<k→f.CompAt a b) f.shape.frm.length () ⟨rfl,by simp⟩ rfl ?_
 rintro b _ H hb ⟨rfl,hB⟩;refine tw hg ?_;apply bk <;> intro g2
 rotate_left
 ·refine tw wa ?_
  have g2p:=dd g2;exact for_next () g1p ⟨rfl,lt_succ_all hA fun b hb=>hB b (by omega)⟩ rfl
 have g2p:=dd g2
 have wb:=wsucc (k:=b) (by omega);refine tw hg ?_;refine ⟨by omega,g2p, ?_⟩;apply bk <;> intro g3
 ·refine tw wb ?_
  have g3p:=dd g3;exact for_next () g2p ⟨rfl,lt_succ_all hB fun e=>absurd e g3p⟩ rfl
 have g3p:=dd g3
 have hy:=hs.yes a b g1p g2p g3p
 have lc:=s.actLen (a:=(f.shape.comp.getD a default).getD b default) (by omega);rw [hy.2.1] at lc
 have lb:=s.actLen (a:=(b : Int)) (by omega);rw [ix_nat2,ix_nat2] at lb;refine tw hg ?_
 refine awp_for [1,6,9,10] (fun k _=>[(11,some (.int .i64 (k : Int)))]) (fun k _ H'=>H'=H∧∀ e : Nat,e<k →
  (ix f.acts ((f.shape.comp.getD a default).getD b default)).getD e default=ix (f.acts.getD b default) ((f.acts.getD a default).getD e default)) (f.acts.getD a default).length () ⟨rfl,by simp⟩ rfl ?_
 rintro e _ H' he ⟨rfl,hE⟩;refine tw hg ?_;refine ⟨g1p,⟨fa.1,by omega⟩, ?_⟩;apply bk <;> intro g4
 rotate_left
 ·refine tw wb ?_
  have g4p:=dd g4;exact for_next () g2p ⟨rfl,lt_succ_all hB fun _ e he=>hE e (by omega)⟩ rfl
 have g4p:=dd g4
 have we:=wsucc (k:=e) (by omega)
 have hel : e<(f.acts.getD a default).length:=by omega
 have hv:=(s.act a (by omega)).2 _ (mem_getD.mpr ⟨e,hel,rfl⟩);rw [g3p] at hv;refine tw hg ?_;refine ⟨by omega,by omega,⟨hy.1.1,by omega⟩,by omega,by omega,by omega,hel,⟨hv.1,by omega⟩, ?_⟩;apply bk <;> intro g5
 ·refine tt ?_
  have g5p:=dd g5;exact fault_ret (by constructor; (intro h; cases h); intro l; exact absurd (l.comp a b g1p g2p g3p e hel) g5p) hsub
 ·refine tw we ?_
  have g5p:=dd g5;exact for_next () hel ⟨rfl,lt_succ_all hE g5p⟩ rfl
theorem sfFault_ok (B : Nat) (f : SF) (s : f.Shape) (H0 : Heap) : CallH Tryz.prog B 205 [.ptr f.cells] H0 (faultK f.Laws H0):=by
 refine c205.go fun ⟨hf,_⟩=>?_
 have hs:=s.is.1
 have hm:=hs.m
 have hcl:=hs.cl
 have htl:=hs.tol
 have hil:=hs.il
 have hal:=s.al
 have hsl:=s.sl
 have hob:=hs.o;refine tt ?_;refine awp_for [0,6,23,24] (fun k _=>[(25,some (.int .i64 (k : Int)))]) (fun k _ H=>H=H0∧∀ x,x<k→∀ e : Nat,e<(ix f.acts (f.shape.idn.getD x default)).length→(ix f.acts (f.shape.idn.getD x default)).getD e default=e) f.shape.idn.length () ⟨rfl,by simp⟩ rfl ?_
 rintro x _ H hx ⟨rfl,hall⟩;refine tt ?_;apply bk <;> intro g1
 ·have g1p:=dd g1
  have wx:=wsucc (k:=x) (by omega)
  have hid:=hs.idn _ (mem_getD.mpr ⟨x,g1p,rfl⟩)
  have hlen:=s.idLen g1p
  have hz : f.sizes.getD x default<17:=(s.sz _ (mem_getD.mpr ⟨x,by omega,rfl⟩)).2;refine tt ?_;refine ⟨g1p,⟨hid.1,by omega⟩, ?_⟩;refine awp_for [0,6,7,23,24,25,36,37] (fun k _=>[(38,some (.int .i64 (k : Int)))]) (fun k _ H'=>H'=H∧∀ e : Nat,e<k→(ix f.acts (f.shape.idn.getD x default)).getD e default=e) (ix f.acts (f.shape.idn.getD x default)).length () ⟨rfl,by simp⟩ rfl ?_
  rintro e _ H' he ⟨rfl,hall2⟩;refine tt ?_;apply bk <;> intro g2
  rotate_left
  ·refine tw wx ?_
   have g2p:=dd g2;exact for_next () g1p ⟨rfl,lt_succ_all hall fun e he=>hall2 e (by omega)⟩ rfl
  have g2p:=dd g2
  have we:=wsucc (k:=e) (by omega);refine tt ?_;refine ⟨g2p, ?_⟩;apply bk <;> intro g3
  ·refine tt ?_
   have g3p:=dd g3;exact fault_ret (by constructor; (intro h; cases h); intro l; exact absurd (l.idl x g1p e g2p) g3p) (.refl _)
  ·refine tw we ?_
   have g3p:=dd g3;exact for_next () g2p ⟨rfl,lt_succ_all hall2 g3p⟩ rfl
 have g1p:=dd g1
 have hidl : ∀ x : Nat,x<f.shape.idn.length→∀ e : Nat,e<(ix f.acts (f.shape.idn.getD x default)).length→(ix f.acts (f.shape.idn.getD x default)).getD e default=e:=fun x hx=>hall x (by omega);refine tt ?_;refine awp_for [0,53,54] (fun k _=>[(55,some (.int .i64 (k : Int)))]) (fun k _ H'=>H'=H∧∀ a,a<k→∀ b,b<f.shape.frm.length→f.CompAt a b) f.shape.comp.length () ⟨rfl,by simp⟩ rfl ?_
 rintro a _ H' ha ⟨rfl,hA⟩;refine tt ?_;apply bk <;> intro g1
 rotate_left
 ·refine tt ?_
  have g1p:=dd g1;exact fault_ret (by simp only [true_iff]; exact ⟨hidl,fun a b ha hb=>hA a (by omega) b hb⟩) (.refl _)
 have g1p:=dd g1
 have ham : a<f.shape.frm.length:=by omega
 have wa:=wsucc (k:=a) (by omega)
 have ra:=hs.row a ham
 have fa:=hs.frm' ham
 have la:=s.actLen (a:=(a : Int)) (by omega);rw [ix_nat2,ix_nat2] at la
 have za:=s.sz _ (ix_mem (l:=f.sizes) (i:=f.shape.frm.getD a default) (by omega));refine tt ?_;refine ⟨g1p, ?_⟩;refine awp_for [0,11,53,54,55,60,61] (fun k _=>[(62,some (.int .i64 (k : Int)))]) (fun k _ H=>H=H'∧∀ b,b<k→f.CompAt a b) (f.shape.comp.getD a default).length () ⟨rfl,by simp⟩ rfl ?_
 rintro b _ H hb ⟨rfl,hB⟩;refine tt ?_;apply bk <;> intro g2
 rotate_left
 ·refine tw wa ?_
  have g2p:=dd g2;exact for_next () g1p ⟨rfl,lt_succ_all hA fun b hb=>hB b (by omega)⟩ rfl
 have g2p:=dd g2
 have hbm : b<f.shape.frm.length:=by omega
 have wb:=wsucc (k:=b) (by omega);refine tt ?_;refine ⟨g2p, ?_⟩;apply bk <;> intro g3
 ·refine tw wb ?_
  have g3p:=dd g3;exact for_next () g2p ⟨rfl,lt_succ_all hB fun e=>by have:=(hs.pos ham hbm).mpr e; omega⟩ rfl
 have g3p:=dd g3
 have g3q:=(hs.pos ham hbm).mp g3p
 have hy:=hs.yes a b ham hbm g3q
 have lc:=s.actLen (a:=(f.shape.comp.getD a default).getD b default) (by omega);rw [hy.2.1] at lc
 have lb:=s.actLen (a:=(b : Int)) (by omega);rw [ix_nat2,ix_nat2] at lb;refine tt ?_;refine ⟨by omega, ?_⟩
 refine awp_for [0,11,13,14,53,54,55,60,61,62,75,76] (fun k _=>[(77,some (.int .i64 (k : Int)))]) (fun k _ H'=>H'=H∧∀ e : Nat,e<k →
  (ix f.acts ((f.shape.comp.getD a default).getD b default)).getD e default=ix (f.acts.getD b default) ((f.acts.getD a default).getD e default)) (f.acts.getD a default).length () ⟨rfl,by simp⟩ rfl ?_
 rintro e _ H' he ⟨rfl,hE⟩;refine tt ?_;apply bk <;> intro g4
 rotate_left
 ·refine tw wb ?_
  have g4p:=dd g4;exact for_next () g2p ⟨rfl,lt_succ_all hB fun _ e he=>hE e (by omega)⟩ rfl
 have g4p:=dd g4
 have we:=wsucc (k:=e) (by omega)
 have hv:=(s.act a (by omega)).2 _ (mem_getD.mpr ⟨e,g4p,rfl⟩);rw [g3q] at hv;refine tt ?_;refine ⟨g4p,⟨g3p,by omega⟩,by omega,by omega,⟨hv.1,by omega⟩, ?_⟩;apply bk <;> intro g5
 ·refine tt ?_
  have g5p:=dd g5;exact fault_ret (by constructor; (intro h; cases h); intro l; exact absurd (l.comp a b ham hbm g3q e g4p) g5p) (.refl _)
 ·refine tw we ?_
  have g5p:=dd g5;exact for_next () g4p ⟨rfl,lt_succ_all hE g5p⟩ rfl
theorem l19Is_ok (B : Nat) (f : SF) : Pur Tryz.prog B 63 [.agg f.cells] (.bool (dec f.Is)):=by
 refine ⟨fun H0=>c63.go fun hf=>?_⟩;refine tt ?_;refine (l19Shape_ok B f).go fun _=>tt ?_;apply bk <;> intro h1
 ·refine tt ?_
  have h1p:=dd h1;exact pure_ret (by rw [dec_f]; intro s; exact h1p s.1) (.refl _)
 have h1p:=dd h1;refine tt ?_;refine (l19Fault_ok B f h1p H0).mono' ?_
 rintro _ _ _ ⟨rfl,k,a,b,d,rfl,hk⟩;refine tt ?_;exact pure_ret (by rw [decide_dec]; congr 1; exact dec_congr ⟨fun h=>⟨h1p,hk.mp h⟩,fun h=>hk.mpr h.2⟩) (.refl _)
theorem isSetFunctor_ok (B : Nat) (f : SF) : Pur Tryz.prog B 99 [.ptr f.cells] (.bool (dec f.Is)):=by
 refine ⟨fun H0=>c99.go fun hf=>?_⟩;refine tt ?_;refine (sfIsShape_ok B f).go fun _=>tt ?_;apply bk <;> intro h1
 ·refine tt ?_
  have h1p:=dd h1;exact pure_ret (by rw [dec_f]; intro s; exact h1p s.1) (.refl _)
 have h1p:=dd h1;refine tt ?_;refine (sfFault_ok B f h1p H0).mono' ?_
 rintro _ _ _ ⟨rfl,k,a,b,d,rfl,hk⟩;refine tt ?_;exact pure_ret (by rw [decide_dec]; congr 1; exact dec_congr ⟨fun h=>⟨h1p,hk.mp h⟩,fun h=>hk.mpr h.2⟩) (.refl _)
instance : Inhabited SF:=⟨⟨⟨0,[],[],[],[]⟩,[],[]⟩⟩
abbrev sfP (f : SF) : AV:=.ptr f.cells
instance : One sfP:=⟨fun _=>rfl,fun _=>rfl⟩
theorem areSetFunctors_ok (B : Nat) (l : List SF) : Pur Tryz.prog B 54 [mL sfP l] (.bool (dec (∀ f,f∈l→f.Is))):=by
 refine ⟨fun H0=>c54.go fun ⟨hf,_⟩=>?_⟩
 have hl:=fine_mL_le hf;simp only [maxL] at hl;refine tt ?_;refine awp_for [5,6] (fun k _=>[(7,some (.int .i64 (k : Int)))]) (fun k _ H=>H=H0∧∀ i,i<k→(l.getD i default).Is) l.length () ⟨rfl,by simp⟩ rfl ?_
 rintro k _ H hk ⟨rfl,hall⟩;refine tt ?_;apply bk <;> intro h1
 ·have h1p:=dd h1
  have w1:=wsucc (k:=k) (by omega);refine tt ?_;refine ⟨h1p,(isSetFunctor_ok B _).go fun _=>?_⟩;refine tt ?_;apply bk <;> intro h2
  ·refine tt ?_
   have h2p:=dd h2;exact pure_ret (by rw [dec_f]; intro h; exact h2p (h _ (mem_getD.mpr ⟨k,h1p,rfl⟩))) (.refl _)
  ·refine tw w1 ?_
   have h2p:=dd h2;exact for_next () (by omega) ⟨rfl,lt_succ_all hall h2p⟩ rfl
 ·refine tt ?_
  have h1p:=dd h1;exact pure_ret (by rw [dec_t]; exact all_getD.mpr fun i hi=>hall i (by omega)) (.refl _)
theorem l02Same_ok (B : Nat) (a b : Cat) : Pur Tryz.prog B 93 [.agg a.cells,.agg b.cells] (.bool (dec (a=b))):=by
 refine ⟨fun H0=>c93.go fun hf=>?_⟩;refine tt ?_;apply bk <;> intro h0
 rotate_left
 ·refine tw h0 ?_
  have h0p:=dd h0;exact pure_ret (by rw [dec_f]; rintro rfl; exact h0p rfl) (.refl _)
 refine tw h0 ?_
 have h0p:=dd h0;refine (l01Same_ok B a.frm b.frm).go fun _=>tt ?_;apply bk <;> intro h1
 rotate_left
 ·refine tw h1 ?_
  have h1p:=dd h1;exact pure_ret (by rw [dec_f]; rintro rfl; exact h1p rfl) (.refl _)
 refine tw h1 ?_
 have h1p:=dd h1;refine (l01Same_ok B a.to b.to).go fun _=>tt ?_;apply bk <;> intro h2
 rotate_left
 ·refine tw h2 ?_
  have h2p:=dd h2;exact pure_ret (by rw [dec_f]; rintro rfl; exact h2p rfl) (.refl _)
 refine tw h2 ?_
 have h2p:=dd h2;refine (l01Same_ok B a.idn b.idn).go fun _=>tt ?_;apply bk <;> intro h3
 rotate_left
 ·refine tw h3 ?_
  have h3p:=dd h3;exact pure_ret (by rw [dec_f]; rintro rfl; exact h3p rfl) (.refl _)
 refine tw h3 ?_
 have h3p:=dd h3;refine (l01Same2_ok B a.comp b.comp).go fun _=>tt ?_;refine pure_ret ?_ (.refl _)
 congr 1
 refine dec_congr ⟨fun h=>?_,fun h=>by rw [h]⟩
 cases a; cases b; simp_all
theorem sameCategory_ok (B : Nat) (a b : Cat) : Pur Tryz.prog B 85 [.ptr a.cells,.ptr b.cells] (.bool (dec (a=b))):=by
 refine ⟨fun H0=>c85.go fun ⟨hf,hg,_⟩=>?_⟩
 have hl:=fine_mL_le (hf.ptr (c:=iLL a.comp) (by simp [Cat.cells]));simp only [maxL] at hl;refine tt ?_;apply bn <;> intro h0
 rotate_left
 ·refine tw h0 ?_
  have h0p:=dd h0;exact pure_ret (by rw [dec_f]; rintro rfl; exact h0p rfl) (.refl _)
 refine tw h0 ?_
 have h0p:=dd h0;refine ⟨_,(same_ok B a.frm b.frm).run,tt ?_⟩;apply bn <;> intro h1
 rotate_left
 ·refine tw h1 ?_
  have h1p:=dd h1;exact pure_ret (by rw [dec_f]; rintro rfl; exact h1p rfl) (.refl _)
 refine tw h1 ?_
 have h1p:=dd h1;refine ⟨_,(same_ok B a.to b.to).run,tt ?_⟩;apply bn <;> intro h2
 rotate_left
 ·refine tw h2 ?_
  have h2p:=dd h2;exact pure_ret (by rw [dec_f]; rintro rfl; exact h2p rfl) (.refl _)
 refine tw h2 ?_
 have h2p:=dd h2;refine ⟨_,(same_ok B a.idn b.idn).run,tt ?_⟩;apply bn <;> intro h3
 rotate_left
 ·refine tw h3 ?_
  have h3p:=dd h3;exact pure_ret (by rw [dec_f]; rintro rfl; exact h3p rfl) (.refl _)
 refine tw h3 ?_
 have h3p:=dd h3;apply bk <;> intro h4
 ·refine tw h4 ?_
  have h4p:=dd h4;exact pure_ret (by rw [dec_f]; rintro rfl; exact h4p rfl) (.refl _)
 refine tw h4 ?_
 have h4p:=dd h4;refine awp_for [0,1,68] (fun k _=>[(69,some (.int .i64 (k : Int)))]) (fun k _ H=>H=H0∧∀ i,i<k→a.comp.getD i default=b.comp.getD i default) a.comp.length () ⟨rfl,by simp⟩ rfl ?_
 rintro k _ H hk ⟨rfl,hall⟩;refine tt ?_;apply bk <;> intro g1
 ·have g1p:=dd g1
  have w1:=wsucc (k:=k) (by omega);refine tt ?_;refine ⟨g1p,by omega,_,(same_ok ..).run,tt ?_⟩;apply bk <;> intro g2
  ·refine tt ?_
   have g2p:=dd g2;exact pure_ret (by rw [dec_f]; rintro rfl; exact g2p rfl) (.refl _)
  ·refine tw w1 ?_
   have g2p:=dd g2;exact for_next () g1p ⟨rfl,lt_succ_all hall g2p⟩ rfl
 ·refine tt ?_
  have g1p:=dd g1;refine pure_ret ?_ (.refl _);rw [dec_t]
  have e : a.comp=b.comp:=by
   refine List.ext_getElem h4p fun i hi hj=>?_
   have:=hall i (by omega)
   simpa [List.getD_eq_getElem?_getD,hi,hj] using this
  cases a; cases b; simp_all
def topL (p : List Int) : Int:=p.foldl (fun n y=>if y+1 > n then y+1 else n) 0
theorem topL_succ (p : List Int) {k : Nat} (h : k<p.length) : topL (p.take (k+1))=if p.getD k default+1 > topL (p.take k) then p.getD k default+1 else topL (p.take k):=by
 rw [topL,take_succ' p h,List.foldl_append]; rfl
theorem l22Top_ok (B : Nat) (p : List Int) (hp : ∀ y,y∈p→0≤y∧y<1048576) : Pur Tryz.prog B 96 [iL p] (.int .i64 (topL p)):=by
 refine ⟨fun H0=>c96.go fun ⟨hf,_⟩=>?_⟩
 have hl:=fine_mL_le hf;simp only [maxL] at hl;refine tt ?_;refine awp_for [0] (G:=Int) (fun k n=>[(3,some (.int .i64 n)),(4,some (.int .i64 (k : Int)))]) (fun k n H=>H=H0∧n=topL (p.take k)) p.length 0 ⟨rfl,rfl⟩ rfl ?_
 rintro k n H hk ⟨rfl,hn⟩;refine tt ?_;apply bk <;> intro h1
 ·refine tt ?_
  have h1p:=dd h1
  have w1:=wsucc (k:=k) (by omega)
  have hy:=hp _ (mem_getD.mpr ⟨k,h1p,rfl⟩)
  have w2 : IntKind.i64.wrap (p.getD k default+1)=p.getD k default+1:=wrap_i64 (by omega) (by omega);refine ⟨h1p, ?_⟩;try simp only [go_sem,↓reduceIte,reduceEqDiff,reduceAdd,reduceMul,reduceLeDiff,reduceLT,w1,w2]
  exact for_next _ (by omega) ⟨rfl,by rw [topL_succ p h1p,← hn]⟩ rfl
 ·refine tt ?_
  have h1p:=dd h1;exact pure_ret (by rw [hn,show k=p.length by omega,List.take_length]) (.refl _)
@[go_sem] def taskCells (sizes : List Int) (ls : List Lk) (at' : List (List Int)) (most : Nat) (X : AV) : List AV:=[iL sizes,mL lkE ls,iLL at',.int .i64 most,X]
end Go.Proofs.Shf
