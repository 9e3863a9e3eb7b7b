/- Contracts, part 2. -/
import Derived.Test.YtphikjciekmijaaGreatF1
set_option linter.unusedVariables false
set_option linter.unusedSimpArgs false
set_option linter.unusedSectionVars false
set_option maxRecDepth 100000
open Nat (reduceEqDiff reduceAdd reduceMul reduceLeDiff reduceLT)
namespace Go.Proofs.Shf
open Go.AW Go.Proofs Go.Shf
theorem l19Shape_ok (B : Nat) (f : SF) : Pur Tryz.prog B 166 [.agg f.cells] (.bool (dec f.Shape)):=by
 refine ⟨fun H0=>c166 (by simp) fun ⟨hf,_⟩=>?_⟩
 have hl:=fine_mL_le (hf.agg (c:=iL f.sizes) (by simp [SF.cells]))
 have hl2:=fine_mL_le (hf.agg (c:=iLL f.acts) (by simp [SF.cells]));simp only [maxL] at hl hl2;unfold s166;refine tt ?_;refine (l02Is_ok B f.shape).go fun _=>tt ?_;apply bn <;> intro h1
 rotate_left
 ·refine tw h1 ?_
  have h1p:=dd h1;exact pure_ret (by rw [dec_f]; intro s; exact h1p s.is) (.refl _)
 refine tw h1 ?_
 have h1p:=dd h1
 have hs:=h1p.1
 have htl:=hs.tol;apply bn <;> intro h2
 rotate_left
 ·refine tw h2 ?_
  have h2p:=dd h2;exact pure_ret (by rw [dec_f]; intro s; exact h2p s.sl) (.refl _)
 refine tw h2 ?_
 have h2p:=dd h2;apply bk <;> intro h3
 ·refine tw h3 ?_
  have h3p:=dd h3;exact pure_ret (by rw [dec_f]; intro s; exact h3p s.al) (.refl _)
 refine tw h3 ?_
 have h3p:=dd h3;refine awp_for [1] (fun k _=>[(3,some (.int .i64 (k : Int)))]) (fun k _ H=>H=H0∧∀ x,x<k→0≤f.sizes.getD x default∧f.sizes.getD x default<17) f.sizes.length () ⟨rfl,by simp⟩ rfl ?_
 rintro x _ H hx ⟨rfl,hall⟩;refine tt ?_;apply bk <;> intro g1
 ·have g1p:=dd g1
  have wx:=wsucc (k:=x) (by omega);refine tt ?_;refine ⟨g1p,(l01In_ok ..).go fun _=>?_⟩;refine tt ?_;apply bk <;> intro g2
  ·refine tt ?_
   have g2p:=dd g2;exact pure_ret (by rw [dec_f]; intro s; have:=s.sz _ (mem_getD.mpr ⟨x,g1p,rfl⟩); omega) (.refl _)
  ·refine tw wx ?_
   have g2p:=dd g2;exact for_next () g1p ⟨rfl,lt_succ_all hall (by omega)⟩ rfl
 have g1p:=dd g1
 have hsz : ∀ y,y∈f.sizes→0≤y∧y<17:=all_getD.mpr fun i hi=>hall i (by omega);refine tt ?_
 refine awp_for [1] (fun k _=>[(4,some (.int .i64 (k : Int)))]) (fun k _ H'=>H'=H∧∀ a,a<k→((f.acts.getD a default).length : Int)=ix f.sizes (f.shape.frm.getD a default) ∧
  ∀ y,y∈f.acts.getD a default→0≤y∧y<ix f.sizes (f.shape.to.getD a default)) f.acts.length () ⟨rfl,by simp⟩ rfl ?_
 rintro a _ H' ha ⟨rfl,hact⟩;refine tt ?_;apply bk <;> intro g2
 rotate_left
 ·refine tt ?_
  have g2p:=dd g2;exact pure_ret (by rw [dec_t]; exact ⟨h1p,h2p,h3p,hsz,fun a h=>hact a (by omega)⟩) (.refl _)
 have g2p:=dd g2
 have wa:=wsucc (k:=a) (by omega)
 have haf : a<f.shape.frm.length:=by omega
 have f1:=hs.frm' haf
 have f2:=hs.to' haf
 have hil:=hs.il;refine tt ?_;refine ⟨g2p,haf,⟨f1.1,by omega⟩, ?_⟩;apply bn <;> intro g3
 rotate_left
 ·refine tw g3 ?_
  have g3p:=dd g3;exact pure_ret (by rw [dec_f]; intro s; exact g3p (s.act a g2p).1) (.refl _)
 refine tw g3 ?_
 have g3p:=dd g3;refine ⟨by omega,⟨f2.1,by omega⟩,g2p,_,(l01Map_ok ..).run,tt ?_⟩;apply bk <;> intro g4
 ·refine tt ?_
  have g4p:=dd g4;exact pure_ret (by rw [dec_f]; intro s; exact g4p (s.act a g2p).2) (.refl _)
 ·refine tw wa ?_
  have g4p:=dd g4;exact for_next () g2p ⟨rfl,lt_succ_all hact ⟨g3p,g4p⟩⟩ rfl
theorem sfIsShape_ok (B : Nat) (f : SF) : Pur Tryz.prog B 204 [.ptr f.cells] (.bool (dec f.Shape)):=by
 refine ⟨fun H0=>c204 (by simp) fun ⟨hf,_⟩=>?_⟩
 have hl:=fine_mL_le (hf.ptr (c:=iL f.sizes) (by simp [SF.cells]))
 have hl2:=fine_mL_le (hf.ptr (c:=iLL f.acts) (by simp [SF.cells]));simp only [maxL] at hl hl2;unfold s204;refine tt ?_;refine ⟨_,(isCategory_ok B f.shape).run,tt ?_⟩;apply bn <;> intro h1
 rotate_left
 ·refine tw h1 ?_
  have h1p:=dd h1;exact pure_ret (by rw [dec_f]; intro s; exact h1p s.is) (.refl _)
 refine tw h1 ?_
 have h1p:=dd h1
 have hs:=h1p.1
 have htl:=hs.tol;apply bn <;> intro h2
 rotate_left
 ·refine tw h2 ?_
  have h2p:=dd h2;exact pure_ret (by rw [dec_f]; intro s; exact h2p s.sl) (.refl _)
 refine tw h2 ?_
 have h2p:=dd h2;refine ⟨_,(within_ok B f.sizes 17 (by omega)).run,tt ?_⟩;apply bn <;> intro h3
 rotate_left
 ·refine tw h3 ?_
  have h3p:=dd h3;exact pure_ret (by rw [dec_f]; intro s; exact h3p s.sz) (.refl _)
 refine tw h3 ?_
 have h3p:=dd h3;refine ⟨_,(arrows_ok B f.shape).run,tt ?_⟩;apply bk <;> intro h4
 ·refine tw h4 ?_
  have h4p:=dd h4;exact pure_ret (by rw [dec_f]; intro s; exact h4p s.al) (.refl _)
 refine tw h4 ?_
 have h4p:=dd h4
 refine awp_for [0,3,45,46] (fun k _=>[(47,some (.int .i64 (k : Int)))]) (fun k _ H'=>H'=H0∧∀ a,a<k→((f.acts.getD a default).length : Int)=ix f.sizes (f.shape.frm.getD a default) ∧
  ∀ y,y∈f.acts.getD a default→0≤y∧y<ix f.sizes (f.shape.to.getD a default)) f.acts.length () ⟨rfl,by simp⟩ rfl ?_
 rintro a _ H' ha ⟨rfl,hact⟩;refine tt ?_;apply bk <;> intro g2
 rotate_left
 ·refine tt ?_
  have g2p:=dd g2;exact pure_ret (by rw [dec_t]; exact ⟨h1p,h2p,h4p,h3p,fun a h=>hact a (by omega)⟩) (.refl _)
 have g2p:=dd g2
 have wa:=wsucc (k:=a) (by omega)
 have haf : a<f.shape.frm.length:=by omega
 have f1:=hs.frm' haf
 have f2:=hs.to' haf
 have hil:=hs.il
 have hto:=h3p _ (ix_mem (l:=f.sizes) (i:=f.shape.to.getD a default) (by omega));refine tt ?_;refine ⟨g2p,haf,⟨f1.1,by omega⟩,by omega,⟨f2.1,by omega⟩,_,(isMapOf_ok B _ _ _ (by omega)).run,tt ?_⟩;apply bk <;> intro g4
 ·refine tt ?_
  have g4p:=dd g4;exact pure_ret (by rw [dec_f]; intro s; exact g4p (s.act a g2p)) (.refl _)
 ·refine tw wa ?_
  have g4p:=dd g4;exact for_next () g2p ⟨rfl,lt_succ_all hact g4p⟩ rfl
theorem l19Fault_ok (B : Nat) (f : SF) (s : f.Shape) (H0 : Heap) : CallH Tryz.prog B 167 [.agg f.cells] H0 (faultK f.Laws H0):=by
 refine c167 (by simp) fun ⟨hf,_⟩=>?_
 have hs:=s.is.1
 have hm:=hs.m
 have hcl:=hs.cl
 have htl:=hs.tol
 have hil:=hs.il
 have hal:=s.al
 have hsl:=s.sl
 have hob:=hs.o;unfold s167;refine tt ?_;refine ⟨by simp [maxL],fun i1 n1=>?_⟩;refine tt ?_
 generalize hH : ((H0.set i1 _).set i1 _)=H1
 have hg : H1.get i1=some (.cells 5 [iI f.shape.objs,iL f.shape.frm,iL f.shape.to,iL f.shape.idn,iLL f.shape.comp] 0):=by rw [← hH]; simp
 have hsub : H0.sub H1:=by rw [← hH]; exact sub_set (sub_set (.refl _) n1) n1
 clear hH;refine awp_for [1,6] (fun k _=>[(7,some (.int .i64 (k : Int)))]) (fun k _ H=>H=H1∧∀ x,x<k→∀ e : Nat,e<(ix f.acts (f.shape.idn.getD x default)).length→(ix f.acts (f.shape.idn.getD x default)).getD e default=e) f.shape.idn.length () ⟨rfl,by simp⟩ rfl ?_
 rintro x _ H hx ⟨rfl,hall⟩;refine tw hg ?_;apply bk <;> intro g1
 ·have g1p:=dd g1
  have hxi : x<f.shape.idn.length:=by omega
  have wx:=wsucc (k:=x) (by omega)
  have hid:=hs.idn _ (mem_getD.mpr ⟨x,hxi,rfl⟩)
  have hlen:=s.idLen hxi;refine tw hg ?_;refine awp_for [1,6,7] (fun k _=>[(8,some (.int .i64 (k : Int)))]) (fun k _ H'=>H'=H∧∀ e : Nat,e<k→(ix f.acts (f.shape.idn.getD x default)).getD e default=e) (ix f.acts (f.shape.idn.getD x default)).length () ⟨rfl,by simp⟩ rfl ?_
  rintro e _ H' he ⟨rfl,hall2⟩;refine tw hg ?_;refine ⟨by omega, ?_⟩;apply bk <;> intro g2
  rotate_left
  ·refine tw wx ?_
   have g2p:=dd g2;exact for_next () hxi ⟨rfl,lt_succ_all hall fun e he=>hall2 e (by omega)⟩ rfl
  have g2p:=dd g2
  have hel : e<(ix f.acts (f.shape.idn.getD x default)).length:=by omega
  have hz : f.sizes.getD x default<17:=(s.sz _ (mem_getD.mpr ⟨x,by omega,rfl⟩)).2
  have we:=wsucc (k:=e) (by omega);refine tw hg ?_;refine ⟨hxi,⟨hid.1,by omega⟩,hel, ?_⟩;apply bk <;> intro g3
  ·refine tt ?_
   have g3p:=dd g3;exact fault_ret (by constructor; (intro h; cases h); intro l; exact absurd (l.idl x hxi e hel) g3p) hsub
  ·refine tw we ?_
   have g3p:=dd g3;exact for_next () hel ⟨rfl,lt_succ_all hall2 g3p⟩ rfl
 have g1p:=dd g1
 have hidl : ∀ x : Nat,x<f.shape.idn.length→∀ e : Nat,e<(ix f.acts (f.shape.idn.getD x default)).length→(ix f.acts (f.shape.idn.getD x default)).getD e default=e:=fun x hx=>hall x (by omega);refine tt ?_;refine awp_for [1,6] (fun k _=>[(9,some (.int .i64 (k : Int)))]) (fun k _ H'=>H'=H∧∀ a,a<k→∀ b,b<f.shape.frm.length→f.CompAt a b) f.shape.frm.length () ⟨rfl,by simp⟩ rfl ?_
 rintro a _ H' ha ⟨rfl,hA⟩;refine tw hg ?_;apply bk <;> intro g1
 rotate_left
 ·refine tt ?_
  have g1p:=dd g1;exact fault_ret (by simp only [true_iff]; exact ⟨hidl,fun a b ha hb=>hA a (by omega) b hb⟩) hsub
 have g1p:=dd g1
 have wa:=wsucc (k:=a) (by omega)
 have ra:=hs.row a g1p
 have fa:=hs.frm' g1p
 have la:=s.actLen (a:=(a : Int)) (by omega);rw [ix_nat2,ix_nat2] at la
 have za:=s.sz _ (ix_mem (l:=f.sizes) (i:=f.shape.frm.getD a default) (by omega));refine tw hg ?_;refine awp_for [1,6,9] (fun k _=>[(10,some (.int .i64 (k : Int)))]) (fun k _ H=>H=H'∧∀ b,b<k→f.CompAt a b) f.shape.frm.length () ⟨rfl,by simp⟩ rfl ?_
 rintro b _ H hb ⟨rfl,hB⟩;refine tw hg ?_;apply bk <;> intro g2
 rotate_left
 ·refine tw wa ?_
  have g2p:=dd g2;exact for_next () g1p ⟨rfl,lt_succ_all hA fun b hb=>hB b (by omega)⟩ rfl
 have g2p:=dd g2
 have wb:=wsucc (k:=b) (by omega);refine tw hg ?_;refine ⟨by omega,g2p, ?_⟩;apply bk <;> intro g3
 ·refine tw wb ?_
  have g3p:=dd g3;exact for_next () g2p ⟨rfl,lt_succ_all hB fun e=>absurd e g3p⟩ rfl
 have g3p:=dd g3
 have hy:=hs.yes a b g1p g2p g3p
 have lc:=s.actLen (a:=(f.shape.comp.getD a default).getD b default) (by omega);rw [hy.2.1] at lc
 have lb:=s.actLen (a:=(b : Int)) (by omega);rw [ix_nat2,ix_nat2] at lb;refine tw hg ?_
 refine awp_for [1,6,9,10] (fun k _=>[(11,some (.int .i64 (k : Int)))]) (fun k _ H'=>H'=H∧∀ e : Nat,e<k →
  (ix f.acts ((f.shape.comp.getD a default).getD b default)).getD e default=ix (f.acts.getD b default) ((f.acts.getD a default).getD e default)) (f.acts.getD a default).length () ⟨rfl,by simp⟩ rfl ?_
 rintro e _ H' he ⟨rfl,hE⟩;refine tw hg ?_;refine ⟨g1p,⟨fa.1,by omega⟩, ?_⟩;apply bk <;> intro g4
 rotate_left
 ·refine tw wb ?_
  have g4p:=dd g4;exact for_next () g2p ⟨rfl,lt_succ_all hB fun _ e he=>hE e (by omega)⟩ rfl
 have g4p:=dd g4
 have we:=wsucc (k:=e) (by omega)
 have hel : e<(f.acts.getD a default).length:=by omega
 have hv:=(s.act a (by omega)).2 _ (mem_getD.mpr ⟨e,hel,rfl⟩);rw [g3p] at hv;refine tw hg ?_;refine ⟨by omega,by omega,⟨hy.1.1,by omega⟩,by omega,by omega,by omega,hel,⟨hv.1,by omega⟩, ?_⟩;apply bk <;> intro g5
 ·refine tt ?_
  have g5p:=dd g5;exact fault_ret (by constructor; (intro h; cases h); intro l; exact absurd (l.comp a b g1p g2p g3p e hel) g5p) hsub
 ·refine tw we ?_
  have g5p:=dd g5;exact for_next () hel ⟨rfl,lt_succ_all hE g5p⟩ rfl
theorem sfFault_ok (B : Nat) (f : SF) (s : f.Shape) (H0 : Heap) : CallH Tryz.prog B 205 [.ptr f.cells] H0 (faultK f.Laws H0):=by
 refine c205 (by simp) fun ⟨hf,_⟩=>?_
 have hs:=s.is.1
 have hm:=hs.m
 have hcl:=hs.cl
 have htl:=hs.tol
 have hil:=hs.il
 have hal:=s.al
 have hsl:=s.sl
 have hob:=hs.o;unfold s205;refine tt ?_;refine awp_for [0,6,23,24] (fun k _=>[(25,some (.int .i64 (k : Int)))]) (fun k _ H=>H=H0∧∀ x,x<k→∀ e : Nat,e<(ix f.acts (f.shape.idn.getD x default)).length→(ix f.acts (f.shape.idn.getD x default)).getD e default=e) f.shape.idn.length () ⟨rfl,by simp⟩ rfl ?_
 rintro x _ H hx ⟨rfl,hall⟩;refine tt ?_;apply bk <;> intro g1
 ·have g1p:=dd g1
  have wx:=wsucc (k:=x) (by omega)
  have hid:=hs.idn _ (mem_getD.mpr ⟨x,g1p,rfl⟩)
  have hlen:=s.idLen g1p
  have hz : f.sizes.getD x default<17:=(s.sz _ (mem_getD.mpr ⟨x,by omega,rfl⟩)).2;refine tt ?_;refine ⟨g1p,⟨hid.1,by omega⟩, ?_⟩;refine awp_for [0,6,7,23,24,25,36,37] (fun k _=>[(38,some (.int .i64 (k : Int)))]) (fun k _ H'=>H'=H∧∀ e : Nat,e<k→(ix f.acts (f.shape.idn.getD x default)).getD e default=e) (ix f.acts (f.shape.idn.getD x default)).length () ⟨rfl,by simp⟩ rfl ?_
  rintro e _ H' he ⟨rfl,hall2⟩;refine tt ?_;apply bk <;> intro g2
  rotate_left
  ·refine tw wx ?_
   have g2p:=dd g2;exact for_next () g1p ⟨rfl,lt_succ_all hall fun e he=>hall2 e (by omega)⟩ rfl
  have g2p:=dd g2
  have we:=wsucc (k:=e) (by omega);refine tt ?_;refine ⟨g2p, ?_⟩;apply bk <;> intro g3
  ·refine tt ?_
   have g3p:=dd g3;exact fault_ret (by constructor; (intro h; cases h); intro l; exact absurd (l.idl x g1p e g2p) g3p) (.refl _)
  ·refine tw we ?_
   have g3p:=dd g3;exact for_next () g2p ⟨rfl,lt_succ_all hall2 g3p⟩ rfl
 have g1p:=dd g1
 have hidl : ∀ x : Nat,x<f.shape.idn.length→∀ e : Nat,e<(ix f.acts (f.shape.idn.getD x default)).length→(ix f.acts (f.shape.idn.getD x default)).getD e default=e:=fun x hx=>hall x (by omega);refine tt ?_;refine awp_for [0,53,54] (fun k _=>[(55,some (.int .i64 (k : Int)))]) (fun k _ H'=>H'=H∧∀ a,a<k→∀ b,b<f.shape.frm.length→f.CompAt a b) f.shape.comp.length () ⟨rfl,by simp⟩ rfl ?_
 rintro a _ H' ha ⟨rfl,hA⟩;refine tt ?_;apply bk <;> intro g1
 rotate_left
 ·refine tt ?_
  have g1p:=dd g1;exact fault_ret (by simp only [true_iff]; exact ⟨hidl,fun a b ha hb=>hA a (by omega) b hb⟩) (.refl _)
 have g1p:=dd g1
 have ham : a<f.shape.frm.length:=by omega
 have wa:=wsucc (k:=a) (by omega)
 have ra:=hs.row a ham
 have fa:=hs.frm' ham
 have la:=s.actLen (a:=(a : Int)) (by omega);rw [ix_nat2,ix_nat2] at la
 have za:=s.sz _ (ix_mem (l:=f.sizes) (i:=f.shape.frm.getD a default) (by omega));refine tt ?_;refine ⟨g1p, ?_⟩;refine awp_for [0,11,53,54,55,60,61] (fun k _=>[(62,some (.int .i64 (k : Int)))]) (fun k _ H=>H=H'∧∀ b,b<k→f.CompAt a b) (f.shape.comp.getD a default).length () ⟨rfl,by simp⟩ rfl ?_
 rintro b _ H hb ⟨rfl,hB⟩;refine tt ?_;apply bk <;> intro g2
 rotate_left
 ·refine tw wa ?_
  have g2p:=dd g2;exact for_next () g1p ⟨rfl,lt_succ_all hA fun b hb=>hB b (by omega)⟩ rfl
 have g2p:=dd g2
 have hbm : b<f.shape.frm.length:=by omega
 have wb:=wsucc (k:=b) (by omega);refine tt ?_;refine ⟨g2p, ?_⟩;apply bk <;> intro g3
 ·refine tw wb ?_
  have g3p:=dd g3;exact for_next () g2p ⟨rfl,lt_succ_all hB fun e=>by have:=(hs.pos ham hbm).mpr e; omega⟩ rfl
 have g3p:=dd g3
 have g3q:=(hs.pos ham hbm).mp g3p
 have hy:=hs.yes a b ham hbm g3q
 have lc:=s.actLen (a:=(f.shape.comp.getD a default).getD b default) (by omega);rw [hy.2.1] at lc
 have lb:=s.actLen (a:=(b : Int)) (by omega);rw [ix_nat2,ix_nat2] at lb;refine tt ?_;refine ⟨by omega, ?_⟩
 refine awp_for [0,11,13,14,53,54,55,60,61,62,75,76] (fun k _=>[(77,some (.int .i64 (k : Int)))]) (fun k _ H'=>H'=H∧∀ e : Nat,e<k →
  (ix f.acts ((f.shape.comp.getD a default).getD b default)).getD e default=ix (f.acts.getD b default) ((f.acts.getD a default).getD e default)) (f.acts.getD a default).length () ⟨rfl,by simp⟩ rfl ?_
 rintro e _ H' he ⟨rfl,hE⟩;refine tt ?_;apply bk <;> intro g4
 rotate_left
 ·refine tw wb ?_
  have g4p:=dd g4;exact for_next () g2p ⟨rfl,lt_succ_all hB fun _ e he=>hE e (by omega)⟩ rfl
 have g4p:=dd g4
 have we:=wsucc (k:=e) (by omega)
 have hv:=(s.act a (by omega)).2 _ (mem_getD.mpr ⟨e,g4p,rfl⟩);rw [g3q] at hv;refine tt ?_;refine ⟨g4p,⟨g3p,by omega⟩,by omega,by omega,⟨hv.1,by omega⟩, ?_⟩;apply bk <;> intro g5
 ·refine tt ?_
  have g5p:=dd g5;exact fault_ret (by constructor; (intro h; cases h); intro l; exact absurd (l.comp a b ham hbm g3q e g4p) g5p) (.refl _)
 ·refine tw we ?_
  have g5p:=dd g5;exact for_next () g4p ⟨rfl,lt_succ_all hE g5p⟩ rfl
theorem l19Is_ok (B : Nat) (f : SF) : Pur Tryz.prog B 63 [.agg f.cells] (.bool (dec f.Is)):=by
 refine ⟨fun H0=>c63 (by simp) fun hf=>?_⟩;unfold s63;refine tt ?_;refine (l19Shape_ok B f).go fun _=>tt ?_;apply bk <;> intro h1
 ·refine tt ?_
  have h1p:=dd h1;exact pure_ret (by rw [dec_f]; intro s; exact h1p s.1) (.refl _)
 have h1p:=dd h1;refine tt ?_;refine (l19Fault_ok B f h1p H0).mono' ?_
 rintro _ _ _ ⟨rfl,k,a,b,d,rfl,hk⟩;refine tt ?_;exact pure_ret (by rw [decide_dec]; congr 1; exact dec_congr ⟨fun h=>⟨h1p,hk.mp h⟩,fun h=>hk.mpr h.2⟩) (.refl _)
theorem isSetFunctor_ok (B : Nat) (f : SF) : Pur Tryz.prog B 99 [.ptr f.cells] (.bool (dec f.Is)):=by
 refine ⟨fun H0=>c99 (by simp) fun hf=>?_⟩;unfold s99;refine tt ?_;refine (sfIsShape_ok B f).go fun _=>tt ?_;apply bk <;> intro h1
 ·refine tt ?_
  have h1p:=dd h1;exact pure_ret (by rw [dec_f]; intro s; exact h1p s.1) (.refl _)
 have h1p:=dd h1;refine tt ?_;refine (sfFault_ok B f h1p H0).mono' ?_
 rintro _ _ _ ⟨rfl,k,a,b,d,rfl,hk⟩;refine tt ?_;exact pure_ret (by rw [decide_dec]; congr 1; exact dec_congr ⟨fun h=>⟨h1p,hk.mp h⟩,fun h=>hk.mpr h.2⟩) (.refl _)
instance : Inhabited SF:=⟨⟨⟨0,[],[],[],[]⟩,[],[]⟩⟩
abbrev sfP (f : SF) : AV:=.ptr f.cells
instance : One sfP:=⟨fun _=>rfl,fun _=>rfl⟩
theorem areSetFunctors_ok (B : Nat) (l : List SF) : Pur Tryz.prog B 54 [mL sfP l] (.bool (dec (∀ f,f∈l→f.Is))):=by
 refine ⟨fun H0=>c54 (by simp) fun ⟨hf,_⟩=>?_⟩
 have hl:=fine_mL_le hf;simp only [maxL] at hl;unfold s54;refine tt ?_;refine awp_for [5,6] (fun k _=>[(7,some (.int .i64 (k : Int)))]) (fun k _ H=>H=H0∧∀ i,i<k→(l.getD i default).Is) l.length () ⟨rfl,by simp⟩ rfl ?_
 rintro k _ H hk ⟨rfl,hall⟩;refine tt ?_;apply bk <;> intro h1
 ·have h1p:=dd h1
  have w1:=wsucc (k:=k) (by omega);refine tt ?_;refine ⟨h1p,(isSetFunctor_ok B _).go fun _=>?_⟩;refine tt ?_;apply bk <;> intro h2
  ·refine tt ?_
   have h2p:=dd h2;exact pure_ret (by rw [dec_f]; intro h; exact h2p (h _ (mem_getD.mpr ⟨k,h1p,rfl⟩))) (.refl _)
  ·refine tw w1 ?_
   have h2p:=dd h2;exact for_next () (by omega) ⟨rfl,lt_succ_all hall h2p⟩ rfl
 ·refine tt ?_
  have h1p:=dd h1;exact pure_ret (by rw [dec_t]; exact all_getD.mpr fun i hi=>hall i (by omega)) (.refl _)
theorem l02Same_ok (B : Nat) (a b : Cat) : Pur Tryz.prog B 93 [.agg a.cells,.agg b.cells] (.bool (dec (a=b))):=by
 refine ⟨fun H0=>c93 (by simp) fun hf=>?_⟩;unfold s93;refine tt ?_;apply bk <;> intro h0
 rotate_left
 ·refine tw h0 ?_
  have h0p:=dd h0;exact pure_ret (by rw [dec_f]; rintro rfl; exact h0p rfl) (.refl _)
 refine tw h0 ?_
 have h0p:=dd h0;refine (l01Same_ok B a.frm b.frm).go fun _=>tt ?_;apply bk <;> intro h1
 rotate_left
 ·refine tw h1 ?_
  have h1p:=dd h1;exact pure_ret (by rw [dec_f]; rintro rfl; exact h1p rfl) (.refl _)
 refine tw h1 ?_
 have h1p:=dd h1;refine (l01Same_ok B a.to b.to).go fun _=>tt ?_;apply bk <;> intro h2
 rotate_left
 ·refine tw h2 ?_
  have h2p:=dd h2;exact pure_ret (by rw [dec_f]; rintro rfl; exact h2p rfl) (.refl _)
 refine tw h2 ?_
 have h2p:=dd h2;refine (l01Same_ok B a.idn b.idn).go fun _=>tt ?_;apply bk <;> intro h3
 rotate_left
 ·refine tw h3 ?_
  have h3p:=dd h3;exact pure_ret (by rw [dec_f]; rintro rfl; exact h3p rfl) (.refl _)
 refine tw h3 ?_
 have h3p:=dd h3;refine (l01Same2_ok B a.comp b.comp).go fun _=>tt ?_;refine pure_ret ?_ (.refl _)
 congr 1
 refine dec_congr ⟨fun h=>?_,fun h=>by rw [h]⟩
 cases a; cases b; simp_all
theorem sameCategory_ok (B : Nat) (a b : Cat) : Pur Tryz.prog B 85 [.ptr a.cells,.ptr b.cells] (.bool (dec (a=b))):=by
 refine ⟨fun H0=>c85 (by simp) fun ⟨hf,hg,_⟩=>?_⟩
 have hl:=fine_mL_le (hf.ptr (c:=iLL a.comp) (by simp [Cat.cells]));simp only [maxL] at hl;unfold s85;refine tt ?_;apply bn <;> intro h0
 rotate_left
 ·refine tw h0 ?_
  have h0p:=dd h0;exact pure_ret (by rw [dec_f]; rintro rfl; exact h0p rfl) (.refl _)
 refine tw h0 ?_
 have h0p:=dd h0;refine ⟨_,(same_ok B a.frm b.frm).run,tt ?_⟩;apply bn <;> intro h1
 rotate_left
 ·refine tw h1 ?_
  have h1p:=dd h1;exact pure_ret (by rw [dec_f]; rintro rfl; exact h1p rfl) (.refl _)
 refine tw h1 ?_
 have h1p:=dd h1;refine ⟨_,(same_ok B a.to b.to).run,tt ?_⟩;apply bn <;> intro h2
 rotate_left
 ·refine tw h2 ?_
  have h2p:=dd h2;exact pure_ret (by rw [dec_f]; rintro rfl; exact h2p rfl) (.refl _)
 refine tw h2 ?_
 have h2p:=dd h2;refine ⟨_,(same_ok B a.idn b.idn).run,tt ?_⟩;apply bn <;> intro h3
 rotate_left
 ·refine tw h3 ?_
  have h3p:=dd h3;exact pure_ret (by rw [dec_f]; rintro rfl; exact h3p rfl) (.refl _)
 refine tw h3 ?_
 have h3p:=dd h3;apply bk <;> intro h4
 ·refine tw h4 ?_
  have h4p:=dd h4;exact pure_ret (by rw [dec_f]; rintro rfl; exact h4p rfl) (.refl _)
 refine tw h4 ?_
 have h4p:=dd h4;refine awp_for [0,1,68] (fun k _=>[(69,some (.int .i64 (k : Int)))]) (fun k _ H=>H=H0∧∀ i,i<k→a.comp.getD i default=b.comp.getD i default) a.comp.length () ⟨rfl,by simp⟩ rfl ?_
 rintro k _ H hk ⟨rfl,hall⟩;refine tt ?_;apply bk <;> intro g1
 ·have g1p:=dd g1
  have w1:=wsucc (k:=k) (by omega);refine tt ?_;refine ⟨g1p,by omega,_,(same_ok ..).run,tt ?_⟩;apply bk <;> intro g2
  ·refine tt ?_
   have g2p:=dd g2;exact pure_ret (by rw [dec_f]; rintro rfl; exact g2p rfl) (.refl _)
  ·refine tw w1 ?_
   have g2p:=dd g2;exact for_next () g1p ⟨rfl,lt_succ_all hall g2p⟩ rfl
 ·refine tt ?_
  have g1p:=dd g1;refine pure_ret ?_ (.refl _);rw [dec_t]
  have e : a.comp=b.comp:=by
   refine List.ext_getElem h4p fun i hi hj=>?_
   have:=hall i (by omega)
   simpa [List.getD_eq_getElem?_getD,hi,hj] using this
  cases a; cases b; simp_all
def topL (p : List Int) : Int:=p.foldl (fun n y=>if y+1 > n then y+1 else n) 0
theorem topL_succ (p : List Int) {k : Nat} (h : k<p.length) : topL (p.take (k+1))=if p.getD k default+1 > topL (p.take k) then p.getD k default+1 else topL (p.take k):=by
 rw [topL,take_succ' p h,List.foldl_append]; rfl
theorem l22Top_ok (B : Nat) (p : List Int) (hp : ∀ y,y∈p→0≤y∧y<1048576) : Pur Tryz.prog B 96 [iL p] (.int .i64 (topL p)):=by
 refine ⟨fun H0=>c96 (by simp) fun ⟨hf,_⟩=>?_⟩
 have hl:=fine_mL_le hf;simp only [maxL] at hl;unfold s96;refine tt ?_;refine awp_for [0] (G:=Int) (fun k n=>[(3,some (.int .i64 n)),(4,some (.int .i64 (k : Int)))]) (fun k n H=>H=H0∧n=topL (p.take k)) p.length 0 ⟨rfl,rfl⟩ rfl ?_
 rintro k n H hk ⟨rfl,hn⟩;refine tt ?_;apply bk <;> intro h1
 ·refine tt ?_
  have h1p:=dd h1
  have w1:=wsucc (k:=k) (by omega)
  have hy:=hp _ (mem_getD.mpr ⟨k,h1p,rfl⟩)
  have w2 : IntKind.i64.wrap (p.getD k default+1)=p.getD k default+1:=wrap_i64 (by omega) (by omega);refine ⟨h1p, ?_⟩;try simp only [go_sem,↓reduceIte,reduceEqDiff,reduceAdd,reduceMul,reduceLeDiff,reduceLT,w1,w2]
  exact for_next _ (by omega) ⟨rfl,by rw [topL_succ p h1p,← hn]⟩ rfl
 ·refine tt ?_
  have h1p:=dd h1;exact pure_ret (by rw [hn,show k=p.length by omega,List.take_length]) (.refl _)
theorem topL_bd (p : List Int) (hp : ∀ y,y∈p→0≤y∧y<1048576) : 0≤topL p∧topL p≤1048576:=by
 have key : ∀ k,k≤p.length→0≤topL (p.take k)∧topL (p.take k)≤1048576:=by
  intro k
  induction k with
  | zero=>intro _; simp [topL]
  | succ k ih =>
   intro hk
   have:=ih (by omega)
   have hy:=hp _ (mem_getD.mpr ⟨k,by omega,rfl⟩);rw [topL_succ p (by omega)]
   split <;> omega
 have:=key p.length (Nat.le_refl _)
 rwa [List.take_length] at this
theorem l01Classes_ok (B : Nat) (l : List Int) (hl : l.length≤100000) (H0 : Heap) : CallH Tryz.prog B 265 [iL l] H0 (fun r H'=>H'=H0∧∃ p : List Int,p.length=l.length∧(∀ y,y∈p→0≤y∧y<1048576)∧r=iL p):=by
 refine c265p (by simp) fun _=>?_;unfold s265p;refine tt ?_;refine new_list iI (.nil _) fun id3 H o=>tt ?_;refine new_list iI o fun id4 H o=>tt ?_
 refine awp_for [0] (G:=(Nat × List Int) × (Nat × List Int)) (fun k g=>[(3,some (.buf g.1.1 g.1.2.length)),(4,some (.buf g.2.1 g.2.2.length)),(5,some (.int .i64 (k : Int)))])
  (fun k g H=>(g.1.2.length=k∧(∀ y,y∈g.1.2→0≤y∧y<1048576)∧g.2.2.length≤k)∧Owns H0 H [(g.2.1,.cells 1 (g.2.2.map iI) 0),(g.1.1,.cells 1 (g.1.2.map iI) 0)]) l.length ((id3,[]),(id4,[])) ⟨⟨rfl,by simp,by simp⟩,o⟩ rfl ?_
 rintro k ⟨⟨id3,out⟩,⟨id4,seen⟩⟩ H hk ⟨⟨hol,hoy,hsl⟩,o⟩;dsimp only at o hol hoy hsl;refine tt ?_;apply bk <;> intro h1
 ·refine tt ?_
  have h1p:=dd h1
  have w1:=wsucc (k:=k) (by omega);refine ⟨h1p,call_lent 0 rfl o rfl (.int _ _) (l01Index_ok ..).run ?_⟩
  have hb:=indexOf_bd seen (l.getD k default);refine tt ?_;apply bk <;> intro h2
  ·refine tt ?_
   have h2p:=dd h2;refine ⟨h1p, ?_⟩;refine app_own (l.getD k default) o rfl rfl (by simp only [maxL]; omega) fun id4 H o=>tt ?_;refine app_own ((seen.length : Nat) : Int) o.swap rfl rfl (by simp only [maxL]; omega) fun id3 H o=>?_;refine tw w1 ?_;refine for_next ((_,_),(_,_)) (by omega) ⟨⟨by simp [hol],fun y hy=>?_,by simp; omega⟩,o.swap⟩ rfl
   rcases List.mem_append.mp hy with hy | hy
   ·exact hoy y hy
   ·rw [List.mem_singleton] at hy; subst hy; omega
  ·refine tt ?_
   have h2p:=dd h2;refine app_own (indexOf seen (l.getD k default)) o.swap rfl rfl (by simp only [maxL]; omega) fun id3 H o=>?_;refine tw w1 ?_;refine for_next ((_,_),(_,_)) (by omega) ⟨⟨by simp [hol],fun y hy=>?_,by simp; omega⟩,o.swap⟩ rfl
   rcases List.mem_append.mp hy with hy | hy
   ·exact hoy y hy
   ·rw [List.mem_singleton] at hy; subst hy; omega
 ·refine tt ?_
  have h1p:=dd h1;refine fz_own o.swap rfl fun H o=>tt ?_;exact ⟨_,o.sub,rfl,out,by omega,hoy,rfl⟩
theorem l01Join_ok (B : Nat) (n : Nat) (hn : n≤100000) (ps : List (List Int)) (hp : ∀ q,q∈ps→2≤q.length∧(0≤q.getD 0 default∧(q.getD 0 default).toNat<n)∧(0≤q.getD 1 default∧(q.getD 1 default).toNat<n)) (H0 : Heap) :
  CallH Tryz.prog B 203 [.int .i64 n,iLL ps] H0 (fun r H'=>H'=H0∧∃ p : List Int,p.length=n∧(∀ y,y∈p→0≤y∧y<1048576)∧r=iL p):=by
 refine c203p (by simp) fun ⟨_,hf,_⟩=>?_
 have hl:=fine_mL_le hf;simp only [maxL] at hl;unfold s203p;refine tt ?_;refine new_list iI (.nil _) fun id H o=>tt ?_;refine awp_for [0,1] (G:=Nat × List Int) (fun k g=>[(5,some (.buf g.1 g.2.length)),(6,some (.int .i64 (k : Int)))]) (fun k g H=>g.2.length=k∧Owns H0 H [(g.1,.cells 1 (g.2.map iI) 0)]) n (id,[]) ⟨rfl,o⟩ rfl ?_
 rintro k ⟨id,A⟩ H hk ⟨hA,o⟩;dsimp only at hA;refine tt ?_;apply bk <;> intro h1
 ·refine tt ?_
  have h1p:=dd h1
  have w1:=wsucc (k:=k) (by omega);refine app_own (k : Int) o rfl rfl (by simp only [maxL]; omega) fun id H o=>?_;refine tw w1 ?_;exact for_next (_,_) (by omega) ⟨by simp [hA],o⟩ rfl
 ·refine tt ?_
  have h1p:=dd h1
  obtain rfl : k=n:=by omega
  refine awp_for [1,5] (fun q _=>[(7,some (.int .i64 (q : Int)))]) (fun q A H=>A.length=k∧Owns H0 H [(id,.cells 1 (A.map iI) 0)]) ps.length A ⟨hA,o⟩ rfl ?_
  rintro q A2 H hq ⟨hA2,o⟩;refine tt ?_;apply bk <;> intro h2
  ·refine tt ?_
   have h2p:=dd h2
   have w2:=wsucc (k:=q) (by omega)
   have hqq:=hp _ (mem_getD.mpr ⟨q,h2p,rfl⟩)
   have e0 : ix (ps.getD q default) 0=(ps.getD q default).getD 0 default:=rfl
   have e1 : ix (ps.getD q default) 1=(ps.getD q default).getD 1 default:=rfl;refine ⟨h2p,⟨by omega,Nat.lt_of_lt_of_le (by decide) hqq.1⟩,⟨by rw [e0]; omega,by rw [e0]; omega⟩,rd_own o (by rw [e0]; omega) ?_⟩;refine tt ?_;refine ⟨h2p,⟨by omega,Nat.lt_of_lt_of_le (by decide) hqq.1⟩,⟨by rw [e1]; omega,by rw [e1]; omega⟩,rd_own o (by rw [e1]; omega) ?_⟩;refine tt ?_;refine awp_for [1,5,7,8,9] (fun i _=>[(10,some (.int .i64 (i : Int)))]) (fun i A H=>A.length=k∧Owns H0 H [(id,.cells 1 (A.map iI) 0)]) k A2 ⟨hA2,o⟩ rfl ?_
   rintro i A3 H hi ⟨hA3,o⟩;rw [hA];refine tt ?_;apply bk <;> intro h3
   ·refine tw h3 ?_
    have h3p:=dd h3
    have w3:=wsucc (k:=i) (by omega);apply bk <;> intro h4
    ·refine tt ?_
     have h4p:=dd h4;refine ⟨h3p,rd_own o (by omega) ?_⟩;refine tt ?_;apply bk <;> intro h5
     ·refine tt ?_
      have h5p:=dd h5;refine ⟨h3p,set_own _ o rfl (by omega) fun H o=>?_⟩;refine tw w3 ?_;exact for_next _ (by omega) ⟨by rw [List.length_set]; exact hA3,o⟩ rfl
     ·refine tw w3 ?_;exact for_next _ (by omega) ⟨hA3,o⟩ rfl
    ·refine tw w2 ?_;exact for_next _ (by omega) ⟨hA3,o⟩ rfl
   ·try simp only [go_sem,↓reduceIte,reduceEqDiff,reduceAdd,reduceMul,reduceLeDiff,reduceLT,h3,w2]
    exact for_next _ (by omega) ⟨hA3,o⟩ rfl
  ·refine tt ?_
   have h2p:=dd h2;rw [hA,← hA2];refine fz_own o rfl fun H o=>tt ?_;refine (l01Classes_ok B A2 (by omega) H).mono ?_
   rintro r H' ⟨rfl,p,h3,h4,rfl⟩;refine tt ?_;exact ⟨_,o.sub,rfl,p,by omega,h4,rfl⟩
@[go_sem] def taskCells (sizes : List Int) (ls : List Lk) (at' : List (List Int)) (most : Nat) (X : AV) : List AV:=[iL sizes,mL lkE ls,iLL at',.int .i64 most,X]
theorem l22Choices_own (B : Nat) (sizes : List Int) (ls : List Lk) (at' : List (List Int)) (most : Nat) (X : AV) (ok : LksOk sizes ls) (ha : AtOk sizes ls at') (p : List Int) (hp : PartL sizes p) (n : Nat) (hn : n<p.length) (h1 : p.getD n default=-1) (H0 : Heap) :
  CallH Tryz.prog B 284 [.ptr (taskCells sizes ls at' most X),iL p,.int .i64 n] H0 (OwnK iI H0 [] (·=choices sizes ls p n)):=by
 refine c284p (by simp) fun ⟨hfT,_⟩=>?_
 have hfa : AV.fine (iLL at'):=hfT.ptr (by simp [taskCells])
 have hpl:=hp.1
 have hat:=ha.len
 have hanl : (at'.getD n default).length≤maxL:=fine_mL_le (by have:=fine_mL_ix (i:=(n : Int)) hfa (by rw [toNat_nat]; omega); rw [ix_nat] at this; exact this);simp only [maxL] at hanl
 have hsz:=ok.sz _ (mem_getD.mpr ⟨n,by omega,rfl⟩);unfold s284p;refine tt ?_;refine new_list iI (.nil _) fun id H o=>tt ?_;refine awp_for [0,1,2] (G:=Nat × List Int) (fun e g=>[(7,some (.buf g.1 g.2.length)),(8,some (.int .i64 (e : Int)))]) (fun e g H=>g.2=nats (chP ls p n) e∧Owns H0 H [(g.1,.cells 1 (g.2.map iI) 0)]) (sizes.getD n default).toNat (id,[]) ⟨by simp,o⟩ rfl ?_
 rintro e ⟨id,out⟩ H he ⟨hout,o⟩;dsimp only at hout
 have hol : out.length≤e:=by rw [hout]; exact nats_len _ _
 refine tt ?_;refine ⟨by omega, ?_⟩;apply bk <;> intro h2
 rotate_left
 ·refine tt ?_
  have h2p:=dd h2;exact own_ret o rfl (by rw [hout,show e=(sizes.getD n default).toNat by omega]; rfl)
 refine tt ?_
 have h2p:=dd h2
 have w1:=wsucc (k:=e) (by omega)
 generalize hat' : at'.getD n default=an at *;refine awp_for [0,1,2,7,8] (G:=Bool) (fun k b=>[(9,some (.bool b)),(10,some (.int .i64 (k : Int)))]) (fun k b H=>(b=true↔∀ j,j<k→Fits (p.set n e) (ix ls (an.getD j default)))∧Owns H0 H [(id,.cells 1 (out.map iI) 0)]) an.length true ⟨by simp,o⟩ rfl ?_
 rintro k b H hk ⟨hb,o⟩;refine tt ?_;refine ⟨by omega, ?_⟩;rw [hat']
 have fin : ∀ (b : Bool) (k : Nat) (H : Heap),Owns H0 H [(id,.cells 1 (out.map iI) 0)]→k≤an.length→(b=true↔∀ j,j<k→Fits (p.set n e) (ix ls (an.getD j default)))→(b=false∨k=an.length)→(chP ls p n e=b):=by
  intro b k H o hk hb hx
  have hc:=chP_at ha (p:=p) (e:=(e : Int)) (n:=n) (by omega);rw [hat'] at hc
  cases b with
  | true =>
   rw [chP,dec_iff,hc]
   have hk : k=an.length:=by rcases hx with h | h; cases h; exact h
   rw [← hk]; exact hb.mp rfl
  | false =>
   rw [chP,dec_niff,hc]
   intro h
   have:=hb.mpr fun j hj=>h j (by omega)
   cases this
 apply bk <;> intro h3
 rotate_left
 ·refine tw h3 ?_
  have h3p:=dd h3
  have hck:=fin b k H o hk hb (.inr (by omega));apply bk <;> intro h4
  ·refine tw h4 ?_;refine app_own (e : Int) o rfl rfl (by simp only [maxL]; omega) fun id H o=>?_;refine tw w1 ?_;exact for_next (_,_) (by omega) ⟨by rw [hout,nats_t (by rw [hck]; exact h4)],o⟩ rfl
  ·try simp only [go_sem,↓reduceIte,reduceEqDiff,reduceAdd,reduceMul,reduceLeDiff,reduceLT,h4,w1]
   exact for_next (_,_) (by omega) ⟨by rw [hout,nats_f (by rw [hck]; exact h4)],o⟩ rfl
 refine tw h3 ?_
 have h3p:=dd h3;apply bk <;> intro h4
 rotate_left
 ·try simp only [go_sem,↓reduceIte,reduceEqDiff,reduceAdd,reduceMul,reduceLeDiff,reduceLT,h4,w1]
  have hck:=fin b k H o hk hb (.inl h4);exact for_next (_,_) (by omega) ⟨by rw [hout,nats_f (by rw [hck]; exact h4)],o⟩ rfl
 refine tw h4 ?_
 have hball:=hb.mp h4
 have w3:=wsucc (k:=k) (by omega)
 have hy:=(ha.mem n (by omega) _).mp (by rw [hat']; exact mem_getD.mpr ⟨k,h3p,rfl⟩);refine ⟨by omega, ?_⟩;rw [hat'];refine tt ?_;refine ⟨h3p,⟨hy.1,hy.2.1⟩,by simp [maxL],newRef_own o fun id5 H o=>?_⟩;refine tt ?_;refine sw o fun H o=>tt ?_
 have hmem : ix ls (an.getD k default)∈ls:=ix_mem hy.2.1
 have hti : (ix ls (an.getD k default)).i=n∨(ix ls (an.getD k default)).j=n:=hy.2.2
 have next : ∀ (b2 : Bool),(b2=true↔Fits (p.set n e) (ix ls (an.getD k default)))→(b2=true↔∀ j,j<k+1→Fits (p.set n e) (ix ls (an.getD j default))) :=
  fun b2 h=>h.trans ⟨fun hf=>lt_succ_all hball hf,fun h=>h k (by omega)⟩
 generalize ix ls (an.getD k default)=lk at *
 have bi:=ok.i lk hmem
 have bj:=ok.j lk hmem
 have bl:=ok.left lk hmem
 have br:=ok.right lk hmem
 have pv : ∀ i : Int,i.toNat<p.length→0≤ix p i→ix p i<ix sizes i:=fun i hi h0=>by
  rcases hp.2 _ hi with h | h
  ·simp only [ix] at h0; omega
  ·exact h.2
 have szn : ix sizes (n : Int)=sizes.getD n default:=ix_nat _ _;refine rd_cells o (by simp) ?_;refine tt ?_;apply bk <;> intro c1
 ·refine tw c1 ?_
  have c1p:=of_decide c1;refine rd_cells o (by simp) ?_;refine tt ?_;apply bk <;> intro c2
  ·refine tt ?_
   have c2p:=of_decide c2;refine rd_cells o (by simp) ?_;refine tt ?_;rw [c1p,szn] at bl;rw [c2p,szn] at br;refine ⟨by omega,rd_cells o (by simp) ?_⟩;refine tt ?_;refine ⟨by omega, ?_⟩;refine tw w3 ?_;refine for_next _ (by omega) ⟨next _ ?_,o.tl⟩ rfl;rw [decide_eq_true_eq,fits_A c1p c2p hn (by omega),ix_nat,ix_nat]
  ·refine tt ?_
   have c2p:=of_ndecide c2;refine rd_cells o (by simp) ?_;refine tw c1 ?_;refine rd_cells o (by simp) ?_;refine tt ?_;refine ⟨⟨bj.1,by omega⟩, ?_⟩;apply bk <;> intro c3
   ·refine tt ?_
    have c3p:=of_decide c3;refine rd_cells o (by simp) ?_;refine tt ?_;rw [c1p,szn] at bl
    have:=pv _ (by omega) c3p;refine ⟨by omega,rd_cells o (by simp) ?_⟩;refine tt ?_;refine rd_cells o (by simp) ?_;refine tt ?_;refine ⟨⟨bj.1,by omega⟩,⟨c3p,by omega⟩, ?_⟩;refine tw w3 ?_;refine for_next _ (by omega) ⟨next _ ?_,o.tl⟩ rfl;rw [decide_eq_true_eq,fits_B c1p c2p bj.1 hn (by omega) c3p,ix_nat]
   ·refine tt ?_
    have c3p:=of_ndecide c3;refine rd_cells o (by simp) ?_;refine tw c2 ?_;refine for_next _ (by omega) ⟨next _ ?_,o.tl⟩ (by rw [w3]);exact ⟨fun _=>fits_B' c2p bj.1 c3p,fun _=>rfl⟩
 ·refine tw c1 ?_
  have c1p:=of_ndecide c1
  have c2p:=hti.resolve_left c1p;refine rd_cells o (by simp) ?_;refine tw c1 ?_;refine rd_cells o (by simp) ?_;refine tt ?_;apply bk <;> intro c2
  rotate_left
  ·exact absurd c2p (of_ndecide c2)
  refine tw c2 ?_;refine rd_cells o (by simp) ?_;refine tt ?_;refine ⟨⟨bi.1,by omega⟩, ?_⟩;apply bk <;> intro c3
  ·refine tt ?_
   have c3p:=of_decide c3;refine rd_cells o (by simp) ?_;refine tt ?_;refine rd_cells o (by simp) ?_;refine tt ?_;rw [c2p,szn] at br
   have:=pv _ (by omega) c3p;refine ⟨⟨bi.1,by omega⟩,⟨c3p,by omega⟩,rd_cells o (by simp) ?_⟩;refine tt ?_;refine ⟨by omega, ?_⟩;refine tw w3 ?_;refine for_next _ (by omega) ⟨next _ ?_,o.tl⟩ rfl;rw [decide_eq_true_eq,fits_C c2p c1p bi.1 hn (by omega) c3p,ix_nat]
  ·refine tt ?_
   have c3p:=of_ndecide c3;refine for_next _ (by omega) ⟨next _ ?_,o.tl⟩ (by rw [w3]);exact ⟨fun _=>fits_C' c1p bi.1 c3p,fun _=>rfl⟩
end Go.Proofs.Shf
namespace Go.AW
open Go.Proofs Go.Shf Go.Proofs.Shf
theorem CallH.lentOwn {P : Program} {α : Type} {f : α→AV} {B : Nat} {fn : FuncId} {args es : List AV} {H0 H : Heap} {base : List (Nat × MObj)} {Q : List α→Prop} {K : Kont} (o : Owns H0 H base) (hio : ∀ a,IoOnly (f a)) (hl : es.length=args.length)
  (ht : ∀ i,i<args.length→∀ g w v,WRel g B H w→VRel g (args.getD i nv) v→VRel (g.lend H w) (es.getD i nv) v)
  (h : CallH P B fn es H.frz (OwnK f H.frz [] Q)) (hk : ∀ id A H',Owns H0 H' ((id,.cells 1 (A.map f) 0)::base)→Q A→K (.buf id A.length) H') : CallH P B fn args H K :=
 CallH.borrow hl ht h fun r H' ⟨id,A,e,o',q⟩=>⟨[(id,.cells 1 (A.map f) 0)],o',fun x hx=>by
   rw [List.mem_singleton] at hx; subst hx
   intro c hc
   obtain ⟨a,_,rfl⟩:=List.mem_map.mp hc;exact hio a,e ▸ IoOnly.buf _ _,fun hn=>by subst e; exact hk id A _ (o.trans (Owns.frz o' hn)) q⟩
end Go.AW
namespace Go.Proofs.Shf
open Go.AW Go.Proofs Go.Shf
theorem l22Go_own (B : Nat) (sizes : List Int) (ls : List Lk) (at' : List (List Int)) (most : Nat) (hmost : most≤1048576) (ok : LksOk sizes ls) (ha : AtOk sizes ls at') (hsl : sizes.length≤1048576) :
  ∀ (n : Nat) (p : List Int),unset p=n→PartL sizes p→Cons ls p→∀ (H0 H : Heap) (l : List (Nat × MObj)) (idT : Nat) (X : AV) (found : List (List Int)),
   LsO iL H0 H ((idT,.cells 5 (taskCells sizes ls at' most X) 0)::l) X found→found.length<most →
   CallH Tryz.prog B 252 [.ref idT 0,iL p] H (fun r H'=>r=.tup []∧∃ X',LsO iL H0 H' ((idT,.cells 5 (taskCells sizes ls at' most X') 0)::l) X' (found++(exS sizes ls p).take (most - found.length))):=by
 intro n
 induction n using Nat.strongRecOn with
 | _ n ih =>
 intro p hn hp hc H0 H l idT X found hX hfl;refine c252p (by simp) fun _=>?_
 have hpl:=hp.1
 obtain ⟨pp,o,hpp⟩:=hX.split;clear hX;unfold s252p;refine tt ?_;refine new_list iI o fun idc H o=>?_
 have wl : IntKind.i64.wrap ((p.length : Int) - 1)=(p.length : Int) - 1:=wrap_i64 (by omega) (by omega);refine tw wl ?_
 refine awp_while [0,1] (fun (g : (Nat × List Int) × Nat × Int)=>[(4,some (.int .i64 g.2.2)),(5,some (.buf g.1.1 g.1.2.length)),(6,some (.int .i64 ((g.2.1 : Int) - 1)))])
  (fun k g H=>k=g.2.1∧k≤p.length∧GoA sizes ls p g.2.1 g.2.2 g.1.2∧Owns H0 H ((g.1.1,.cells 1 (g.1.2.map iI) 0)::(pp++((idT,.cells 5 (taskCells sizes ls at' most X) 0)::l)))) p.length ((idc,[]),p.length,-1)
  ⟨rfl,Nat.le_refl _,.inl ⟨rfl,rfl,fun m h1 h2=>by have h1 : p.length≤m:=h1; omega⟩,o⟩ rfl ?_
 rintro k ⟨⟨idc,ch⟩,k',first⟩ H ⟨hk1,hk,hg,o⟩
 obtain rfl : k=k':=hk1;dsimp only at hg o;refine tt ?_;apply bk <;> intro h1
 ·refine tt ?_
  have h1p:=of_decide h1
  obtain ⟨m,rfl⟩ : ∃ m,k=m+1:=⟨k - 1,by omega⟩
  have e1 : ((m+1 : Nat) : Int) - 1=(m : Int):=by omega
  have wm : IntKind.i64.wrap ((m : Int) - 1)=(m : Int) - 1:=wrap_i64 (by omega) (by omega);refine tw e1 ?_;refine ⟨by omega, ?_⟩;apply bk <;> intro h2
  ·refine tt ?_
   have h2p:=of_decide h2;refine CallH.lentOwn (f:=iI) (Q:=(·=choices sizes ls p m)) (es:=[.ptr (taskCells sizes ls at' most X),iL p,.int .i64 m]) o (fun _=>.int _ _) rfl (fun i hi=>?_) (l22Choices_own B sizes ls at' most X ok ha p hp m (by omega) h2p H.frz) ?_
   ·obtain rfl | rfl | rfl : i=0∨i=1∨i=2:=by simp only [List.length_cons,List.length_nil] at hi; omega
    ·have hg : H.get idT=some (.cells 5 (taskCells sizes ls at' most X) 0):=o.get (idT,_) (by simp);exact (Tr.ref idT 5 0 _ _ hg rfl fun i _=>.val _).arg
    ·exact val_arg _
    ·exact val_arg _
   rintro id2 ch2 H o rfl;refine tt ?_;apply bk <;> intro h3
   ·refine tt ?_
    have h3p:=of_decide h3
    have hnil : choices sizes ls p m=[]:=List.eq_nil_of_length_eq_zero (by omega);refine ⟨_,.refl _,rfl,X, ?_⟩;rw [exS_eq (lex_prune ok hpl (by omega) h2p hnil),List.take_nil,List.append_nil];exact LsO.mk o.tl.tl hpp
   ·refine tw wm ?_
    have h3p:=of_ndecide h3;refine while_next m ((_,_),m,_) (by omega) ⟨rfl,by omega,GoA.hit (by omega) h2p fun e=>h3p (by rw [e]; rfl),o.swap.tl⟩ rfl
  ·refine tw wm ?_
   have h2p:=of_ndecide h2;exact while_next m ((_,_),m,_) (by omega) ⟨rfl,by omega,hg.skip h2p,o⟩ rfl
 ·refine tt ?_
  have h1p:=of_ndecide h1
  obtain rfl : k=0:=by omega
  apply bk <;> intro h5
  ·have h5p:=of_decide h5
   rcases hg with ⟨rfl,rfl,hall⟩ | ⟨f,rfl,_⟩
   rotate_left
   ·omega
   refine tt ?_
   have hleaf:=lex_full (sizes:=sizes) hc fun m hm=>hall m (by omega) hm
   have hX:=LsO.mk o.tl hpp;refine rd_get hX.obj (by simp [taskCells]) ?_;refine tt ?_;refine ⟨_,(l01Own_ok B p).run,tt ?_⟩;refine hX.app p rfl (by simp only [maxL]; omega) fun id2 H o=>tt ?_;refine st_cells o.swap (by simp [taskCells]) rfl (by simp only [memcons,memnil]; exact ⟨rfl,trivial⟩) fun H o=>?_;simp only [wr_cons,wr_nil,List.set_cons_zero,List.set_cons_succ] at o;refine tt ?_;refine ⟨_,.refl _,rfl,.buf id2 (found++[p]).length,.inr ⟨id2, ?_, ?_⟩⟩
   ·rw [exS_eq hleaf,List.take_of_length_le (by simp; omega)]
   ·rw [exS_eq hleaf,List.take_of_length_le (by simp; omega)]; exact o.swap
  ·have h5p:=of_ndecide h5
   rcases hg with ⟨rfl,rfl,hall⟩ | ⟨f,rfl,_,hfl2,hf1,hfm,rfl,hne⟩
   ·omega
   refine tt ?_
   have hcl : (choices sizes ls p f).length≤4096:=by
    have:=nats_len (chP ls p f) (sizes.getD f default).toNat
    have h2:=ok.sz _ (mem_getD.mpr ⟨f,by omega,rfl⟩);rw [choices]; omega
   have hstep:=exS_step ok hp hc hfl2 hf1 fun m hm=>hfm m (by omega) hm
   generalize hch : choices sizes ls p f=ch at *
   have hchm : ∀ e,e∈ch→(0≤e∧e<sizes.getD f default)∧ChP ls p f e:=fun e he=>mem_choices.mp (by rw [hch]; exact he)
   have hX0:=LsO.mk (l:=(idT,MObj.cells 5 (taskCells sizes ls at' most X) 0)::((idc,MObj.cells 1 (ch.map iI) 0)::l)) (X:=X) (A:=found) (f:=iL) (p:=pp) (o.perm (((List.perm_middle (a:=(idc,MObj.cells 1 (ch.map iI) 0)) (l₁:=pp)).symm).trans (List.Perm.append_left _ (List.Perm.swap _ _ _)))) hpp
   have hm0 : (most - found.length)+found.length=most:=by omega
   refine awp_for [0,1,4,5] (fun k _=>[(7,some (.int .i64 (k : Int)))]) (fun k X H=>LsO iL H0 H ((idT,.cells 5 (taskCells sizes ls at' most X) 0)::((idc,.cells 1 (ch.map iI) 0)::l)) X (found++((ch.take k).flatMap fun e=>exS sizes ls (p.set f e)).take (most - found.length))) ch.length X (by simpa using hX0) rfl ?_
   rintro k X H hk hX
   have hend : ∀ X H,LsO iL H0 H ((idT,.cells 5 (taskCells sizes ls at' most X) 0)::((idc,.cells 1 (ch.map iI) 0)::l)) X (found++(exS sizes ls p).take (most - found.length)) →
     ∃ X',LsO iL H0 H ((idT,.cells 5 (taskCells sizes ls at' most X') 0)::l) X' (found++(exS sizes ls p).take (most - found.length)):=by
    intro X H hX
    obtain ⟨q,o,hq⟩:=hX.split;refine ⟨X,LsO.mk (p:=q) ?_ hq⟩
    have o2:=o.perm ((List.Perm.append_left q (List.Perm.swap _ _ l)).trans (List.perm_middle (a:=(idc,MObj.cells 1 (ch.map iI) 0)) (l₁:=q)));exact o2.tl
   refine tt ?_;apply bk <;> intro h2
   rotate_left
   ·refine tw h2 ?_
    have h2p:=of_ndecide h2
    obtain rfl : k=ch.length:=by omega
    rw [List.take_length,← hstep] at hX;exact ⟨_,.refl _,rfl,hend _ _ hX⟩
   refine tw h2 ?_
   have h2p:=of_decide h2
   have w2:=wsucc (k:=k) (by omega);refine rd_get hX.obj (by simp [taskCells]) ?_;refine tt ?_;rw [hX.lenE];refine tt ?_;refine rd_get hX.obj (by simp [taskCells]) ?_;refine tt ?_;apply bk <;> intro h3
   rotate_left
   ·refine tt ?_
    have h3p:=of_ndecide h3;refine ⟨H,.refl _,rfl,hend X H ?_⟩
    have e : ((ch.take k).flatMap fun e=>exS sizes ls (p.set f e)).take (most - found.length)=(exS sizes ls p).take (most - found.length):=by
     rw [hstep]
     conv=>rhs; rw [← List.take_append_drop k ch,List.flatMap_append]
     rw [List.take_append_of_le_length];rw [List.length_append,List.length_take] at h3p;omega
    rw [← e]; exact hX
   refine tt ?_
   have h3p:=of_decide h3
   obtain ⟨q,o,hq⟩:=hX.split;refine (l01Own_own B p H0 H _ o).own ?_
   rintro id8 A8 H o rfl;refine tt ?_
   have hgc : H.get idc=some (.cells 1 (ch.map iI) 0):=o.get (idc,.cells 1 (ch.map iI) 0) (by simp);refine ⟨h2p,rd_inner hgc h2p ?_⟩;refine tt ?_;refine ⟨by omega,set_own (ch.getD k default) o rfl (by omega) fun H o=>?_⟩;refine tt ?_;refine call_fz 1 rfl o (by rw [List.length_set]) fun H o=>?_;simp only [List.set_cons_succ,List.set_cons_zero]
   have hce:=hchm _ (mem_getD.mpr ⟨k,h2p,rfl⟩)
   have hlt : ((ch.take k).flatMap fun e=>exS sizes ls (A8.set f e)).length<most - found.length:=by
    rw [List.length_append,List.length_take] at h3p; omega
   refine (ih _ (hn ▸ unset_set hfl2 hf1 hce.1.1) _ rfl (hp.set hce.1) (cons_set ok hc hce.2) H0 H _ idT X _ (LsO.mk o hq) h3p).mono ?_
   rintro r H' ⟨rfl,X',hX'⟩;refine tw w2 ?_;refine for_next X' (by omega) ?_ rfl
   have e : found++((ch.take (k+1)).flatMap fun e=>exS sizes ls (A8.set f e)).take (most - found.length) =
     (found++((ch.take k).flatMap fun e=>exS sizes ls (A8.set f e)).take (most - found.length))++(exS sizes ls (A8.set f (ch.getD k default))).take (most - (found++((ch.take k).flatMap fun e=>exS sizes ls (A8.set f e)).take (most - found.length)).length):=by
    rw [take_succ' ch h2p,List.flatMap_append,List.flatMap_singleton,← take_flat _ _ _ hlt,List.append_assoc,List.length_append]
    congr 3
    omega
   rw [e]; exact hX'
def pairOf (l : Lk) : List Int:=[l.i,l.j]
theorem l22Solve_ok (B : Nat) (sizes : List Int) (ls : List Lk) (most : Nat) (hm0 : 0<most) (hmost : most≤1048576) (ok : LksOk sizes ls) (hsl : sizes.length≤40) (hll : ls.length≤1600) :
  Pur Tryz.prog B 171 [iL sizes,mL lkE ls,.int .i64 most] (iLL ((solS sizes ls).take most)):=by
 refine ⟨fun H0=>c171p (by simp) fun _=>?_⟩;unfold s171p;refine tt ?_;refine ⟨⟨by omega,by simp only [maxL]; omega⟩, ?_⟩;rw [rep_one];refine newBuf_own (.nil _) fun id8 H o=>tt ?_
 refine awp_for [0,1,2,8] (G:=(AV × List (List Int)) × List AV × List (List Int) × List (Nat × MObj)) (fun k g=>[(7,some g.1.1),(9,some (.int .i64 (k : Int)))])
  (fun k g H=>EmO iL H0 H ((id8,.cells 1 g.2.1 0)::g.2.2.2) g.1.1 g.1.2∧LsR iI g.2.1 g.2.2.1 g.2.2.2∧g.1.2=(ls.take k).map pairOf∧AtI sizes.length ls k g.2.2.1) ls.length ((.emsl,[]),(List.replicate sizes.length .nilsl,List.replicate sizes.length [],[]))
  ⟨.inl ⟨rfl,rfl,o⟩,LsR.rep iI _,by simp,AtI.zero _ _⟩ rfl ?_
 rintro k ⟨⟨Xp,P⟩,Xs,As,ob⟩ H hk ⟨hE,hR,hP,hA⟩;dsimp only at hE hR hP hA
 have hXl:=hR.len
 have hAl:=hA.len
 have hPl : P.length=k:=by rw [hP]; simp; omega
 refine tt ?_;apply bk <;> intro h1
 ·refine tt ?_
  have h1p:=of_decide h1
  have w1:=wsucc (k:=k) (by omega)
  have hmem : ls.getD k default∈ls:=mem_getD.mpr ⟨k,h1p,rfl⟩
  have bi:=ok.i _ hmem
  have bj:=ok.j _ hmem;refine ⟨h1p,h1p, ?_⟩;refine hE.app (f:=iL) (pairOf (ls.getD k default)) rfl (by simp only [maxL]; omega) fun idp H o=>tt ?_
  obtain ⟨i,hi⟩ : ∃ i : Nat,(ls.getD k default).i=i:=⟨(ls.getD k default).i.toNat,by omega⟩
  obtain ⟨j,hj⟩ : ∃ j : Nat,(ls.getD k default).j=j:=⟨(ls.getD k default).j.toNat,by omega⟩
  have hstep:=hA.step (i:=i) (j:=j) (by omega) (by omega) hi hj
  have hPs : P++[pairOf (ls.getD k default)]=(ls.take (k+1)).map pairOf:=by rw [take_map_succ ls pairOf h1p,hP]
  refine ⟨bi,rd_get o.tl.h0 (by omega) ?_⟩;refine tt ?_
  refine rows_app (l:=[(idp,.cells 1 ((P++[pairOf (ls.getD k default)]).map iL) 0)]) (o.perm ((List.Perm.swap _ _ _).trans (List.Perm.cons _ (List.perm_append_singleton _ _).symm))) hR (by omega) (k : Int) rfl
   (by have:=hA.lens (ls.getD k default).i.toNat bi.2; simp only [maxL]; omega) fun X' o' H hX1 hR o=>?_
  try simp only [go_sem,↓reduceIte,reduceEqDiff,reduceAdd,reduceMul,reduceLeDiff,reduceLT,AV.cells_one hX1]
  refine ⟨bi,st_cells o (by omega) rfl (by simp only [memcons,memnil]; exact ⟨hX1,trivial⟩) fun H o=>?_⟩;simp only [wr_cons,wr_nil] at o;refine tt ?_
  have hperm : ∀ {Xs : List AV} {o' : List (Nat × MObj)} {H : Heap},Owns H0 H ((id8,.cells 1 Xs 0)::(o'++[(idp,.cells 1 ((P++[pairOf (ls.getD k default)]).map iL) 0)]))→EmO iL H0 H ((id8,.cells 1 Xs 0)::o') (.buf idp (P++[pairOf (ls.getD k default)]).length) (P++[pairOf (ls.getD k default)]):=by
   intro Xs o' H o;exact .inr ⟨idp,rfl,o.perm (List.perm_append_singleton (idp,MObj.cells 1 ((P++[pairOf (ls.getD k default)]).map iL) 0) ((id8,MObj.cells 1 Xs 0)::o'))⟩
  rw [hi] at hR o;rw [Int.toNat_natCast] at hR o;apply bk <;> intro h2
  ·refine tt ?_
   have h2p : ¬ i=j:=fun e=>by rw [hi,hj,e] at h2; simp at h2
   rw [if_neg h2p] at hstep
   have hl2 : ((As.set i (As.getD i []++[(k : Int)])).getD j []).length≤1601:=by
    have:=hstep.lens j (by omega);rw [getD_set,if_pos ⟨rfl,by rw [List.length_set]; omega⟩,List.length_append] at this;omega
   refine ⟨bj,rd_get o.h0 (by rw [List.length_set]; omega) ?_⟩;refine tt ?_;refine rows_app o hR (by rw [List.length_set]; omega) (k : Int) rfl (by simp only [maxL]; rw [hj,Int.toNat_natCast]; omega) fun X2 o2 H hX2 hR o=>?_;try simp only [go_sem,↓reduceIte,reduceEqDiff,reduceAdd,reduceMul,reduceLeDiff,reduceLT,AV.cells_one hX2]
   refine ⟨bj,st_cells o (by rw [List.length_set]; omega) rfl (by simp only [memcons,memnil]; exact ⟨hX2,trivial⟩) fun H o=>?_⟩;simp only [wr_cons,wr_nil] at o;rw [hj] at hR o;rw [Int.toNat_natCast] at hR o;refine tw w1 ?_;exact for_next ((_,_),(_,_,_)) (by omega) ⟨hperm o,hR,hPs,hstep⟩ rfl
  ·refine tw w1 ?_
   have h2p : i=j:=by
    rw [hi,hj] at h2
    have : (i : Int)=j:=by simpa using h2
    omega
   rw [if_pos h2p] at hstep;exact for_next ((_,_),(_,_,_)) (by omega) ⟨hperm o,hR,hPs,hstep⟩ rfl
 ·refine tt ?_
  have h1p:=of_ndecide h1
  obtain rfl : k=ls.length:=by omega
  rw [List.take_length] at hP
  have hAt:=hA.ok
  obtain ⟨ope,hpe⟩ : ∃ q,q=ob:=⟨_,rfl⟩;refine wk_slot 7 hE rfl fun H o=>?_;refine wk_rows (l:=[]) hR [] H (by simpa using o) fun H o=>wkW_done ?_;rw [List.nil_append] at o
  have e8 : sizes.length=As.length:=hAl.symm;refine tt ?_;rw [e8];refine fz_own o rfl fun H o=>?_;rw [hAl];refine tt ?_;refine (l01Join_ok B sizes.length (by omega) P (fun q hq=>?_) H).mono ?_
  ·rw [hP] at hq
   obtain ⟨l,hl,rfl⟩:=List.mem_map.mp hq;exact ⟨by simp [pairOf],ok.i l hl,ok.j l hl⟩
  rintro r H' ⟨rfl,parts,hpl,hpb,rfl⟩;refine tt ?_
  have htb:=topL_bd parts hpb;refine awp_for [0,1,2,8,12] (fun q _=>[(13,some (.int .i64 (q : Int)))]) (fun q _ H=>Owns H0 H []) (topL parts).toNat () o rfl ?_
  rintro q _ H hq o;refine tt ?_;refine (l22Top_ok B parts hpb).go fun _=>tt ?_;apply bk <;> intro h2
  ·refine tt ?_
   have h2p:=of_decide h2
   have w2:=wsucc (k:=q) (by omega);refine new_list iI o fun id H o=>tt ?_;refine awp_for [0,1,2,8,12,13] (G:=Nat × List Int) (fun n g=>[(14,some (.buf g.1 g.2.length)),(15,some (.int .i64 (n : Int)))]) (fun n g H=>(g.2.length=n∧∀ m,m<n→g.2.getD m default=-1∨g.2.getD m default=-2)∧Owns H0 H [(g.1,.cells 1 (g.2.map iI) 0)]) sizes.length (id,[]) ⟨⟨rfl,by simp⟩,o⟩ rfl ?_
   rintro n ⟨id,list⟩ H hn ⟨⟨hll2,hlv⟩,o⟩;dsimp only at o hll2 hlv
   have hlast : ∀ (y : Int),y=-1∨y=-2→∀ m,m<n+1→(list++[y]).getD m default=-1∨(list++[y]).getD m default=-2:=by
    intro y hy m hm;rw [List.getD_eq_getElem?_getD,List.getElem?_append]
    split
    ·have:=hlv m (by omega); rwa [List.getD_eq_getElem?_getD] at this
    ·rw [show m - list.length=0 by omega]; simpa using hy
   refine tt ?_;apply bk <;> intro h3
   ·refine tt ?_
    have h3p:=of_decide h3
    have w3:=wsucc (k:=n) (by omega);refine ⟨by omega, ?_⟩;apply bk <;> intro h4
    ·refine tt ?_;refine app_own (-1 : Int) o rfl rfl (by simp only [maxL]; omega) fun id H o=>?_;refine tw w3 ?_;exact for_next (_,_) (by omega) ⟨⟨by simp [hll2],hlast _ (.inl rfl)⟩,o⟩ rfl
    ·refine tt ?_;refine app_own (-2 : Int) o rfl rfl (by simp only [maxL]; omega) fun id H o=>?_;refine tw w3 ?_;exact for_next (_,_) (by omega) ⟨⟨by simp [hll2],hlast _ (.inr rfl)⟩,o⟩ rfl
   ·refine tt ?_
    have h3p:=of_ndecide h3
    obtain rfl : n=sizes.length:=by omega
    refine nb o fun idT H o=>tt ?_;refine call_fz 1 rfl o.swap rfl fun H o=>?_;simp only [List.set_cons_succ,List.set_cons_zero]
    have hq1 : PartL sizes list:=⟨hll2,fun m hm=>.inl (by have:=hlv m (by omega); omega)⟩
    have hq2 : Cons ls list:=cons_neg ok hll2 fun m hm=>by have:=hlv m (by omega); omega
    refine (l22Go_own B sizes ls As 1 (by omega) ok hAt (by omega) _ list rfl hq1 hq2 H0 H [] idT .nilsl [] (.inl ⟨rfl,rfl,o⟩) (by simp)).mono ?_
    rintro r H' ⟨rfl,X',hX'⟩;rw [List.nil_append] at hX';refine tt ?_;refine rd_get hX'.obj (by simp [taskCells]) ?_;refine tt ?_;rw [hX'.lenE];refine tt ?_;apply bk <;> intro h5
    ·refine tt ?_
     have h5p:=of_decide h5
     have hnil : exS sizes ls list=[]:=by
      cases he : exS sizes ls list with
      | nil=>rfl
      | cons a r=>rw [he] at h5p; simp at h5p
     refine new_list iL (Owns.nil _) fun id2 H2 o2=>tt ?_;refine fz_own o2 rfl fun H2 o2=>tt ?_
     have hsub : H0.sub H':=by obtain ⟨_,oo,_⟩:=hX'.split; exact oo.sub
     refine pure_ret ?_ (hsub.trans o2.sub)
     have hno : solS sizes ls=[]:=by
      refine exS_eq (lex_none fun t ht=>?_)
      obtain ⟨u,hu⟩:=ht.part hll2 (fun m hm=>hlv m (by omega)) ok
      have:=((exS_is ok hq1 hq2).mem u).mpr hu;rw [hnil] at this; simp at this
     rw [hno,List.take_nil]
    ·refine tw w2 ?_
     obtain ⟨_,oo,_⟩:=hX'.split;exact for_next () (by omega) ⟨oo.sub,by simp,by simp,by simp⟩ rfl
  ·refine tt ?_
   have h2p:=of_ndecide h2;refine new_list iL o fun idf H o=>tt ?_;refine nb o fun idT H o=>tt ?_;refine (l22Repeat_ok B (-1) sizes.length (by omega)).go fun _=>tt ?_
   have hrep : ∀ m,m<(List.replicate sizes.length (-1 : Int)).length→(List.replicate sizes.length (-1 : Int)).getD m default<0:=fun m hm=>by
    rw [List.length_replicate] at hm
    simp [List.getD_eq_getElem?_getD,hm]
   have hq1 : PartL sizes (List.replicate sizes.length (-1)):=⟨by simp,fun m hm=>.inl (hrep m hm)⟩
   have hq2 : Cons ls (List.replicate sizes.length (-1)):=cons_neg ok (by simp) hrep;refine (l22Go_own B sizes ls As most hmost ok hAt (by omega) _ _ rfl hq1 hq2 H0 H [] idT (.buf idf 0) [] (.inr ⟨idf,rfl,o.swap⟩) (by simpa using hm0)).mono ?_
   rintro r H' ⟨rfl,X',hX'⟩;rw [List.nil_append,List.length_nil,Nat.sub_zero] at hX';refine tt ?_;refine rd_get hX'.obj (by simp [taskCells]) ?_;refine tt ?_
   rcases hX' with ⟨rfl,hl,o⟩ | ⟨id,rfl,o⟩
   ·refine tt ?_;exact pure_ret (by rw [show (solS sizes ls).take most=[] from hl]; rfl) o.sub
   ·refine tt ?_;refine fz_own o rfl fun H o=>tt ?_;exact pure_ret rfl o.sub
end Go.Proofs.Shf
