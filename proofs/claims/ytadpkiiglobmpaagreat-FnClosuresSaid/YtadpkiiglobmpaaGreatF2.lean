/- Contracts, part 2. -/
import Derived.Test.YtadpkiiglobmpaaGreatF1
set_option linter.unusedVariables false
set_option linter.unusedSimpArgs false
set_option linter.unusedSectionVars false
open Nat (reduceEqDiff reduceAdd reduceMul reduceLeDiff reduceLT)
namespace Go.Proofs.Shf
open Go.AW Go.Proofs Go.Shf
theorem l27Is_ok (B : Nat) (c : Cat) (L : List (List (List Int))) (t : TabOk c L) (M : List (List Bool)) (hM : MarkOk L M) : Pur Tryz.prog B 309 [.agg (tabCells c L),bLL M] (.bool (dec (TopM c L M))) := by
 refine ⟨fun H0 => c309 (by simp) fun ⟨_,hfM,_⟩ => ?_⟩
 have hml := hM.len
 have hob := t.is.1.o
 have hlo := t.len;unfold s309;refine tt ?_;refine new_list (bufE (α := Bool)) (.nil _) fun id H o => tt ?_;refine awp_for [1,2] (G := Nat × List (Nat × List Bool)) (fun k g => [(5,some (.buf g.1 g.2.length)),(6,some (.int .i64 (k : Int)))]) (fun k g H => g.2.map Prod.snd = M.take k ∧ Owns H0 H ((g.1,.cells 1 (g.2.map bufE) 0) :: (inner AV.bool g.2 ++ []))) M.length (id,[]) ⟨by simp,o⟩ rfl ?_
 rintro k ⟨id,ms⟩ H hk ⟨hms,o⟩;dsimp only at hms o
 have hmk : ms.length = k := by have := congrArg List.length hms; rw [List.length_map,List.length_take] at this; omega
 refine tt ?_;apply bk <;> intro h1
 ·refine tt ?_
  have h1p := dd h1
  have w1 := wsucc (k := k) (by omega)
  have hrow := hM.row k (by omega)
  have hfew := t.few k (by omega);refine new_list AV.bool o fun idr H o => tt ?_;refine ⟨h1p, ?_⟩;refine app_list (f := AV.bool) o rfl (by simp only [maxL,List.length_nil]; omega) fun idr H o => ?_;rw [List.nil_append] at *;refine tt ?_;refine app_own (f := bufE) (idr,M.getD k default) o.swap rfl rfl (by simp only [maxL]; omega) fun id H o => ?_;refine tw w1 ?_;refine for_next (_,_) (by omega) ⟨by rw [List.map_append,hms,take_succ' M h1p]; rfl,o.perm ?_⟩ rfl;refine List.Perm.cons _ ?_;rw [inner,inner,List.map_append,List.append_nil,List.append_nil];exact (List.perm_append_comm (l₁ := [_])).trans (by simp)
 ·refine tt ?_
  have h1p := dd h1
  obtain rfl : k = M.length := by omega
  rw [List.take_length] at hms;refine (l27Step_ok B c L t ms (by rw [hms]; exact hM) id H0 H [] o).mono ?_
  rintro r H' ⟨rfl,rfl⟩;refine tt ?_;refine pure_ret ?_ (.refl _);rw [hms]
  congr 1
  by_cases h : TopM c L M
  ·rw [dec_t h,dec_f (by simpa using h)]; rfl
  ·rw [dec_f h,dec_t h]; rfl
theorem l27Marks_ok (B : Nat) (c : Cat) (L : List (List (List Int))) (t : TabOk c L) (C : List (List (List Int))) (hC : C.length = L.length) (hm : ∀ x : Nat,x < L.length → ∀ s,s ∈ C.getD x default → s ∈ L.getD x default) :
  Pur Tryz.prog B 345 [.agg (tabCells c L),iLLL C] (bLL (marksOf L C)) := by
 refine ⟨fun H0 => c345p (by simp) fun ⟨_,hfC,_⟩ => ?_⟩
 have hob := t.is.1.o
 have hlo := t.len;unfold s345p;refine tt ?_;refine new_list bL (.nil _) fun id H o => tt ?_;refine awp_for [1,2] (G := Nat × List (List Bool)) (fun k g => [(5,some (.buf g.1 g.2.length)),(6,some (.int .i64 (k : Int)))]) (fun k g H => g.2 = (List.range k).map (markAt L C) ∧ Owns H0 H [(g.1,.cells 1 (g.2.map bL) 0)]) L.length (id,[]) ⟨rfl,o⟩ rfl ?_
 rintro k ⟨id,out⟩ H hk ⟨hout,o⟩;dsimp only at hout
 have hol : out.length = k := by rw [hout]; simp
 refine tt ?_;apply bk <;> intro h1
 ·refine tt ?_
  have h1p := dd h1
  have w1 := wsucc (k := k) (by omega)
  have hfew := t.few k h1p;refine ⟨h1p,⟨by omega,by simp only [maxL]; omega⟩,mks_list AV.bool false rfl o fun idr H o => ?_⟩;refine tt ?_;refine awp_for [1,2,5,6,7] (fun j _ => [(8,some (.int .i64 (j : Int)))]) (fun j A H => RowI (L.getD k default) (C.getD k default) j A ∧ Owns H0 H [(idr,.cells 1 (A.map AV.bool) 0),(id,.cells 1 (out.map bL) 0)]) (C.getD k default).length _ ⟨RowI.zero _ _,o⟩ rfl ?_
  rintro j A H hj ⟨hI,o⟩
  have hAl := hI.1
  have hCl : (C.getD k default).length ≤ maxL := fine_mL_le (by have := fine_mL_ix (i := (k : Int)) hfC (by rw [toNat_nat]; omega); rw [ix_nat] at this; exact this);simp only [maxL] at hCl;refine tt ?_;refine ⟨by omega, ?_⟩;apply bk <;> intro h2
  ·refine tt ?_
   have h2p := dd h2
   have w2 := wsucc (k := j) (by omega)
   have hmem : (C.getD k default).getD j default ∈ L.getD k default := hm k h1p _ (mem_getD.mpr ⟨j,h2p,rfl⟩)
   have hi := indexOf_in hmem;refine ⟨h1p,by omega,h2p,_,(l09Find_ok ..).run,tt ?_⟩;refine ⟨⟨hi.1,by omega⟩,set_own true o rfl (by omega) fun H o => ?_⟩;refine tw w2 ?_;exact for_next _ (by omega) ⟨hI.step (t.all k h1p).nodup hmem,o⟩ rfl
  ·refine tt ?_
   have h2p := dd h2
   obtain rfl : j = (C.getD k default).length := by omega
   rw [← hAl];refine fz_own o rfl fun H o => tt ?_;refine app_own A o rfl rfl (by simp only [maxL]; omega) fun id H o => ?_;refine tw w1 ?_;exact for_next (_,_) (by omega) ⟨by rw [map_range_succ,← hout,hI.done]; rfl,o⟩ rfl
 ·refine tt ?_
  have h1p := dd h1;refine fz_own o rfl fun H o => tt ?_;exact pure_ret (by rw [hout,show k = L.length by omega]; rfl) o.sub
theorem l27Shape_ok (B : Nat) (j : Top) : Pur Tryz.prog B 261 [.agg j.cells] (.bool (dec j.Form)) := by
 refine ⟨fun H0 => c261 (by simp) fun ⟨hf,_⟩ => ?_⟩
 have hfc := hf.agg (c := iLLL j.covers) (by simp [Top.cells])
 have hl := fine_mL_le hfc;simp only [maxL] at hl;unfold s261;refine tt ?_;refine (l02Is_ok B j.shape).go fun _ => tt ?_;apply bn <;> intro h1
 rotate_left
 ·refine tw h1 ?_
  have h1p := dd h1;exact pure_ret (by rw [dec_f]; intro s; exact h1p s.is) (.refl _)
 refine tw h1 ?_
 have h1p := dd h1
 have hs := h1p.1;apply bk <;> intro h2
 ·refine tw h2 ?_
  have h2p := dd h2;exact pure_ret (by rw [dec_f]; intro s; exact h2p s.len) (.refl _)
 refine tw h2 ?_
 have h2p := dd h2
 refine awp_for [1] (fun k _ => [(3,some (.int .i64 (k : Int)))]) (fun k _ H => H = H0 ∧ ∀ x : Nat,x < k → ∀ k : Nat,k < (j.covers.getD x default).length → j.shape.Sieve x ((j.covers.getD x default).getD k default) ∧
   (0 < k → cmp ((j.covers.getD x default).getD (k - 1) default) ((j.covers.getD x default).getD k default) < 0)) j.covers.length () ⟨rfl,by simp⟩ rfl ?_
 rintro x _ H hx ⟨rfl,hall⟩;refine tt ?_;apply bk <;> intro g1
 rotate_left
 ·refine tt ?_
  have g1p := dd g1;refine pure_ret ?_ (.refl _);rw [dec_t];exact ⟨h1p,h2p,fun x hx k hk => (hall x (by omega) k hk).1,fun x hx k hk => (hall x (by omega) (k + 1) hk).2 (by omega)⟩
 have g1p := dd g1
 have wx := wsucc (k := x) (by omega)
 have hlx := fine_mL_le (fine_mL_mem hfc (mem_getD.mpr ⟨x,g1p,rfl⟩));simp only [maxL] at hlx;refine tt ?_
 refine awp_for [1,3] (fun k _ => [(4,some (.int .i64 (k : Int)))]) (fun k' _ H' => H' = H ∧ ∀ k : Nat,k < k' → j.shape.Sieve x ((j.covers.getD x default).getD k default) ∧
   (0 < k → cmp ((j.covers.getD x default).getD (k - 1) default) ((j.covers.getD x default).getD k default) < 0)) (j.covers.getD x default).length () ⟨rfl,by simp⟩ rfl ?_
 rintro k _ H' hk ⟨rfl,hk2⟩;refine tt ?_;refine ⟨g1p, ?_⟩;apply bk <;> intro g2
 rotate_left
 ·refine tw wx ?_
  have g2p := dd g2;exact for_next () g1p ⟨rfl,lt_succ_all hall fun k hk => hk2 k (by omega)⟩ rfl
 have g2p := dd g2
 have wk := wsucc (k := k) (by omega);refine tt ?_;refine ⟨g1p,g2p,_,(l25Sieve_ok B j.shape hs x _).run,tt ?_⟩;apply bn <;> intro g3
 rotate_left
 ·refine tw g3 ?_
  have g3p := dd g3;exact pure_ret (by rw [dec_f]; intro s; exact g3p (s.sv x g1p k g2p)) (.refl _)
 refine tw g3 ?_
 have g3p := dd g3;apply bk <;> intro g4
 rotate_left
 ·try simp only [go_sem,↓reduceIte,reduceEqDiff,reduceAdd,reduceMul,reduceLeDiff,reduceLT,g3,g4,wk]
  have g4p := dd g4;exact for_next () g2p ⟨rfl,lt_succ_all hk2 ⟨g3p,fun h => absurd h (by omega)⟩⟩ rfl
 have g4q : 0 < k := by have := of_decide g4; omega
 have wp := wpred (k := k) g4q (by omega);try simp only [go_sem,↓reduceIte,reduceEqDiff,reduceAdd,reduceMul,reduceLeDiff,reduceLT,g3,g4,wp]
 refine ⟨g1p,by omega,g1p,g2p,_,(l01Less_ok ..).run,tt ?_⟩;apply bk <;> intro g5
 ·refine tt ?_
  have g5p := dd g5;refine pure_ret ?_ (.refl _);rw [dec_f]; intro s
  have := s.ord x g1p (k - 1) (by omega);rw [show k - 1 + 1 = k by omega] at this;omega
 ·refine tw wk ?_
  have g5p := dd g5;exact for_next () g2p ⟨rfl,lt_succ_all hk2 ⟨g3p,fun _ => by omega⟩⟩ rfl
theorem hasForm_ok (B : Nat) (j : Top) : Pur Tryz.prog B 257 [.ptr j.cells] (.bool (dec j.Form)) := by
 refine ⟨fun H0 => c257 (by simp) fun ⟨hf,_⟩ => ?_⟩
 have hfc := hf.ptr (c := iLLL j.covers) (by simp [Top.cells])
 have hl := fine_mL_le hfc;simp only [maxL] at hl;unfold s257;refine tt ?_;refine ⟨_,(isCategory_ok B j.shape).run,tt ?_⟩;apply bn <;> intro h1
 rotate_left
 ·refine tw h1 ?_
  have h1p := dd h1;exact pure_ret (by rw [dec_f]; intro s; exact h1p s.is) (.refl _)
 refine tw h1 ?_
 have h1p := dd h1
 have hs := h1p.1;apply bk <;> intro h2
 ·refine tw h2 ?_
  have h2p := dd h2;exact pure_ret (by rw [dec_f]; intro s; exact h2p s.len) (.refl _)
 refine tw h2 ?_
 have h2p := dd h2
 refine awp_for [3,29,30] (fun k _ => [(31,some (.int .i64 (k : Int)))]) (fun k _ H => H = H0 ∧ ∀ x : Nat,x < k → ∀ k : Nat,k < (j.covers.getD x default).length → j.shape.Sieve x ((j.covers.getD x default).getD k default) ∧
   (0 < k → cmp ((j.covers.getD x default).getD (k - 1) default) ((j.covers.getD x default).getD k default) < 0)) j.covers.length () ⟨rfl,by simp⟩ rfl ?_
 rintro x _ H hx ⟨rfl,hall⟩;refine tt ?_;apply bk <;> intro g1
 rotate_left
 ·refine tt ?_
  have g1p := dd g1;refine pure_ret ?_ (.refl _);rw [dec_t];exact ⟨h1p,h2p,fun x hx k hk => (hall x (by omega) k hk).1,fun x hx k hk => (hall x (by omega) (k + 1) hk).2 (by omega)⟩
 have g1p := dd g1
 have wx := wsucc (k := x) (by omega)
 have hlx := fine_mL_le (fine_mL_mem hfc (mem_getD.mpr ⟨x,g1p,rfl⟩));simp only [maxL] at hlx;refine tt ?_;refine ⟨g1p, ?_⟩
 refine awp_for [3,4,5,29,30,31,36,37] (fun k _ => [(38,some (.int .i64 (k : Int)))]) (fun k' _ H' => H' = H ∧ ∀ k : Nat,k < k' → j.shape.Sieve x ((j.covers.getD x default).getD k default) ∧
   (0 < k → cmp ((j.covers.getD x default).getD (k - 1) default) ((j.covers.getD x default).getD k default) < 0)) (j.covers.getD x default).length () ⟨rfl,by simp⟩ rfl ?_
 rintro k _ H' hk ⟨rfl,hk2⟩;refine tt ?_;apply bk <;> intro g2
 rotate_left
 ·refine tw wx ?_
  have g2p := dd g2;exact for_next () g1p ⟨rfl,lt_succ_all hall fun k hk => hk2 k (by omega)⟩ rfl
 have g2p := dd g2
 have wk := wsucc (k := k) (by omega);refine tt ?_;refine ⟨g2p,(isSieve_ok B j.shape hs x _).go fun _ => ?_⟩;refine tt ?_;apply bn <;> intro g3
 rotate_left
 ·refine tw g3 ?_
  have g3p := dd g3;exact pure_ret (by rw [dec_f]; intro s; exact g3p (s.sv x g1p k g2p)) (.refl _)
 refine tw g3 ?_
 have g3p := dd g3;apply bk <;> intro g4
 rotate_left
 ·try simp only [go_sem,↓reduceIte,reduceEqDiff,reduceAdd,reduceMul,reduceLeDiff,reduceLT,g3,g4,wk]
  have g4p := dd g4;exact for_next () g2p ⟨rfl,lt_succ_all hk2 ⟨g3p,fun h => absurd h (by omega)⟩⟩ rfl
 have g4q : 0 < k := by have := of_decide g4; omega
 have wp := wpred (k := k) g4q (by omega);try simp only [go_sem,↓reduceIte,reduceEqDiff,reduceAdd,reduceMul,reduceLeDiff,reduceLT,g3,g4,wp]
 refine ⟨by omega,(compare_ok ..).go fun _ => ?_⟩;refine tt ?_;apply bk <;> intro g5
 ·refine tt ?_
  have g5p := dd g5;refine pure_ret ?_ (.refl _);rw [dec_f]; intro s
  have := s.ord x g1p (k - 1) (by omega);rw [show k - 1 + 1 = k by omega] at this;omega
 ·refine tw wk ?_
  have g5p := dd g5;exact for_next () g2p ⟨rfl,lt_succ_all hk2 ⟨g3p,fun _ => by omega⟩⟩ rfl
theorem l19Shape_ok (B : Nat) (f : SF) : Pur Tryz.prog B 179 [.agg f.cells] (.bool (dec f.Shape)) := by
 refine ⟨fun H0 => c179 (by simp) fun ⟨hf,_⟩ => ?_⟩
 have hl := fine_mL_le (hf.agg (c := iL f.sizes) (by simp [SF.cells]))
 have hl2 := fine_mL_le (hf.agg (c := iLL f.acts) (by simp [SF.cells]));simp only [maxL] at hl hl2;unfold s179;refine tt ?_;refine (l02Is_ok B f.shape).go fun _ => tt ?_;apply bn <;> intro h1
 rotate_left
 ·refine tw h1 ?_
  have h1p := dd h1;exact pure_ret (by rw [dec_f]; intro s; exact h1p s.is) (.refl _)
 refine tw h1 ?_
 have h1p := dd h1
 have hs := h1p.1
 have htl := hs.tol;apply bn <;> intro h2
 rotate_left
 ·refine tw h2 ?_
  have h2p := dd h2;exact pure_ret (by rw [dec_f]; intro s; exact h2p s.sl) (.refl _)
 refine tw h2 ?_
 have h2p := dd h2;apply bk <;> intro h3
 ·refine tw h3 ?_
  have h3p := dd h3;exact pure_ret (by rw [dec_f]; intro s; exact h3p s.al) (.refl _)
 refine tw h3 ?_
 have h3p := dd h3;refine awp_for [1] (fun k _ => [(3,some (.int .i64 (k : Int)))]) (fun k _ H => H = H0 ∧ ∀ x,x < k → 0 ≤ f.sizes.getD x default ∧ f.sizes.getD x default < 17) f.sizes.length () ⟨rfl,by simp⟩ rfl ?_
 rintro x _ H hx ⟨rfl,hall⟩;refine tt ?_;apply bk <;> intro g1
 ·have g1p := dd g1
  have wx := wsucc (k := x) (by omega);refine tt ?_;refine ⟨g1p,(l01In_ok ..).go fun _ => ?_⟩;refine tt ?_;apply bk <;> intro g2
  ·refine tt ?_
   have g2p := dd g2;exact pure_ret (by rw [dec_f]; intro s; have := s.sz _ (mem_getD.mpr ⟨x,g1p,rfl⟩); omega) (.refl _)
  ·refine tw wx ?_
   have g2p := dd g2;exact for_next () g1p ⟨rfl,lt_succ_all hall (by omega)⟩ rfl
 have g1p := dd g1
 have hsz : ∀ y,y ∈ f.sizes → 0 ≤ y ∧ y < 17 := all_getD.mpr fun i hi => hall i (by omega);refine tt ?_
 refine awp_for [1] (fun k _ => [(4,some (.int .i64 (k : Int)))]) (fun k _ H' => H' = H ∧ ∀ a,a < k → ((f.acts.getD a default).length : Int) = ix f.sizes (f.shape.frm.getD a default) ∧
  ∀ y,y ∈ f.acts.getD a default → 0 ≤ y ∧ y < ix f.sizes (f.shape.to.getD a default)) f.acts.length () ⟨rfl,by simp⟩ rfl ?_
 rintro a _ H' ha ⟨rfl,hact⟩;refine tt ?_;apply bk <;> intro g2
 rotate_left
 ·refine tt ?_
  have g2p := dd g2;exact pure_ret (by rw [dec_t]; exact ⟨h1p,h2p,h3p,hsz,fun a h => hact a (by omega)⟩) (.refl _)
 have g2p := dd g2
 have wa := wsucc (k := a) (by omega)
 have haf : a < f.shape.frm.length := by omega
 have f1 := hs.frm' haf
 have f2 := hs.to' haf
 have hil := hs.il;refine tt ?_;refine ⟨g2p,haf,⟨f1.1,by omega⟩, ?_⟩;apply bn <;> intro g3
 rotate_left
 ·refine tw g3 ?_
  have g3p := dd g3;exact pure_ret (by rw [dec_f]; intro s; exact g3p (s.act a g2p).1) (.refl _)
 refine tw g3 ?_
 have g3p := dd g3;refine ⟨by omega,⟨f2.1,by omega⟩,g2p,_,(l01Map_ok ..).run,tt ?_⟩;apply bk <;> intro g4
 ·refine tt ?_
  have g4p := dd g4;exact pure_ret (by rw [dec_f]; intro s; exact g4p (s.act a g2p).2) (.refl _)
 ·refine tw wa ?_
  have g4p := dd g4;exact for_next () g2p ⟨rfl,lt_succ_all hact ⟨g3p,g4p⟩⟩ rfl
theorem sfIsShape_ok (B : Nat) (f : SF) : Pur Tryz.prog B 175 [.ptr f.cells] (.bool (dec f.Shape)) := by
 refine ⟨fun H0 => c175 (by simp) fun ⟨hf,_⟩ => ?_⟩
 have hl := fine_mL_le (hf.ptr (c := iL f.sizes) (by simp [SF.cells]))
 have hl2 := fine_mL_le (hf.ptr (c := iLL f.acts) (by simp [SF.cells]));simp only [maxL] at hl hl2;unfold s175;refine tt ?_;refine ⟨_,(isCategory_ok B f.shape).run,tt ?_⟩;apply bn <;> intro h1
 rotate_left
 ·refine tw h1 ?_
  have h1p := dd h1;exact pure_ret (by rw [dec_f]; intro s; exact h1p s.is) (.refl _)
 refine tw h1 ?_
 have h1p := dd h1
 have hs := h1p.1
 have htl := hs.tol;apply bn <;> intro h2
 rotate_left
 ·refine tw h2 ?_
  have h2p := dd h2;exact pure_ret (by rw [dec_f]; intro s; exact h2p s.sl) (.refl _)
 refine tw h2 ?_
 have h2p := dd h2;refine ⟨_,(within_ok B f.sizes 17 (by omega)).run,tt ?_⟩;apply bn <;> intro h3
 rotate_left
 ·refine tw h3 ?_
  have h3p := dd h3;exact pure_ret (by rw [dec_f]; intro s; exact h3p s.sz) (.refl _)
 refine tw h3 ?_
 have h3p := dd h3;refine ⟨_,(arrows_ok B f.shape).run,tt ?_⟩;apply bk <;> intro h4
 ·refine tw h4 ?_
  have h4p := dd h4;exact pure_ret (by rw [dec_f]; intro s; exact h4p s.al) (.refl _)
 refine tw h4 ?_
 have h4p := dd h4
 refine awp_for [0,3,45,46] (fun k _ => [(47,some (.int .i64 (k : Int)))]) (fun k _ H' => H' = H0 ∧ ∀ a,a < k → ((f.acts.getD a default).length : Int) = ix f.sizes (f.shape.frm.getD a default) ∧
  ∀ y,y ∈ f.acts.getD a default → 0 ≤ y ∧ y < ix f.sizes (f.shape.to.getD a default)) f.acts.length () ⟨rfl,by simp⟩ rfl ?_
 rintro a _ H' ha ⟨rfl,hact⟩;refine tt ?_;apply bk <;> intro g2
 rotate_left
 ·refine tt ?_
  have g2p := dd g2;exact pure_ret (by rw [dec_t]; exact ⟨h1p,h2p,h4p,h3p,fun a h => hact a (by omega)⟩) (.refl _)
 have g2p := dd g2
 have wa := wsucc (k := a) (by omega)
 have haf : a < f.shape.frm.length := by omega
 have f1 := hs.frm' haf
 have f2 := hs.to' haf
 have hil := hs.il
 have hto := h3p _ (ix_mem (l := f.sizes) (i := f.shape.to.getD a default) (by omega));refine tt ?_;refine ⟨g2p,haf,⟨f1.1,by omega⟩,by omega,⟨f2.1,by omega⟩,_,(isMapOf_ok B _ _ _ (by omega)).run,tt ?_⟩;apply bk <;> intro g4
 ·refine tt ?_
  have g4p := dd g4;exact pure_ret (by rw [dec_f]; intro s; exact g4p (s.act a g2p)) (.refl _)
 ·refine tw wa ?_
  have g4p := dd g4;exact for_next () g2p ⟨rfl,lt_succ_all hact g4p⟩ rfl
theorem l19Fault_ok (B : Nat) (f : SF) (s : f.Shape) (H0 : Heap) : CallH Tryz.prog B 180 [.agg f.cells] H0 (faultK f.Laws H0) := by
 refine c180 (by simp) fun ⟨hf,_⟩ => ?_
 have hs := s.is.1
 have hm := hs.m
 have hcl := hs.cl
 have htl := hs.tol
 have hil := hs.il
 have hal := s.al
 have hsl := s.sl
 have hob := hs.o;unfold s180;refine tt ?_;refine ⟨by simp [maxL],fun i1 n1 => ?_⟩;refine tt ?_
 generalize hH : ((H0.set i1 _).set i1 _) = H1
 have hg : H1.get i1 = some (.cells 5 [iI f.shape.objs,iL f.shape.frm,iL f.shape.to,iL f.shape.idn,iLL f.shape.comp] 0) := by rw [← hH]; simp
 have hsub : H0.sub H1 := by rw [← hH]; exact sub_set (sub_set (.refl _) n1) n1
 clear hH;refine awp_for [1,6] (fun k _ => [(7,some (.int .i64 (k : Int)))]) (fun k _ H => H = H1 ∧ ∀ x,x < k → ∀ e : Nat,e < (ix f.acts (f.shape.idn.getD x default)).length → (ix f.acts (f.shape.idn.getD x default)).getD e default = e) f.shape.idn.length () ⟨rfl,by simp⟩ rfl ?_
 rintro x _ H hx ⟨rfl,hall⟩;refine tw hg ?_;apply bk <;> intro g1
 ·have g1p := dd g1
  have hxi : x < f.shape.idn.length := by omega
  have wx := wsucc (k := x) (by omega)
  have hid := hs.idn _ (mem_getD.mpr ⟨x,hxi,rfl⟩)
  have hlen := s.idLen hxi;refine tw hg ?_;refine awp_for [1,6,7] (fun k _ => [(8,some (.int .i64 (k : Int)))]) (fun k _ H' => H' = H ∧ ∀ e : Nat,e < k → (ix f.acts (f.shape.idn.getD x default)).getD e default = e) (ix f.acts (f.shape.idn.getD x default)).length () ⟨rfl,by simp⟩ rfl ?_
  rintro e _ H' he ⟨rfl,hall2⟩;refine tw hg ?_;refine ⟨by omega, ?_⟩;apply bk <;> intro g2
  rotate_left
  ·refine tw wx ?_
   have g2p := dd g2;exact for_next () hxi ⟨rfl,lt_succ_all hall fun e he => hall2 e (by omega)⟩ rfl
  have g2p := dd g2
  have hel : e < (ix f.acts (f.shape.idn.getD x default)).length := by omega
  have hz : f.sizes.getD x default < 17 := (s.sz _ (mem_getD.mpr ⟨x,by omega,rfl⟩)).2
  have we := wsucc (k := e) (by omega);refine tw hg ?_;refine ⟨hxi,⟨hid.1,by omega⟩,hel, ?_⟩;apply bk <;> intro g3
  ·refine tt ?_
   have g3p := dd g3;exact fault_ret (by constructor; (intro h; cases h); intro l; exact absurd (l.idl x hxi e hel) g3p) hsub
  ·refine tw we ?_
   have g3p := dd g3;exact for_next () hel ⟨rfl,lt_succ_all hall2 g3p⟩ rfl
 have g1p := dd g1
 have hidl : ∀ x : Nat,x < f.shape.idn.length → ∀ e : Nat,e < (ix f.acts (f.shape.idn.getD x default)).length → (ix f.acts (f.shape.idn.getD x default)).getD e default = e := fun x hx => hall x (by omega);refine tt ?_;refine awp_for [1,6] (fun k _ => [(9,some (.int .i64 (k : Int)))]) (fun k _ H' => H' = H ∧ ∀ a,a < k → ∀ b,b < f.shape.frm.length → f.CompAt a b) f.shape.frm.length () ⟨rfl,by simp⟩ rfl ?_
 rintro a _ H' ha ⟨rfl,hA⟩;refine tw hg ?_;apply bk <;> intro g1
 rotate_left
 ·refine tt ?_
  have g1p := dd g1;exact fault_ret (by simp only [true_iff]; exact ⟨hidl,fun a b ha hb => hA a (by omega) b hb⟩) hsub
 have g1p := dd g1
 have wa := wsucc (k := a) (by omega)
 have ra := hs.row a g1p
 have fa := hs.frm' g1p
 have la := s.actLen (a := (a : Int)) (by omega);rw [ix_nat2,ix_nat2] at la
 have za := s.sz _ (ix_mem (l := f.sizes) (i := f.shape.frm.getD a default) (by omega));refine tw hg ?_;refine awp_for [1,6,9] (fun k _ => [(10,some (.int .i64 (k : Int)))]) (fun k _ H => H = H' ∧ ∀ b,b < k → f.CompAt a b) f.shape.frm.length () ⟨rfl,by simp⟩ rfl ?_
 rintro b _ H hb ⟨rfl,hB⟩;refine tw hg ?_;apply bk <;> intro g2
 rotate_left
 ·refine tw wa ?_
  have g2p := dd g2;exact for_next () g1p ⟨rfl,lt_succ_all hA fun b hb => hB b (by omega)⟩ rfl
 have g2p := dd g2
 have wb := wsucc (k := b) (by omega);refine tw hg ?_;refine ⟨by omega,g2p, ?_⟩;apply bk <;> intro g3
 ·refine tw wb ?_
  have g3p := dd g3;exact for_next () g2p ⟨rfl,lt_succ_all hB fun e => absurd e g3p⟩ rfl
 have g3p := dd g3
 have hy := hs.yes a b g1p g2p g3p
 have lc := s.actLen (a := (f.shape.comp.getD a default).getD b default) (by omega);rw [hy.2.1] at lc
 have lb := s.actLen (a := (b : Int)) (by omega);rw [ix_nat2,ix_nat2] at lb;refine tw hg ?_
 refine awp_for [1,6,9,10] (fun k _ => [(11,some (.int .i64 (k : Int)))]) (fun k _ H' => H' = H ∧ ∀ e : Nat,e < k →
  (ix f.acts ((f.shape.comp.getD a default).getD b default)).getD e default = ix (f.acts.getD b default) ((f.acts.getD a default).getD e default)) (f.acts.getD a default).length () ⟨rfl,by simp⟩ rfl ?_
 rintro e _ H' he ⟨rfl,hE⟩;refine tw hg ?_;refine ⟨g1p,⟨fa.1,by omega⟩, ?_⟩;apply bk <;> intro g4
 rotate_left
 ·refine tw wb ?_
  have g4p := dd g4;exact for_next () g2p ⟨rfl,lt_succ_all hB fun _ e he => hE e (by omega)⟩ rfl
 have g4p := dd g4
 have we := wsucc (k := e) (by omega)
 have hel : e < (f.acts.getD a default).length := by omega
 have hv := (s.act a (by omega)).2 _ (mem_getD.mpr ⟨e,hel,rfl⟩);rw [g3p] at hv;refine tw hg ?_;refine ⟨by omega,by omega,⟨hy.1.1,by omega⟩,by omega,by omega,by omega,hel,⟨hv.1,by omega⟩, ?_⟩;apply bk <;> intro g5
 ·refine tt ?_
  have g5p := dd g5;exact fault_ret (by constructor; (intro h; cases h); intro l; exact absurd (l.comp a b g1p g2p g3p e hel) g5p) hsub
 ·refine tw we ?_
  have g5p := dd g5;exact for_next () hel ⟨rfl,lt_succ_all hE g5p⟩ rfl
theorem sfFault_ok (B : Nat) (f : SF) (s : f.Shape) (H0 : Heap) : CallH Tryz.prog B 176 [.ptr f.cells] H0 (faultK f.Laws H0) := by
 refine c176 (by simp) fun ⟨hf,_⟩ => ?_
 have hs := s.is.1
 have hm := hs.m
 have hcl := hs.cl
 have htl := hs.tol
 have hil := hs.il
 have hal := s.al
 have hsl := s.sl
 have hob := hs.o;unfold s176;refine tt ?_;refine awp_for [0,6,23,24] (fun k _ => [(25,some (.int .i64 (k : Int)))]) (fun k _ H => H = H0 ∧ ∀ x,x < k → ∀ e : Nat,e < (ix f.acts (f.shape.idn.getD x default)).length → (ix f.acts (f.shape.idn.getD x default)).getD e default = e) f.shape.idn.length () ⟨rfl,by simp⟩ rfl ?_
 rintro x _ H hx ⟨rfl,hall⟩;refine tt ?_;apply bk <;> intro g1
 ·have g1p := dd g1
  have wx := wsucc (k := x) (by omega)
  have hid := hs.idn _ (mem_getD.mpr ⟨x,g1p,rfl⟩)
  have hlen := s.idLen g1p
  have hz : f.sizes.getD x default < 17 := (s.sz _ (mem_getD.mpr ⟨x,by omega,rfl⟩)).2;refine tt ?_;refine ⟨g1p,⟨hid.1,by omega⟩, ?_⟩;refine awp_for [0,6,7,23,24,25,36,37] (fun k _ => [(38,some (.int .i64 (k : Int)))]) (fun k _ H' => H' = H ∧ ∀ e : Nat,e < k → (ix f.acts (f.shape.idn.getD x default)).getD e default = e) (ix f.acts (f.shape.idn.getD x default)).length () ⟨rfl,by simp⟩ rfl ?_
  rintro e _ H' he ⟨rfl,hall2⟩;refine tt ?_;apply bk <;> intro g2
  rotate_left
  ·refine tw wx ?_
   have g2p := dd g2;exact for_next () g1p ⟨rfl,lt_succ_all hall fun e he => hall2 e (by omega)⟩ rfl
  have g2p := dd g2
  have we := wsucc (k := e) (by omega);refine tt ?_;refine ⟨g2p, ?_⟩;apply bk <;> intro g3
  ·refine tt ?_
   have g3p := dd g3;exact fault_ret (by constructor; (intro h; cases h); intro l; exact absurd (l.idl x g1p e g2p) g3p) (.refl _)
  ·refine tw we ?_
   have g3p := dd g3;exact for_next () g2p ⟨rfl,lt_succ_all hall2 g3p⟩ rfl
 have g1p := dd g1
 have hidl : ∀ x : Nat,x < f.shape.idn.length → ∀ e : Nat,e < (ix f.acts (f.shape.idn.getD x default)).length → (ix f.acts (f.shape.idn.getD x default)).getD e default = e := fun x hx => hall x (by omega);refine tt ?_;refine awp_for [0,53,54] (fun k _ => [(55,some (.int .i64 (k : Int)))]) (fun k _ H' => H' = H ∧ ∀ a,a < k → ∀ b,b < f.shape.frm.length → f.CompAt a b) f.shape.comp.length () ⟨rfl,by simp⟩ rfl ?_
 rintro a _ H' ha ⟨rfl,hA⟩;refine tt ?_;apply bk <;> intro g1
 rotate_left
 ·refine tt ?_
  have g1p := dd g1;exact fault_ret (by simp only [true_iff]; exact ⟨hidl,fun a b ha hb => hA a (by omega) b hb⟩) (.refl _)
 have g1p := dd g1
 have ham : a < f.shape.frm.length := by omega
 have wa := wsucc (k := a) (by omega)
 have ra := hs.row a ham
 have fa := hs.frm' ham
 have la := s.actLen (a := (a : Int)) (by omega);rw [ix_nat2,ix_nat2] at la
 have za := s.sz _ (ix_mem (l := f.sizes) (i := f.shape.frm.getD a default) (by omega));refine tt ?_;refine ⟨g1p, ?_⟩;refine awp_for [0,11,53,54,55,60,61] (fun k _ => [(62,some (.int .i64 (k : Int)))]) (fun k _ H => H = H' ∧ ∀ b,b < k → f.CompAt a b) (f.shape.comp.getD a default).length () ⟨rfl,by simp⟩ rfl ?_
 rintro b _ H hb ⟨rfl,hB⟩;refine tt ?_;apply bk <;> intro g2
 rotate_left
 ·refine tw wa ?_
  have g2p := dd g2;exact for_next () g1p ⟨rfl,lt_succ_all hA fun b hb => hB b (by omega)⟩ rfl
 have g2p := dd g2
 have hbm : b < f.shape.frm.length := by omega
 have wb := wsucc (k := b) (by omega);refine tt ?_;refine ⟨g2p, ?_⟩;apply bk <;> intro g3
 ·refine tw wb ?_
  have g3p := dd g3;exact for_next () g2p ⟨rfl,lt_succ_all hB fun e => by have := (hs.pos ham hbm).mpr e; omega⟩ rfl
 have g3p := dd g3
 have g3q := (hs.pos ham hbm).mp g3p
 have hy := hs.yes a b ham hbm g3q
 have lc := s.actLen (a := (f.shape.comp.getD a default).getD b default) (by omega);rw [hy.2.1] at lc
 have lb := s.actLen (a := (b : Int)) (by omega);rw [ix_nat2,ix_nat2] at lb;refine tt ?_;refine ⟨by omega, ?_⟩
 refine awp_for [0,11,13,14,53,54,55,60,61,62,75,76] (fun k _ => [(77,some (.int .i64 (k : Int)))]) (fun k _ H' => H' = H ∧ ∀ e : Nat,e < k →
  (ix f.acts ((f.shape.comp.getD a default).getD b default)).getD e default = ix (f.acts.getD b default) ((f.acts.getD a default).getD e default)) (f.acts.getD a default).length () ⟨rfl,by simp⟩ rfl ?_
 rintro e _ H' he ⟨rfl,hE⟩;refine tt ?_;apply bk <;> intro g4
 rotate_left
 ·refine tw wb ?_
  have g4p := dd g4;exact for_next () g2p ⟨rfl,lt_succ_all hB fun _ e he => hE e (by omega)⟩ rfl
 have g4p := dd g4
 have we := wsucc (k := e) (by omega)
 have hv := (s.act a (by omega)).2 _ (mem_getD.mpr ⟨e,g4p,rfl⟩);rw [g3q] at hv;refine tt ?_;refine ⟨g4p,⟨g3p,by omega⟩,by omega,by omega,⟨hv.1,by omega⟩, ?_⟩;apply bk <;> intro g5
 ·refine tt ?_
  have g5p := dd g5;exact fault_ret (by constructor; (intro h; cases h); intro l; exact absurd (l.comp a b ham hbm g3q e g4p) g5p) (.refl _)
 ·refine tw we ?_
  have g5p := dd g5;exact for_next () g4p ⟨rfl,lt_succ_all hE g5p⟩ rfl
theorem l19Is_ok (B : Nat) (f : SF) : Pur Tryz.prog B 82 [.agg f.cells] (.bool (dec f.Is)) := by
 refine ⟨fun H0 => c82 (by simp) fun hf => ?_⟩;unfold s82;refine tt ?_;refine (l19Shape_ok B f).go fun _ => tt ?_;apply bk <;> intro h1
 ·refine tt ?_
  have h1p := dd h1;exact pure_ret (by rw [dec_f]; intro s; exact h1p s.1) (.refl _)
 have h1p := dd h1;refine tt ?_;refine (l19Fault_ok B f h1p H0).mono' ?_
 rintro _ _ _ ⟨rfl,k,a,b,d,rfl,hk⟩;refine tt ?_;exact pure_ret (by rw [decide_dec]; congr 1; exact dec_congr ⟨fun h => ⟨h1p,hk.mp h⟩,fun h => hk.mpr h.2⟩) (.refl _)
theorem isSetFunctor_ok (B : Nat) (f : SF) : Pur Tryz.prog B 80 [.ptr f.cells] (.bool (dec f.Is)) := by
 refine ⟨fun H0 => c80 (by simp) fun hf => ?_⟩;unfold s80;refine tt ?_;refine (sfIsShape_ok B f).go fun _ => tt ?_;apply bk <;> intro h1
 ·refine tt ?_
  have h1p := dd h1;exact pure_ret (by rw [dec_f]; intro s; exact h1p s.1) (.refl _)
 have h1p := dd h1;refine tt ?_;refine (sfFault_ok B f h1p H0).mono' ?_
 rintro _ _ _ ⟨rfl,k,a,b,d,rfl,hk⟩;refine tt ?_;exact pure_ret (by rw [decide_dec]; congr 1; exact dec_congr ⟨fun h => ⟨h1p,hk.mp h⟩,fun h => hk.mpr h.2⟩) (.refl _)
instance : Inhabited SF := ⟨⟨⟨0,[],[],[],[]⟩,[],[]⟩⟩
abbrev sfP (f : SF) : AV := .ptr f.cells
instance : One sfP := ⟨fun _ => rfl,fun _ => rfl⟩
theorem areSetFunctors_ok (B : Nat) (l : List SF) : Pur Tryz.prog B 166 [mL sfP l] (.bool (dec (∀ f,f ∈ l → f.Is))) := by
 refine ⟨fun H0 => c166 (by simp) fun ⟨hf,_⟩ => ?_⟩
 have hl := fine_mL_le hf;simp only [maxL] at hl;unfold s166;refine tt ?_;refine awp_for [5,6] (fun k _ => [(7,some (.int .i64 (k : Int)))]) (fun k _ H => H = H0 ∧ ∀ i,i < k → (l.getD i default).Is) l.length () ⟨rfl,by simp⟩ rfl ?_
 rintro k _ H hk ⟨rfl,hall⟩;refine tt ?_;apply bk <;> intro h1
 ·have h1p := dd h1
  have w1 := wsucc (k := k) (by omega);refine tt ?_;refine ⟨h1p,(isSetFunctor_ok B _).go fun _ => ?_⟩;refine tt ?_;apply bk <;> intro h2
  ·refine tt ?_
   have h2p := dd h2;exact pure_ret (by rw [dec_f]; intro h; exact h2p (h _ (mem_getD.mpr ⟨k,h1p,rfl⟩))) (.refl _)
  ·refine tw w1 ?_
   have h2p := dd h2;exact for_next () (by omega) ⟨rfl,lt_succ_all hall h2p⟩ rfl
 ·refine tt ?_
  have h1p := dd h1;exact pure_ret (by rw [dec_t]; exact all_getD.mpr fun i hi => hall i (by omega)) (.refl _)
theorem l02Same_ok (B : Nat) (a b : Cat) : Pur Tryz.prog B 263 [.agg a.cells,.agg b.cells] (.bool (dec (a = b))) := by
 refine ⟨fun H0 => c263 (by simp) fun hf => ?_⟩;unfold s263;refine tt ?_;apply bk <;> intro h0
 rotate_left
 ·refine tw h0 ?_
  have h0p := dd h0;exact pure_ret (by rw [dec_f]; rintro rfl; exact h0p rfl) (.refl _)
 refine tw h0 ?_
 have h0p := dd h0;refine (l01Same_ok B a.frm b.frm).go fun _ => tt ?_;apply bk <;> intro h1
 rotate_left
 ·refine tw h1 ?_
  have h1p := dd h1;exact pure_ret (by rw [dec_f]; rintro rfl; exact h1p rfl) (.refl _)
 refine tw h1 ?_
 have h1p := dd h1;refine (l01Same_ok B a.to b.to).go fun _ => tt ?_;apply bk <;> intro h2
 rotate_left
 ·refine tw h2 ?_
  have h2p := dd h2;exact pure_ret (by rw [dec_f]; rintro rfl; exact h2p rfl) (.refl _)
 refine tw h2 ?_
 have h2p := dd h2;refine (l01Same_ok B a.idn b.idn).go fun _ => tt ?_;apply bk <;> intro h3
 rotate_left
 ·refine tw h3 ?_
  have h3p := dd h3;exact pure_ret (by rw [dec_f]; rintro rfl; exact h3p rfl) (.refl _)
 refine tw h3 ?_
 have h3p := dd h3;refine (l01Same2_ok B a.comp b.comp).go fun _ => tt ?_;refine pure_ret ?_ (.refl _)
 congr 1
 refine dec_congr ⟨fun h => ?_,fun h => by rw [h]⟩
 cases a; cases b; simp_all
theorem sameCategory_ok (B : Nat) (a b : Cat) : Pur Tryz.prog B 167 [.ptr a.cells,.ptr b.cells] (.bool (dec (a = b))) := by
 refine ⟨fun H0 => c167 (by simp) fun ⟨hf,hg,_⟩ => ?_⟩
 have hl := fine_mL_le (hf.ptr (c := iLL a.comp) (by simp [Cat.cells]));simp only [maxL] at hl;unfold s167;refine tt ?_;apply bn <;> intro h0
 rotate_left
 ·refine tw h0 ?_
  have h0p := dd h0;exact pure_ret (by rw [dec_f]; rintro rfl; exact h0p rfl) (.refl _)
 refine tw h0 ?_
 have h0p := dd h0;refine ⟨_,(same_ok B a.frm b.frm).run,tt ?_⟩;apply bn <;> intro h1
 rotate_left
 ·refine tw h1 ?_
  have h1p := dd h1;exact pure_ret (by rw [dec_f]; rintro rfl; exact h1p rfl) (.refl _)
 refine tw h1 ?_
 have h1p := dd h1;refine ⟨_,(same_ok B a.to b.to).run,tt ?_⟩;apply bn <;> intro h2
 rotate_left
 ·refine tw h2 ?_
  have h2p := dd h2;exact pure_ret (by rw [dec_f]; rintro rfl; exact h2p rfl) (.refl _)
 refine tw h2 ?_
 have h2p := dd h2;refine ⟨_,(same_ok B a.idn b.idn).run,tt ?_⟩;apply bn <;> intro h3
 rotate_left
 ·refine tw h3 ?_
  have h3p := dd h3;exact pure_ret (by rw [dec_f]; rintro rfl; exact h3p rfl) (.refl _)
 refine tw h3 ?_
 have h3p := dd h3;apply bk <;> intro h4
 ·refine tw h4 ?_
  have h4p := dd h4;exact pure_ret (by rw [dec_f]; rintro rfl; exact h4p rfl) (.refl _)
 refine tw h4 ?_
 have h4p := dd h4;refine awp_for [0,1,68] (fun k _ => [(69,some (.int .i64 (k : Int)))]) (fun k _ H => H = H0 ∧ ∀ i,i < k → a.comp.getD i default = b.comp.getD i default) a.comp.length () ⟨rfl,by simp⟩ rfl ?_
 rintro k _ H hk ⟨rfl,hall⟩;refine tt ?_;apply bk <;> intro g1
 ·have g1p := dd g1
  have w1 := wsucc (k := k) (by omega);refine tt ?_;refine ⟨g1p,by omega,_,(same_ok ..).run,tt ?_⟩;apply bk <;> intro g2
  ·refine tt ?_
   have g2p := dd g2;exact pure_ret (by rw [dec_f]; rintro rfl; exact g2p rfl) (.refl _)
  ·refine tw w1 ?_
   have g2p := dd g2;exact for_next () g1p ⟨rfl,lt_succ_all hall g2p⟩ rfl
 ·refine tt ?_
  have g1p := dd g1;refine pure_ret ?_ (.refl _);rw [dec_t]
  have e : a.comp = b.comp := by
   refine List.ext_getElem h4p fun i hi hj => ?_
   have := hall i (by omega)
   simpa [List.getD_eq_getElem?_getD,hi,hj] using this
  cases a; cases b; simp_all
theorem l27Make_ok (B : Nat) (c : Cat) (hc : c.Is) : Pur Tryz.prog B 344 [.agg c.cells] (.tup [.agg (tabA c),.bool (dec (AllFew c))]) := by
 refine ⟨fun H0 => c344 (by simp) fun _ => ?_⟩
 have hs := hc.1
 have hob := hs.o;unfold s344;refine tt ?_;refine nb (.nil _) fun id H o => tt ?_;refine (l25Lists_ok B c hc).go fun _ => tt ?_;apply bk <;> intro h1
 ·refine tt ?_
  have h1p := dd h1;refine sw o fun H o => tt ?_;rw [o.rc 8 0 (by simp)];refine tt ?_;exact pure_ret (by rw [tabA_f h1p,dec_f h1p]; rfl) o.sub
 ·refine tt ?_
  have h1p := dd h1;rw [tabS_t h1p];refine ⟨_,(l25Make_ok B c hs (listsOf c) (by simp [listsOf]; omega)).run,tt ?_⟩;refine ⟨_,(l25Tops_ok ..).run,tt ?_⟩;refine sw o fun H o => tt ?_;rw [o.rc 8 0 (by simp)];refine tt ?_;exact pure_ret (by rw [tabA_t h1p,dec_t h1p]; rfl) o.sub
theorem form_covers {j : Top} (h : j.Form) (hf : AllFew j.shape) : j.covers.length = (listsOf j.shape).length ∧ ∀ x : Nat,x < (listsOf j.shape).length → ∀ s,s ∈ j.covers.getD x default → j.shape.Sieve x s ∧ s ∈ (listsOf j.shape).getD x default := by
 have t := tabOk h.is hf
 have hl := t.len
 have hl2 := h.len;refine ⟨by omega,fun x hx s hs => ?_⟩
 obtain ⟨k,hk,rfl⟩ := mem_getD.mp hs
 have := h.sv x (by omega) k hk;exact ⟨this,((t.all x hx).mem _).mpr this⟩
theorem l27Read_no (B : Nat) (j : Top) (h : ¬ j.Form) : Pur Tryz.prog B 308 [.agg j.cells] (.tup [.agg tabZ,.sl [],.int .i64 1]) := by
 refine ⟨fun H0 => c308p (by simp) fun _ => ?_⟩;unfold s308p;refine tt ?_;refine nb (.nil _) fun id H o => tt ?_;refine (l27Shape_ok B j).go fun _ => ?_;rw [dec_f h];refine tt ?_;refine sw o fun H o => tt ?_;rw [o.rc 8 0 (by simp)];refine tt ?_;exact pure_ret rfl o.sub
theorem l27Read_many (B : Nat) (j : Top) (h : j.Form) (hf : ¬ AllFew j.shape) : Pur Tryz.prog B 308 [.agg j.cells] (.tup [.agg tabZ,.sl [],.int .i64 3]) := by
 refine ⟨fun H0 => c308p (by simp) fun _ => ?_⟩;unfold s308p;refine tt ?_;refine nb (.nil _) fun id H o => tt ?_;refine (l27Shape_ok B j).go fun _ => ?_;rw [dec_t h];refine tt ?_;refine (l27Make_ok B j.shape h.is).go fun _ => ?_;rw [dec_f hf,tabA_f hf];refine tt ?_;refine nb o fun id5 H o => tt ?_;refine sw o fun H o => tt ?_;refine sw o.swap fun H o => tt ?_;rw [o.rc 8 0 (by simp)];refine tt ?_;exact pure_ret rfl o.sub
theorem l27Read_ok (B : Nat) (j : Top) (h : j.Form) (hf : AllFew j.shape) : Pur Tryz.prog B 308 [.agg j.cells] (.tup [.agg (tabCells j.shape (listsOf j.shape)),bLL (marksOf (listsOf j.shape) j.covers),.int .i64 0]) := by
 refine ⟨fun H0 => c308p (by simp) fun _ => ?_⟩
 have hcv := form_covers h hf;unfold s308p;refine tt ?_;refine nb (.nil _) fun id H o => tt ?_;refine (l27Shape_ok B j).go fun _ => ?_;rw [dec_t h];refine tt ?_;refine (l27Make_ok B j.shape h.is).go fun _ => ?_;rw [dec_t hf,tabA_t hf];refine tt ?_;refine nb o fun id5 H o => tt ?_;refine sw o fun H o => tt ?_;refine rd_celln o (by simp) ?_;refine tt ?_;refine rd_celln o (by simp) ?_;refine tt ?_;refine ⟨_,(l27Marks_ok B j.shape (listsOf j.shape) (tabOk h.is hf) j.covers hcv.1 fun x hx s hs => (hcv.2 x hx s hs).2).run,tt ?_⟩;refine sw o.swap fun H o => tt ?_;rw [o.rc 8 0 (by simp)];refine tt ?_;exact pure_ret rfl o.sub
open Classical in
/-- The code of a topology. -/
noncomputable def codeT (j : Top) : Int := if ¬ j.Form then 1 else if ¬ AllFew j.shape then 3 else if TopIs j.shape j.covers then 0 else 5
def CodeK (j : Top) (H0 : Heap) : Kont := fun r H' => H' = H0 ∧ ∃ cs b,cs.length = 8 ∧ (∀ c,c ∈ cs → c.one = true) ∧ r = .tup [.agg cs,b,.int .i64 (codeT j)]
theorem code_ret {j : Top} {H0 H : Heap} {cs : List AV} {b : AV} {n : Int} (hs : H0.sub H) (hl : cs.length = 8) (ho : ∀ c,c ∈ cs → c.one = true) (hn : n = codeT j) : subW (CodeK j H0) (.tup [.agg cs,b,.int .i64 n]) H :=
 ⟨H0,hs,rfl,cs,b,hl,ho,by rw [hn]⟩
theorem l27Code_ok (B : Nat) (j : Top) (H0 : Heap) : CallH Tryz.prog B 262 [.agg j.cells] H0 (CodeK j H0) := by
 refine c262 (by simp) fun _ => ?_;unfold s262;refine tt ?_;refine nb (.nil _) fun id H o => tt ?_
 by_cases h : j.Form
 ·by_cases hf : AllFew j.shape
  ·have t := tabOk h.is hf
   have hcv := form_covers h hf
   have hiff := topM_iff t (C := j.covers) fun x hx s hs => (hcv.2 x hx s hs).1;refine (l27Read_ok B j h hf).go fun _ => tt ?_;refine nb o fun id5 H o => tt ?_;refine sw o fun H o => ?_;try simp only [go_sem,↓reduceIte,reduceEqDiff,reduceAdd,reduceMul,reduceLeDiff,reduceLT,decide_true,decide_false,eq_self,Int.reduceEq]
   refine rd_celln o (by simp) ?_;refine tt ?_;refine (l27Is_ok B j.shape (listsOf j.shape) t (marksOf (listsOf j.shape) j.covers) markOk).go fun _ => tt ?_;apply bk <;> intro h1
   all_goals
    refine tt ?_;refine rd_celln o (by simp) ?_;refine tt ?_;refine sw o.swap fun H o => tt ?_;rw [o.rc 8 0 (by simp)];refine tt ?_
    have h1p := dd h1;rw [hiff] at h1p;refine code_ret o.sub rfl (by first | (simp only [go_sem]; done) | ((try simp only [go_sem]); simp [AV.one,one_mL])) ?_
    simp [codeT,h,hf,h1p]
  ·refine (l27Read_many B j h hf).go fun _ => tt ?_;refine nb o fun id5 H o => tt ?_;refine sw o fun H o => ?_;try simp only [go_sem,↓reduceIte,reduceEqDiff,reduceAdd,reduceMul,reduceLeDiff,reduceLT,decide_true,decide_false,eq_self,Int.reduceEq]
   refine rd_celln o (by simp) ?_;refine tt ?_;refine sw o.swap fun H o => tt ?_;rw [o.rc 8 0 (by simp)];refine tt ?_;refine code_ret o.sub rfl (by first | (simp only [go_sem]; done) | ((try simp only [go_sem]); simp [AV.one,one_mL])) ?_
   simp [codeT,h,hf]
 ·refine (l27Read_no B j h).go fun _ => tt ?_;refine nb o fun id5 H o => tt ?_;refine sw o fun H o => ?_;try simp only [go_sem,↓reduceIte,reduceEqDiff,reduceAdd,reduceMul,reduceLeDiff,reduceLT,decide_true,decide_false,eq_self,Int.reduceEq]
  refine rd_celln o (by simp) ?_;refine tt ?_;refine sw o.swap fun H o => tt ?_;rw [o.rc 8 0 (by simp)];refine tt ?_;refine code_ret o.sub rfl (by first | (simp only [go_sem]; done) | ((try simp only [go_sem]); simp [AV.one,one_mL])) ?_
  simp [codeT,h]
@[go_sem] def taskCells (sizes : List Int) (ls : List Lk) (at' : List (List Int)) (most : Nat) (X : AV) : List AV := [iL sizes,mL lkE ls,iLL at',.int .i64 most,X]
end Go.Proofs.Shf
