/- A part of a proof. -/
import Derived.Test.YtadpkiiglobmpaaGreatF9
import Derived.Test.YtadpkiiglobmpaaGreatProg
import Derived.Shelf.SlLaysF0
set_option linter.unusedVariables false
set_option linter.unusedSimpArgs false
set_option linter.unusedSectionVars false
open Nat (reduceEqDiff reduceAdd reduceMul reduceLeDiff reduceLT)
namespace Go.AW
def nilTo : AV → AV
 | .nilsl => .sl []
 | a => a
theorem wk_nils {F : Env → Heap → Prop} {σ : Env} {H0 : Heap} {l : Ob} {id sz fr : Nat} : ∀ (r dn : List AV) (H : Heap), Owns H0 H ((id, .cells sz (dn ++ r) fr) :: l) →
  (∀ H', Owns H0 H' ((id, .cells sz (dn ++ r.map nilTo) fr) :: l) → wkW F σ H') → wkW F σ H
 | [], dn, H, o, hk => hk H (by simpa using o)
 | a :: r, dn, H, o, hk => by
  have hstep : ∀ H', Owns H0 H' ((id, .cells sz ((dn ++ [nilTo a]) ++ r) fr) :: l) → wkW F σ H' := fun H' o' =>
   wk_nils r (dn ++ [nilTo a]) H' o' fun H2 o2 => hk H2 (by simpa using o2)
  by_cases h : a = .nilsl
  ·subst h
   refine wk_nil dn.length o (by simp) fun H' o' => hstep H' ?_
   have e : (dn ++ AV.nilsl :: r).set dn.length (.sl []) = (dn ++ [nilTo .nilsl]) ++ r := by rw [List.set_append_right _ _ (Nat.le_refl _)]; simp [nilTo]
   rw [e] at o'; exact o'
  ·refine hstep H ?_
   have e : nilTo a = a := by unfold nilTo; split <;> simp_all
   rw [e]; simpa using o
end Go.AW
namespace Go.Shf
open Go.AW Go.Proofs.Shf
theorem mapL_is {f g : SF} {p : List (List Int)} (hf : f.Is) (hg : g.Is) (e : f.shape = g.shape) (h : MapL f g p) : SM.Is ⟨f, g, p⟩ := by
 have hsl := hf.1.sl
 have hl := h.len
 refine ⟨hf, hg, e, ⟨by show p.length = f.sizes.length; omega, fun x hx => ?_⟩, fun a ha e he => ?_⟩
 ·have hx' : x < p.length := hx
  have := h.pl x (by omega)
  simp only [ix_nat] at this
  refine ⟨this.1, fun y hy => ?_⟩
  obtain ⟨i, hi, rfl⟩ := mem_getD.mp hy
  have h2 := this.2 i (by have : i < (p.getD x default).length := hi; omega)
  rw [ix_nat] at h2
  exact h2
 ·have ha' : a < f.acts.length := ha
  have he' : e < (f.acts.getD a default).length := he
  have hal := hf.1.al
  have hac := hf.1.actLen (a := (a : Int)) (by simp; omega)
  have := h.nl a ⟨by omega, by simp; omega⟩ e (by rw [ix_nat] at hac; omega)
  simp only [ix_nat] at this
  exact this
end Go.Shf
namespace Go.Proofs.Shf
open Go.AW Go.Proofs Go.Shf
theorem svOk (B : Nat) (hlib : LibSorts) (c : Cat) (hc : c.Is) : SievesOk B c := fun x hx => ⟨_, sieves_ok B hlib c hc x hx, fun h => by rw [if_pos h]; exact ⟨rfl, (allS_is h).2⟩⟩
def nilM : SM := ⟨nilF, nilF, []⟩
noncomputable def chiM (f : SF) (p : List (List Int)) : SM := ⟨f, omF f.shape (listsOf f.shape), chi f (listsOf f.shape) p⟩
open Classical in
noncomputable def chC (f : SF) (p : List (List Int)) : Int := if f.Is ∧ f.Part p then (if AllFew f.shape then 0 else 3) else 1
open Classical in
noncomputable def chR (f : SF) (p : List (List Int)) : SM := if chC f p = 0 then chiM f p else nilM
theorem charI_ok (B : Nat) (hlib : LibSorts) (f : SF) (p : List (List Int)) : Pur Tryz.prog B 47 [.agg f.cells, .agg [iLL p]] (.tup [.agg (chR f p).cells, iI (chC f p)]) := by
 refine ⟨fun H0 => c47p (by simp) fun _ => ?_⟩
 unfold s47p
 have o : Owns H0 H0 [] := .nil _
 try simp only [go_sem, reduceAdd]
 refine ⟨by simp [maxL], newRef_own o fun id4 H o => ?_⟩
 try simp only [go_sem, reduceAdd]
 refine (areParts_ok B f p).go fun _ => ?_
 by_cases hfp : f.Is ∧ f.Part p
 rotate_left 1
 ·have hcc : chC f p = 1 := by rw [chC, if_neg hfp]
  have hrr : chR f p = nilM := by rw [chR, hcc, if_neg (by decide)]
  rw [dec_f hfp]
  try simp only [go_sem]
  refine stc o fun H o => ?_
  simp only [wr_cons, wr_nil, List.set_cons_zero, List.set_cons_succ] at o
  try simp only [go_sem]
  refine wk_nils _ [] H o fun H o => wkW_done ?_
  have hr := o.rc 15 0 (by simp)
  simp only [List.drop_zero] at hr
  try simp only [go_sem]
  rw [hr]
  exact pure_ret (by rw [hcc, hrr]; rfl) o.sub
 rw [dec_t hfp]
 obtain ⟨hf, hp⟩ := hfp
 have hm := hf.1.is.1.m
 have hob := hf.1.is.1.o
 have hsl := hf.1.sl
 have hz0 : ∀ x, x < f.sizes.length → 0 ≤ f.sizes.getD x default ∧ f.sizes.getD x default < 17 := fun x hx => hf.1.sz _ (mem_getD.mpr ⟨x, hx, rfl⟩)
 try simp only [go_sem, reduceAdd, reduceLeDiff]
 refine (classifier_ok B f.shape hf.1.is (svOk B hlib _ hf.1.is)).go fun _ => ?_
 by_cases hfew : AllFew f.shape
 rotate_left 1
 ·have hcc : chC f p = 3 := by rw [chC, if_pos ⟨hf, hp⟩, if_neg hfew]
  have hrr : chR f p = nilM := by rw [chR, hcc, if_neg (by decide)]
  rw [dec_f hfew]
  try simp only [go_sem, reduceAdd, reduceLT]
  refine stc o fun H o => ?_
  simp only [wr_cons, wr_nil, List.set_cons_zero, List.set_cons_succ] at o
  try simp only [go_sem]
  refine wk_nils _ [] H o fun H o => wkW_done ?_
  have hr := o.rc 15 0 (by simp)
  simp only [List.drop_zero] at hr
  try simp only [go_sem]
  rw [hr]
  exact pure_ret (by rw [hcc, hrr]; rfl) o.sub
 have hcc : chC f p = 0 := by rw [chC, if_pos ⟨hf, hp⟩, if_pos hfew]
 have hrr : chR f p = chiM f p := by rw [chR, if_pos hcc]
 have t := tabOk hf.1.is hfew
 have hLl := t.len
 rw [dec_t hfew, clsOr, if_pos hfew]
 rw [hcc, hrr, chiM]
 generalize hL : listsOf f.shape = L at *
 try simp only [go_sem, reduceAdd, reduceLT]
 refine new_list iL o fun id8 H o => ?_
 try simp only [go_sem, reduceAdd, reduceLeDiff]
 refine awp_for [2, 3, 4, 6, 28, 29] (G := Nat × List (List Int)) (fun k g => [(8, some (.buf g.1 g.2.length)), (30, some (.int .i64 (k : Int)))])
  (fun k g H => g.2 = (List.range k).map (chiRow f L p) ∧ Owns H0 H [(g.1, .cells 1 (g.2.map iL) 0), (id4, MObj.cells 15 [.int .i64 0, .nilsl, .nilsl, .nilsl, .nilsl, .nilsl, .nilsl, .int .i64 0, .nilsl, .nilsl, .nilsl, .nilsl, .nilsl, .nilsl, .nilsl] 0)]) f.sizes.length (id8, []) ⟨rfl, o⟩ rfl ?_
 clear o
 rintro k ⟨id8, out⟩ H hk ⟨hout, o⟩
 replace hout : out = (List.range k).map (chiRow f L p) := hout
 replace o : Owns H0 H [(id8, .cells 1 (out.map iL) 0), (id4, MObj.cells 15 [.int .i64 0, .nilsl, .nilsl, .nilsl, .nilsl, .nilsl, .nilsl, .int .i64 0, .nilsl, .nilsl, .nilsl, .nilsl, .nilsl, .nilsl, .nilsl] 0)] := o
 have hol : out.length = k := by rw [hout]; simp
 try simp only [go_sem]
 refine ⟨fun h1 => At.mk ?_, fun h1 => At.mk ?_⟩
 ·have h1p := of_decide h1
  have w1 := wsucc (k := k) (by omega)
  have hzk := hz0 k h1p
  obtain ⟨n, hn⟩ : ∃ n : Nat, f.sizes.getD k default = n := ⟨_, (Int.toNat_of_nonneg hzk.1).symm⟩
  rw [hn] at hzk
  try simp only [go_sem]
  refine ⟨h1p, ?_⟩
  rw [hn]
  refine new_list iI o fun id11 H o => ?_
  try simp only [go_sem]
  refine awp_for [2, 3, 4, 6, 8, 9, 28, 29, 30, 36] (G := Nat × List Int) (fun e g => [(11, some (.buf g.1 g.2.length)), (37, some (.int .i64 (e : Int)))])
   (fun e g H => g.2 = (List.range e).map (fun e : Nat => indexOf (L.getD k default) (valS f p k e)) ∧ Owns H0 H [(g.1, .cells 1 (g.2.map iI) 0), (id8, .cells 1 (out.map iL) 0), (id4, MObj.cells 15 [.int .i64 0, .nilsl, .nilsl, .nilsl, .nilsl, .nilsl, .nilsl, .int .i64 0, .nilsl, .nilsl, .nilsl, .nilsl, .nilsl, .nilsl, .nilsl] 0)]) n (id11, []) ⟨rfl, o⟩ rfl ?_
  clear o
  rintro e ⟨id11, row⟩ H he ⟨hrow, o⟩
  replace hrow : row = (List.range e).map (fun e : Nat => indexOf (L.getD k default) (valS f p k e)) := hrow
  replace o : Owns H0 H [(id11, .cells 1 (row.map iI) 0), (id8, .cells 1 (out.map iL) 0), (id4, MObj.cells 15 [.int .i64 0, .nilsl, .nilsl, .nilsl, .nilsl, .nilsl, .nilsl, .int .i64 0, .nilsl, .nilsl, .nilsl, .nilsl, .nilsl, .nilsl, .nilsl] 0)] := o
  have hrl : row.length = e := by rw [hrow]; simp
  try simp only [go_sem]
  refine ⟨fun h2 => At.mk ?_, fun h2 => At.mk ?_⟩
  ·have h2p : e < n := of_decide h2
   have w2 := wsucc (k := e) (by omega)
   try simp only [go_sem, reduceAdd]
   refine (holding_ok B f hf p hp.len k e (by omega) (by rw [ix_nat, hn]; omega)).go fun _ => ?_
   try simp only [go_sem]
   refine (number_ok B f.shape L (iL (lensOf L)) (iLL (pullsOf f.shape L)) k ⟨by omega, by simp; omega⟩ (valS f p k e)).go fun _ => ?_
   try simp only [go_sem, reduceAdd]
   refine app_own (indexOf (L.getD k default) (valS f p k e)) o rfl rfl (by simp only [maxL]; omega) fun id11 H o => ?_
   try simp only [go_sem, w2]
   exact for_next (_, _) (by omega) ⟨by rw [hrow, map_range_succ], o⟩ rfl
  ·have h2p : ¬ e < n := of_ndecide h2
   obtain rfl : e = n := by omega
   have hrow2 : row = chiRow f L p k := by rw [hrow, chiRow, hn, Int.toNat_natCast]
   try simp only [go_sem]
   refine fz_own o rfl fun H o => ?_
   try simp only [go_sem, reduceAdd]
   refine app_own row o rfl rfl (by simp only [maxL]; omega) fun id8 H o => ?_
   try simp only [go_sem, w1]
   exact for_next (_, _) (by omega) ⟨by rw [hout, map_range_succ, hrow2], o⟩ rfl
 ·have h1p := of_ndecide h1
  obtain rfl : k = f.sizes.length := by omega
  try simp only [go_sem]
  refine fz_own o rfl fun H o => ?_
  try simp only [go_sem, reduceAdd, reduceLeDiff]
  refine (show Pur Tryz.prog B _ _ _ from setMap_ok B f (omF f.shape L) out).go fun _ => ?_
  try simp only [go_sem]
  refine stc o fun H o => ?_
  simp only [wr_cons, wr_nil, List.set_cons_zero, List.set_cons_succ] at o
  try simp only [go_sem]
  refine wkW_done ?_
  have hr := o.rc 15 0 (by simp)
  simp only [List.drop_zero] at hr
  try simp only [go_sem]
  rw [hr]
  exact pure_ret (by rw [hout]; rfl) o.sub
theorem charS_ok (B : Nat) (f : SF) (p : List (List Int)) : Pur Tryz.prog B 48 [.agg f.cells, .agg [iLL p]] (.tup [.agg (chR f p).cells, iI (chC f p)]) := by
 refine ⟨fun H0 => c48p (by simp) fun _ => ?_⟩
 unfold s48p
 have o : Owns H0 H0 [] := .nil _
 try simp only [go_sem, reduceAdd]
 refine ⟨by simp [maxL], newRef_own o fun id4 H o => ?_⟩
 try simp only [go_sem, reduceAdd]
 refine (specIsPart_ok B f p).go fun _ => ?_
 by_cases hfp : f.Is ∧ f.Part p
 rotate_left 1
 ·have hcc : chC f p = 1 := by rw [chC, if_neg hfp]
  have hrr : chR f p = nilM := by rw [chR, hcc, if_neg (by decide)]
  rw [dec_f hfp]
  try simp only [go_sem]
  refine stc o fun H o => ?_
  simp only [wr_cons, wr_nil, List.set_cons_zero, List.set_cons_succ] at o
  try simp only [go_sem]
  refine wk_nils _ [] H o fun H o => wkW_done ?_
  have hr := o.rc 15 0 (by simp)
  simp only [List.drop_zero] at hr
  try simp only [go_sem]
  rw [hr]
  exact pure_ret (by rw [hcc, hrr]; rfl) o.sub
 rw [dec_t hfp]
 obtain ⟨hf, hp⟩ := hfp
 have hm := hf.1.is.1.m
 have hob := hf.1.is.1.o
 have hsl := hf.1.sl
 have hz0 : ∀ x, x < f.sizes.length → 0 ≤ f.sizes.getD x default ∧ f.sizes.getD x default < 17 := fun x hx => hf.1.sz _ (mem_getD.mpr ⟨x, hx, rfl⟩)
 try simp only [go_sem, reduceAdd, reduceLeDiff]
 refine (l25Lists_ok B f.shape hf.1.is).go fun _ => ?_
 by_cases hfew : AllFew f.shape
 rotate_left 1
 ·have hcc : chC f p = 3 := by rw [chC, if_pos ⟨hf, hp⟩, if_neg hfew]
  have hrr : chR f p = nilM := by rw [chR, hcc, if_neg (by decide)]
  rw [dec_f hfew]
  try simp only [go_sem, reduceAdd, reduceLT]
  refine stc o fun H o => ?_
  simp only [wr_cons, wr_nil, List.set_cons_zero, List.set_cons_succ] at o
  try simp only [go_sem]
  refine wk_nils _ [] H o fun H o => wkW_done ?_
  have hr := o.rc 15 0 (by simp)
  simp only [List.drop_zero] at hr
  try simp only [go_sem]
  rw [hr]
  exact pure_ret (by rw [hcc, hrr]; rfl) o.sub
 have hcc : chC f p = 0 := by rw [chC, if_pos ⟨hf, hp⟩, if_pos hfew]
 have hrr : chR f p = chiM f p := by rw [chR, if_pos hcc]
 have t := tabOk hf.1.is hfew
 have hLl := t.len
 rw [dec_t hfew, tabS_t hfew]
 rw [hcc, hrr, chiM]
 generalize hL : listsOf f.shape = L at *
 try simp only [go_sem, reduceAdd, reduceLT]
 refine new_list iL o fun id8 H o => ?_
 try simp only [go_sem]
 refine awp_for [2, 3, 4, 6] (G := Nat × List (List Int)) (fun k g => [(8, some (.buf g.1 g.2.length)), (9, some (.int .i64 (k : Int)))])
  (fun k g H => g.2 = (List.range k).map (chiRow f L p) ∧ Owns H0 H [(g.1, .cells 1 (g.2.map iL) 0), (id4, MObj.cells 15 [.int .i64 0, .nilsl, .nilsl, .nilsl, .nilsl, .nilsl, .nilsl, .int .i64 0, .nilsl, .nilsl, .nilsl, .nilsl, .nilsl, .nilsl, .nilsl] 0)]) f.shape.objs.toNat (id8, []) ⟨rfl, o⟩ rfl ?_
 clear o
 rintro k ⟨id8, out⟩ H hk ⟨hout, o⟩
 replace hout : out = (List.range k).map (chiRow f L p) := hout
 replace o : Owns H0 H [(id8, .cells 1 (out.map iL) 0), (id4, MObj.cells 15 [.int .i64 0, .nilsl, .nilsl, .nilsl, .nilsl, .nilsl, .nilsl, .int .i64 0, .nilsl, .nilsl, .nilsl, .nilsl, .nilsl, .nilsl, .nilsl] 0)] := o
 have hol : out.length = k := by rw [hout]; simp
 try simp only [go_sem, reduceAdd, reduceLeDiff]
 refine ⟨fun h1 => At.mk ?_, fun h1 => At.mk ?_⟩
 ·have h1p := of_decide h1
  have w1 := wsucc (k := k) (by omega)
  have hkl : k < f.sizes.length := by omega
  have hzk := hz0 k hkl
  obtain ⟨n, hn⟩ : ∃ n : Nat, f.sizes.getD k default = n := ⟨_, (Int.toNat_of_nonneg hzk.1).symm⟩
  rw [hn] at hzk
  try simp only [go_sem]
  refine new_list iI o fun id11 H o => ?_
  try simp only [go_sem]
  refine awp_for [2, 3, 4, 6, 8, 9] (G := Nat × List Int) (fun e g => [(10, some (.buf g.1 g.2.length)), (11, some (.int .i64 (e : Int)))])
   (fun e g H => g.2 = (List.range e).map (fun e : Nat => indexOf (L.getD k default) (valS f p k e)) ∧ Owns H0 H [(g.1, .cells 1 (g.2.map iI) 0), (id8, .cells 1 (out.map iL) 0), (id4, MObj.cells 15 [.int .i64 0, .nilsl, .nilsl, .nilsl, .nilsl, .nilsl, .nilsl, .int .i64 0, .nilsl, .nilsl, .nilsl, .nilsl, .nilsl, .nilsl, .nilsl] 0)]) n (id11, []) ⟨rfl, o⟩ rfl ?_
  clear o
  rintro e ⟨id11, row⟩ H he ⟨hrow, o⟩
  replace hrow : row = (List.range e).map (fun e : Nat => indexOf (L.getD k default) (valS f p k e)) := hrow
  replace o : Owns H0 H [(id11, .cells 1 (row.map iI) 0), (id8, .cells 1 (out.map iL) 0), (id4, MObj.cells 15 [.int .i64 0, .nilsl, .nilsl, .nilsl, .nilsl, .nilsl, .nilsl, .int .i64 0, .nilsl, .nilsl, .nilsl, .nilsl, .nilsl, .nilsl, .nilsl] 0)] := o
  have hrl : row.length = e := by rw [hrow]; simp
  try simp only [go_sem, reduceAdd, reduceLeDiff]
  refine ⟨hkl, ?_⟩
  rw [hn]
  try simp only [go_sem]
  refine ⟨fun h2 => At.mk ?_, fun h2 => At.mk ?_⟩
  ·have h2p := of_decide h2
   have w2 := wsucc (k := e) (by omega)
   try simp only [go_sem, reduceAdd, reduceLeDiff]
   refine ⟨by omega, ?_⟩
   refine ⟨_, (l25Value_ok B f hf p hp.len k e (by omega) (by rw [ix_nat, hn]; omega)).run, ?_⟩
   refine ⟨_, (l05Place_ok B (L.getD k default) (valS f p k e)).run, ?_⟩
   try simp only [go_sem, reduceAdd]
   refine app_own (indexOf (L.getD k default) (valS f p k e)) o rfl rfl (by simp only [maxL]; omega) fun id11 H o => ?_
   try simp only [go_sem, w2]
   exact for_next (_, _) (by omega) ⟨by rw [hrow, map_range_succ], o⟩ rfl
  ·have h2p := of_ndecide h2
   obtain rfl : e = n := by omega
   have hrow2 : row = chiRow f L p k := by rw [hrow, chiRow, hn, Int.toNat_natCast]
   try simp only [go_sem]
   refine fz_own o rfl fun H o => ?_
   try simp only [go_sem, reduceAdd]
   refine app_own row o rfl rfl (by simp only [maxL]; omega) fun id8 H o => ?_
   try simp only [go_sem, w1]
   exact for_next (_, _) (by omega) ⟨by rw [hout, map_range_succ, hrow2], o⟩ rfl
 ·have h1p := of_ndecide h1
  have hkk : k = f.sizes.length := by omega
  try simp only [go_sem]
  refine fz_own o rfl fun H o => ?_
  try simp only [go_sem, reduceAdd, reduceLeDiff]
  refine ⟨_, (l25Make_ok B f.shape hf.1.is.1 L hLl).run, ?_⟩
  try simp only [go_sem]
  refine ⟨_, (show Pur Tryz.prog B _ [.agg f.cells, .agg (omF f.shape L).cells, iLL out] _ from l19Make_ok B f (omF f.shape L) out).run, ?_⟩
  try simp only [go_sem]
  refine stc o fun H o => ?_
  simp only [wr_cons, wr_nil, List.set_cons_zero, List.set_cons_succ] at o
  try simp only [go_sem]
  refine wkW_done ?_
  have hr := o.rc 15 0 (by simp)
  simp only [List.drop_zero] at hr
  try simp only [go_sem]
  rw [hr]
  exact pure_ret (by rw [hout, hkk]; rfl) o.sub
theorem classifierI_ok (B : Nat) (hlib : LibSorts) (c : Cat) (hc : c.Is) (hfew : AllFew c) : Pur Tryz.prog B 51 [.agg c.cells] (.tup [.agg (omF c (listsOf c)).cells, iI 0]) := by
 refine ⟨fun H0 => c51 (by simp) fun _ => ?_⟩
 unfold s51
 have o : Owns H0 H0 [] := .nil _
 try simp only [go_sem, reduceAdd]
 refine ⟨by simp [maxL], newRef_own o fun id4 H o => ?_⟩
 try simp only [go_sem]
 refine (isCategory_ok B c).go fun _ => ?_
 rw [dec_t hc]
 try simp only [go_sem]
 refine (classifier_ok B c hc (svOk B hlib _ hc)).go fun _ => ?_
 rw [dec_t hfew, clsOr, if_pos hfew]
 try simp only [go_sem, reduceAdd, reduceLeDiff, reduceLT]
 refine stc o fun H o => ?_
 simp only [wr_cons, wr_nil, List.set_cons_zero, List.set_cons_succ] at o
 try simp only [go_sem]
 have hr := o.rc 7 0 (by simp)
 simp only [List.drop_zero] at hr
 rw [hr]
 exact pure_ret rfl o.sub
theorem isSetMap_ok (B : Nat) (m : SM) : Pur Tryz.prog B 53 [.agg m.cells] (.bool (dec m.Is)) := by
 refine ⟨fun H0 => c53 (by simp) fun _ => ?_⟩
 unfold s53
 try simp only [go_sem, reduceAdd]
 refine (isNatural_ok B m).go fun _ => ?_
 try simp only [go_sem]
 exact pure_ret rfl (.refl _)
end Go.Proofs.Shf
namespace Go.AW
def kpr (y d : Int) : AV := .agg [.int .i64 y, .int .i64 d]
theorem kpr_keq (y d y' d' : Int) : (kpr y d).keq (kpr y' d') = (decide (y = y') && decide (d = d')) := rfl
structure PMap (Q : Int → Int → Prop) (ks vs : List AV) : Prop where
 len : vs.length = ks.length
 key : ∀ a, a ∈ ks → ∃ y d, a = kpr y d
 yes : ∀ y d, Q y d → mget (kpr y d) ks vs = some (.bool true)
 non : ∀ y d, ¬ Q y d → mget (kpr y d) ks vs = none
theorem mget_mput_kpr (y d y' d' : Int) (x : AV) : ∀ (ks vs : List AV), vs.length = ks.length → (∀ a, a ∈ ks → ∃ y d, a = kpr y d) →
  mget (kpr y d) (mput (kpr y' d') x ks vs).1 (mput (kpr y' d') x ks vs).2 = if y = y' ∧ d = d' then some x else mget (kpr y d) ks vs
 | [], [], _, _ => by simp [mput, mget, kpr_keq]
 | [], _ :: _, h, _ => by simp at h
 | _ :: _, [], h, _ => by simp at h
 | a :: ks, v :: vs, h, hk => by
  obtain ⟨p, q, rfl⟩ := hk a (by simp)
  have ih := mget_mput_kpr y d y' d' x ks vs (by simpa using h) fun a ha => hk a (by simp [ha])
  simp only [mput, kpr_keq, Bool.and_eq_true, decide_eq_true_eq]
  by_cases e : y' = p ∧ d' = q
  ·obtain ⟨rfl, rfl⟩ := e
   simp only [and_self, if_true, mget, kpr_keq, Bool.and_eq_true, decide_eq_true_eq]
   split <;> rfl
  ·rw [if_neg e]
   simp only [mget, kpr_keq, Bool.and_eq_true, decide_eq_true_eq]
   by_cases e2 : y = p ∧ d = q
   ·obtain ⟨rfl, rfl⟩ := e2
    rw [if_pos ⟨rfl, rfl⟩, if_neg (fun h => e ⟨h.1.symm, h.2.symm⟩), if_pos ⟨rfl, rfl⟩]
   ·rw [if_neg e2, if_neg e2, ih]
theorem mput_len (k x : AV) : ∀ (ks vs : List AV), vs.length = ks.length → (mput k x ks vs).2.length = (mput k x ks vs).1.length
 | [], [], _ => rfl
 | [], _ :: _, h => by simp at h
 | _ :: _, [], h => by simp at h
 | a :: ks, v :: vs, h => by
  have := mput_len k x ks vs (by simpa using h)
  simp only [mput]
  split
  ·simpa using h
  ·simpa using this
theorem mput_key (k x : AV) : ∀ (ks vs : List AV) (a : AV), a ∈ (mput k x ks vs).1 → a = k ∨ a ∈ ks
 | [], vs, a, h => by simp [mput] at h; exact .inl h
 | b :: ks, [], a, h => by simp [mput] at h; exact .inl h
 | b :: ks, v :: vs, a, h => by
  simp only [mput] at h
  split at h
  ·rcases List.mem_cons.mp h with h | h
   ·exact .inl h
   ·exact .inr (List.mem_cons_of_mem _ h)
  ·rcases List.mem_cons.mp h with h | h
   ·exact .inr (by simp [h])
   ·rcases mput_key k x ks vs a h with h | h
    ·exact .inl h
    ·exact .inr (List.mem_cons_of_mem _ h)
theorem PMap.nil : PMap (fun _ _ => False) [] [] := ⟨rfl, by simp, fun _ _ h => h.elim, fun _ _ _ => rfl⟩
theorem PMap.put {Q : Int → Int → Prop} {ks vs : List AV} (h : PMap Q ks vs) (y d : Int) : PMap (fun y' d' => Q y' d' ∨ (y' = y ∧ d' = d)) (mput (kpr y d) (.bool true) ks vs).1 (mput (kpr y d) (.bool true) ks vs).2 where
 len := mput_len _ _ _ _ h.len
 key a ha := by
  rcases mput_key _ _ _ _ _ ha with rfl | ha
  ·exact ⟨y, d, rfl⟩
  ·exact h.key a ha
 yes y' d' hq := by
  rw [mget_mput_kpr _ _ _ _ _ _ _ h.len h.key]
  by_cases e : y' = y ∧ d' = d
  ·rw [if_pos e]
  ·rw [if_neg e]; exact h.yes _ _ (hq.resolve_right e)
 non y' d' hq := by
  rw [mget_mput_kpr _ _ _ _ _ _ _ h.len h.key, if_neg fun e => hq (.inr e)]
  exact h.non _ _ fun e => hq (.inl e)
theorem PMap.congr {Q Q' : Int → Int → Prop} {ks vs : List AV} (h : PMap Q ks vs) (e : ∀ y d, Q y d ↔ Q' y d) : PMap Q' ks vs := by
 have : Q = Q' := funext fun y => funext fun d => propext (e y d)
 rwa [← this]
theorem PMap.ok {Q : Int → Int → Prop} {ks vs : List AV} (h : PMap Q ks vs) (y d : Int) : okKey 2 (kpr y d) ks :=
 ⟨rfl, fun a ha => by obtain ⟨y', d', rfl⟩ := h.key a ha; rfl⟩
theorem PMap.is {Q : Int → Int → Prop} {ks vs : List AV} (h : PMap Q ks vs) (y d : Int) : (mget (kpr y d) ks vs).getD (.bool false) = .bool (dec (Q y d)) := by
 by_cases e : Q y d
 ·rw [h.yes _ _ e, dec_t e]; rfl
 ·rw [h.non _ _ e, dec_f e]; rfl
end Go.AW
namespace Go.Proofs.Shf
open Go.AW Go.Proofs Go.Shf
theorem holds_ok (B : Nat) (p : List (List Int)) (x e : Int) (hx : 0 ≤ x ∧ x.toNat < p.length) : Pur Tryz.prog B 265 [.agg [iLL p], iI x, iI e] (.bool (dec (e ∈ ix p x))) := by
 refine ⟨fun H0 => c265p (by simp) fun _ => ?_⟩
 unfold s265p
 try simp only [go_sem, reduceAdd, reduceLeDiff]
 refine ⟨hx, (has_ok ..).go fun _ => ?_⟩
 try simp only [go_sem]
 exact pure_ret rfl (.refl _)
def partE (f : SF) (q : Nat → Nat → Bool) (x : Nat) : List Int := nats (q x) (f.sizes.getD x default).toNat
def partN (f : SF) (q : Nat → Nat → Bool) (n : Nat) : List (List Int) := (List.range n).map (partE f q)
theorem partN_succ (f : SF) (q : Nat → Nat → Bool) (n : Nat) : partN f q (n + 1) = partN f q n ++ [partE f q n] := by simp [partN, List.range_succ]
theorem partN_len (f : SF) (q : Nat → Nat → Bool) (n : Nat) : (partN f q n).length = n := by simp [partN]
theorem partOf_ok (B : Nat) (f : SF) (hl : f.sizes.length ≤ 8) (hz : ∀ y, y ∈ f.sizes → 0 ≤ y ∧ y < 17) (F : FuncId) (ca : List AV) (q : Nat → Nat → Bool) (H0 : Heap)
  (hq : ∀ x e : Nat, x < f.sizes.length → (e : Int) < f.sizes.getD x default → ∀ H, H0.sub H → CallH Tryz.prog B F ([iI x, iI e] ++ ca) H fun r H' => r = .bool (q x e) ∧ H' = H) :
  CallH Tryz.prog B 136 [.ptr f.cells, .fn (.func F) ca] H0 fun r H' => r = .agg [iLL (partF f q)] ∧ H' = H0 := by
 refine c136p (by simp) fun _ => ?_
 unfold s136p
 have o : Owns H0 H0 [] := .nil _
 try simp only [go_sem, reduceAdd]
 refine newRef_own o fun id4 H o => ?_
 try simp only [go_sem, reduceAdd]
 refine newRef_own o fun id5 H o => ?_
 try simp only [go_sem]
 refine stc o fun H o => ?_
 simp only [wr_cons, wr_nil, List.set_cons_zero, List.set_cons_succ] at o
 try simp only [go_sem, reduceAdd, reduceLeDiff]
 refine awp_for [1, 4, 5, 14, 15] (G := AV) (fun k X => [(16, some (.int .i64 (k : Int)))]) (fun k X H => LsO iL H0 H [(id5, .cells 1 [X] 0), (id4, .cells 1 [.nilsl] 0)] X (partN f q k)) f.sizes.length .nilsl (.inl ⟨rfl, rfl, o⟩) rfl ?_
 clear o
 rintro k X H hk o
 try simp only [go_sem]
 refine ⟨fun h1 => At.mk ?_, fun h1 => At.mk ?_⟩
 ·have h1 := of_decide h1
  have w1 := wsucc (k := k) (by omega)
  have hsz := hz _ (mem_getD.mpr ⟨k, h1, rfl⟩)
  obtain ⟨n, hn⟩ : ∃ n : Nat, f.sizes.getD k default = n := ⟨_, (Int.toNat_of_nonneg hsz.1).symm⟩
  rw [hn] at hsz
  try simp only [go_sem]
  refine ⟨h1, ?_⟩
  rw [hn]
  obtain ⟨p, o, hp⟩ := o.split
  refine new_list iI o fun id8 H o => ?_
  try simp only [go_sem]
  refine awp_for [1, 4, 5, 6, 14, 15, 16, 22] (G := Nat × List Int) (fun e g => [(8, some (.buf g.1 g.2.length)), (23, some (.int .i64 (e : Int)))])
   (fun e g H => g.2 = nats (q k) e ∧ Owns H0 H ((g.1, .cells 1 (g.2.map iI) 0) :: (p ++ [(id5, .cells 1 [X] 0), (id4, .cells 1 [.nilsl] 0)]))) n (id8, []) ⟨by simp, o⟩ rfl ?_
  clear o
  rintro e ⟨id8, out⟩ H he ⟨hout, o⟩
  replace hout : out = nats (q k) e := hout
  replace o : Owns H0 H ((id8, .cells 1 (out.map iI) 0) :: (p ++ [(id5, .cells 1 [X] 0), (id4, .cells 1 [.nilsl] 0)])) := o
  have hol : out.length ≤ e := by rw [hout]; exact nats_len _ _
  try simp only [go_sem]
  refine ⟨fun h2 => At.mk ?_, fun h2 => At.mk ?_⟩
  ·have h2 := of_decide h2
   have w2 := wsucc (k := e) (by omega)
   try simp only [go_sem]
   refine (hq k e h1 (by rw [hn]; omega) H o.sub).mono fun r H' ⟨e1, e2⟩ => ?_
   subst e1
   subst e2
   try simp only [go_sem]
   refine ⟨fun h3 => At.mk ?_, fun h3 => At.mk ?_⟩
   ·try simp only [go_sem, reduceAdd]
    refine app_own (e : Int) o rfl rfl (by simp only [maxL]; omega) fun id8 H o => ?_
    try simp only [go_sem, w2]
    exact for_next (_, _) (by omega) ⟨by rw [hout, nats_t h3], o⟩ rfl
   ·try simp only [go_sem, w2]
    exact for_next (_, _) (by omega) ⟨by rw [hout, nats_f h3], o⟩ rfl
  ·have h2 := of_ndecide h2
   obtain rfl : e = n := by omega
   try simp only [go_sem]
   refine fz_own o rfl fun H o => ?_
   have eo : out = partE f q k := by rw [hout, partE, hn]; rfl
   rw [eo]
   have o := LsO.mk o hp
   try simp only [go_sem, reduceAdd]
   refine rd_at o.at.1 (by simp) ?_
   try simp only [go_sem, reduceAdd]
   refine o.app (partE f q k) rfl (by rw [partN_len]; simp only [maxL]; omega) fun id2 H o => ?_
   try simp only [go_sem, reduceAdd]
   refine stc o.swap fun H o => ?_
   simp only [wr_cons, wr_nil, List.set_cons_zero, List.set_cons_succ] at o
   try simp only [go_sem, w1]
   refine for_next (.buf id2 (partN f q k ++ [partE f q k]).length) (by omega) (.inr ⟨id2, ?_, ?_⟩) rfl
   ·rw [partN_succ]
   ·rw [partN_succ]; exact o.swap
 ·have h1 := of_ndecide h1
  obtain rfl : k = f.sizes.length := by omega
  try simp only [go_sem]
  refine wk_ls 0 o rfl fun H o => wkW_done ?_
  simp only [wr_cons, wr_nil, List.set_cons_zero, List.set_cons_succ] at o
  try simp only [go_sem]
  refine rd_celln o (by simp) ?_
  try simp only [go_sem]
  refine stc o.swap fun H o => ?_
  simp only [wr_cons, wr_nil, List.set_cons_zero, List.set_cons_succ] at o
  try simp only [go_sem]
  have hr2 := o.rc 1 0 (by simp)
  simp only [List.drop_zero] at hr2
  rw [hr2]
  try simp only [go_sem]
  exact rets_ret rfl o.sub
theorem none_ok (B : Nat) (f : SF) (h : f.Shape) : Pur Tryz.prog B 217 [.ptr f.cells] (.agg [iLL (noneF f)]) := by
 refine ⟨fun H0 => c217p (by simp) fun _ => ?_⟩
 have ho := h.is.1.o
 have hsl := h.sl
 unfold s217p
 have o : Owns H0 H0 [] := .nil _
 try simp only [go_sem, reduceAdd]
 refine newRef_own o fun id2 H o => ?_
 try simp only [go_sem]
 refine (partOf_ok B f (by omega) h.sz 289 [] (fun _ _ => false) H fun x e hx he H hs => ?_).mono fun r H' ⟨e1, e2⟩ => ?_
 ·refine c289p (by simp) fun _ => ?_
  unfold s289p
  try simp only [go_sem, reduceAdd]
  exact ⟨_, .refl _, rfl, rfl⟩
 subst e1
 subst e2
 try simp only [go_sem]
 refine stc o fun H o => ?_
 simp only [wr_cons, wr_nil, List.set_cons_zero, List.set_cons_succ] at o
 try simp only [go_sem]
 have hr2 := o.rc 1 0 (by simp)
 simp only [List.drop_zero] at hr2
 rw [hr2]
 try simp only [go_sem]
 exact rets_ret rfl o.sub
theorem join_ok (B : Nat) (f : SF) (h : f.Shape) (p q : List (List Int)) (hp : p.length = f.sizes.length) (hq : q.length = f.sizes.length) : Pur Tryz.prog B 218 [.ptr f.cells, .agg [iLL p], .agg [iLL q]] (.agg [iLL (joinF f p q)]) := by
 refine ⟨fun H0 => c218p (by simp) fun _ => ?_⟩
 have ho := h.is.1.o
 have hsl := h.sl
 unfold s218p
 have o : Owns H0 H0 [] := .nil _
 try simp only [go_sem, reduceAdd]
 refine newRef_own o fun id2 H o => ?_
 try simp only [go_sem]
 refine (partOf_ok B f (by omega) h.sz 290 [.ptr [iLL p], .ptr [iLL q]] (fun x e => decide ((e : Int) ∈ p.getD x default) || decide ((e : Int) ∈ q.getD x default)) H fun x e hx he H hs => ?_).mono fun r H' ⟨e1, e2⟩ => ?_
 ·refine c290p (by simp) fun _ => ?_
  unfold s290p
  try simp only [go_sem, reduceAdd]
  refine (holds_ok B p x e ⟨by omega, by simp; omega⟩).go fun _ => ?_
  try simp only [go_sem]
  refine ⟨fun h1 => At.mk ?_, fun h1 => At.mk ?_⟩
  ·try simp only [go_sem, reduceAdd, h1]
   refine (holds_ok B q x e ⟨by omega, by simp; omega⟩).go fun _ => ?_
   try simp only [go_sem]
   exact ⟨_, .refl _, by rw [decide_dec, h1, decide_dec]; rfl, rfl⟩
  ·try simp only [go_sem, h1]
   exact ⟨_, .refl _, by rw [decide_dec, h1]; rfl, rfl⟩
 subst e1
 subst e2
 try simp only [go_sem]
 refine stc o fun H o => ?_
 simp only [wr_cons, wr_nil, List.set_cons_zero, List.set_cons_succ] at o
 try simp only [go_sem]
 have hr2 := o.rc 1 0 (by simp)
 simp only [List.drop_zero] at hr2
 rw [hr2]
 try simp only [go_sem]
 exact rets_ret rfl o.sub
def genB (f : SF) (x e : Int) (y d : Nat) : Bool := (outs f.shape x).any fun a => decide (ix f.shape.to a = (y : Int)) && decide (ix (ix f.acts a) e = (d : Int))
theorem genB_iff {f : SF} {x e : Int} {y d : Nat} : genB f x e y d = true ↔ ∃ a, a ∈ outs f.shape x ∧ ix f.shape.to a = (y : Int) ∧ ix (ix f.acts a) e = (d : Int) := by
 simp only [genB, List.any_eq_true, Bool.and_eq_true, decide_eq_true_eq]
theorem generated_ok (B : Nat) (f : SF) (h : f.Shape) (x : Nat) (hx : x < f.sizes.length) (e : Nat) (he : (e : Int) < f.sizes.getD x default) : Pur Tryz.prog B 219 [.ptr f.cells, iLL [[(x : Int), (e : Int)]]] (.agg [iLL (genF f x e)]) := by
 refine ⟨fun H0 => c219p (by simp) fun _ => ?_⟩
 have ho := h.is.1.o
 have hm := h.is.1.m
 have htl := h.is.1.tol
 have hsl := h.sl
 have hal := h.al
 unfold s219p
 have o : Owns H0 H0 [] := .nil _
 try simp only [go_sem, reduceAdd]
 refine newRef_own o fun id4 H o => ?_
 try simp only [go_sem]
 refine newMap_own o fun idm H o => ?_
 try simp only [go_sem, reduceAdd]
 refine newRef_own o fun id5 H o => ?_
 try simp only [go_sem]
 refine st_cells o (by simp) rfl (by simp [AV.cells, AV.one]) fun H o => ?_
 replace o : Owns H0 H [(id5, .cells 1 [.mref idm] 0), (idm, .map [] []), (id4, .cells 1 [.nilsl] 0)] := o
 try simp only [go_sem, reduceAdd]
 generalize hL : outs f.shape x = L
 have hLm : ∀ a, a ∈ L → (0 ≤ a ∧ a.toNat < f.shape.frm.length) ∧ ix f.shape.frm a = x := fun a ha => by rw [← hL] at ha; have := mem_outs.mp ha; exact ⟨⟨this.1, this.2.1⟩, this.2.2⟩
 have hLl : L.length ≤ 40 := by
  rw [← hL, outs, List.length_map]
  refine Nat.le_trans (List.length_filter_le _ _) ?_
  rw [List.length_range]; omega
 refine awp_for [0, 4, 5, 11, 12] (G := List AV × List AV) (fun k _ => [(13, some (.int .i64 (k : Int)))])
  (fun k g H => PMap (fun y d => 0 < k ∧ ∃ i, i < L.length ∧ ix f.shape.to (L.getD i default) = y ∧ ix (ix f.acts (L.getD i default)) e = d) g.1 g.2 ∧ Owns H0 H [(id5, .cells 1 [.mref idm] 0), (idm, .map g.1 g.2), (id4, .cells 1 [.nilsl] 0)]) 1 ([], []) ⟨by simpa using PMap.nil, o⟩ rfl ?_
 clear o
 rintro k ⟨ks, vs⟩ H hk ⟨hP, o⟩
 replace hP : PMap (fun y d => 0 < k ∧ ∃ i, i < L.length ∧ ix f.shape.to (L.getD i default) = y ∧ ix (ix f.acts (L.getD i default)) e = d) ks vs := hP
 replace o : Owns H0 H [(id5, .cells 1 [.mref idm] 0), (idm, .map ks vs), (id4, .cells 1 [.nilsl] 0)] := o
 try simp only [go_sem]
 refine ⟨fun h1 => At.mk ?_, fun h1 => At.mk ?_⟩
 ·have h1 := of_decide h1
  obtain rfl : k = 0 := by simp at h1; omega
  try simp only [go_sem, reduceAdd, reduceLeDiff, reduceLT]
  rw [show ix [(x : Int), (e : Int)] 0 = x from rfl]
  refine ⟨by decide, _, (outOf_ok B f.shape x).run, ?_⟩
  rw [hL]
  try simp only [go_sem]
  have hP : PMap (fun y d => ∃ i, i < 0 ∧ ix f.shape.to (L.getD i default) = y ∧ ix (ix f.acts (L.getD i default)) e = d) ks vs := by simpa using hP
  refine awp_for [0, 4, 5, 7, 11, 12, 13, 23, 24] (G := List AV × List AV) (fun j _ => [(25, some (.int .i64 (j : Int)))])
   (fun j g H => PMap (fun y d => ∃ i, i < j ∧ ix f.shape.to (L.getD i default) = y ∧ ix (ix f.acts (L.getD i default)) e = d) g.1 g.2 ∧ Owns H0 H [(id5, .cells 1 [.mref idm] 0), (idm, .map g.1 g.2), (id4, .cells 1 [.nilsl] 0)]) L.length (ks, vs) ⟨hP, o⟩ rfl ?_
  clear o hP
  rintro j ⟨ks, vs⟩ H hj ⟨hP, o⟩
  replace hP : PMap (fun y d => ∃ i, i < j ∧ ix f.shape.to (L.getD i default) = y ∧ ix (ix f.acts (L.getD i default)) e = d) ks vs := hP
  replace o : Owns H0 H [(id5, .cells 1 [.mref idm] 0), (idm, .map ks vs), (id4, .cells 1 [.nilsl] 0)] := o
  try simp only [go_sem]
  refine ⟨fun h2 => At.mk ?_, fun h2 => At.mk ?_⟩
  ·have h2 := of_decide h2
   have w2 := wsucc (k := j) (by omega)
   obtain ⟨ha, hax⟩ := hLm _ (mem_getD.mpr ⟨j, h2, rfl⟩)
   have hact := h.actOk (e := e) ha ⟨by omega, by rw [hax, ix_nat]; exact he⟩
   try simp only [go_sem]
   refine ⟨h2, ?_⟩
   refine rd_cells o (by simp) ?_
   try simp only [go_sem, reduceAdd, reduceLeDiff]
   refine ⟨⟨ha.1, by omega⟩, ⟨ha.1, by omega⟩, by decide, ?_⟩
   rw [show ix [(x : Int), (e : Int)] 1 = e from rfl]
   try simp only [go_sem]
   refine ⟨hact.1, ?_⟩
   have hg : H.get idm = some (.map ks vs) := o.swap.h0
   rw [hg]
   refine ⟨hP.ok _ _, ?_⟩
   have o := (o.swap.put (.map (mput (kpr (ix f.shape.to (L.getD j default)) ((ix f.acts (L.getD j default)).getD e default)) (.bool true) ks vs).1 (mput (kpr (ix f.shape.to (L.getD j default)) ((ix f.acts (L.getD j default)).getD e default)) (.bool true) ks vs).2)).swap
   try simp only [go_sem, w2]
   refine for_next (_, _) h2 ⟨(hP.put _ _).congr fun y d => ?_, o⟩ rfl
   constructor
   ·rintro (⟨i, hi, h3⟩ | ⟨e1, e2⟩)
    ·exact ⟨i, by omega, h3⟩
    ·exact ⟨j, by omega, e1.symm, e2.symm⟩
   ·rintro ⟨i, hi, e1, e2⟩
    by_cases e3 : i = j
    ·subst e3; exact .inr ⟨e1.symm, e2.symm⟩
    ·exact .inl ⟨i, by omega, e1, e2⟩
  ·have h2 := of_ndecide h2
   obtain rfl : j = L.length := by omega
   have w1 := wsucc (k := 0) (by omega)
   try simp only [go_sem, reduceAdd, w1]
   exact for_next (ks, vs) (by decide) ⟨hP.congr fun y d => ⟨fun h => ⟨by omega, h⟩, fun h => h.2⟩, o⟩ rfl
 ·have h1 := of_ndecide h1
  obtain rfl : k = 1 := by simp at h1; omega
  try simp only [go_sem, reduceLT]
  refine (partOf_ok B f (by omega) h.sz 291 [.ref id5 0] (genB f x e) H fun y d hy hd H hs => ?_).mono fun r H' ⟨e1, e2⟩ => ?_
  ·refine c291p (by simp) fun _ => ?_
   unfold s291p
   try simp only [go_sem, reduceAdd]
   refine rd_at (hs _ _ o.h0) (by simp) ?_
   try simp only [go_sem, reduceAdd, reduceLeDiff]
   have hg := hs _ _ o.swap.h0
   simp only at hg
   rw [hg]
   refine ⟨hP.ok y d, ?_⟩
   have hv := hP.is y d
   simp only [kpr] at hv
   simp only [lkR]
   try simp only [go_sem, reduceLT, hv]
   refine ⟨_, .refl _, ?_, rfl⟩
   simp only [Bool.false_eq_true, if_false]
   congr 1
   rw [Bool.eq_iff_iff, dec_iff, genB_iff, hL]
   constructor
   ·rintro ⟨i, hi, e1, e2⟩; exact ⟨_, mem_getD.mpr ⟨i, hi, rfl⟩, e1, e2⟩
   ·rintro ⟨a, ha, e1, e2⟩; obtain ⟨i, hi, rfl⟩ := mem_getD.mp ha; exact ⟨i, hi, e1, e2⟩
  subst e1
  subst e2
  try simp only [go_sem]
  refine stc (o.pull [_, _]) fun H o => ?_
  simp only [wr_cons, wr_nil, List.set_cons_zero, List.set_cons_succ] at o
  try simp only [go_sem]
  have hr2 := o.rc 1 0 (by simp)
  simp only [List.drop_zero] at hr2
  rw [hr2]
  try simp only [go_sem]
  exact rets_ret rfl o.sub
end Go.Proofs.Shf
namespace Go.Proofs.Shf
open Go.AW Go.Proofs Go.Shf
theorem sameSetsSelf_ok (B : Nat) (f : SF) : Pur Tryz.prog B 134 [.ptr f.cells, .ptr f.cells] (.bool true) := by
 refine ⟨fun H0 => c134 (by simp) fun ⟨hfi, _⟩ => ?_⟩
 have hl := fine_mL_le (hfi.ptr (c := iLL f.acts) (by simp [SF.cells]))
 simp only [maxL] at hl
 unfold s134
 try simp only [go_sem, reduceAdd, reduceLeDiff]
 refine ⟨_, (sameCategory_ok B f.shape f.shape).run, ?_⟩
 rw [dec_t rfl]
 try simp only [go_sem, reduceAdd, reduceLeDiff]
 refine ⟨_, (same_ok B f.sizes f.sizes).run, ?_⟩
 rw [dec_t rfl]
 try simp only [go_sem, reduceAdd, reduceLeDiff, dTrue]
 refine awp_for [0, 1, 43] (G := Unit) (fun k _ => [(44, some (.int .i64 (k : Int)))]) (fun k _ H => H = H0) f.acts.length () rfl rfl ?_
 rintro k _ H hk rfl
 try simp only [go_sem]
 refine ⟨fun h1 => At.mk ?_, fun h1 => At.mk ?_⟩
 ·have h1p := of_decide h1
  have w1 := wsucc (k := k) (by omega)
  try simp only [go_sem, reduceAdd, reduceLeDiff]
  refine ⟨h1p, h1p, ?_⟩
  refine ⟨_, (same_ok B (f.acts.getD k default) (f.acts.getD k default)).run, ?_⟩
  rw [dec_t rfl]
  try simp only [go_sem, w1]
  exact for_next () (by omega) rfl rfl
 ·try simp only [go_sem]
  exact pure_ret rfl (.refl _)
theorem topBit_ok (B : Nat) (m : SM) (T : List Int) (x e : Nat) (hx : x < m.parts.length) (he : e < (m.parts.getD x default).length) (hT : x < T.length) :
  Pur Tryz.prog B 137 [iI x, iI e, .ptr m.cells, .ptr [iL T]] (.bool (decide ((m.parts.getD x default).getD e default = T.getD x default))) := by
 refine ⟨fun H0 => c137 (by simp) fun _ => ?_⟩
 unfold s137
 try simp only [go_sem, reduceAdd, reduceLeDiff]
 refine ⟨hx, he, hT, ?_⟩
 exact pure_ret rfl (.refl _)
theorem partOfMap_ok (B : Nat) (hlib : LibSorts) (m : SM) (hm : m.Is) (hfew : AllFew m.src.shape) (ht : m.tgt = omF m.src.shape (listsOf m.src.shape)) :
  Pur Tryz.prog B 50 [.agg m.cells] (.tup [.agg [iLL (tpF m.src (listsOf m.src.shape) m.parts)], iI 0]) := by
 refine ⟨fun H0 => c50p (by simp) fun _ => ?_⟩
 have hf := hm.s
 have t := tabOk hf.1.is hfew
 have hob := hf.1.is.1.o
 have hsl := hf.1.sl
 have hLl := t.len
 have hpl := hm.p.1
 have hpr := hm.p.2
 have htl := tops_len (c := m.src.shape) (L := listsOf m.src.shape)
 unfold s50p
 have o : Owns H0 H0 [] := .nil _
 try simp only [go_sem, reduceAdd]
 refine newRef_own o fun id2 H o => ?_
 try simp only [go_sem]
 refine (isNatural_ok B m).go fun _ => ?_
 rw [dec_t hm]
 try simp only [go_sem, reduceAdd, reduceLeDiff]
 refine (classifier_ok B m.src.shape hf.1.is (svOk B hlib _ hf.1.is)).go fun _ => ?_
 rw [dec_t hfew, clsOr, if_pos hfew]
 try simp only [go_sem, reduceAdd, reduceLeDiff, reduceLT]
 have hss : Pur Tryz.prog B 134 [.ptr (omF m.src.shape (listsOf m.src.shape)).cells, .ptr m.tgt.cells] (.bool true) := by rw [ht]; exact sameSetsSelf_ok B _
 refine (show Pur Tryz.prog B 134 _ _ from hss).go fun _ => ?_
 try simp only [go_sem]
 refine (tops_ok B m.src.shape (listsOf m.src.shape) t (iL (lensOf (listsOf m.src.shape))) (iLL (pullsOf m.src.shape (listsOf m.src.shape)))).go fun _ => ?_
 try simp only [go_sem, reduceAdd]
 refine newRef_own o fun id6 H o => ?_
 try simp only [go_sem]
 refine stc o fun H o => ?_
 simp only [wr_cons, wr_nil, List.set_cons_zero, List.set_cons_succ] at o
 try simp only [go_sem]
 refine wk_ref 6 o rfl fun H o => wkW_done ?_
 try simp only [go_sem, reduceAdd, reduceLeDiff]
 refine (partOf_ok B m.src (by omega) (fun y hy => hf.1.sz y hy) 137 [.ptr m.cells, .ptr [iL (topsOf m.src.shape (listsOf m.src.shape))]] (tpP m.src (listsOf m.src.shape) m.parts) H fun x e hx he H' hs => ?_).mono ?_
 ·have hx' := hpr x (by omega)
  simp only [PartAt] at hx'
  exact (topBit_ok B m _ x e (by omega) (by omega) (by omega)).go fun _ => ⟨rfl, rfl⟩
 rintro r H' ⟨rfl, rfl⟩
 try simp only [go_sem]
 refine stc o fun H o => ?_
 simp only [wr_cons, wr_nil, List.set_cons_zero, List.set_cons_succ] at o
 try simp only [go_sem]
 have hr := o.rc 1 0 (by simp)
 simp only [List.drop_zero] at hr
 rw [hr]
 exact pure_ret rfl o.sub
end Go.Proofs.Shf
namespace Go.AW
theorem set_selfT {l : List AV} {i : Nat} (h : i < l.length) : l.set i (l.getD i nv) = l := by
 apply List.ext_getElem?
 intro j
 by_cases e : j = i
 ·subst e; simp [List.getD_eq_getElem?_getD, h]
 ·rw [List.getElem?_set_ne (by omega)]
theorem LsG.lenT {α : Type} {O : Ob → AV → α → Prop} {p : Ob} {X : AV} {A : List α} (h : LsG O p X A) : lenE (some X) = some (True, .int .i64 A.length) := by
 rcases h with ⟨_, rfl, rfl⟩ | ⟨id, Xs, o, _, rfl, hr⟩
 ·rfl
 ·simp [Go.AW.lenE, hr.len]
theorem LsG.posT {α : Type} {O : Ob → AV → α → Prop} {p : Ob} {X : AV} {A : List α} (h : LsG O p X A) {i : Nat} (hi : i < A.length) : ∃ id Xs o, p = (id, .cells 1 Xs 0) :: o ∧ X = .buf id Xs.length ∧ RowsG O Xs A o := by
 rcases h with ⟨_, _, rfl⟩ | h
 ·simp at hi
 ·exact h
theorem Owns.rowT {α : Type} [Inhabited α] {O : Ob → AV → α → Prop} {H0 H : Heap} {l q : Ob} {id : Nat} {Xs : List AV} {A : List α} (o : Owns H0 H (((id, .cells 1 Xs 0) :: q) ++ l)) (hr : RowsG O Xs A q) {i : Nat} (hi : i < Xs.length) :
  ∃ p r, Owns H0 H (p ++ ((id, .cells 1 Xs 0) :: (r ++ l))) ∧ O p (Xs.getD i nv) (A.getD i default) ∧
   ∀ a' p' H', O p' (Xs.getD i nv) a' → Owns H0 H' (p' ++ ((id, .cells 1 Xs 0) :: (r ++ l))) → ∃ q', RowsG O Xs (A.set i a') q' ∧ Owns H0 H' (((id, .cells 1 Xs 0) :: q') ++ l) := by
 obtain ⟨p, r, h1, h2, h3⟩ := hr.split i hi
 refine ⟨p, r, o.perm ?_, h2, fun a' p' H' hO o' => ?_⟩
 ·refine List.Perm.trans ?_ (List.perm_middle (a := (id, MObj.cells 1 Xs 0)) (l₁ := p) (l₂ := r ++ l)).symm
  refine List.Perm.cons _ ?_
  rw [← List.append_assoc]
  exact List.Perm.append_right l h1
 ·obtain ⟨q', k1, k2⟩ := h3 _ _ _ hO
  rw [set_selfT hi] at k1
  refine ⟨q', k1, o'.perm ?_⟩
  refine List.Perm.trans (List.perm_middle (a := (id, MObj.cells 1 Xs 0)) (l₁ := p') (l₂ := r ++ l)) ?_
  refine List.Perm.cons _ ?_
  rw [← List.append_assoc]
  exact List.Perm.append_right l k2.symm
theorem RowsG.intsT {Xs : List AV} {l : List Int} {o : Ob} (h : RowsG OI Xs l o) : o = [] ∧ Xs = l.map iI := by
 induction h with
 | nil => exact ⟨rfl, rfl⟩
 | cons h _ ih => exact ⟨by rw [h.1, ih.1]; rfl, by rw [h.2, ih.2]; rfl⟩
theorem rowsIT : ∀ (l : List Int), RowsG OI (l.map iI) l []
 | [] => .nil
 | a :: r => .cons (p := []) ⟨rfl, rfl⟩ (rowsIT r)
theorem LsG.appT {α : Type} {O : Ob → AV → α → Prop} {p q l : Ob} {X Y : AV} {A : List α} {a : α} {H0 H : Heap} {K : Kont} (h : LsG O q X A) (hy : O p Y a) (h1 : Y.cells = [Y] ∧ Y.one = true) (o : Owns H0 H (p ++ (q ++ l))) (hm : A.length + 1 ≤ maxL)
  (hk : ∀ X' q' H', X'.one = true → LsG O q' X' (A ++ [a]) → Owns H0 H' (q' ++ l) → K X' H') : appW 1 (some X) (some (.sl [Y])) K H := by
 have hok : okEls 1 [Y] := by
  intro e he
  rw [List.mem_singleton] at he; subst he
  rw [h1.1]
  exact ⟨rfl, fun c hc => by rw [List.mem_singleton] at hc; subst hc; exact h1.2⟩
 have hfl : flat [Y] = [Y] := by simp [flat, h1.1]
 rcases h with ⟨rfl, rfl, rfl⟩ | ⟨id, Xs, r, rfl, rfl, hr⟩
 ·simp only [appW, srcOf, app1]
  refine ⟨⟨by simp [maxL], by simp [maxL], hok⟩, fun id hn => ?_⟩
  rw [hfl]
  refine hk (.buf id 1) ((id, .cells 1 [Y] 0) :: p) _ rfl (.inr ⟨id, [Y], p, rfl, rfl, ?_⟩) ?_
  ·have := RowsG.cons hy RowsG.nil
   rw [List.append_nil] at this; exact this
  ·have := o.new hn (.cells 1 [Y] 0)
   simpa using this
 ·have o2 : Owns H0 H ((id, .cells 1 Xs 0) :: (p ++ (r ++ l))) := by
   refine o.perm ?_
   simp
  have h0 := o2.h0
  simp only at h0
  have hl := hr.len
  simp only [appW, h0, srcOf, app2]
  refine ⟨⟨trivial, by simp, by simp; omega, by simp; omega, hok⟩, fun id' hn => ?_⟩
  rw [hfl]
  refine hk (.buf id' (Xs.length + 1)) ((id', .cells 1 (Xs ++ [Y]) 0) :: (r ++ p)) _ rfl (.inr ⟨id', Xs ++ [Y], r ++ p, rfl, by simp, ?_⟩) ?_
  ·refine hr.app ?_
   have := RowsG.cons hy RowsG.nil
   rw [List.append_nil] at this; exact this
  ·have := o2.mv hn (.cells 1 (Xs ++ [Y]) 0)
   refine this.perm (List.Perm.cons _ ?_)
   rw [← List.append_assoc]
   exact List.Perm.append_right l List.perm_append_comm
theorem tab_row {H0 H : Heap} {q l : Ob} {X : AV} {p : List (List Int)} (hX : OLL q X p) (o : Owns H0 H (q ++ l)) {y : Nat} (hy : y < p.length) :
  ∃ idX Xs, X = .buf idX Xs.length ∧ Xs.length = p.length ∧ H.get idX = some (.cells 1 Xs 0) ∧ ∃ pr, OL pr (Xs.getD y nv) (p.getD y default) ∧ ∀ x, x ∈ pr → H.get x.1 = some x.2 := by
 obtain ⟨idX, Xs, r, rfl, rfl, hr⟩ := hX.posT hy
 have hl := hr.len
 obtain ⟨pr, r2, o2, hO, _⟩ := o.rowT hr (i := y) (by omega)
 exact ⟨idX, Xs, rfl, hl, o.h0, pr, hO, fun x hx => o2.get x (List.mem_append_left _ hx)⟩
theorem tab_cell {H0 H : Heap} {q l : Ob} {X : AV} {p : List (List Int)} (hX : OLL q X p) (o : Owns H0 H (q ++ l)) {y i : Nat} (hy : y < p.length) (hi : i < (p.getD y default).length) :
  ∃ idX Xs idR, X = .buf idX Xs.length ∧ Xs.length = p.length ∧ H.get idX = some (.cells 1 Xs 0) ∧ Xs.getD y nv = .buf idR (p.getD y default).length ∧ H.get idR = some (.cells 1 ((p.getD y default).map iI) 0) ∧
   ∀ (k : Int) (K : Kont), (∀ q' H', OLL q' X (p.set y ((p.getD y default).set i k)) → Owns H0 H' (q' ++ l) → K nv H') → st1 (H.get idR) idR i 1 [iI k] K H := by
 obtain ⟨idX, Xs, r, rfl, rfl, hr⟩ := hX.posT hy
 have hl := hr.len
 obtain ⟨pr, r2, o2, hO, back⟩ := o.rowT hr (i := y) (by omega)
 obtain ⟨idR, Ys, rr, rfl, hY, hrr⟩ := hO.posT hi
 obtain ⟨rfl, rfl⟩ := hrr.intsT
 rw [List.length_map] at hY
 refine ⟨idX, Xs, idR, rfl, hl, o.h0, hY, o2.h0, fun k K hk => ?_⟩
 refine set_own (f := iI) k o2 rfl hi fun H' o3 => ?_
 obtain ⟨q', hr', o4⟩ := back ((p.getD y default).set i k) [(idR, .cells 1 (((p.getD y default).set i k).map iI) 0)] H' (by rw [hY]; exact .inr ⟨idR, _, [], rfl, by simp, rowsIT _⟩) o3
 exact hk _ H' (.inr ⟨idX, Xs, q', rfl, rfl, hr'⟩) o4
theorem New.lentQ {α : Type} {O : Ob → AV → α → Prop} {f : α → AV} {a : α} {P : Program} {B : Nat} {fn : FuncId} {args es : List AV} {H : Heap} {K : Kont} (hO : Ow O f) (h : New P B fn es fun p X => O p X a) (hl : es.length = args.length)
  (ht : ∀ i, i < args.length → ∀ g w v, WRel g B H w → VRel g (args.getD i nv) v → VRel (g.lend H w) (es.getD i nv) v)
  (hk : ∀ H', H.sub H' → K (f a) H') : CallH P B fn args H K := by
 have h1 : CallH P B fn args H fun r H' => ∃ p, O p r a ∧ Owns H H' (p ++ []) := New.lent hO h (Owns.nil H) hl ht fun r p H' q o => ⟨p, q, o⟩
 refine ⟨h1.1, fun g w vs hW hv => ?_⟩
 refine (h1.2 g w vs hW hv).mono fun e w' ⟨v, he, g', r, H', q1, ⟨p, q2, q3⟩, q4, q5, q6⟩ => ?_
 obtain ⟨g2, H2, r1, r2, r3, r4⟩ := hO.fz p r a q2 g' B H H' [] w' q5 q3
 exact ⟨v, he, g2, f a, H2, q1.trans r1, hk H2 r3.sub, r4 v q4, r2, q6⟩
end Go.AW
namespace Go.AW
@[go_sem] def prE (q : Int × Int) : AV := .agg [iI q.1, iI q.2]
instance : AggN 2 prE := ⟨by omega, fun _ => rfl, fun _ => rfl, fun a c hc => by
 simp only [prE, AV.cells, List.mem_cons, List.not_mem_nil, or_false] at hc
 rcases hc with rfl | rfl <;> rfl⟩
end Go.AW
namespace Go.Proofs.Shf
open Go.AW Go.Proofs Go.Shf
@[go_sem] def srO (f g : SF) (X fv : AV) : MObj := .cells 5 [.ptr f.cells, .ptr g.cells, .bool false, X, fv] 0
theorem set_ok (B : Nat) {f g : SF} {x e d : Int} (w : At3 f g x e d) {p : List (List Int)} (hP : PT f g p) {idS idN idB : Nat} {fv X : AV} {q l : Ob} {H0 H : Heap} (hX : OLL q X p)
  (o : Owns H0 H ((idS, srO f g X fv) :: (idN, .cells 1 [.buf idB 0] 0) :: (idB, .cells 2 [] 0) :: (q ++ l))) :
  CallH Tryz.prog B 312 [.ref idS 0, iI x, iI e, iI d, .ref idN 0] H fun r H' => ∃ (ok : Bool) (k : Nat) (p' : List (List Int)) (N : List (Int × Int)) (q' : Ob) (idB' : Nat), r = .bool ok ∧ OLL q' X p' ∧
   Owns H0 H' ((idS, srO f g X fv) :: (idN, .cells 1 [.buf idB' N.length] 0) :: (idB', .cells 2 (flat (N.map prE)) 0) :: (q' ++ l)) ∧ SetM f g p x e d k p' N ∧ k ≤ (outs f.shape x).length ∧
   (ok = true → k = (outs f.shape x).length) ∧ (ok = false → ∀ t, ExtT f g p t → ix (ix t x) e ≠ d) := by
 refine c312p (by simp) fun _ => ?_
 have hm := w.hf.1.is.1.m
 have hob := w.hf.1.is.1.o
 have htl := w.hf.1.is.1.tol
 have hol : (outs f.shape x).length ≤ 40 := by
  rw [outs, List.length_map]
  refine Nat.le_trans (List.length_filter_le _ _) ?_
  rw [List.length_range]; omega
 have hgal : g.acts.length = f.shape.frm.length := by have := w.hg.1.al; rw [← w.sh] at this; exact this
 unfold s312p
 try simp only [go_sem, reduceAdd]
 refine rd_cells o (by simp) ?_
 try simp only [go_sem, reduceAdd, reduceLeDiff]
 refine (outOf_ok B f.shape x).go fun _ => ?_
 try simp only [go_sem]
 refine awp_for [0, 2, 3, 4, 11, 25, 26] (G := List (List Int) × List (Int × Int) × Ob × Nat) (fun k _ => [(27, some (.int .i64 (k : Int)))])
  (fun k G H => OLL G.2.2.1 X G.1 ∧ SetM f g p x e d k G.1 G.2.1 ∧ Owns H0 H ((idS, srO f g X fv) :: (idN, MObj.cells 1 [.buf G.2.2.2 G.2.1.length] 0) :: (G.2.2.2, MObj.cells 2 (flat (G.2.1.map prE)) 0) :: (G.2.2.1 ++ l))) (outs f.shape x).length (p, [], q, idB) ⟨hX, .zero f g p x e d, o⟩ rfl ?_
 clear o hX
 rintro k ⟨p', N, q, idB⟩ H hk ⟨hX, hS, o⟩
 replace hX : OLL q X p' := hX
 replace hS : SetM f g p x e d k p' N := hS
 replace o : Owns H0 H ((idS, srO f g X fv) :: (idN, .cells 1 [.buf idB N.length] 0) :: (idB, .cells 2 (flat (N.map prE)) 0) :: (q ++ l)) := o
 try simp only [go_sem]
 refine ⟨fun h1 => At.mk ?_, fun h1 => At.mk ?_⟩
 ·have h1p := of_decide h1
  have w1 := wsucc (k := k) (by omega)
  obtain ⟨a, ea⟩ : ∃ a, (outs f.shape x).getD k default = a := ⟨_, rfl⟩
  have hA := w.arr (b := a) (mem_getD.mpr ⟨k, h1p, ea⟩)
  have hin := hP.inT w.hf.1 hA.2.2.1 hA.2.2.2.1
  have hfin := w.hf.1.inAct hA.1 (e := e) (by rw [hA.2.1]; exact w.he)
  have hgin := w.hg.1.inAct (a := a) (e := d) (by rw [← w.sh]; exact hA.1) (by rw [← w.sh, hA.2.1]; exact w.hd)
  have hal := w.hf.1.al
  have hp1 : (ix f.shape.to a).toNat < p'.length := by rw [hS.len]; exact hin.1.2
  have hp2 : (ix (ix f.acts a) e).toNat < (p'.getD (ix f.shape.to a).toNat default).length := by rw [hS.row]; exact hin.2.2
  have o1 : Owns H0 H (q ++ ((idS, srO f g X fv) :: (idN, .cells 1 [.buf idB N.length] 0) :: (idB, .cells 2 (flat (N.map prE)) 0) :: l)) := o.perm (permC fun x => by (try dsimp only); simp only [List.append_eq, List.count_append, List.count_cons, List.count_nil, List.map_nil, List.length_nil, List.length_append, List.length_cons, List.length_set, Nat.zero_add, List.nil_append, iI, iL]; omega)
  obtain ⟨idX, Xs, idR, rfl, hXl, hgX, hXr, hgR, hset⟩ := tab_cell hX o1 hp1 hp2
  have hgS : H.get idS = some (srO f g (.buf idX Xs.length) fv) := o.h0
  try simp only [go_sem, reduceAdd, reduceLeDiff]
  refine ⟨h1p, ?_⟩
  rw [ea]
  refine ⟨⟨hA.1.1, by omega⟩, ?_⟩
  refine rd_get hgS (by simp) ?_
  try simp only [go_sem, reduceAdd, reduceLeDiff]
  refine ⟨⟨hA.1.1, by omega⟩, hfin, rd_get hgS (by simp) ?_⟩
  try simp only [go_sem, reduceAdd, reduceLeDiff]
  refine ⟨⟨hA.1.1, by omega⟩, hgin, ?_⟩
  refine rd_get hgS (by simp) ?_
  try simp only [go_sem]
  refine ⟨⟨hA.2.2.1.1, by omega⟩, rd_get hgX (by omega) ?_⟩
  rw [hXr]
  try simp only [go_sem]
  refine ⟨⟨hA.2.2.2.1.1, hp2⟩, rd_inner (f := iI) hgR hp2 ?_⟩
  have eV : (p'.getD (ix f.shape.to a).toNat default).getD (ix (ix f.acts a) e).toNat default = ix (ix p' (ix f.shape.to a)) (ix (ix f.acts a) e) := rfl
  rw [eV]
  try simp only [go_sem]
  refine ⟨fun h2 => At.mk ?_, fun h2 => At.mk ?_⟩
  ·have h2p : 0 ≤ ix (ix p' (ix f.shape.to a)) (ix (ix f.acts a) e) := of_decide h2
   try simp only [go_sem, reduceAdd]
   refine rd_get hgS (by simp) ?_
   try simp only [go_sem]
   refine ⟨⟨hA.2.2.1.1, by omega⟩, rd_get hgX (by omega) ?_⟩
   rw [hXr]
   try simp only [go_sem]
   refine ⟨⟨hA.2.2.2.1.1, hp2⟩, rd_inner (f := iI) hgR hp2 ?_⟩
   rw [eV]
   try simp only [go_sem]
   refine ⟨fun h3 => At.mk ?_, fun h3 => At.mk ?_⟩
   ·have h3p := h3; simp only [bnt, decide_eq_false_iff_not] at h3p
    try simp only [go_sem]
    exact ⟨H, .refl H, false, k, p', N, q, idB, rfl, hX, o, hS, hk, (fun h => by cases h), fun _ t ht => hS.bad w h1p ea h2p h3p t ht⟩
   ·have h3p := h3; simp only [bnf, decide_eq_true_eq] at h3p
    try simp only [go_sem, w1]
    exact for_next (p', N, q, idB) (by omega) ⟨hX, hS.same h1p ea h3p, o⟩ rfl
  ·have h2p : ¬ 0 ≤ ix (ix p' (ix f.shape.to a)) (ix (ix f.acts a) e) := of_ndecide h2
   have hNl := hS.nl
   have hfr := hS.fresh w hP h1p ea h2p
   try simp only [go_sem, reduceAdd]
   refine rd_get hgS (by simp) ?_
   try simp only [go_sem, reduceAdd]
   refine rd_get hgS (by simp) ?_
   try simp only [go_sem]
   refine ⟨⟨hA.2.2.1.1, by omega⟩, rd_get hgX (by omega) ?_⟩
   rw [hXr]
   try simp only [go_sem]
   refine ⟨⟨hA.2.2.2.1.1, hp2⟩, ?_⟩
   refine hset _ _ fun q' H hX' o => ?_
   try simp only [go_sem]
   have o : Owns H0 H ((idB, .cells 2 (flat (N.map prE)) 0) :: (idN, .cells 1 [.buf idB N.length] 0) :: (idS, srO f g (.buf idX Xs.length) fv) :: (q' ++ l)) := o.perm (permC fun x => by (try dsimp only); simp only [List.append_eq, List.count_append, List.count_cons, List.count_nil, List.map_nil, List.length_nil, List.length_append, List.length_cons, List.length_set, Nat.zero_add, List.nil_append, iI, iL]; omega)
   have hgN : H.get idN = some (.cells 1 [.buf idB N.length] 0) := o.tl.h0
   refine rd_get hgN (by simp) ?_
   try simp only [go_sem, reduceAdd, reduceLeDiff]
   refine app_ownN (f := prE) (ix f.shape.to a, ix (ix f.acts a) e) o rfl rfl (by simp only [maxL]; omega) fun idB H o => ?_
   try simp only [go_sem]
   refine stc o.swap fun H o => ?_
   simp only [wr_cons, wr_nil, List.set_cons_zero, List.set_cons_succ] at o
   try simp only [go_sem, w1]
   exact for_next (_, N ++ [(ix f.shape.to a, ix (ix f.acts a) e)], q', idB) (by omega) ⟨hX', hfr, (by simp only [srO, SF.cells] at o ⊢; exact o.perm (permC fun x => by (try dsimp only); simp only [List.append_eq, List.count_append, List.count_cons, List.count_nil, List.map_nil, List.length_nil, List.length_append, List.length_cons, List.length_set, Nat.zero_add, List.nil_append, iI, iL]; omega))⟩ rfl
 ·have h1p := of_ndecide h1
  obtain rfl : k = (outs f.shape x).length := by omega
  try simp only [go_sem]
  exact ⟨H, .refl H, true, _, p', N, q, idB, rfl, hX, o, hS, Nat.le_refl _, fun _ => rfl, fun h => by cases h⟩
end Go.Proofs.Shf
namespace Go.Proofs.Shf
open Go.AW Go.Proofs Go.Shf
def FoundOk (B : Nat) (F : FuncId) (ca : List AV) (Fs Gs : List (List (List Int)) → Ob → Prop) : Prop :=
 (∀ A w, Fs A w → Gs A w) ∧ ∀ (p : List (List Int)) (A : List (List (List Int))) (X : AV) (q w l : Ob) (H0 H : Heap), OLL q X p → Fs A w → Owns H0 H (q ++ (w ++ l)) →
  CallH Tryz.prog B F ([X] ++ ca) H fun r H' => ∃ (b : Bool) (w' : Ob), r = .bool b ∧ Gs (A ++ [p]) w' ∧ (b = true → Fs (A ++ [p]) w') ∧ Owns H0 H' (q ++ (w' ++ l))
theorem noneLeft {p : List Int} (h : indexOf p (-1) < 0) {i : Int} (hi : 0 ≤ i ∧ i.toNat < p.length) : ix p i ≠ -1 := fun e => by
 have := (indexOf_mem p (-1)).mpr (by rw [← e]; exact ix_mem hi.2)
 omega
theorem run_ok (B : Nat) {f g : SF} (hf : f.Is) (hg : g.Is) (sh : f.shape = g.shape) {F : FuncId} {ca : List AV} {Fs Gs : List (List (List Int)) → Ob → Prop} (hF : FoundOk B F ca Fs Gs) (idS : Nat) (X : AV) :
  ∀ (n : Nat) (p : List (List Int)), unsetT f p = n → PT f g p → ∀ (A : List (List (List Int))) (q w l : Ob) (H0 H : Heap), OLL q X p → Fs A w → Owns H0 H ((idS, srO f g X (.fn (.func F) ca)) :: (q ++ (w ++ l))) →
   CallH Tryz.prog B 272 [.ref idS 0] H fun r H' => ∃ (b : Bool) (q' w' : Ob) (A' : List (List (List Int))), r = .bool b ∧ OLL q' X p ∧ Gs A' w' ∧ Owns H0 H' ((idS, srO f g X (.fn (.func F) ca)) :: (q' ++ (w' ++ l))) ∧
    (b = true → Fs A' w' ∧ ∃ M, ListsT f g p M ∧ A' = A ++ M) := by
 intro n
 induction n using Nat.strongRecOn with
 | _ n ih =>
 intro p hn hP A q w l H0 H hX hFs o
 refine c272p (by simp) fun _ => ?_
 have hm := hf.1.is.1.m
 have hob := hf.1.is.1.o
 have hsl := hf.1.sl
 have hpl := hP.len
 have hz0 : ∀ x, x < f.sizes.length → 0 ≤ f.sizes.getD x default ∧ f.sizes.getD x default < 17 := fun x hx => hf.1.sz _ (mem_getD.mpr ⟨x, hx, rfl⟩)
 have hlenX := hX.lenT
 unfold s272p
 try simp only [go_sem, reduceAdd]
 refine rd_cells o (by simp) ?_
 try simp only [go_sem, hlenX]
 refine awp_for [0, 15] (G := Unit) (fun k _ => [(16, some (.int .i64 (k : Int)))])
  (fun k _ H => (∀ y : Nat, y < k → indexOf (p.getD y default) (-1) < 0) ∧ Owns H0 H ((idS, srO f g X (.fn (.func F) ca)) :: (q ++ (w ++ l)))) p.length () ⟨by simp, o⟩ rfl ?_
 clear o
 rintro k _ H hk ⟨hno, o⟩
 have hgS : H.get idS = some (srO f g X (.fn (.func F) ca)) := o.h0
 try simp only [go_sem]
 refine ⟨fun h1 => At.mk ?_, fun h1 => At.mk ?_⟩
 rotate_left 1
 ·have h1p := of_ndecide h1
  obtain rfl : k = p.length := by omega
  try simp only [go_sem, reduceAdd]
  refine rd_get hgS (by simp) ?_
  try simp only [go_sem, reduceAdd]
  refine rd_get hgS (by simp) ?_
  try simp only [go_sem]
  have o2 : Owns H0 H (q ++ (w ++ ((idS, srO f g X (.fn (.func F) ca)) :: l))) := o.perm (permC fun x => by (try dsimp only); simp only [List.append_eq, List.count_append, List.count_cons, List.count_nil, List.map_nil, List.length_nil, List.length_append, List.length_cons, List.length_set, Nat.zero_add, List.nil_append, iI, iL]; omega)
  refine (hF.2 p A X q w _ H0 H hX hFs o2).mono ?_
  rintro r H' ⟨b, w', rfl, hGs', hFs', o⟩
  try simp only [go_sem]
  have hfull := lists_full hf hP fun y i hy hi => noneLeft (hno y.toNat (by omega)) (hP.inT hf.1 hy hi).2
  exact ⟨H', .refl _, b, q, w', A ++ [p], rfl, hX, hGs', (by simp only [srO, SF.cells] at o ⊢; exact o.perm (permC fun x => by (try dsimp only); simp only [List.append_eq, List.count_append, List.count_cons, List.count_nil, List.map_nil, List.length_nil, List.length_append, List.length_cons, List.length_set, Nat.zero_add, List.nil_append, iI, iL]; omega)), fun h => ⟨hFs' h, [p], hfull, rfl⟩⟩
 have h1p := of_decide h1
 have w1 := wsucc (k := k) (by omega)
 have hkl : k < f.sizes.length := by omega
 obtain ⟨idX, Xs, rfl, hXl, hgX, pr, hpr, hprg⟩ := tab_row hX (show Owns H0 H (q ++ ((idS, srO f g X (.fn (.func F) ca)) :: (w ++ l))) from o.perm (permC fun x => by (try dsimp only); simp only [List.append_eq, List.count_append, List.count_cons, List.count_nil, List.map_nil, List.length_nil, List.length_append, List.length_cons, List.length_set, Nat.zero_add, List.nil_append, iI, iL]; omega)) h1p
 try simp only [go_sem, reduceAdd]
 refine rd_get hgS (by simp) ?_
 try simp only [go_sem]
 refine ⟨by omega, rd_get hgX (by omega) ?_⟩
 try simp only [go_sem]
 refine CallH.lentPure (es := [iL (p.getD k default), .int .i64 (-1)]) (.int _ _) rfl (fun i hi => ?_) (index_ok B (p.getD k default) (-1)).run ?_
 ·obtain rfl | rfl : i = 0 ∨ i = 1 := by simp only [List.length_cons, List.length_nil] at hi; omega
  ·intro gg ww v hW hv
   exact owL.ln pr _ _ hpr gg B H ww v hW hprg hv
  ·exact val_arg _
 have hib := indexOf_bd (p.getD k default) (-1)
 try simp only [go_sem]
 refine ⟨fun h2 => At.mk ?_, fun h2 => At.mk ?_⟩
 ·have h2p := of_decide h2
  try simp only [go_sem, w1]
  exact for_next () (by omega) ⟨lt_succ_all hno h2p, o⟩ rfl
 have h2p := of_ndecide h2
 obtain ⟨f1, f2, f3⟩ := indexOf_first (l := p.getD k default) (a := -1) (by omega)
 generalize hix : indexOf (p.getD k default) (-1) = e at *
 have hrow := hP.row k hkl
 have hzk := hz0 k hkl
 have hx : 0 ≤ (k : Int) ∧ (k : Int) < f.shape.objs := by omega
 have he : 0 ≤ e ∧ e < ix f.sizes (k : Int) := by rw [ix_nat]; omega
 have hpe : ix (ix p (k : Int)) e = -1 := by rw [ix_nat]; exact f2
 have hv : ∀ y i : Int, 0 ≤ y ∧ y < f.shape.objs → 0 ≤ i ∧ i < ix f.sizes y → ix (ix p y) i = -1 ∨ 0 ≤ ix (ix p y) i := fun y i hy hi => (hP.val y i hy hi).imp id fun h => h.1
 have hfst : ∀ y i : Int, 0 ≤ y ∧ y < f.shape.objs → 0 ≤ i ∧ i < ix f.sizes y → (y < (k : Int) ∨ (y = (k : Int) ∧ i < e)) → ix (ix p y) i ≠ -1 := by
  intro y i hy hi h
  rcases h with h | ⟨rfl, h⟩
  ·exact noneLeft (hno y.toNat (by omega)) (hP.inT hf.1 hy hi).2
  ·rw [ix_nat]; exact f3 i.toNat (by omega)
 have hgsl := hg.1.sl
 rw [← sh] at hgsl
 have hgz : 0 ≤ ix g.sizes (k : Int) ∧ ix g.sizes (k : Int) < 17 := by rw [ix_nat]; exact hg.1.sz _ (mem_getD.mpr ⟨k, by omega, rfl⟩)
 have hgz2 := hgz
 rw [ix_nat] at hgz2
 try simp only [go_sem]
 refine awp_for [0, 3, 4] (G := List (List (List Int)) × Ob × Ob) (fun d _ => [(5, some (.int .i64 (d : Int)))])
  (fun d G H => AccT f g p k e d G.1 ∧ OLL G.2.1 (.buf idX Xs.length) p ∧ Fs (A ++ G.1) G.2.2 ∧ Owns H0 H ((idS, srO f g (.buf idX Xs.length) (.fn (.func F) ca)) :: (G.2.1 ++ (G.2.2 ++ l)))) (g.sizes.getD k default).toNat ([], q, w) ⟨.zero hx he, hX, by rw [List.append_nil]; exact hFs, o⟩ rfl ?_
 clear o hX hFs hgS hgX hpr hprg hXl
 rintro d ⟨M, q, w⟩ H hd ⟨hM, hX, hFs, o⟩
 replace hM : AccT f g p k e d M := hM
 replace hX : OLL q (.buf idX Xs.length) p := hX
 replace hFs : Fs (A ++ M) w := hFs
 replace o : Owns H0 H ((idS, srO f g (.buf idX Xs.length) (.fn (.func F) ca)) :: (q ++ (w ++ l))) := o
 try simp only [go_sem, reduceAdd]
 refine rd_cells o (by simp) ?_
 try simp only [go_sem, reduceAdd, reduceLeDiff]
 refine ⟨by omega, ?_⟩
 refine ⟨fun h3 => At.mk ?_, fun h3 => At.mk ?_⟩
 rotate_left 1
 ·have h3p := of_ndecide h3
  try simp only [go_sem]
  have hdd : (d : Int) = ix g.sizes (k : Int) := by rw [ix_nat]; omega
  rw [hdd] at hM
  exact ⟨H, .refl _, true, q, w, A ++ M, rfl, hX, hF.1 _ _ hFs, o, fun _ => ⟨hFs, M, hM.done hx he, rfl⟩⟩
 have h3p := of_decide h3
 have w2 := wsucc (k := d) (by omega)
 have hat : At3 f g k e d := ⟨hf, hg, sh, hx, he, by rw [ix_nat]; omega⟩
 try simp only [go_sem]
 refine newBuf_own o fun idB H o => ?_
 try simp only [go_sem, reduceAdd]
 refine newRef_own o fun idN H o => ?_
 try simp only [go_sem]
 refine stc o fun H o => ?_
 simp only [wr_cons, wr_nil, List.set_cons_zero, List.set_cons_succ] at o
 try simp only [go_sem]
 have o2 : Owns H0 H ((idS, srO f g (.buf idX Xs.length) (.fn (.func F) ca)) :: (idN, .cells 1 [.buf idB 0] 0) :: (idB, .cells 2 [] 0) :: (q ++ (w ++ l))) := o.perm (permC fun x => by (try dsimp only); simp only [List.append_eq, List.count_append, List.count_cons, List.count_nil, List.map_nil, List.length_nil, List.length_append, List.length_cons, List.length_set, Nat.zero_add, List.nil_append, iI, iL]; omega)
 refine (set_ok B hat hP hX o2).mono ?_
 clear o o2 hX
 rintro r H ⟨ok, kk, p', N, q, idB, rfl, hX, o, hS, hkk, hok, hbad⟩
 try simp only [go_sem]
 have o : Owns H0 H ((idS, srO f g (.buf idX Xs.length) (.fn (.func F) ca)) :: (q ++ (w ++ ((idN, .cells 1 [.buf idB N.length] 0) :: (idB, .cells 2 (flat (N.map prE)) 0) :: l)))) := o.perm (permC fun x => by (try dsimp only); simp only [List.append_eq, List.count_append, List.count_cons, List.count_nil, List.map_nil, List.length_nil, List.length_append, List.length_cons, List.length_set, Nat.zero_add, List.nil_append, iI, iL]; omega)
 have hun := hS.undo
 have hNr : ∀ j, j < N.length → (0 ≤ (N.getD j default).1 ∧ (N.getD j default).1.toNat < p.length) ∧ (0 ≤ (N.getD j default).2 ∧ (N.getD j default).2.toNat < (ix p (N.getD j default).1).length) := fun j hj => by
  have := hS.old (N.getD j default).1 (N.getD j default).2 (mem_getD.mpr ⟨j, hj, rfl⟩)
  exact ⟨this.1, this.2.1⟩
 have hNl : N.length ≤ 40 := by
  have h1 := hS.nl
  have h2 : (outs f.shape (k : Int)).length ≤ 40 := by
   rw [outs, List.length_map]
   refine Nat.le_trans (List.length_filter_le _ _) ?_
   rw [List.length_range]; omega
  omega
 have hpl' := hS.len
 have hrow' := hS.row
 cases ok
 case' true =>
  obtain rfl := hok rfl
  try simp only [go_sem]
  refine (ih (unsetT f p') (by rw [← hn]; exact hS.less hat hP hpe) p' rfl (hS.pt hat hP) (A ++ M) q w _ H0 H hX hFs o).mono ?_
  clear o hX hFs
  rintro r H ⟨b, q, w, A', rfl, hX, hGs, o, hb⟩
  have hres : b = true → Fs A' w ∧ ∃ M', AccT f g p k e ((d : Int) + 1) M' ∧ A' = A ++ M' := fun h => by
   obtain ⟨h1, M2, h2, h3⟩ := hb h
   exact ⟨h1, M ++ M2, hM.more hx he h2 hsl hv (fun t => hS.ext hat hP t) hfst, by rw [h3, List.append_assoc]⟩
  clear hb
  try simp only [go_sem]
 case' false =>
  have hres0 : true = true → Fs (A ++ M) w ∧ ∃ M', AccT f g p k e ((d : Int) + 1) M' ∧ A ++ M = A ++ M' := fun _ => ⟨hFs, M, hM.none (hbad rfl), rfl⟩
  have hGs := hF.1 _ _ hFs
  clear hFs
  obtain ⟨A', hA'⟩ : ∃ A', A' = A ++ M := ⟨_, rfl⟩
  rw [← hA'] at hGs hres0
  try simp only [go_sem]
  obtain ⟨b, hb1, hb2⟩ : ∃ b : Bool, AV.bool true = AV.bool b ∧ b = true := ⟨true, rfl, rfl⟩
  have hres : b = true → Fs A' w ∧ ∃ M', AccT f g p k e ((d : Int) + 1) M' ∧ A' = A ++ M' := fun _ => hres0 rfl
  rw [hb1]
  clear hb1 hb2 hres0 hA'
 all_goals
  have hgN : H.get idN = some (.cells 1 [.buf idB N.length] 0) := o.get (idN, .cells 1 [.buf idB N.length] 0) (by simp)
  refine rd_get hgN (by simp) ?_
  try simp only [go_sem]
  refine awp_for [0, 3, 4, 5, 8, 55, 56] (G := Ob) (fun j _ => [(57, some (.int .i64 (j : Int)))])
   (fun j q H => OLL q (.buf idX Xs.length) (undoT p' (N.take j)) ∧ Owns H0 H ((idS, srO f g (.buf idX Xs.length) (.fn (.func F) ca)) :: (q ++ (w ++ ((idN, MObj.cells 1 [.buf idB N.length] 0) :: (idB, MObj.cells 2 (flat (N.map prE)) 0) :: l))))) N.length q ⟨hX, o⟩ rfl ?_
  clear o hX hgN
  rintro j q H hj ⟨hX, o⟩
  replace hX : OLL q (.buf idX Xs.length) (undoT p' (N.take j)) := hX
  replace o : Owns H0 H ((idS, srO f g (.buf idX Xs.length) (.fn (.func F) ca)) :: (q ++ (w ++ ((idN, .cells 1 [.buf idB N.length] 0) :: (idB, .cells 2 (flat (N.map prE)) 0) :: l)))) := o
  try simp only [go_sem]
  refine ⟨fun h4 => At.mk ?_, fun h4 => At.mk ?_⟩
  ·have h4p := of_decide h4
   have wj := wsucc (k := j) (by omega)
   have hr := hNr j h4p
   have hus := undoT_succ p' h4p
   have oB : Owns H0 H ((idB, .cells 2 (flat (N.map prE)) 0) :: ((idS, srO f g (.buf idX Xs.length) (.fn (.func F) ca)) :: (idN, .cells 1 [.buf idB N.length] 0) :: (q ++ (w ++ l)))) := o.perm (permC fun x => by (try dsimp only); simp only [List.append_eq, List.count_append, List.count_cons, List.count_nil, List.map_nil, List.length_nil, List.length_append, List.length_cons, List.length_set, Nat.zero_add, List.nil_append, iI, iL]; omega)
   try simp only [go_sem]
   refine ⟨h4p, rd_elA (f := prE) oB h4p ?_⟩
   generalize N.getD j default = yy at *
   obtain ⟨y, i⟩ := yy
   try simp only [go_sem, reduceAdd]
   refine newRef_own o fun id10 H o => ?_
   try simp only [go_sem]
   refine stc o fun H o => ?_
   simp only [wr_cons, wr_nil, List.set_cons_zero, List.set_cons_succ] at o
   have hpl2 : (undoT p' (N.take j)).length = p.length := by rw [undoT_len, hpl']
   have hrw : ((undoT p' (N.take j)).getD y.toNat default).length = (p.getD y.toNat default).length := by rw [undoT_row, hrow']
   have oc : Owns H0 H (q ++ ((id10, .cells 2 [iI y, iI i] 0) :: (idB, .cells 2 (flat (N.map prE)) 0) :: (idS, srO f g (.buf idX Xs.length) (.fn (.func F) ca)) :: (idN, .cells 1 [.buf idB N.length] 0) :: (w ++ l))) := o.perm (permC fun x => by (try dsimp only); simp only [List.append_eq, List.count_append, List.count_cons, List.count_nil, List.map_nil, List.length_nil, List.length_append, List.length_cons, List.length_set, Nat.zero_add, List.nil_append, iI, iL]; omega)
   obtain ⟨idX', Xs', idR, hXe, hXl, hgX, hXr, hgR, hset⟩ := tab_cell hX oc (y := y.toNat) (i := i.toNat) (by have := hr.1.2; omega) (by rw [hrw]; exact hr.2.2)
   obtain ⟨rfl, hXX⟩ := AV.buf.inj hXe
   have hgS : H.get idS = some (srO f g (.buf idX Xs.length) (.fn (.func F) ca)) := oc.get (idS, srO f g (.buf idX Xs.length) (.fn (.func F) ca)) (by simp)
   have hy2 := hr.1.2
   try simp only [go_sem, reduceAdd]
   refine rd_get hgS (by simp) ?_
   try simp only [go_sem, reduceAdd]
   refine rd_cells o (by simp) ?_
   try simp only [go_sem]
   refine ⟨⟨hr.1.1, by omega⟩, rd_get hgX (by omega) ?_⟩
   rw [hXr]
   try simp only [go_sem, reduceAdd]
   refine rd_cells o (by simp) ?_
   try simp only [go_sem]
   refine ⟨⟨hr.2.1, by rw [hrw]; exact hr.2.2⟩, hset _ _ fun q' H hX' o => ?_⟩
   try simp only [go_sem, wj]
   refine for_next q' (by omega) ⟨by rw [hus]; exact hX', ?_⟩ rfl
   have o := o.perm (show _ from List.perm_middle)
   have o3 := o.tl
   simp only [srO, SF.cells] at o3 ⊢
   exact o3.perm (permC fun x => by (try dsimp only); simp only [List.append_eq, List.count_append, List.count_cons, List.count_nil, List.map_nil, List.length_nil, List.length_append, List.length_cons, List.length_set, Nat.zero_add, List.nil_append, iI, iL]; omega)
  ·have h4p := of_ndecide h4
   obtain rfl : j = N.length := by omega
   rw [List.take_length, hun] at hX
   have o := o.subl (l' := (idS, srO f g (.buf idX Xs.length) (.fn (.func F) ca)) :: (q ++ (w ++ l))) (.cons_cons _ (List.Sublist.append_left (List.Sublist.append_left ((List.sublist_cons_self _ _).trans (List.sublist_cons_self _ _)) _) _))
   try simp only [go_sem]
   cases b
   ·try simp only [go_sem]
    exact ⟨H, .refl _, false, q, w, A', rfl, hX, hGs, o, fun h => by cases h⟩
   ·obtain ⟨hFs, M', hM', rfl⟩ := hres rfl
    try simp only [go_sem, w2]
    exact for_next (M', q, w) (by omega) ⟨by rw [Int.natCast_succ]; exact hM', hX, hFs, o⟩ rfl
end Go.Proofs.Shf
namespace Go.Shf
open Go.AW
def pairsE (x e : Nat) : List Int := [(x : Int), (e : Int)]
def pairsX (x n : Nat) : List (List Int) := (List.range n).map (pairsE x)
theorem pairsX_succ (x n : Nat) : pairsX x (n + 1) = pairsX x n ++ [pairsE x n] := by simp [pairsX, List.range_succ]
def pairsN (f : SF) : Nat → List (List Int)
 | 0 => []
 | x + 1 => pairsN f x ++ pairsX x (f.sizes.getD x default).toNat
def pairsF (f : SF) : List (List Int) := pairsN f f.sizes.length
theorem mem_pairsN {f : SF} {p : List Int} : ∀ {n : Nat}, p ∈ pairsN f n ↔ ∃ x e : Nat, x < n ∧ e < (f.sizes.getD x default).toNat ∧ p = pairsE x e
 | 0 => by simp [pairsN]
 | n + 1 => by
  simp only [pairsN, List.mem_append, mem_pairsN (n := n), pairsX, List.mem_map, List.mem_range]
  constructor
  ·rintro (⟨x, e, h1, h2, h3⟩ | ⟨e, h2, h3⟩)
   ·exact ⟨x, e, by omega, h2, h3⟩
   ·exact ⟨n, e, by omega, h2, h3.symm⟩
  ·rintro ⟨x, e, h1, h2, h3⟩
   by_cases hx : x = n
   ·subst hx; exact .inr ⟨e, h2, h3.symm⟩
   ·exact .inl ⟨x, e, by omega, h2, h3⟩
theorem pairsN_len {f : SF} (hz : ∀ y, y ∈ f.sizes → 0 ≤ y ∧ y < 17) : ∀ {n : Nat}, n ≤ f.sizes.length → (pairsN f n).length ≤ 16 * n
 | 0, _ => by simp [pairsN]
 | n + 1, h => by
  have := pairsN_len hz (n := n) (by omega)
  have := hz _ (mem_getD.mpr ⟨n, by omega, rfl⟩)
  simp only [pairsN, pairsX, List.length_append, List.length_map, List.length_range]
  omega
end Go.Shf
namespace Go.Proofs.Shf
open Go.AW Go.Proofs Go.Shf
theorem pairs_ok (B : Nat) (f : SF) (hl : f.sizes.length ≤ 8) (hz : ∀ y, y ∈ f.sizes → 0 ≤ y ∧ y < 17) : Pur Tryz.prog B 190 [.ptr f.cells] (iLL (pairsF f)) := by
 refine ⟨fun H0 => c190p (by simp) fun _ => ?_⟩
 unfold s190p
 have o : Owns H0 H0 [] := .nil _
 try simp only [go_sem, reduceAdd]
 refine new_list iL o fun id3 H o => ?_
 try simp only [go_sem, reduceAdd, reduceLeDiff]
 refine awp_for [11, 12] (G := Nat × List (List Int)) (fun k g => [(3, some (.buf g.1 g.2.length)), (13, some (.int .i64 (k : Int)))]) (fun k g H => g.2 = pairsN f k ∧ Owns H0 H [(g.1, .cells 1 (g.2.map iL) 0)]) f.sizes.length (id3, []) ⟨rfl, o⟩ rfl ?_
 clear o
 rintro k ⟨id3, out⟩ H hk ⟨hout, o⟩
 replace hout : out = pairsN f k := hout
 replace o : Owns H0 H [(id3, .cells 1 (out.map iL) 0)] := o
 try simp only [go_sem]
 refine ⟨fun h1 => At.mk ?_, fun h1 => At.mk ?_⟩
 ·have h1 := of_decide h1
  have w1 := wsucc (k := k) (by omega)
  have hsz := hz _ (mem_getD.mpr ⟨k, h1, rfl⟩)
  obtain ⟨n, hn⟩ : ∃ n : Nat, f.sizes.getD k default = n := ⟨_, (Int.toNat_of_nonneg hsz.1).symm⟩
  rw [hn] at hsz
  have hlN := pairsN_len hz hk
  try simp only [go_sem]
  refine ⟨h1, ?_⟩
  rw [hn]
  refine awp_for [4, 5, 11, 12, 13] (G := Nat × List (List Int)) (fun e g => [(3, some (.buf g.1 g.2.length)), (6, some (.int .i64 (e : Int)))]) (fun e g H => g.2 = pairsN f k ++ pairsX k e ∧ Owns H0 H [(g.1, .cells 1 (g.2.map iL) 0)]) n (id3, out) ⟨by simp [hout, pairsX], o⟩ rfl ?_
  clear o hout
  rintro e ⟨id3, out⟩ H he ⟨hout, o⟩
  replace hout : out = pairsN f k ++ pairsX k e := hout
  replace o : Owns H0 H [(id3, .cells 1 (out.map iL) 0)] := o
  have hol : out.length ≤ 16 * k + e := by rw [hout, List.length_append, pairsX, List.length_map, List.length_range]; omega
  try simp only [go_sem]
  refine ⟨fun h2 => At.mk ?_, fun h2 => At.mk ?_⟩
  ·have h2 := of_decide h2
   have w2 := wsucc (k := e) (by omega)
   try simp only [go_sem, reduceAdd]
   refine app_own (pairsE k e) o rfl rfl (by simp only [maxL]; omega) fun id3 H o => ?_
   try simp only [go_sem, w2]
   exact for_next (_, _) (by omega) ⟨by rw [hout, pairsX_succ, List.append_assoc], o⟩ rfl
  ·have h2 := of_ndecide h2
   obtain rfl : e = n := by omega
   try simp only [go_sem, w1]
   exact for_next (_, _) (by omega) ⟨by rw [hout, pairsN, hn]; rfl, o⟩ rfl
 ·have h1 := of_ndecide h1
  obtain rfl : k = f.sizes.length := by omega
  try simp only [go_sem]
  refine fz_own o rfl fun H o => ?_
  try simp only [go_sem]
  exact pure_ret (by rw [hout]; rfl) o.sub
theorem elements_ok (B : Nat) (f : SF) (hl : f.sizes.length ≤ 8) (hz : ∀ y, y ∈ f.sizes → 0 ≤ y ∧ y < 17) : ∃ n : Int, Pur Tryz.prog B 73 [.ptr f.cells] (iI n) := by
 refine ⟨f.sizes.sum, ⟨fun H0 => c73p (by simp) fun _ => ?_⟩⟩
 unfold s73p
 try simp only [go_sem, reduceAdd, reduceLeDiff]
 refine awp_for [9, 10] (G := Unit) (fun k _ => [(3, some (.int .i64 (f.sizes.take k).sum)), (11, some (.int .i64 (k : Int)))]) (fun k _ H => H = H0 ∧ 0 ≤ (f.sizes.take k).sum ∧ (f.sizes.take k).sum ≤ 17 * k) f.sizes.length () ⟨rfl, by simp, by simp⟩ rfl ?_
 rintro k _ H hk ⟨rfl, hs⟩
 try simp only [go_sem]
 refine ⟨fun h1 => At.mk ?_, fun h1 => At.mk ?_⟩
 ·have h1 := of_decide h1
  have w1 := wsucc (k := k) (by omega)
  have hsz := hz _ (mem_getD.mpr ⟨k, h1, rfl⟩)
  have e : (f.sizes.take (k + 1)).sum = (f.sizes.take k).sum + f.sizes.getD k default := by rw [take_succ' _ h1]; simp
  have w2 : IntKind.i64.wrap ((f.sizes.take k).sum + f.sizes.getD k default) = (f.sizes.take (k + 1)).sum := by rw [wrap_i64 (by omega) (by omega), e]
  try simp only [go_sem]
  refine ⟨h1, ?_⟩
  try simp only [go_sem, w1, w2]
  exact for_next () (by omega) ⟨rfl, by omega, by omega⟩ rfl
 ·have h1 := of_ndecide h1
  obtain rfl : k = f.sizes.length := by omega
  try simp only [go_sem]
  exact pure_ret (by rw [List.take_length]) (.refl _)
theorem compareFunc_ok (B : Nat) (a b : List (List Int)) : Pur Tryz.prog B 293 [iLL a, iLL b, .fn (.func 214) []] (.int .i64 (cmpL a b)) := by
 refine ⟨fun H0 => c293p (by simp) fun ⟨hf, hf2, _⟩ => ?_⟩
 have hla := fine_mL_le hf
 have hlb := fine_mL_le hf2
 simp only [maxL] at hla hlb
 unfold s293p
 try simp only [go_sem, reduceAdd]
 refine awp_for [0, 1, 2, 11, 12] (fun k _ => [(13, some (.int .i64 (k : Int)))]) (fun k _ H => H = H0 ∧ k ≤ b.length ∧ cmpL a b = cmpL (a.drop k) (b.drop k)) a.length () ⟨rfl, by omega, by simp⟩ rfl ?_
 rintro k _ H hk ⟨rfl, hkb, hall⟩
 try simp only [go_sem]
 refine ⟨fun h1 => At.mk ?_, fun h1 => At.mk ?_⟩
 ·have h1 := of_decide h1
  have w1 := wsucc (k := k) (by omega)
  try simp only [go_sem]
  refine ⟨h1, ?_⟩
  refine ⟨fun h2 => At.mk ?_, fun h2 => At.mk ?_⟩
  ·have h2 := of_decide h2
   try simp only [go_sem]
   exact pure_ret (by rw [hall, cmpL_long h1 (by omega)]) (.refl _)
  ·have h2 := of_ndecide h2
   try simp only [go_sem]
   refine ⟨by omega, (compare_ok ..).go fun _ => ?_⟩
   try simp only [go_sem]
   refine ⟨fun h3 => At.mk ?_, fun h3 => At.mk ?_⟩
   ·have h3p := h3; simp only [bnt, decide_eq_false_iff_not] at h3p
    try simp only [go_sem]
    exact pure_ret (by rw [hall, cmpL_stop h1 (by omega) h3p]) (.refl _)
   ·have h3p := h3; simp only [bnf, decide_eq_true_eq] at h3p
    try simp only [go_sem, w1]
    exact for_next () (by omega) ⟨rfl, by omega, by rw [hall, cmpL_step h1 (by omega) h3p]⟩ rfl
 ·have h1 := of_ndecide h1
  obtain rfl : k = a.length := by omega
  try simp only [go_sem]
  refine ⟨fun h2 => At.mk ?_, fun h2 => At.mk ?_⟩
  ·have h2 := of_decide h2
   try simp only [go_sem]
   exact pure_ret (by rw [hall, cmpL_short (Nat.le_refl _) (by omega)]) (.refl _)
  ·have h2 := of_ndecide h2
   try simp only [go_sem]
   exact pure_ret (by rw [hall, cmpL_end (Nat.le_refl _) (by omega)]) (.refl _)
theorem compareLists_ok (B : Nat) (a b : List (List Int)) : Pur Tryz.prog B 222 [iLL a, iLL b] (.int .i64 (cmpL a b)) := by
 refine ⟨fun H0 => c222p (by simp) fun _ => ?_⟩
 unfold s222p
 try simp only [go_sem, reduceAdd]
 refine (compareFunc_ok ..).go fun _ => ?_
 try simp only [go_sem]
 exact pure_ret rfl (.refl _)
def PE (p : List (List Int)) : AV := .agg [iLL p]
theorem cmpPart_ok (B : Nat) (p q : List (List Int)) : Pur Tryz.prog B 224 [PE p, PE q] (.int .i64 (cmpL p q)) := by
 refine ⟨fun H0 => c224p (by simp) fun _ => ?_⟩
 unfold s224p PE
 try simp only [go_sem, reduceAdd, reduceLeDiff]
 refine (compareLists_ok ..).go fun _ => ?_
 try simp only [go_sem]
 exact pure_ret rfl (.refl _)
theorem samePart_ok (B : Nat) (p q : List (List Int)) : Pur Tryz.prog B 221 [PE p, .ptr [iLL q]] (.bool (dec (q = p))) := by
 refine ⟨fun H0 => c221p (by simp) fun _ => ?_⟩
 unfold s221p PE
 try simp only [go_sem, reduceAdd, reduceLeDiff]
 refine (compareLists_ok ..).go fun _ => ?_
 try simp only [go_sem]
 exact pure_ret (by congr 1; rw [decide_dec]; exact dec_congr cmpL_zero) (.refl _)
def idxR : Option Nat → Int
 | some i => i
 | none => -1
theorem idxR_same {α : Type} [DecidableEq α] (l : List α) (s : α) : idxR (l.findIdx? fun t => dec (s = t)) = indexOf l s := by
 rw [← findIdx_same l s]
 cases l.findIdx? fun t => dec (s = t) <;> rfl
theorem indexPart_ok (B : Nat) (l : List (List (List Int))) (fn : FuncId) (ca : List AV) (p : List (List Int) → Bool) (hp : ∀ t, t ∈ l → PureF Tryz.prog B fn (PE t :: ca) (.bool (p t))) :
  Pur Tryz.prog B 292 [mL iLL l, .fn (.func fn) ca] (.int .i64 (idxR (l.findIdx? p))) := by
 refine ⟨fun H0 => c292p (by simp) fun ⟨hf, _⟩ => ?_⟩
 have hll := fine_mL_le hf
 simp only [maxL] at hll
 unfold s292p
 try simp only [go_sem, reduceAdd]
 refine awp_for [0, 1, 7] (fun k _ => [(8, some (.int .i64 (k : Int)))]) (fun k _ H => H = H0 ∧ ∀ i, i < k → p (l.getD i default) = false) l.length () ⟨rfl, by simp⟩ rfl ?_
 rintro k _ H hk ⟨rfl, hall⟩
 try simp only [go_sem]
 refine ⟨fun h1 => At.mk ?_, fun h1 => At.mk ?_⟩
 ·try simp only [go_sem, reduceAdd]
  have h1p := h1; simp only [decide_eq_true_eq] at h1p
  have w1 := wsucc (k := k) (by omega)
  refine ⟨h1p, ?_⟩
  refine (show CallH Tryz.prog B fn (PE _ :: ca) _ _ from (hp _ (mem_getD.mpr ⟨k, h1p, rfl⟩)).go fun _ => ?_)
  try simp only [go_sem]
  refine ⟨fun h2 => At.mk ?_, fun h2 => At.mk ?_⟩
  ·try simp only [go_sem]
   refine pure_ret ?_ (.refl _)
   have : l.findIdx? p = some k := by
    rw [List.findIdx?_eq_some_iff_getElem]
    refine ⟨h1p, by simpa [List.getD_eq_getElem?_getD, h1p] using h2, fun j hj => ?_⟩
    have := hall j hj
    simpa [List.getD_eq_getElem?_getD, show j < l.length by omega] using this
   rw [this]; rfl
  ·try simp only [go_sem, w1]
   exact for_next () (by omega) ⟨rfl, lt_succ_all hall h2⟩ rfl
 ·try simp only [go_sem]
  have h1p := h1; simp only [decide_eq_false_iff_not, Nat.not_lt] at h1p
  refine pure_ret ?_ (.refl _)
  have : l.findIdx? p = none := by
   rw [List.findIdx?_eq_none_iff]
   intro x hx
   obtain ⟨i, hi, rfl⟩ := mem_getD.mp hx
   exact hall i (by omega)
  rw [this]; rfl
theorem containsPart_ok (B : Nat) (l : List (List (List Int))) (q : List (List Int)) : Pur Tryz.prog B 220 [mL iLL l, .fn (.func 221) [.ptr [iLL q]]] (.bool (dec (q ∈ l))) := by
 refine ⟨fun H0 => c220p (by simp) fun _ => ?_⟩
 unfold s220p
 try simp only [go_sem, reduceAdd]
 refine (indexPart_ok B l 221 _ _ fun t _ => (samePart_ok B t q).run).go fun _ => ?_
 rw [idxR_same]
 try simp only [go_sem]
 refine pure_ret ?_ (.refl _)
 congr 1
 rw [decide_dec]; exact dec_congr (indexOf_mem l q)
end Go.Proofs.Shf
namespace Go.Proofs.Shf
open Go.AW Go.Proofs Go.Shf
theorem cloneN (B : Nat) (l : List Int) : New Tryz.prog B 189 [iL l] fun p X => OL p X l :=
 ⟨fun H => (clone_own B l H H [] (.nil H)).mono fun r H' ⟨id, A, e, o, q⟩ => by
  subst e q
  exact ⟨_, .inr ⟨id, _, [], rfl, by simp, rowsIT _⟩, o⟩⟩
theorem clonesN (B : Nat) (l : List (List Int)) : New Tryz.prog B 170 [iLL l] fun p X => OLL p X l := by
 refine ⟨fun H0 => c170p (by simp) fun ⟨hf, _⟩ => ?_⟩
 have hl := fine_mL_le hf
 simp only [maxL] at hl
 unfold s170p
 try simp only [go_sem, reduceAdd]
 refine ⟨by simp only [maxL]; omega, newBuf_own (.nil _) fun id H o => ?_⟩
 try simp only [go_sem]
 refine awp_for [9, 10] (G := AV × Ob) (fun k g => [(3, some g.1), (11, some (.int .i64 (k : Int)))])
  (fun k g H => OLL g.2 g.1 (l.take k) ∧ Owns H0 H (g.2 ++ [])) l.length (.buf id 0, [(id, .cells 1 [] 0)]) ⟨.inr ⟨id, [], [], rfl, rfl, .nil⟩, o⟩ rfl ?_
 clear o
 rintro k ⟨X, q⟩ H hk ⟨hX, o⟩
 replace hX : OLL q X (l.take k) := hX
 replace o : Owns H0 H (q ++ []) := o
 try simp only [go_sem]
 refine ⟨fun h1 => At.mk ?_, fun h1 => At.mk ?_⟩
 ·have h1p := of_decide h1
  have w := wsucc (k := k) (by omega)
  try simp only [go_sem]
  refine ⟨h1p, ?_⟩
  refine (cloneN B (l.getD k default)).call o fun Y p H hY o => ?_
  have hY1 := hY.one
  try simp only [go_sem, reduceAdd]
  refine ⟨by simp [okEls, AV.cells_one hY1, hY1], ?_⟩
  refine hX.appT hY ⟨AV.cells_one hY1, hY1⟩ o (by rw [List.length_take]; simp only [maxL]; omega) fun X' q' H hX1 hX' o => ?_
  try simp only [go_sem, w]
  refine for_next (X', q') h1p ⟨?_, o⟩ rfl
  simp only
  rw [take_succ_getD l h1p]; exact hX'
 ·have h1p := of_ndecide h1
  obtain rfl : k = l.length := by omega
  rw [List.take_length] at hX
  rw [List.append_nil] at o
  try simp only [go_sem]
  exact ⟨H, .refl H, q, hX, o⟩
def OutG (idO : Nat) (A : List (List (List Int))) (w : Ob) : Prop := ∃ (Y : AV) (p : Ob), w = (idO, .cells 1 [Y] 0) :: p ∧ LsP iLL p Y A
def OutF (most idO : Nat) (A : List (List (List Int))) (w : Ob) : Prop := OutG idO A w ∧ A.length ≤ most
theorem foundAll_ok (B : Nat) (most : Nat) (hmost : most ≤ 1048576) (idO : Nat) : FoundOk B 169 [.ref idO 0, .ptr [.int .i64 most]] (OutF most idO) (OutG idO) := by
 refine ⟨fun A w h => h.1, fun p A X q w l H0 H hX hFs o => ?_⟩
 obtain ⟨⟨Y, pw, rfl, hY⟩, hA⟩ := hFs
 refine c169p (by simp) fun _ => ?_
 unfold s169p
 try simp only [go_sem, reduceAdd]
 have hgO : H.get idO = some (.cells 1 [Y] 0) := o.get (idO, .cells 1 [Y] 0) (by simp)
 refine rd_get hgO (by simp) ?_
 try simp only [go_sem, reduceAdd]
 refine New.lentQ owLL (clonesN B p) rfl (fun i hi => ?_) fun H' hs => ⟨hs, ?_⟩
 ·obtain rfl : i = 0 := by simp only [List.length_cons, List.length_nil] at hi; omega
  exact owLL.arg hX o fun x hx => List.mem_append_left _ hx
 have o := o.ext hs
 have oY : Owns H0 H' (pw ++ ((idO, .cells 1 [Y] 0) :: (q ++ l))) := o.perm (permC fun x => by (try dsimp only); simp only [List.append_eq, List.count_append, List.count_cons, List.count_nil, List.map_nil, List.length_nil, List.length_append, List.length_cons, List.length_set, Nat.zero_add, List.nil_append, iI, iL]; omega)
 try simp only [go_sem, reduceAdd]
 refine (LsO.mk oY hY).app p rfl (by simp only [maxL]; omega) fun idn H o => ?_
 try simp only [go_sem]
 refine stc o.swap fun H o => ?_
 simp only [wr_cons, wr_nil, List.set_cons_zero, List.set_cons_succ] at o
 try simp only [go_sem]
 refine rd_cells o (by simp) ?_
 try simp only [go_sem]
 refine ⟨H, .refl H, _, (idO, .cells 1 [.buf idn (A ++ [p]).length] 0) :: [(idn, .cells 1 ((A ++ [p]).map iLL) 0)], rfl, ⟨_, _, rfl, .inr ⟨idn, rfl, rfl⟩⟩, fun hb => ⟨⟨_, _, rfl, .inr ⟨idn, rfl, rfl⟩⟩, ?_⟩, ?_⟩
 ·exact of_decide_eq_true hb
 ·exact o.perm (permC fun x => by (try dsimp only); simp only [List.append_eq, List.count_append, List.count_cons, List.count_nil, List.map_nil, List.length_nil, List.length_append, List.length_cons, List.length_set, Nat.zero_add, List.nil_append, iI, iL]; omega)
theorem blank_take (f : SF) {k : Nat} (hk : k < f.sizes.length) {n : Nat} (hn : f.sizes.getD k default = n) : (blankT f).take (k + 1) = (blankT f).take k ++ [List.replicate n (-1)] := by
 rw [take_one _ (by simpa [blankT] using hk)]
 congr 2
 rw [blankT, map_getD _ hk, hn, Int.toNat_natCast]
theorem setMaps_ok (B : Nat) {f g : SF} (hf : f.Is) (hg : g.Is) (sh : f.shape = g.shape) {F : FuncId} {ca : List AV} {Fs Gs : List (List (List Int)) → Ob → Prop} (hF : FoundOk B F ca Fs Gs) (A : List (List (List Int))) (w l : Ob) (H0 H : Heap) (hFs : Fs A w) (o : Owns H0 H (w ++ l)) :
  CallH Tryz.prog B 168 [.ptr f.cells, .ptr g.cells, .bool false, .fn (.func F) ca] H fun r H' => ∃ (b : Bool) (w' : Ob) (A' : List (List (List Int))), r = .bool b ∧ Gs A' w' ∧ Owns H0 H' (w' ++ l) ∧
   (b = true → Fs A' w' ∧ ∃ M, ListsT f g (blankT f) M ∧ A' = A ++ M) := by
 refine c168p (by simp) fun _ => ?_
 have hob := hf.1.is.1.o
 have hsl := hf.1.sl
 have hz0 : ∀ x, x < f.sizes.length → 0 ≤ f.sizes.getD x default ∧ f.sizes.getD x default < 17 := fun x hx => hf.1.sz _ (mem_getD.mpr ⟨x, hx, rfl⟩)
 unfold s168p
 have hfc : (AV.fn (.func F) ca).cells = [.fn (.func F) ca] := rfl
 try simp only [go_sem, reduceAdd, reduceLeDiff, hfc, wr_cons, wr_nil, List.set_cons_zero, List.set_cons_succ]
 refine newRef_own o fun idS H o => ?_
 try simp only [go_sem, reduceAdd, reduceLeDiff]
 refine awp_for [9, 21, 22] (G := AV × Ob) (fun k _ => [(23, some (.int .i64 (k : Int)))])
  (fun k G H => OLL G.2 G.1 ((blankT f).take k) ∧ Owns H0 H ((idS, srO f g G.1 (.fn (.func F) ca)) :: (G.2 ++ (w ++ l)))) f.sizes.length (.nilsl, []) ⟨.inl ⟨rfl, rfl, rfl⟩, o⟩ rfl ?_
 clear o
 rintro k ⟨X, q⟩ H hk ⟨hX, o⟩
 replace hX : OLL q X ((blankT f).take k) := hX
 replace o : Owns H0 H ((idS, srO f g X (.fn (.func F) ca)) :: (q ++ (w ++ l))) := o
 try simp only [go_sem]
 refine ⟨fun h1 => At.mk ?_, fun h1 => At.mk ?_⟩
 ·have h1p := of_decide h1
  have w1 := wsucc (k := k) (by omega)
  have hzk := hz0 k h1p
  obtain ⟨n, hn⟩ : ∃ n : Nat, f.sizes.getD k default = n := ⟨_, (Int.toNat_of_nonneg hzk.1).symm⟩
  rw [hn] at hzk
  try simp only [go_sem, reduceAdd]
  refine ⟨h1p, ?_⟩
  refine rd_cells o (by simp) ?_
  rw [hn]
  try simp only [go_sem, reduceAdd]
  refine (repeated_own B (-1) n (by omega) H H [] (.nil H)).mono ?_
  rintro r H2 ⟨idr, R, rfl, or, rfl⟩
  refine ⟨or.sub, ?_⟩
  have o := o.trans or
  have o2 : Owns H0 H2 ([(idr, .cells 1 ((List.replicate n (-1 : Int)).map iI) 0)] ++ (q ++ ((idS, srO f g X (.fn (.func F) ca)) :: (w ++ l)))) := o.perm (permC fun x => by (try dsimp only); simp only [List.append_eq, List.count_append, List.count_cons, List.count_nil, List.map_nil, List.length_nil, List.length_append, List.length_cons, List.length_set, Nat.zero_add, List.nil_append, iI, iL]; omega)
  try simp only [go_sem, reduceAdd]
  refine hX.appT (O := OL) (p := [(idr, .cells 1 ((List.replicate n (-1 : Int)).map iI) 0)]) (a := List.replicate n (-1)) (.inr ⟨idr, _, [], rfl, by simp, rowsIT _⟩) ⟨rfl, rfl⟩ o2 (by rw [List.length_take]; simp only [maxL]; omega) fun X' q' H hX1 hX' o => ?_
  have o3 : Owns H0 H ((idS, srO f g X (.fn (.func F) ca)) :: (q' ++ (w ++ l))) := o.perm (permC fun x => by (try dsimp only); simp only [List.append_eq, List.count_append, List.count_cons, List.count_nil, List.map_nil, List.length_nil, List.length_append, List.length_cons, List.length_set, Nat.zero_add, List.nil_append, iI, iL]; omega)
  rw [← blank_take f h1p hn] at hX'
  try simp only [go_sem, reduceAdd, AV.cells_one hX1]
  refine st_cells o3 (by simp) rfl (by simp only [memcons, memnil]; exact ⟨hX1, trivial⟩) fun H o => ?_
  simp only [wr_cons, wr_nil, List.set_cons_zero, List.set_cons_succ] at o
  try simp only [go_sem, w1]
  exact for_next (X', q') (by omega) ⟨hX', o⟩ rfl
 ·have h1p := of_ndecide h1
  have hkk : k = f.sizes.length := by omega
  rw [hkk, List.take_of_length_le (by simp [blankT])] at hX
  try simp only [go_sem]
  refine (run_ok B hf hg sh hF idS X _ (blankT f) rfl (blank_pt hf.1) A q w l H0 H hX hFs o).mono ?_
  rintro r H' ⟨b, q', w', A', rfl, hX', hGs, o, hb⟩
  try simp only [go_sem]
  exact ⟨H', .refl _, b, w', A', rfl, hGs, o.subl ((List.sublist_append_right _ _).trans (List.sublist_cons_self _ _)), hb⟩
def MapsQ (f g : SF) (r : AV) : Prop := ∃ (L : List (List (List Int))) (b : Bool), r = .tup [iLLL L, .bool b] ∧ (b = true → ListsT f g (blankT f) L)
theorem allSetMapsP_ok (B : Nat) {f g : SF} (hf : f.Is) (hg : g.Is) (sh : f.shape = g.shape) (most : Nat) (hmost : most ≤ 1048576) : Rets B 74 [.ptr f.cells, .ptr g.cells, .int .i64 most] (MapsQ f g) := by
 intro H0
 refine c74p (by simp) fun _ => ?_
 unfold s74p
 have o : Owns H0 H0 [] := .nil _
 try simp only [go_sem, reduceAdd]
 refine newBuf_own o fun idE H o => ?_
 try simp only [go_sem, reduceAdd]
 refine newRef_own o fun idO H o => ?_
 try simp only [go_sem]
 refine stc o fun H o => ?_
 simp only [wr_cons, wr_nil, List.set_cons_zero, List.set_cons_succ] at o
 try simp only [go_sem]
 have hFs : OutF most idO [] [(idO, .cells 1 [.buf idE 0] 0), (idE, .cells 1 [] 0)] := ⟨⟨.buf idE 0, [(idE, .cells 1 [] 0)], rfl, .inr ⟨idE, rfl, rfl⟩⟩, Nat.zero_le _⟩
 refine (setMaps_ok B hf hg sh (foundAll_ok B most hmost idO) [] _ [] H0 H hFs o).mono ?_
 clear o hFs
 rintro r H ⟨b, w, L, rfl, ⟨Y, p, rfl, hY⟩, o, hb⟩
 have hq : b = true → ListsT f g (blankT f) L := fun h => by
  obtain ⟨_, M, h1, h2⟩ := hb h
  rw [h2]; exact h1
 clear hb
 try simp only [go_sem]
 refine rd_cells (show Owns H0 H ((idO, .cells 1 [Y] 0) :: (p ++ [])) from o) (by simp) ?_
 try simp only [go_sem]
 have ob := o.sub
 rcases hY with ⟨rfl, rfl, rfl⟩ | ⟨idn, rfl, rfl⟩
 ·try simp only [go_sem]
  exact rets_ret ⟨[], b, rfl, hq⟩ ob
 ·refine fz_own (f := iLL) (show Owns H0 H ((idn, .cells 1 (L.map iLL) 0) :: [(idO, .cells 1 [.buf idn L.length] 0)]) from o.swap) rfl fun H o => ?_
  try simp only [go_sem]
  exact rets_ret ⟨L, b, rfl, hq⟩ o.sub
theorem setsCode_ok (B : Nat) {f g : SF} (hf : f.Is) (hg : g.Is) (sh : f.shape = g.shape) : Pur Tryz.prog B 72 [.ptr f.cells, .ptr g.cells] (iI 0) := by
 refine ⟨fun H0 => c72 (by simp) fun _ => ?_⟩
 unfold s72
 try simp only [go_sem, reduceAdd]
 refine (show Pur Tryz.prog B _ [.sl [.ptr f.cells, .ptr g.cells]] _ from areSetFunctors_ok B [f, g]).go fun _ => ?_
 rw [dec_t (by simp [hf, hg])]
 try simp only [go_sem, reduceAdd, reduceLeDiff]
 refine ⟨_, (sameCategory_ok B f.shape g.shape).run, ?_⟩
 rw [dec_t sh]
 try simp only [go_sem]
 exact pure_ret rfl (.refl _)
def AllMQ (f g : SF) (r : AV) : Prop := ∃ (L : List (List (List Int))) (k : Int), r = .tup [iLLL L, iI k] ∧ (k = 0 ∨ k = 3) ∧ (k = 0 → ListsT f g (blankT f) L)
theorem allSetMapsI_ok (B : Nat) {f g : SF} (hf : f.Is) (hg : g.Is) (sh : f.shape = g.shape) : Rets B 17 [.agg f.cells, .agg g.cells] (AllMQ f g) := by
 intro H0
 refine c17 (by simp) fun _ => ?_
 have hob := hf.1.is.1.o
 have hsl := hf.1.sl
 obtain ⟨n, hn⟩ := elements_ok B f (by omega) fun y hy => hf.1.sz y hy
 unfold s17
 try simp only [go_sem, reduceAdd]
 refine (setsCode_ok B hf hg sh).go fun _ => ?_
 try simp only [go_sem, dTrue]
 refine hn.go fun _ => ?_
 try simp only [go_sem]
 refine ⟨fun h1 => At.mk ?_, fun h1 => At.mk ?_⟩
 ·try simp only [go_sem]
  exact rets_ret ⟨[], 3, rfl, .inr rfl, fun h => by simp at h⟩ (.refl _)
 try simp only [go_sem]
 refine (allSetMapsP_ok B hf hg sh 200 (by omega)).go fun r _ ⟨L, b, e, hb⟩ => ?_
 subst e
 try simp only [go_sem, reduceAdd, reduceLT]
 cases b
 ·try simp only [go_sem]
  exact rets_ret ⟨[], 3, rfl, .inr rfl, fun h => by simp at h⟩ (.refl _)
 ·try simp only [go_sem]
  exact rets_ret ⟨L, 0, rfl, .inl rfl, fun _ => hb rfl⟩ (.refl _)
end Go.Proofs.Shf
namespace Go.Proofs
open Go.Shelf
def Tryz.sortP_ren : Go.Shelf.Ren := ⟨fun | 6 => 223 | 15 => 285 | 14 => 294 | 28 => 325 | 29 => 326 | 20 => 329 | 21 => 330 | 22 => 331 | 23 => 332 | 24 => 333 | 25 => 334 | 26 => 335 | 27 => 336 | 46 => 363 | 47 => 355 | 48 => 356 | 49 => 364 | 50 => 365 | 57 => 386 | n => n, fun | 22 => 67 | 24 => 75 | 25 => 284 | 3 => 3 | 39 => 158 | 0 => 0 | 53 => 266 | 55 => 63 | 4 => 4 | 46 => 367 | 45 => 366 | 50 => 371 | 5 => 5 | 9 => 9 | 66 => 394 | 70 => 398 | 76 => 420 | 77 => 421 | n => n, fun | n => n⟩
theorem Tryz.sortP : Go.Proofs.SlLaysF0.n6 Tryz.prog Tryz.sortP_ren := {
 mixed := by kernel_rfl
 f6 := ⟨Tryz.f223.name, by decide, Tryz.func223.trans (congrArg some (by kernel_rfl))⟩
 f14 := ⟨Tryz.f294.name, by decide, Tryz.func294.trans (congrArg some (by kernel_rfl))⟩
 f15 := Tryz.func285.trans (congrArg some (by kernel_rfl))
 f20 := ⟨Tryz.f329.name, by decide, Tryz.func329.trans (congrArg some (by kernel_rfl))⟩
 f21 := ⟨Tryz.f330.name, by decide, Tryz.func330.trans (congrArg some (by kernel_rfl))⟩
 f22 := ⟨Tryz.f331.name, by decide, Tryz.func331.trans (congrArg some (by kernel_rfl))⟩
 f23 := ⟨Tryz.f332.name, by decide, Tryz.func332.trans (congrArg some (by kernel_rfl))⟩
 f24 := ⟨Tryz.f333.name, by decide, Tryz.func333.trans (congrArg some (by kernel_rfl))⟩
 f25 := ⟨Tryz.f334.name, by decide, Tryz.func334.trans (congrArg some (by kernel_rfl))⟩
 f26 := ⟨Tryz.f335.name, by decide, Tryz.func335.trans (congrArg some (by kernel_rfl))⟩
 f27 := ⟨Tryz.f336.name, by decide, Tryz.func336.trans (congrArg some (by kernel_rfl))⟩
 f28 := Tryz.func325.trans (congrArg some (by kernel_rfl))
 f29 := Tryz.func326.trans (congrArg some (by kernel_rfl))
 f46 := ⟨Tryz.f363.name, by decide, Tryz.func363.trans (congrArg some (by kernel_rfl))⟩
 f47 := Tryz.func355.trans (congrArg some (by kernel_rfl))
 f48 := Tryz.func356.trans (congrArg some (by kernel_rfl))
 f49 := ⟨Tryz.f364.name, by decide, Tryz.func364.trans (congrArg some (by kernel_rfl))⟩
 f50 := ⟨Tryz.f365.name, by decide, Tryz.func365.trans (congrArg some (by kernel_rfl))⟩
 f57 := ⟨Tryz.f386.name, by decide, Tryz.func386.trans (congrArg some (by kernel_rfl))⟩
 t0 := Tryz.underlying0
 a0 := Tryz.isAgg0
 z0 := Tryz.sizeOf0
 v0 := Tryz.zeroValue0
 t3 := Tryz.underlying3
 a3 := Tryz.isAgg3
 z3 := Tryz.sizeOf3
 v3 := Tryz.zeroValue3
 t4 := Tryz.underlying4
 a4 := Tryz.isAgg4
 z4 := Tryz.sizeOf4
 v4 := Tryz.zeroValue4
 t5 := Tryz.underlying5
 a5 := Tryz.isAgg5
 z5 := Tryz.sizeOf5
 v5 := Tryz.zeroValue5
 t9 := Tryz.underlying9
 a9 := Tryz.isAgg9
 z9 := Tryz.sizeOf9
 v9 := Tryz.zeroValue9
 t22 := Tryz.underlying67
 a22 := Tryz.isAgg67
 z22 := Tryz.sizeOf67
 v22 := Tryz.zeroValue67
 t25 := Tryz.underlying284
 a25 := Tryz.isAgg284
 z25 := Tryz.sizeOf284
 v25 := Tryz.zeroValue284
 t39 := Tryz.underlying158
 a39 := Tryz.isAgg158
 z39 := Tryz.sizeOf158
 v39 := Tryz.zeroValue158
 t45 := Tryz.underlying366
 a45 := Tryz.isAgg366
 z45 := Tryz.sizeOf366
 v45 := Tryz.zeroValue366
 t46 := Tryz.underlying367
 a46 := Tryz.isAgg367
 z46 := Tryz.sizeOf367
 v46 := Tryz.zeroValue367
 t50 := Tryz.underlying371
 a50 := Tryz.isAgg371
 z50 := Tryz.sizeOf371
 v50 := Tryz.zeroValue371
 t53 := Tryz.underlying266
 a53 := Tryz.isAgg266
 z53 := Tryz.sizeOf266
 v53 := Tryz.zeroValue266
 t55 := Tryz.underlying63
 a55 := Tryz.isAgg63
 z55 := Tryz.sizeOf63
 v55 := Tryz.zeroValue63
 t66 := Tryz.underlying394
 a66 := Tryz.isAgg394
 z66 := Tryz.sizeOf394
 v66 := Tryz.zeroValue394
 t70 := Tryz.underlying398
 a70 := Tryz.isAgg398
 z70 := Tryz.sizeOf398
 v70 := Tryz.zeroValue398
 t76 := Tryz.underlying420
 a76 := Tryz.isAgg420
 z76 := Tryz.sizeOf420
 v76 := Tryz.zeroValue420
 t77 := Tryz.underlying421
 a77 := Tryz.isAgg421
 z77 := Tryz.sizeOf421
 v77 := Tryz.zeroValue421 }
end Go.Proofs
