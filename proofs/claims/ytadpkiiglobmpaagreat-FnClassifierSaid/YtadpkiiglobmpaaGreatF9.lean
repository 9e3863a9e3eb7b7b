/- A part of a proof. -/
import Derived.Test.YtadpkiiglobmpaaGreatF8
import Derived.Test.YtadpkiiglobmpaaGreatProg
import Derived.Tactics
import Derived.Tactics2
import Derived.Defers
import Derived.Laws.Pointers
import Derived.Laws.LoneSync
import Derived.RegionTactic
import Derived.RegionCalls
import Derived.ChangeAlike
import Derived.Shelf.SlLaysF
import Derived.Shelf.SlSortCmp.Whole1
set_option linter.unusedVariables false
set_option linter.unusedSimpArgs false
set_option linter.unusedSectionVars false
open Nat (reduceEqDiff reduceAdd reduceMul reduceLeDiff reduceLT)
namespace Go.Proofs.Shf
open Go.AW Go.Proofs Go.Shf
theorem l25Part_ok (B : Nat) (f : SF) (hf : f.Is) (p : List (List Int)) : Pur Tryz.prog B 150 [.agg f.cells, iLL p] (.bool (dec (f.Part p))) := by
 refine ⟨fun H0 => c150 (by simp) fun ⟨_, hfp, _⟩ => ?_⟩
 have hm := hf.1.is.1.m
 have hob := hf.1.is.1.o
 have htl := hf.1.is.1.tol
 have hsl := hf.1.sl
 have hal := hf.1.al
 unfold s150
 try simp only [go_sem, reduceAdd, reduceLeDiff]
 refine ⟨fun h0 => At.mk ?_, fun h0 => At.mk ?_⟩
 ·have h0p : ¬ p.length = f.sizes.length := by simpa using h0
  try simp only [go_sem]
  exact pure_ret (by rw [dec_f fun e => h0p e.len]) (.refl _)
 have hpl : p.length = f.sizes.length := by simpa using h0
 try simp only [go_sem]
 refine awp_for [1, 2] (fun k _ => [(5, some (.int .i64 (k : Int)))]) (fun k _ H => H = H0 ∧ ∀ i, i < k → Rising (p.getD i default) ∧ ∀ y, y ∈ p.getD i default → 0 ≤ y ∧ y < f.sizes.getD i default) p.length () ⟨rfl, by simp⟩ rfl ?_
 rintro k _ H hk ⟨rfl, hall⟩
 try simp only [go_sem]
 refine ⟨fun h1 => At.mk ?_, fun h1 => At.mk ?_⟩
 ·have h1p := of_decide h1
  have w1 := wsucc (k := k) (by omega)
  try simp only [go_sem]
  refine ⟨h1p, ?_⟩
  refine ⟨_, (l02Rises_ok B (p.getD k default)).run, ?_⟩
  by_cases h2 : Rising (p.getD k default)
  rotate_left 1
  ·rw [dec_f h2]
   try simp only [go_sem]
   exact pure_ret (by rw [dec_f fun e => h2 (e.ris k (by omega))]) (.refl _)
  rw [dec_t h2]
  try simp only [go_sem, reduceAdd, reduceLeDiff]
  refine ⟨by omega, h1p, ?_⟩
  refine ⟨_, (l01Map_ok B (p.getD k default) (f.sizes.getD k default)).run, ?_⟩
  by_cases h3 : ∀ y, y ∈ p.getD k default → 0 ≤ y ∧ y < f.sizes.getD k default
  rotate_left 1
  ·rw [dec_f h3]
   try simp only [go_sem]
   exact pure_ret (by rw [dec_f fun e => h3 (e.ran k (by omega))]) (.refl _)
  rw [dec_t h3]
  try simp only [go_sem, w1]
  exact for_next () (by omega) ⟨rfl, lt_succ_all hall ⟨h2, h3⟩⟩ rfl
 have h1p := of_ndecide h1
 obtain rfl : k = p.length := by omega
 try simp only [go_sem]
 refine awp_for [1, 2] (G := Unit) (fun a _ => [(6, some (.int .i64 (a : Int)))])
  (fun a _ H' => H' = H ∧ ∀ i, i < a → ∀ e, e ∈ ix p (f.shape.frm.getD i default) → ix (f.acts.getD i default) e ∈ ix p (f.shape.to.getD i default)) f.acts.length () ⟨rfl, by simp⟩ rfl ?_
 rintro a _ H' ha ⟨rfl, hcl⟩
 try simp only [go_sem, reduceAdd, reduceLeDiff]
 refine ⟨fun h4 => At.mk ?_, fun h4 => At.mk ?_⟩
 ·have h4p := of_decide h4
  have w2 := wsucc (k := a) (by omega)
  have hfr := hf.1.is.1.frmObj (f := (a : Int)) (by simp; omega)
  have hto := hf.1.is.1.toObj (f := (a : Int)) (by simp; omega)
  rw [ix_nat] at hfr hto
  have hacl := hf.1.actLen (a := (a : Int)) (by simp; omega)
  rw [ix_nat, ix_nat] at hacl
  have hran := (hall (f.shape.frm.getD a default).toNat (by omega)).2
  have hixf : ix p (f.shape.frm.getD a default) = p.getD (f.shape.frm.getD a default).toNat default := rfl
  have hzx : ix f.sizes (f.shape.frm.getD a default) = f.sizes.getD (f.shape.frm.getD a default).toNat default := rfl
  rw [← hixf, ← hzx] at hran
  have hfl := fine_mL_le (fine_mL_ix hfp (i := f.shape.frm.getD a default) (by omega))
  simp only [maxL] at hfl
  try simp only [go_sem, reduceAdd, reduceLeDiff]
  refine ⟨by omega, by omega, ?_⟩
  refine awp_for [1, 2, 6, 7, 8] (G := Unit) (fun e _ => [(9, some (.int .i64 (e : Int)))])
   (fun e _ H => H = H' ∧ ∀ i, i < e → ix (f.acts.getD a default) ((ix p (f.shape.frm.getD a default)).getD i default) ∈ ix p (f.shape.to.getD a default)) (ix p (f.shape.frm.getD a default)).length () ⟨rfl, by simp⟩ rfl ?_
  rintro e _ H he ⟨rfl, hin⟩
  try simp only [go_sem]
  refine ⟨⟨hfr.1, by omega⟩, ?_⟩
  refine ⟨fun h5 => At.mk ?_, fun h5 => At.mk ?_⟩
  ·have h5p := of_decide h5
   have w3 := wsucc (k := e) (by omega)
   have hr := hran _ (mem_getD.mpr ⟨e, h5p, rfl⟩)
   try simp only [go_sem, reduceAdd, reduceLeDiff]
   refine ⟨⟨hto.1, by omega⟩, by omega, ⟨hfr.1, by omega⟩, h5p, ⟨hr.1, by omega⟩, ?_⟩
   refine ⟨_, (l01Has_ok B (ix p (f.shape.to.getD a default)) (ix (f.acts.getD a default) ((ix p (f.shape.frm.getD a default)).getD e default))).run, ?_⟩
   by_cases h6 : ix (f.acts.getD a default) ((ix p (f.shape.frm.getD a default)).getD e default) ∈ ix p (f.shape.to.getD a default)
   ·rw [dec_t h6]
    try simp only [go_sem, w3]
    exact for_next () (by omega) ⟨rfl, lt_succ_all hin h6⟩ rfl
   ·rw [dec_f h6]
    try simp only [go_sem]
    refine pure_ret ?_ (.refl _)
    rw [dec_f fun q => h6 ?_]
    have := q.cls (a : Int) ⟨by omega, by simp; omega⟩ ((ix p (f.shape.frm.getD a default)).getD e default) (by rw [ix_nat]; exact mem_getD.mpr ⟨e, h5p, rfl⟩)
    rw [ix_nat, ix_nat] at this
    exact this
  ·have h5p := of_ndecide h5
   obtain rfl : e = (ix p (f.shape.frm.getD a default)).length := by omega
   try simp only [go_sem, w2]
   refine for_next () (by omega) ⟨rfl, lt_succ_all hcl fun y hy => ?_⟩ rfl
   obtain ⟨i, hi, rfl⟩ := mem_getD.mp hy
   exact hin i hi
 ·have h4p := of_ndecide h4
  obtain rfl : a = f.acts.length := by omega
  try simp only [go_sem]
  refine pure_ret ?_ (.refl _)
  rw [dec_t]
  refine ⟨hpl, fun x hx => (hall x (by omega)).1, fun x hx => (hall x (by omega)).2, fun a ha e he => ?_⟩
  have := hcl a.toNat (by omega)
  exact this e he
theorem specIsPart_ok (B : Nat) (f : SF) (p : List (List Int)) : Pur Tryz.prog B 128 [.agg f.cells, .agg [iLL p]] (.bool (dec (f.Is ∧ f.Part p))) := by
 refine ⟨fun H0 => c128 (by simp) fun _ => ?_⟩
 unfold s128
 try simp only [go_sem, reduceAdd]
 refine (l19Is_ok B f).go fun _ => ?_
 by_cases hf : f.Is
 ·rw [dec_t hf]
  try simp only [go_sem, reduceAdd, reduceLeDiff]
  refine (l25Part_ok B f hf p).go fun _ => ?_
  try simp only [go_sem]
  exact pure_ret (by congr 1; exact dec_congr ⟨fun h => ⟨hf, h⟩, fun h => h.2⟩) (.refl _)
 ·rw [dec_f hf]
  try simp only [go_sem]
  exact pure_ret (by rw [dec_f fun h => hf h.1]) (.refl _)
theorem isPart_ok (B : Nat) (f : SF) (hf : f.Is) (p : List (List Int)) : Pur Tryz.prog B 147 [.ptr f.cells, .agg [iLL p]] (.bool (dec (f.Part p))) := by
 refine ⟨fun H0 => c147 (by simp) fun ⟨_, hfp0, _⟩ => ?_⟩
 have hfp := hfp0.agg (c := iLL p) (by simp)
 have hm := hf.1.is.1.m
 have hob := hf.1.is.1.o
 have htl := hf.1.is.1.tol
 have hsl := hf.1.sl
 have hal := hf.1.al
 have hz0 : ∀ x, x < f.sizes.length → 0 ≤ f.sizes.getD x default ∧ f.sizes.getD x default < 17 := fun x hx => hf.1.sz _ (mem_getD.mpr ⟨x, hx, rfl⟩)
 unfold s147
 try simp only [go_sem, reduceAdd, reduceLeDiff]
 refine ⟨fun h0 => At.mk ?_, fun h0 => At.mk ?_⟩
 ·have h0p : ¬ p.length = f.sizes.length := by simpa using h0
  try simp only [go_sem]
  exact pure_ret (by rw [dec_f fun e => h0p e.len]) (.refl _)
 have hpl : p.length = f.sizes.length := by simpa using h0
 try simp only [go_sem, reduceAdd, reduceLeDiff]
 refine awp_for [0, 3, 21, 22] (fun k _ => [(23, some (.int .i64 (k : Int)))]) (fun k _ H => H = H0 ∧ ∀ i, i < k → Rising (p.getD i default) ∧ ∀ y, y ∈ p.getD i default → 0 ≤ y ∧ y < f.sizes.getD i default) p.length () ⟨rfl, by simp⟩ rfl ?_
 rintro k _ H hk ⟨rfl, hall⟩
 try simp only [go_sem]
 refine ⟨fun h1 => At.mk ?_, fun h1 => At.mk ?_⟩
 ·have h1p := of_decide h1
  have w1 := wsucc (k := k) (by omega)
  have hzk := hz0 k (by omega)
  try simp only [go_sem]
  refine ⟨h1p, ?_⟩
  refine (rising_ok B (p.getD k default)).go fun _ => ?_
  by_cases h2 : Rising (p.getD k default)
  rotate_left 1
  ·rw [dec_f h2]
   try simp only [go_sem]
   exact pure_ret (by rw [dec_f fun e => h2 (e.ris k (by omega))]) (.refl _)
  rw [dec_t h2]
  try simp only [go_sem, reduceAdd, reduceLeDiff]
  refine ⟨by omega, ?_⟩
  refine (within_ok B (p.getD k default) (f.sizes.getD k default) (by omega)).go fun _ => ?_
  by_cases h3 : ∀ y, y ∈ p.getD k default → 0 ≤ y ∧ y < f.sizes.getD k default
  rotate_left 1
  ·rw [dec_f h3]
   try simp only [go_sem]
   exact pure_ret (by rw [dec_f fun e => h3 (e.ran k (by omega))]) (.refl _)
  rw [dec_t h3]
  try simp only [go_sem, w1]
  exact for_next () (by omega) ⟨rfl, lt_succ_all hall ⟨h2, h3⟩⟩ rfl
 have h1p := of_ndecide h1
 obtain rfl : k = p.length := by omega
 try simp only [go_sem, reduceAdd, reduceLeDiff]
 refine awp_for [0, 3, 47, 48] (G := Unit) (fun a _ => [(49, some (.int .i64 (a : Int)))])
  (fun a _ H' => H' = H ∧ ∀ i, i < a → ∀ e, e ∈ ix p (f.shape.frm.getD i default) → ix (f.acts.getD i default) e ∈ ix p (f.shape.to.getD i default)) f.acts.length () ⟨rfl, by simp⟩ rfl ?_
 rintro a _ H' ha ⟨rfl, hcl⟩
 try simp only [go_sem]
 refine ⟨fun h4 => At.mk ?_, fun h4 => At.mk ?_⟩
 ·have h4p := of_decide h4
  have w2 := wsucc (k := a) (by omega)
  have hfr := hf.1.is.1.frmObj (f := (a : Int)) (by simp; omega)
  have hto := hf.1.is.1.toObj (f := (a : Int)) (by simp; omega)
  rw [ix_nat] at hfr hto
  have hacl := hf.1.actLen (a := (a : Int)) (by simp; omega)
  rw [ix_nat, ix_nat] at hacl
  have hran := (hall (f.shape.frm.getD a default).toNat (by omega)).2
  have hixf : ix p (f.shape.frm.getD a default) = p.getD (f.shape.frm.getD a default).toNat default := rfl
  have hzx : ix f.sizes (f.shape.frm.getD a default) = f.sizes.getD (f.shape.frm.getD a default).toNat default := rfl
  rw [← hixf, ← hzx] at hran
  have hfl := fine_mL_le (fine_mL_ix hfp (i := f.shape.frm.getD a default) (by omega))
  simp only [maxL] at hfl
  try simp only [go_sem, reduceAdd, reduceLeDiff]
  refine ⟨h4p, ?_⟩
  refine ⟨by omega, ⟨hfr.1, by omega⟩, ?_⟩
  refine awp_for [0, 3, 7, 8, 47, 48, 49, 65, 66] (G := Unit) (fun e _ => [(67, some (.int .i64 (e : Int)))])
   (fun e _ H => H = H' ∧ ∀ i, i < e → ix (f.acts.getD a default) ((ix p (f.shape.frm.getD a default)).getD i default) ∈ ix p (f.shape.to.getD a default)) (ix p (f.shape.frm.getD a default)).length () ⟨rfl, by simp⟩ rfl ?_
  rintro e _ H he ⟨rfl, hin⟩
  try simp only [go_sem]
  refine ⟨fun h5 => At.mk ?_, fun h5 => At.mk ?_⟩
  ·have h5p := of_decide h5
   have w3 := wsucc (k := e) (by omega)
   have hr := hran _ (mem_getD.mpr ⟨e, h5p, rfl⟩)
   try simp only [go_sem, reduceAdd, reduceLeDiff]
   refine ⟨h5p, by omega, ⟨hto.1, by omega⟩, ⟨hr.1, by omega⟩, ?_⟩
   refine ⟨_, (has_ok B (ix p (f.shape.to.getD a default)) (ix (f.acts.getD a default) ((ix p (f.shape.frm.getD a default)).getD e default))).run, ?_⟩
   by_cases h6 : ix (f.acts.getD a default) ((ix p (f.shape.frm.getD a default)).getD e default) ∈ ix p (f.shape.to.getD a default)
   ·rw [dec_t h6]
    try simp only [go_sem, w3]
    exact for_next () (by omega) ⟨rfl, lt_succ_all hin h6⟩ rfl
   ·rw [dec_f h6]
    try simp only [go_sem]
    refine pure_ret ?_ (.refl _)
    rw [dec_f fun q => h6 ?_]
    have := q.cls (a : Int) ⟨by omega, by simp; omega⟩ ((ix p (f.shape.frm.getD a default)).getD e default) (by rw [ix_nat]; exact mem_getD.mpr ⟨e, h5p, rfl⟩)
    rw [ix_nat, ix_nat] at this
    exact this
  ·have h5p := of_ndecide h5
   obtain rfl : e = (ix p (f.shape.frm.getD a default)).length := by omega
   try simp only [go_sem, w2]
   refine for_next () (by omega) ⟨rfl, lt_succ_all hcl fun y hy => ?_⟩ rfl
   obtain ⟨i, hi, rfl⟩ := mem_getD.mp hy
   exact hin i hi
 ·have h4p := of_ndecide h4
  obtain rfl : a = f.acts.length := by omega
  try simp only [go_sem]
  refine pure_ret ?_ (.refl _)
  rw [dec_t]
  refine ⟨hpl, fun x hx => (hall x (by omega)).1, fun x hx => (hall x (by omega)).2, fun a ha e he => ?_⟩
  have := hcl a.toNat (by omega)
  exact this e he
theorem areParts_ok (B : Nat) (f : SF) (p : List (List Int)) : Pur Tryz.prog B 123 [.ptr f.cells, .sl [.agg [iLL p]]] (.bool (dec (f.Is ∧ f.Part p))) := by
 refine ⟨fun H0 => c123 (by simp) fun _ => ?_⟩
 unfold s123
 have o : Owns H0 H0 [] := .nil _
 try simp only [go_sem, reduceAdd]
 refine (isSetFunctor_ok B f).go fun _ => ?_
 by_cases hf : f.Is
 rotate_left 1
 ·rw [dec_f hf]
  try simp only [go_sem]
  exact pure_ret (by rw [dec_f fun h => hf h.1]) (.refl _)
 rw [dec_t hf]
 try simp only [go_sem, reduceAdd]
 refine awp_for [0, 10, 11] (G := Unit) (fun k _ => [(12, some (.int .i64 (k : Int)))]) (fun k _ H => Owns H0 H [] ∧ (0 < k → f.Part p)) 1 () ⟨o, by simp⟩ rfl ?_
 clear o
 rintro k _ H hk ⟨o, hall⟩
 try simp only [go_sem]
 refine ⟨fun h1 => At.mk ?_, fun h1 => At.mk ?_⟩
 ·have h1p : k < 1 := of_decide h1
  obtain rfl : k = 0 := by omega
  have w1 := wsucc (k := 0) (by omega)
  try simp only [go_sem, reduceAdd, reduceLT]
  refine newRef_own o fun id6 H o => ?_
  try simp only [go_sem]
  refine stc o fun H o => ?_
  simp only [wr_cons, wr_nil, List.set_cons_zero, List.set_cons_succ] at o
  try simp only [go_sem]
  refine rd_celln o (by simp) ?_
  try simp only [go_sem]
  refine (isPart_ok B f hf p).go fun _ => ?_
  by_cases h2 : f.Part p
  ·rw [dec_t h2]
   try simp only [go_sem, reduceAdd, w1]
   exact for_next () (by omega) ⟨o.tl, fun _ => h2⟩ rfl
  ·rw [dec_f h2]
   try simp only [go_sem]
   exact pure_ret (by rw [dec_f fun h => h2 h.2]) o.sub
 ·have h1p : ¬ k < 1 := of_ndecide h1
  try simp only [go_sem]
  exact pure_ret (by rw [dec_t ⟨hf, hall (by omega)⟩]) o.sub
theorem holding_ok (B : Nat) (f : SF) (hf : f.Is) (p : List (List Int)) (hp : p.length = f.sizes.length) (x e : Int) (hx : 0 ≤ x ∧ x < f.shape.objs) (he : 0 ≤ e ∧ e < ix f.sizes x) :
  Pur Tryz.prog B 126 [.ptr f.cells, .agg [iLL p], iI x, iI e] (iL (valS f p x e)) := by
 refine ⟨fun H0 => c126 (by simp) fun _ => ?_⟩
 have hm := hf.1.is.1.m
 have hob := hf.1.is.1.o
 have htl := hf.1.is.1.tol
 have hsl := hf.1.sl
 have hal := hf.1.al
 unfold s126
 have o : Owns H0 H0 [] := .nil _
 try simp only [go_sem, reduceAdd]
 refine new_list iI o fun id9 H o => ?_
 try simp only [go_sem, reduceAdd, reduceLeDiff]
 refine (outOf_ok B f.shape x).go fun _ => ?_
 have hout : ∀ a, a ∈ outs f.shape x → (0 ≤ a ∧ a.toNat < f.shape.frm.length) ∧ ix f.shape.frm a = x := fun a ha => by have := mem_outs.mp ha; exact ⟨⟨this.1, this.2.1⟩, this.2.2⟩
 have hol : (outs f.shape x).length ≤ 40 := by
  rw [outs, List.length_map]
  refine Nat.le_trans (List.length_filter_le _ _) ?_
  rw [List.length_range]; omega
 have hval : (outs f.shape x).filter (fun a => decide (ix (ix f.acts a) e ∈ ix p (ix f.shape.to a))) = valS f p x e := by
  refine rising_ext (rising_pw.mpr ((rising_pw.mp (outs_nats f.shape x ▸ nats_rising _ _)).filter _)) (nats_rising _ _) fun y => ?_
  rw [List.mem_filter, mem_outs, mem_valS, decide_eq_true_eq]
  constructor
  ·rintro ⟨⟨h1, h2, h3⟩, h4⟩; exact ⟨⟨h1, h2⟩, h3, h4⟩
  ·rintro ⟨⟨h1, h2⟩, h3, h4⟩; exact ⟨⟨h1, h2, h3⟩, h4⟩
 rw [← hval]
 generalize outs f.shape x = L at *
 try simp only [go_sem]
 refine awp_for [0, 3, 5, 17, 18] (G := Nat × List Int) (fun k g => [(9, some (.buf g.1 g.2.length)), (19, some (.int .i64 (k : Int)))])
  (fun k g H => g.2 = (L.take k).filter (fun a => decide (ix (ix f.acts a) e ∈ ix p (ix f.shape.to a))) ∧ Owns H0 H [(g.1, .cells 1 (g.2.map iI) 0)]) L.length (id9, []) ⟨rfl, o⟩ rfl ?_
 clear o
 rintro k ⟨id9, out⟩ H hk ⟨hout2, o⟩
 replace hout2 : out = (L.take k).filter (fun a => decide (ix (ix f.acts a) e ∈ ix p (ix f.shape.to a))) := hout2
 replace o : Owns H0 H [(id9, .cells 1 (out.map iI) 0)] := o
 have hol2 : out.length ≤ k := by rw [hout2]; exact Nat.le_trans (List.length_filter_le _ _) (by rw [List.length_take]; omega)
 try simp only [go_sem]
 refine ⟨fun h1 => At.mk ?_, fun h1 => At.mk ?_⟩
 ·have h1p := of_decide h1
  have w1 := wsucc (k := k) (by omega)
  have ha := hout _ (mem_getD.mpr ⟨k, h1p, rfl⟩)
  have hto := hf.1.is.1.toObj ha.1.2
  have hin := hf.1.inAct ha.1 (e := e) (by rw [ha.2]; exact he)
  have hstep : ∀ b : Bool, decide (ix (ix f.acts (L.getD k default)) e ∈ ix p (ix f.shape.to (L.getD k default))) = b → (L.take (k + 1)).filter (fun a => decide (ix (ix f.acts a) e ∈ ix p (ix f.shape.to a))) = out ++ (if b then [L.getD k default] else []) := by
   intro b hb
   rw [take_one L h1p, List.filter_append, ← hout2]
   congr 1
   simp only [List.filter_cons, List.filter_nil, hb]
  try simp only [go_sem, reduceAdd, reduceLeDiff]
  refine ⟨h1p, ?_⟩
  generalize L.getD k default = a at *
  refine ⟨⟨ha.1.1, by omega⟩, ⟨hto.1, by omega⟩, ⟨ha.1.1, by omega⟩, hin, ?_⟩
  refine ⟨_, (has_ok B (ix p (ix f.shape.to a)) (ix (ix f.acts a) e)).run, ?_⟩
  by_cases h2 : ix (ix f.acts a) e ∈ ix p (ix f.shape.to a)
  ·rw [dec_t h2]
   try simp only [go_sem, reduceAdd]
   refine app_own a o rfl rfl (by simp only [maxL]; omega) fun id9 H o => ?_
   try simp only [go_sem, w1]
   exact for_next (_, _) (by omega) ⟨(hstep true (decide_eq_true h2)).symm, o⟩ rfl
  ·rw [dec_f h2]
   try simp only [go_sem, w1]
   exact for_next (id9, out) (by omega) ⟨by rw [hstep false (decide_eq_false h2)]; simp, o⟩ rfl
 ·have h1p := of_ndecide h1
  obtain rfl : k = L.length := by omega
  rw [List.take_length] at hout2
  try simp only [go_sem]
  refine fz_own o rfl fun H o => ?_
  try simp only [go_sem]
  exact pure_ret (by rw [hout2]) o.sub
theorem l25Value_ok (B : Nat) (f : SF) (hf : f.Is) (p : List (List Int)) (hp : p.length = f.sizes.length) (x e : Int) (hx : 0 ≤ x ∧ x < f.shape.objs) (he : 0 ≤ e ∧ e < ix f.sizes x) :
  Pur Tryz.prog B 130 [.agg f.cells, iLL p, iI x, iI e] (iL (valS f p x e)) := by
 refine ⟨fun H0 => c130 (by simp) fun _ => ?_⟩
 have hm := hf.1.is.1.m
 have hob := hf.1.is.1.o
 have htl := hf.1.is.1.tol
 have hsl := hf.1.sl
 have hal := hf.1.al
 unfold s130
 have o : Owns H0 H0 [] := .nil _
 try simp only [go_sem, reduceAdd]
 refine new_list iI o fun id9 H o => ?_
 try simp only [go_sem]
 refine awp_for [1, 2, 3, 4] (G := Nat × List Int) (fun k g => [(9, some (.buf g.1 g.2.length)), (10, some (.int .i64 (k : Int)))])
  (fun k g H => g.2 = nats (valP f p x e) k ∧ Owns H0 H [(g.1, .cells 1 (g.2.map iI) 0)]) f.acts.length (id9, []) ⟨rfl, o⟩ rfl ?_
 clear o
 rintro k ⟨id9, out⟩ H hk ⟨hout, o⟩
 replace hout : out = nats (valP f p x e) k := hout
 replace o : Owns H0 H [(id9, .cells 1 (out.map iI) 0)] := o
 have hol : out.length ≤ k := by rw [hout]; exact nats_len _ _
 try simp only [go_sem, reduceAdd, reduceLeDiff]
 refine ⟨fun h1 => At.mk ?_, fun h1 => At.mk ?_⟩
 ·have h1p := of_decide h1
  have w1 := wsucc (k := k) (by omega)
  have ha' : 0 ≤ (k : Int) ∧ (k : Int).toNat < f.shape.frm.length := ⟨by omega, by simp; omega⟩
  have hto := hf.1.is.1.toObj ha'.2
  rw [ix_nat] at hto
  try simp only [go_sem, reduceAdd, reduceLeDiff]
  refine ⟨by omega, ?_⟩
  refine ⟨fun h2 => At.mk ?_, fun h2 => At.mk ?_⟩
  ·have h2p : f.shape.frm.getD k default = x := of_decide h2
   have hin := hf.1.inAct ha' (e := e) (by rw [ix_nat, h2p]; exact he)
   rw [ix_nat] at hin
   try simp only [go_sem, reduceAdd, reduceLeDiff, h2]
   refine ⟨by omega, ⟨hto.1, by omega⟩, h1p, hin, ?_⟩
   refine ⟨_, (l01Has_ok B (ix p (f.shape.to.getD k default)) (ix (f.acts.getD k default) e)).run, ?_⟩
   by_cases h3 : ix (f.acts.getD k default) e ∈ ix p (f.shape.to.getD k default)
   ·rw [dec_t h3]
    try simp only [go_sem, reduceAdd]
    refine app_own (k : Int) o rfl rfl (by simp only [maxL]; omega) fun id9 H o => ?_
    try simp only [go_sem, w1]
    exact for_next (_, _) (by omega) ⟨by rw [hout, nats_t (by simp only [valP, h2p, h3, decide_true, Bool.and_true])], o⟩ rfl
   ·rw [dec_f h3]
    try simp only [go_sem, w1]
    exact for_next (id9, out) (by omega) ⟨by rw [nats_f (by simp only [valP, h3, decide_false, Bool.and_false])]; exact hout, o⟩ rfl
  ·have h2p : ¬ f.shape.frm.getD k default = x := of_ndecide h2
   try simp only [go_sem, h2, w1]
   exact for_next (id9, out) (by omega) ⟨by rw [nats_f (by simp only [valP, h2p, decide_false, Bool.false_and])]; exact hout, o⟩ rfl
 ·have h1p := of_ndecide h1
  have hkk : k = f.shape.frm.length := by omega
  try simp only [go_sem]
  refine fz_own o rfl fun H o => ?_
  try simp only [go_sem]
  exact pure_ret (by rw [hout, hkk]; rfl) o.sub
end Go.Proofs.Shf
namespace Go.Proofs.Shf
open Go.AW Go.Proofs Go.RowKit
end Go.Proofs.Shf
namespace Go.Proofs.Shf
open Go.AW Go.Proofs Go.RowKit
end Go.Proofs.Shf
namespace Go.Shf
open Go.AW
end Go.Shf
namespace Go.Proofs.Shf
open Go.AW Go.Proofs Go.Shf
end Go.Proofs.Shf
namespace Go.AW
open Go.Proofs Go.Shf Go.Proofs.Shf
theorem LsO.at {α : Type} {f : α → AV} {H0 H : Heap} {l : List (Nat × MObj)} {X : AV} {A : List α} {id : Nat} {a : MObj} (o : LsO f H0 H ((id, a) :: l) X A) :
  H.get id = some a ∧ ∀ b, LsO f H0 (H.set id b) ((id, b) :: l) X A := by
 rcases o with ⟨h1, h2, o⟩ | ⟨id2, h1, o⟩
 ·exact ⟨o.h0, fun b => .inl ⟨h1, h2, o.put b⟩⟩
 ·exact ⟨o.tl.h0, fun b => .inr ⟨id2, h1, (o.swap.put b).swap⟩⟩
end Go.AW
namespace Go.Proofs.Shf
open Go.AW Go.Proofs Go.Shf
theorem rd_at {H : Heap} {K : Kont} {id sz fr off : Nat} {cs : List AV} (h : H.get id = some (.cells sz cs fr)) (h1 : off < cs.length) (hk : K (cs.getD off nv) H) : rd1 (H.get id) none off K H := by
 rw [h, rd1_1]; exact ⟨h1, hk⟩
def nilF : SF := { shape := { objs := 0, frm := [], to := [], idn := [], comp := [] }, sizes := [], acts := [] }
end Go.Proofs.Shf
namespace Go.Proofs
open Go.Shelf
def Tryz.sortL_ren : Go.Shelf.Ren := ⟨fun | 6 => 212 | 15 => 285 | 14 => 284 | 28 => 325 | 29 => 326 | 20 => 317 | 21 => 318 | 22 => 319 | 23 => 320 | 24 => 321 | 25 => 322 | 26 => 323 | 27 => 324 | 46 => 354 | 47 => 355 | 48 => 356 | 49 => 357 | 50 => 358 | 57 => 381 | n => n, fun | 22 => 153 | 24 => 149 | 25 => 261 | 3 => 3 | 39 => 158 | 0 => 0 | 53 => 266 | 55 => 63 | 4 => 4 | 46 => 367 | 45 => 366 | 50 => 371 | 5 => 5 | 9 => 9 | 66 => 394 | 70 => 398 | 76 => 420 | 77 => 421 | n => n, fun | n => n⟩
theorem Tryz.sortL : Go.Proofs.SlLaysF.n6 Tryz.prog Tryz.sortL_ren := {
 mixed := by kernel_rfl
 f6 := ⟨Tryz.f212.name, by decide, Tryz.func212.trans (congrArg some (by kernel_rfl))⟩
 f14 := ⟨Tryz.f284.name, by decide, Tryz.func284.trans (congrArg some (by kernel_rfl))⟩
 f15 := Tryz.func285.trans (congrArg some (by kernel_rfl))
 f20 := ⟨Tryz.f317.name, by decide, Tryz.func317.trans (congrArg some (by kernel_rfl))⟩
 f21 := ⟨Tryz.f318.name, by decide, Tryz.func318.trans (congrArg some (by kernel_rfl))⟩
 f22 := ⟨Tryz.f319.name, by decide, Tryz.func319.trans (congrArg some (by kernel_rfl))⟩
 f23 := ⟨Tryz.f320.name, by decide, Tryz.func320.trans (congrArg some (by kernel_rfl))⟩
 f24 := ⟨Tryz.f321.name, by decide, Tryz.func321.trans (congrArg some (by kernel_rfl))⟩
 f25 := ⟨Tryz.f322.name, by decide, Tryz.func322.trans (congrArg some (by kernel_rfl))⟩
 f26 := ⟨Tryz.f323.name, by decide, Tryz.func323.trans (congrArg some (by kernel_rfl))⟩
 f27 := ⟨Tryz.f324.name, by decide, Tryz.func324.trans (congrArg some (by kernel_rfl))⟩
 f28 := Tryz.func325.trans (congrArg some (by kernel_rfl))
 f29 := Tryz.func326.trans (congrArg some (by kernel_rfl))
 f46 := ⟨Tryz.f354.name, by decide, Tryz.func354.trans (congrArg some (by kernel_rfl))⟩
 f47 := Tryz.func355.trans (congrArg some (by kernel_rfl))
 f48 := Tryz.func356.trans (congrArg some (by kernel_rfl))
 f49 := ⟨Tryz.f357.name, by decide, Tryz.func357.trans (congrArg some (by kernel_rfl))⟩
 f50 := ⟨Tryz.f358.name, by decide, Tryz.func358.trans (congrArg some (by kernel_rfl))⟩
 f57 := ⟨Tryz.f381.name, by decide, Tryz.func381.trans (congrArg some (by kernel_rfl))⟩
 t0 := Tryz.underlying0
 a0 := Tryz.isAgg0
 z0 := Tryz.sizeOf0
 v0 := Tryz.zeroValue0
 t3 := Tryz.underlying3
 a3 := Tryz.isAgg3
 z3 := Tryz.sizeOf3
 v3 := Tryz.zeroValue3
 t4 := Tryz.underlying4
 a4 := Tryz.isAgg4
 z4 := Tryz.sizeOf4
 v4 := Tryz.zeroValue4
 t5 := Tryz.underlying5
 a5 := Tryz.isAgg5
 z5 := Tryz.sizeOf5
 v5 := Tryz.zeroValue5
 t9 := Tryz.underlying9
 a9 := Tryz.isAgg9
 z9 := Tryz.sizeOf9
 v9 := Tryz.zeroValue9
 t22 := Tryz.underlying153
 a22 := Tryz.isAgg153
 z22 := Tryz.sizeOf153
 v22 := Tryz.zeroValue153
 a24 := Tryz.isAgg149
 z24 := Tryz.sizeOf149
 t25 := Tryz.underlying261
 a25 := Tryz.isAgg261
 z25 := Tryz.sizeOf261
 v25 := Tryz.zeroValue261
 t39 := Tryz.underlying158
 a39 := Tryz.isAgg158
 z39 := Tryz.sizeOf158
 v39 := Tryz.zeroValue158
 t45 := Tryz.underlying366
 a45 := Tryz.isAgg366
 z45 := Tryz.sizeOf366
 v45 := Tryz.zeroValue366
 t46 := Tryz.underlying367
 a46 := Tryz.isAgg367
 z46 := Tryz.sizeOf367
 v46 := Tryz.zeroValue367
 t50 := Tryz.underlying371
 a50 := Tryz.isAgg371
 z50 := Tryz.sizeOf371
 v50 := Tryz.zeroValue371
 t53 := Tryz.underlying266
 a53 := Tryz.isAgg266
 z53 := Tryz.sizeOf266
 v53 := Tryz.zeroValue266
 t55 := Tryz.underlying63
 a55 := Tryz.isAgg63
 z55 := Tryz.sizeOf63
 v55 := Tryz.zeroValue63
 t66 := Tryz.underlying394
 a66 := Tryz.isAgg394
 z66 := Tryz.sizeOf394
 v66 := Tryz.zeroValue394
 t70 := Tryz.underlying398
 a70 := Tryz.isAgg398
 z70 := Tryz.sizeOf398
 v70 := Tryz.zeroValue398
 t76 := Tryz.underlying420
 a76 := Tryz.isAgg420
 z76 := Tryz.sizeOf420
 v76 := Tryz.zeroValue420
 t77 := Tryz.underlying421
 a77 := Tryz.isAgg421
 z77 := Tryz.sizeOf421
 v77 := Tryz.zeroValue421 }
end Go.Proofs
namespace Go.Proofs.Shf
open Go.AW Go.Proofs Go.Shf Go.RowKit Go.Sort
theorem cmp_ntr {a b c : List Int} (h1 : ¬ cmp a b < 0) (h2 : ¬ cmp b c < 0) : ¬ cmp a c < 0 := by
 intro h
 have n1 := cmp_neg a b
 have n2 := cmp_neg b c
 have n3 := cmp_neg a c
 by_cases e1 : cmp a b = 0
 ·rw [cmp_zero] at e1; subst e1; exact h2 h
 ·by_cases e2 : cmp b c = 0
  ·rw [cmp_zero] at e2; subst e2; exact h1 h
  ·have := cmp_trans (a := c) (b := b) (c := a) (by omega) (by omega)
   omega
theorem swo_cmp {n : Nat} (S : List (List Int)) : SWO (ltOf fun x y : Fin n => cmp (S.getD x default) (S.getD y default)) where
 irrefl x := by simp [ltOf, cmp_zero.mpr rfl]
 trans x y z h1 h2 := decide_eq_true (cmp_trans (of_decide_eq_true h1) (of_decide_eq_true h2))
 ntrans x y z h1 h2 := decide_eq_false (cmp_ntr (of_decide_eq_false h1) (of_decide_eq_false h2))
theorem lib_sort (S : List (List Int)) [Inhabited (Fin S.length)] (hsz : S.length < 4611686018427387904) : LibSort S.length fun x y => cmp (S.getD x default) (S.getD y default) := by
 intro b cap w enc h1 hcmp hH hbl
 have eg : ∀ args w, (callFunc 213 args).run Tryz.prog w = .ok (.enter 213 args) w := enters_of Tryz.func213 (by kernel_rfl) rfl
 have h := Any.slices_SortFunc Tryz.sortL enc h1 (fun x y => cmp (S.getD x default) (S.getD y default)) (swo_cmp S) 213 #[] b 0 cap (Array.ofFn fun i => i) w eg hcmp hH hbl (by simpa using hsz)
 exact h
end Go.Proofs.Shf
namespace Go.Proofs.Shf
open Go.AW Go.Proofs Go.Shf
theorem libSorts : LibSorts := ⟨⟨_, Tryz.func212, by kernel_rfl, by kernel_rfl⟩, fun S _ h => lib_sort S (by omega)⟩
theorem isGreatest_ok (B : Nat) (c : Cat) (s : List Int) (x : Int) (hx : 0 ≤ x ∧ x.toNat < c.idn.length) : Pur Tryz.prog B 427 [iL s, .ptr c.cells, .int .i64 x] (.bool (dec (ix c.idn x ∈ s))) := by
 refine ⟨fun H0 => c427 (by simp) fun _ => ?_⟩
 unfold s427
 try simp only [go_sem, reduceAdd, reduceLeDiff]
 refine ⟨hx, ?_⟩
 refine (has_ok B s (ix c.idn x)).go fun _ => ?_
 try simp only [go_sem]
 exact pure_ret rfl (.refl _)
theorem asOk : AsOk Tryz.prog 149 352 := fun _ _ _ => by kernel_rfl
theorem methOk : Meth Tryz.prog 149 Go.AW.Z.mthName 427 := fun _ _ => by kernel_rfl
theorem all_ok (B : Nat) (c : Cat) (s : List Int) (x : Int) (hx : 0 ≤ x ∧ x.toNat < c.idn.length) : Pur Tryz.prog B 254 [.ptr c.cells, .int .i64 x, .ifc 149 (iL s)] (.bool (dec (ix c.idn x ∈ s))) := by
 refine ⟨fun H0 => c254 (by simp) fun _ => ?_⟩
 unfold s254
 try simp only [go_sem, reduceAdd, reduceLT]
 refine ⟨asOk, ?_⟩
 refine ⟨427, methOk, ?_⟩
 refine (isGreatest_ok B c s x hx).go fun _ => ?_
 try simp only [go_sem]
 exact pure_ret rfl (.refl _)
end Go.Proofs.Shf
namespace Go.Shf
open Go.AW
theorem top_iff {c : Cat} (hc : c.Is) {x : Nat} (hx : x < c.objs.toNat) {s : List Int} (hs : c.Sieve x s) : ix c.idn x ∈ s ↔ s = outs c x := by
 have ho := hc.1.o
 have hi := hc.1.idArr (x := (x : Int)) (by omega)
 have hos := outs_sieve hc.1 (x : Int)
 constructor
 ·intro h
  have hsub : ∀ a, a ∈ outs c x → a ∈ s := fun a ha => by
   obtain ⟨a0, a1, a2⟩ := mem_outs.mp ha
   have h1 := hs.cls _ h a.toNat a1 (by rw [hi.2.2, ← a2]; rfl)
   have h2 := hc.idl (f := a) ⟨a0, a1⟩
   rw [a2] at h2
   have e : (ix c.comp (ix c.idn (x : Int))).getD a.toNat default = a := h2
   rw [e] at h1; exact h1
  exact rising_ext hs.ris hos.ris fun a => ⟨fun ha => mem_outs.mpr ⟨(hs.ran a ha).1, by have := hs.ran a ha; omega, hs.src a ha⟩, hsub a⟩
 ·rintro rfl
  exact mem_outs.mpr ⟨hi.1.1, hi.1.2, hi.2.1⟩
end Go.Shf
namespace Go.Proofs.Shf
open Go.AW Go.Proofs Go.Shf
theorem tops_ok (B : Nat) (c : Cat) (L : List (List (List Int))) (t : TabOk c L) (sz pl : AV) : Pur Tryz.prog B 135 [.ptr (clsCells c L sz pl)] (iL (topsOf c L)) := by
 refine ⟨fun H0 => c135 (by simp) fun hfi => ?_⟩
 have hob := t.is.1.o
 have hL := t.len
 have hil := t.is.1.il
 unfold s135
 try simp only [go_sem, reduceAdd]
 refine newBuf_own (.nil _) fun id3 H o => ?_
 try simp only [go_sem, reduceAdd, reduceLeDiff]
 refine awp_for [0, 12, 13] (G := Nat) (fun x g => [(3, some (.buf g ((topsOf c L).take x).length)), (14, some (.int .i64 (x : Int)))])
  (fun x g H => Owns H0 H [(g, .cells 1 (((topsOf c L).take x).map iI) 0)]) L.length id3 o rfl ?_
 clear o
 rintro x id3 H hx o
 replace o : Owns H0 H [(id3, .cells 1 (((topsOf c L).take x).map iI) 0)] := o
 try simp only [go_sem]
 refine ⟨fun h1 => At.mk ?_, fun h1 => At.mk ?_⟩
 ·have h1p := of_decide h1
  have w := wsucc (k := x) (by omega)
  have hxo : x < c.objs.toNat := by omega
  have htp := t.top h1p
  have hall := t.all x h1p
  have hfew := t.few x h1p
  have hts := take_succ_getD (topsOf c L) (k := x) (by rw [tops_len]; exact h1p)
  have htl : ((topsOf c L).take x).length = x := by rw [List.length_take, tops_len]; omega
  generalize htv : (topsOf c L).getD x default = tv at *
  try simp only [go_sem]
  refine ⟨h1p, ?_⟩
  generalize hS : L.getD x default = S at *
  have hnd := hall.nodup
  refine awp_for [0, 4, 12, 13, 14, 19, 20] (G := Nat × List Int) (fun i g => [(3, some (.buf g.1 g.2.length)), (21, some (.int .i64 (i : Int)))])
   (fun i g H => g.2 = (topsOf c L).take x ++ (if tv < i then [tv] else []) ∧ Owns H0 H [(g.1, .cells 1 (g.2.map iI) 0)]) S.length (id3, (topsOf c L).take x) ⟨by rw [if_neg (by omega)]; simp, o⟩ rfl ?_
  clear o
  rintro i ⟨id3, A⟩ H hi ⟨hA, o⟩
  replace hA : A = (topsOf c L).take x ++ (if tv < i then [tv] else []) := hA
  replace o : Owns H0 H [(id3, .cells 1 (A.map iI) 0)] := o
  try simp only [go_sem]
  refine ⟨fun h2 => At.mk ?_, fun h2 => At.mk ?_⟩
  ·have h2p := of_decide h2
   have w2 := wsucc (k := i) (by omega)
   try simp only [go_sem, reduceAdd, reduceLeDiff]
   refine ⟨h2p, ?_⟩
   refine (all_ok B c (S.getD i default) x ⟨by omega, by omega⟩).go fun _ => ?_
   have hsv : c.Sieve x (S.getD i default) := (hall.mem _).mp (mem_getD.mpr ⟨i, h2p, rfl⟩)
   have hiff := top_iff t.is hxo hsv
   by_cases ht : (i : Int) = tv
   ·subst ht
    have he : S.getD i default = outs c x := by have := htp.2; rwa [ix_nat] at this
    rw [dec_t (hiff.mpr he)]
    have hA' : A = (topsOf c L).take x := by rw [hA, if_neg (by omega)]; simp
    try simp only [go_sem, reduceAdd]
    refine app_own (f := iI) (i : Int) o rfl rfl (by rw [hA', htl]; simp only [maxL]; omega) fun id3 H o => ?_
    try simp only [go_sem, w2]
    exact for_next (id3, A ++ [(i : Int)]) h2p ⟨by simp only; rw [hA', if_pos (by omega)], o⟩ rfl
   ·have hne : ¬ S.getD i default = outs c x := fun e => by
     apply ht
     have h3 : S.getD tv.toNat default = S.getD i default := by rw [e, ← htp.2]; rfl
     have hlt := htp.1.2
     have := (List.getElem_inj hnd (h₀ := hlt) (h₁ := h2p)).mp (by simpa [List.getD_eq_getElem?_getD, hlt, h2p] using h3)
     omega
    rw [dec_f (fun e => hne (hiff.mp e))]
    try simp only [go_sem, w2]
    refine for_next (id3, A) h2p ⟨?_, o⟩ rfl
    simp only
    rw [hA]
    by_cases e : tv < i
    ·rw [if_pos e, if_pos (by omega)]
    ·rw [if_neg e, if_neg (by omega)]
  ·have h2p := of_ndecide h2
   obtain rfl : i = S.length := by omega
   rw [if_pos (by omega), ← hts] at hA
   subst hA
   try simp only [go_sem, w]
   exact for_next id3 h1p o rfl
 ·have h1p := of_ndecide h1
  obtain rfl : x = L.length := by omega
  rw [List.take_of_length_le (by rw [tops_len]; omega)] at o ⊢
  try simp only [go_sem]
  refine fz_own o rfl fun H o => ?_
  try simp only [go_sem]
  exact pure_ret rfl o.sub
end Go.Proofs.Shf
namespace Go.Shf
open Go.AW
def PartAt (f g : SF) (p : List (List Int)) (x : Nat) : Prop := ((p.getD x default).length : Int) = f.sizes.getD x default ∧ ∀ y, y ∈ p.getD x default → 0 ≤ y ∧ y < g.sizes.getD x default
def PartsOk (f g : SF) (p : List (List Int)) : Prop := p.length = f.sizes.length ∧ ∀ x, x < p.length → PartAt f g p x
def NatAt (f g : SF) (p : List (List Int)) (a e : Nat) : Prop := ix (ix p (f.shape.to.getD a default)) ((f.acts.getD a default).getD e default) = ix (g.acts.getD a default) ((ix p (f.shape.frm.getD a default)).getD e default)
def NatOk (f g : SF) (p : List (List Int)) : Prop := ∀ a, a < f.acts.length → ∀ e : Nat, e < (f.acts.getD a default).length → NatAt f g p a e
structure SM.Is (m : SM) : Prop where
 s : m.src.Is
 t : m.tgt.Is
 eq : m.src.shape = m.tgt.shape
 p : PartsOk m.src m.tgt m.parts
 n : NatOk m.src m.tgt m.parts
structure MapD (f g : SF) (p : List (List Int)) : Prop where
 sf : f.Shape
 sg : g.Shape
 eq : f.shape = g.shape
 po : PartsOk f g p
structure SM.Shape (m : SM) : Prop where
 s : m.src.Is
 t : m.tgt.Is
 eq : m.src.shape = m.tgt.shape
 p : PartsOk m.src m.tgt m.parts
theorem SF.Shape.sl' {f g : SF} (hf : f.Shape) (hg : g.Shape) (e : f.shape = g.shape) : g.sizes.length = f.sizes.length := by
 have := hf.sl; have := hg.sl; rw [← e] at this; omega
theorem SM.Shape.d {m : SM} (h : m.Shape) : MapD m.src m.tgt m.parts := ⟨h.s.1, h.t.1, h.eq, h.p⟩
theorem SM.is_iff {m : SM} : m.Is ↔ m.Shape ∧ NatOk m.src m.tgt m.parts := ⟨fun h => ⟨⟨h.s, h.t, h.eq, h.p⟩, h.n⟩, fun ⟨h, n⟩ => ⟨h.s, h.t, h.eq, h.p, n⟩⟩
theorem MapD.at {f g : SF} {p : List (List Int)} (h : MapD f g p) {a e : Nat} (ha : a < f.acts.length) (he : e < (f.acts.getD a default).length) :
  (0 ≤ f.shape.frm.getD a default ∧ (f.shape.frm.getD a default).toNat < p.length) ∧ (0 ≤ f.shape.to.getD a default ∧ (f.shape.to.getD a default).toNat < p.length) ∧ a < g.acts.length ∧
  e < (ix p (f.shape.frm.getD a default)).length ∧ (0 ≤ (f.acts.getD a default).getD e default ∧ ((f.acts.getD a default).getD e default).toNat < (ix p (f.shape.to.getD a default)).length) ∧
  (0 ≤ (ix p (f.shape.frm.getD a default)).getD e default ∧ ((ix p (f.shape.frm.getD a default)).getD e default).toNat < (g.acts.getD a default).length) := by
 have hal := h.sf.al
 have hag := h.sg.al
 have f1 := h.sf.is.1.frm' (f := a) (by omega)
 have f2 := h.sf.is.1.to' (f := a) (by omega)
 have hil := h.sf.is.1.il
 have hsl := h.sf.sl
 have hp := h.po.1
 have p1 := h.po.2 _ (show (f.shape.frm.getD a default).toNat < p.length by omega)
 have p2 := h.po.2 _ (show (f.shape.to.getD a default).toNat < p.length by omega)
 have a1 := h.sf.act a ha
 have a2 := h.sg.act a (by rw [hag, ← h.eq]; omega)
 have a3 := a1.2 _ (mem_getD.mpr ⟨e, he, rfl⟩)
 rw [← h.eq] at a2
 simp only [PartAt] at p1 p2
 simp only [ix] at *
 have p3 := p1.2 ((p.getD (f.shape.frm.getD a default).toNat default).getD e default) (mem_getD.mpr ⟨e, by omega, rfl⟩)
 refine ⟨⟨f1.1, by omega⟩, ⟨f2.1, by omega⟩, by rw [hag, ← h.eq]; omega, by omega, ⟨a3.1, by omega⟩, p3.1, by omega⟩
end Go.Shf
namespace Go.Proofs.Shf
open Go.AW Go.Proofs Go.Shf
theorem fits_ok (B : Nat) (m : SM) (hg : m.tgt.sizes.length = m.src.sizes.length) (hz : ∀ y, y ∈ m.tgt.sizes → 0 ≤ y ∧ y < 17) : Pur Tryz.prog B 304 [.ptr m.cells] (.bool (dec (PartsOk m.src m.tgt m.parts))) := by
 refine ⟨fun H0 => c304 (by simp) fun ⟨hp, _⟩ => ?_⟩
 have hl := fine_mL_le (hp.ptr (c := iLL m.parts) (by simp [SM.cells]))
 simp only [maxL] at hl
 unfold s304
 try simp only [go_sem, reduceAdd, reduceLeDiff]
 refine ⟨fun h0 => At.mk ?_, fun h0 => At.mk ?_⟩
 ·try simp only [go_sem]
  have h0p := h0; simp only [bnt, decide_eq_false_iff_not] at h0p
  exact pure_ret (by rw [dec_f]; intro h; exact h0p (by rw [h.1])) (.refl _)
 have h0p := h0; simp only [bnf, decide_eq_true_eq] at h0p
 have h0q : m.parts.length = m.src.sizes.length := by omega
 try simp only [go_sem, reduceAdd, reduceLeDiff]
 refine awp_for [0, 20, 21] (fun k _ => [(22, some (.int .i64 (k : Int)))]) (fun k _ H => H = H0 ∧ ∀ i, i < k → PartAt m.src m.tgt m.parts i) m.parts.length () ⟨rfl, by simp⟩ rfl ?_
 rintro k _ H hk ⟨rfl, hall⟩
 try simp only [go_sem]
 refine ⟨fun h1 => At.mk ?_, fun h1 => At.mk ?_⟩
 ·have h1p := h1; simp only [decide_eq_true_eq] at h1p
  have w1 := wsucc (k := k) (by omega)
  try simp only [go_sem, reduceAdd, reduceLeDiff]
  have hzk := hz _ (mem_getD.mpr ⟨k, by omega, rfl⟩)
  refine ⟨h1p, by omega, by omega, _, (isMapOf_ok B (m.parts.getD k default) (m.src.sizes.getD k default) (m.tgt.sizes.getD k default) (by omega)).run, ?_⟩
  try simp only [go_sem]
  refine ⟨fun h3 => At.mk ?_, fun h3 => At.mk ?_⟩
  ·try simp only [go_sem]
   have h3p := h3; simp only [bnt, decf] at h3p
   exact pure_ret (by rw [dec_f]; intro h; exact h3p (h.2 k h1p)) (.refl _)
  ·try simp only [go_sem, w1]
   have h3p := h3; simp only [bnf, dect] at h3p
   exact for_next () (by omega) ⟨rfl, lt_succ_all hall h3p⟩ rfl
 ·try simp only [go_sem]
  have h1p := h1; simp only [decide_eq_false_iff_not, Nat.not_lt] at h1p
  exact pure_ret (by rw [dec_t]; exact ⟨h0q, fun x hx => hall x (by omega)⟩) (.refl _)
def natK (P : Prop) (H0 : Heap) : Kont := fun r H' => H' = H0 ∧ ∃ a e : Int, r = .tup [.int .i64 a, .int .i64 e] ∧ (a < 0 ↔ P)
theorem nat_ret {P : Prop} {H0 H : Heap} {a e : Int} (h : a < 0 ↔ P) (hs : H0.sub H) : subW (natK P H0) (.tup [.int .i64 a, .int .i64 e]) H := ⟨H0, hs, rfl, a, e, rfl, h⟩
theorem unnatural_ok (B : Nat) (m : SM) (h : MapD m.src m.tgt m.parts) (H0 : Heap) : CallH Tryz.prog B 253 [.ptr m.cells] H0 (natK (NatOk m.src m.tgt m.parts) H0) := by
 refine c253 (by simp) fun ⟨hp, _⟩ => ?_
 have hl := fine_mL_le (hp.ptr (c := iLL m.parts) (by simp [SM.cells]))
 simp only [maxL] at hl
 have hm := h.sf.is.1.m
 have hal := h.sf.al
 have htl := h.sf.is.1.tol
 unfold s253
 try simp only [go_sem, reduceAdd, reduceLeDiff]
 refine awp_for [0, 4, 16] (fun k _ => [(17, some (.int .i64 (k : Int)))]) (fun k _ H => H = H0 ∧ ∀ a, a < k → ∀ e : Nat, e < (m.src.acts.getD a default).length → NatAt m.src m.tgt m.parts a e) m.src.acts.length () ⟨rfl, by simp⟩ rfl ?_
 rintro a _ H ha ⟨rfl, hall⟩
 try simp only [go_sem]
 refine ⟨fun h1 => At.mk ?_, fun h1 => At.mk ?_⟩
 ·have h1p := h1; simp only [decide_eq_true_eq] at h1p
  have w1 := wsucc (k := a) (by omega)
  have a1 := (h.sf.act a (by omega)).1
  have f1 := h.sf.is.1.frm' (f := a) (by omega)
  have hil := h.sf.is.1.il
  have hsl := h.sf.sl
  have hz := h.sf.sz _ (ix_mem (l := m.src.sizes) (i := m.src.shape.frm.getD a default) (by omega))
  try simp only [go_sem, reduceAdd, reduceLeDiff]
  refine ⟨by omega, ?_⟩
  refine awp_for [0, 4, 5, 16, 17, 27, 28] (fun k _ => [(29, some (.int .i64 (k : Int)))]) (fun k _ H' => H' = H ∧ ∀ e : Nat, e < k → NatAt m.src m.tgt m.parts a e) (m.src.acts.getD a default).length () ⟨rfl, by simp⟩ rfl ?_
  rintro e _ H he ⟨rfl, hall2⟩
  try simp only [go_sem]
  refine ⟨fun h2 => At.mk ?_, fun h2 => At.mk ?_⟩
  ·have h2p := h2; simp only [decide_eq_true_eq] at h2p
   have w2 := wsucc (k := e) (by omega)
   have hat := h.at (a := a) (e := e) (by omega) (by omega)
   try simp only [go_sem, reduceAdd, reduceLeDiff]
   refine ⟨by omega, ?_⟩
   refine ⟨by omega, by omega, by omega, by omega, by omega, by omega, by omega, by omega, ?_⟩
   refine ⟨fun h3 => At.mk ?_, fun h3 => At.mk ?_⟩
   ·try simp only [go_sem]
    have h3p := h3; simp only [bnt, decide_eq_false_iff_not] at h3p
    exact nat_ret ⟨fun e => by omega, fun hn => absurd (hn a (by omega) e (by omega)) h3p⟩ (.refl _)
   ·try simp only [go_sem, w2]
    have h3p := h3; simp only [bnf, decide_eq_true_eq] at h3p
    exact for_next () (by omega) ⟨rfl, lt_succ_all hall2 h3p⟩ rfl
  ·try simp only [go_sem, w1]
   have h2p := h2; simp only [decide_eq_false_iff_not, Nat.not_lt] at h2p
   exact for_next () (by omega) ⟨rfl, lt_succ_all hall fun e he => hall2 e (by omega)⟩ rfl
 ·try simp only [go_sem]
  have h1p := h1; simp only [decide_eq_false_iff_not, Nat.not_lt] at h1p
  exact nat_ret ⟨fun _ a ha e he => hall a (by omega) e he, fun _ => by omega⟩ (.refl _)
theorem isShapeM_ok (B : Nat) (m : SM) : Pur Tryz.prog B 252 [.ptr m.cells] (.bool (dec m.Shape)) := by
 refine ⟨fun H0 => c252 (by simp) fun _ => ?_⟩
 unfold s252
 try simp only [go_sem, reduceAdd, reduceLeDiff]
 refine ⟨_, (areSetFunctors_ok B [m.src, m.tgt]).run, ?_⟩
 by_cases hf : m.src.Is ∧ m.tgt.Is
 ·rw [dec_t (by simpa using hf)]
  try simp only [go_sem, reduceAdd, reduceLeDiff]
  refine ⟨_, (sameCategory_ok B m.src.shape m.tgt.shape).run, ?_⟩
  by_cases he : m.src.shape = m.tgt.shape
  ·rw [dec_t he]
   try simp only [go_sem]
   refine ⟨_, (fits_ok B m (hf.1.1.sl' hf.2.1 he) hf.2.1.sz).run, ?_⟩
   exact pure_ret (by congr 1; exact dec_congr ⟨fun h => ⟨hf.1, hf.2, he, h⟩, fun h => h.p⟩) (.refl _)
  ·rw [dec_f he]
   try simp only [go_sem]
   exact pure_ret (by rw [dec_f]; exact fun h => he h.eq) (.refl _)
 ·rw [dec_f (by simpa using hf)]
  try simp only [go_sem]
  exact pure_ret (by rw [dec_f]; exact fun h => hf ⟨h.s, h.t⟩) (.refl _)
theorem isNatural_ok (B : Nat) (m : SM) : Pur Tryz.prog B 133 [.ptr m.cells] (.bool (dec m.Is)) := by
 refine ⟨fun H0 => c133 (by simp) fun _ => ?_⟩
 unfold s133
 try simp only [go_sem, reduceAdd]
 refine (isShapeM_ok B m).go fun _ => ?_
 by_cases h : m.Shape
 ·rw [dec_t h]
  try simp only [go_sem, Bool.not_true]
  refine (unnatural_ok B m h.d H0).mono' ?_
  rintro _ _ _ ⟨rfl, a, e, rfl, hk⟩
  try simp only [go_sem, reduceAdd, reduceLT]
  exact pure_ret (by rw [decide_dec]; congr 1; exact dec_congr ⟨fun q => SM.is_iff.mpr ⟨h, hk.mp q⟩, fun q => hk.mpr q.n⟩) (.refl _)
 ·rw [dec_f h]
  try simp only [go_sem, Bool.not_false]
  exact pure_ret (by rw [dec_f]; exact fun q => h (SM.is_iff.mp q).1) (.refl _)
end Go.Proofs.Shf
