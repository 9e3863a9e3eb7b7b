/- A part of a proof. -/
import Derived.Test.YtadpkiiglobmpaaGreatF10
set_option linter.unusedVariables false
set_option linter.unusedSimpArgs false
set_option linter.unusedSectionVars false
open Nat (reduceEqDiff reduceAdd reduceMul reduceLeDiff reduceLT)
namespace Go.Shf
open Go.AW Go.Proofs.Shf
@[go_sem] def QS.cells (q : QS) : List AV := [iL q.v, mL prE q.l, mL prE q.r, iL q.o]
end Go.Shf
namespace Go.Proofs.Shf
open Go.AW Go.Proofs Go.Shf
theorem prE_get {l : List (Int × Int)} {k : Nat} (hk : k < l.length) : (l.map prE).getD ((k : Int)).toNat nv = prE (l.getD k default) := by
 rw [Int.toNat_natCast, map_getD _ hk]
theorem prE_at {l : List (Int × Int)} {k : Nat} (hk : k < l.length) : 0 ≤ (k : Int) ∧ ((k : Int)).toNat < (l.map prE).length ∧ ((l.map prE).getD ((k : Int)).toNat nv).cells.length = 2 := by
 rw [prE_get hk]
 exact ⟨by omega, by simpa using hk, rfl⟩
theorem isTerm_ok (B : Nat) (c : Cat) (q : QS) (t : Int × Int) : Pur Tryz.prog B 311 [.ptr c.cells, .ptr q.cells, prE t] (.bool (dec (TermOk c q.v t))) := by
 refine ⟨fun H0 => c311 (by simp) fun ⟨hc, hq, _⟩ => ?_⟩
 have hl := fine_mL_le (hq.ptr (c := iL q.v) (by simp [QS.cells]))
 have hm := fine_mL_le (hc.ptr (c := iL c.frm) (by simp [Cat.cells]))
 simp only [maxL] at hl hm
 have w0 : IntKind.i64.wrap ((q.v.length : Int) - 1) = (q.v.length : Int) - 1 := wrap_i64 (by omega) (by omega)
 have w1 : IntKind.i64.wrap ((c.frm.length : Int) - 1) = (c.frm.length : Int) - 1 := wrap_i64 (by omega) (by omega)
 unfold s311
 try simp only [go_sem, reduceAdd, reduceLeDiff, w0]
 refine ⟨_, (inRange_ok ..).run, ?_⟩
 by_cases g1 : 0 ≤ t.1 ∧ t.1 ≤ (q.v.length : Int) - 1
 rotate_left 1
 ·rw [dec_f g1]
  try simp only [go_sem]
  exact pure_ret (by rw [dec_f]; rintro ⟨h, _⟩; omega) (.refl _)
 rw [dec_t g1]
 try simp only [go_sem, reduceAdd, reduceLeDiff]
 refine ⟨_, (arrows_ok B c).run, ?_⟩
 try simp only [go_sem, w1]
 refine ⟨_, (inRange_ok ..).run, ?_⟩
 by_cases g2 : 0 ≤ t.2 ∧ t.2 ≤ (c.frm.length : Int) - 1
 rotate_left 1
 ·rw [dec_f g2]
  try simp only [go_sem]
  exact pure_ret (by rw [dec_f]; rintro ⟨_, h, _⟩; omega) (.refl _)
 rw [dec_t g2]
 try simp only [go_sem, reduceAdd, reduceLeDiff]
 refine ⟨⟨g2.1, by omega⟩, ⟨g1.1, by omega⟩, pure_ret ?_ (.refl _)⟩
 by_cases e : ix c.frm t.2 = ix q.v t.1
 ·rw [decide_eq_true e, dec_t ⟨⟨g1.1, by omega⟩, ⟨g2.1, by omega⟩, e⟩]
 ·rw [decide_eq_false e, dec_f fun h => e h.2.2]
theorem isCondition_ok (B : Nat) (c : Cat) (hc : c.to.length = c.frm.length) (q : QS) (a b : Int × Int) : Pur Tryz.prog B 271 [.ptr c.cells, .ptr q.cells, prE a, prE b] (.bool (dec (CondOk c q.v a b))) := by
 refine ⟨fun H0 => c271 (by simp) fun _ => ?_⟩
 unfold s271
 try simp only [go_sem, reduceAdd]
 refine ⟨_, (isTerm_ok B c q a).run, ?_⟩
 by_cases g1 : TermOk c q.v a
 rotate_left 1
 ·rw [dec_f g1]
  try simp only [go_sem]
  exact pure_ret (by rw [dec_f fun h => g1 h.1]) (.refl _)
 rw [dec_t g1]
 try simp only [go_sem, reduceAdd]
 refine ⟨_, (isTerm_ok B c q b).run, ?_⟩
 by_cases g2 : TermOk c q.v b
 rotate_left 1
 ·rw [dec_f g2]
  try simp only [go_sem]
  exact pure_ret (by rw [dec_f fun h => g2 h.2.1]) (.refl _)
 rw [dec_t g2]
 try simp only [go_sem, reduceAdd, reduceLeDiff]
 refine ⟨⟨g1.2.1.1, by have := g1.2.1.2; omega⟩, ⟨g2.2.1.1, by have := g2.2.1.2; omega⟩, pure_ret ?_ (.refl _)⟩
 by_cases e : ix c.to a.2 = ix c.to b.2
 ·rw [decide_eq_true e, dec_t ⟨g1, g2, e⟩]
 ·rw [decide_eq_false e, dec_f fun h => e h.2.2]
theorem isQuery_ok (B : Nat) (c : Cat) (hc : c.Is) (q : QS) : Pur Tryz.prog B 152 [.ptr c.cells, .ptr q.cells] (.bool (dec (q.Ok c))) := by
 refine ⟨fun H0 => c152 (by simp) fun ⟨_, hq, _⟩ => ?_⟩
 have hl := fine_mL_le (hq.ptr (c := iL q.v) (by simp [QS.cells]))
 have hll := fine_mL_le (hq.ptr (c := mL prE q.l) (by simp [QS.cells]))
 simp only [maxL] at hl hll
 have ho := hc.1.o
 unfold s152
 try simp only [go_sem, reduceAdd, reduceLeDiff]
 by_cases g1 : q.v.length ≤ 4
 rotate_left 1
 ·rw [decide_eq_true (show (4 : Int) < q.v.length by omega)]
  try simp only [go_sem]
  exact pure_ret (by rw [dec_f fun h => g1 h.v4]) (.refl _)
 rw [decide_eq_false (show ¬ (4 : Int) < q.v.length by omega)]
 try simp only [go_sem, reduceAdd, reduceLeDiff]
 refine ⟨_, (within_ok B q.v c.objs (by omega)).run, ?_⟩
 by_cases g2 : ∀ y, y ∈ q.v → 0 ≤ y ∧ y < c.objs
 rotate_left 1
 ·rw [dec_f g2]
  try simp only [go_sem]
  exact pure_ret (by rw [dec_f fun h => g2 h.vo]) (.refl _)
 rw [dec_t g2]
 try simp only [go_sem, reduceAdd, reduceLeDiff]
 by_cases g3 : q.l.length ≤ 6
 rotate_left 1
 ·rw [decide_eq_true (show (6 : Int) < q.l.length by omega)]
  try simp only [go_sem]
  exact pure_ret (by rw [dec_f fun h => g3 h.l6]) (.refl _)
 rw [decide_eq_false (show ¬ (6 : Int) < q.l.length by omega)]
 try simp only [go_sem, reduceAdd, reduceLeDiff]
 by_cases g4 : q.r.length = q.l.length
 rotate_left 1
 ·rw [decide_eq_false g4]
  try simp only [go_sem]
  exact pure_ret (by rw [dec_f fun h => g4 h.rl]) (.refl _)
 rw [decide_eq_true g4]
 try simp only [go_sem, reduceAdd, reduceLeDiff]
 refine awp_for [0, 1, 49] (fun k _ => [(50, some (.int .i64 (k : Int)))]) (fun k _ H => H = H0 ∧ ∀ i, i < k → CondOk c q.v (q.l.getD i default) (q.r.getD i default)) q.l.length () ⟨rfl, by simp⟩ rfl ?_
 rintro k _ H hk ⟨rfl, hall⟩
 try simp only [go_sem]
 refine ⟨fun h1 => At.mk ?_, fun h1 => At.mk ?_⟩
 ·have h1p := of_decide h1
  have w1 := wsucc (k := k) (by omega)
  try simp only [go_sem, reduceAdd, reduceLeDiff]
  refine ⟨prE_at h1p, ?_⟩
  rw [prE_get h1p]
  try simp only [go_sem, reduceAdd, reduceLeDiff]
  refine ⟨prE_at (by omega), ?_⟩
  rw [prE_get (by omega)]
  try simp only [go_sem, reduceAdd]
  refine ⟨_, (isCondition_ok B c hc.1.tol q _ _).run, ?_⟩
  by_cases g5 : CondOk c q.v (q.l.getD k default) (q.r.getD k default)
  ·rw [dec_t g5]
   try simp only [go_sem, w1]
   exact for_next () h1p ⟨rfl, lt_succ_all hall g5⟩ rfl
  ·rw [dec_f g5]
   try simp only [go_sem]
   exact pure_ret (by rw [dec_f fun h => g5 (h.cond k h1p)]) (.refl _)
 ·have h1p := of_ndecide h1
  have hall' : ∀ i, i < q.l.length → CondOk c q.v (q.l.getD i default) (q.r.getD i default) := fun i hi => hall i (by omega)
  try simp only [go_sem, reduceAdd, reduceLeDiff]
  by_cases g6 : q.o.length ≤ 4
  rotate_left 1
  ·rw [decide_eq_false (show ¬ (q.o.length : Int) ≤ 4 by omega)]
   try simp only [go_sem]
   exact pure_ret (by rw [dec_f fun h => g6 h.o4]) (.refl _)
  rw [decide_eq_true (show (q.o.length : Int) ≤ 4 by omega)]
  try simp only [go_sem, reduceAdd, reduceLeDiff]
  refine ⟨_, (within_ok B q.o q.v.length (by omega)).run, ?_⟩
  refine pure_ret ?_ (.refl _)
  congr 1
  exact dec_congr ⟨fun h => ⟨g1, g2, g3, g4, hall', g6, h⟩, fun h => h.ov⟩
theorem l02Arrow_ok (B : Nat) (c : Cat) (a : Int) : Pur Tryz.prog B 297 [.agg c.cells, iI a] (.bool (dec (0 ≤ a ∧ a.toNat < c.frm.length))) := by
 refine ⟨fun H0 => c297 (by simp) fun _ => ?_⟩
 unfold s297
 try simp only [go_sem, reduceAdd]
 by_cases g1 : 0 ≤ a
 ·rw [decide_eq_true g1]
  try simp only [go_sem, reduceAdd, reduceLeDiff]
  refine pure_ret ?_ (.refl _)
  congr 1
  by_cases g2 : a < c.frm.length
  ·rw [decide_eq_true g2, dec_t ⟨g1, by omega⟩]
  ·rw [decide_eq_false g2, dec_f (by omega)]
 ·rw [decide_eq_false g1]
  try simp only [go_sem]
  exact pure_ret (by rw [dec_f fun h => g1 h.1]) (.refl _)
theorem l38Term_ok (B : Nat) (c : Cat) (v : List Int) (t : Int × Int) : Pur Tryz.prog B 231 [.agg c.cells, iL v, prE t] (.bool (dec (TermOk c v t))) := by
 refine ⟨fun H0 => c231 (by simp) fun ⟨hc, hv, _⟩ => ?_⟩
 have hl := fine_mL_le hv
 simp only [maxL] at hl
 have w0 : IntKind.i64.wrap ((v.length : Int) - 1) = (v.length : Int) - 1 := wrap_i64 (by omega) (by omega)
 unfold s231
 try simp only [go_sem, reduceAdd, reduceLeDiff, w0]
 refine ⟨_, (l01In_ok ..).run, ?_⟩
 by_cases g1 : 0 ≤ t.1 ∧ t.1 ≤ (v.length : Int) - 1
 rotate_left 1
 ·rw [dec_f g1]
  try simp only [go_sem]
  exact pure_ret (by rw [dec_f]; rintro ⟨h, _⟩; omega) (.refl _)
 rw [dec_t g1]
 try simp only [go_sem, reduceAdd, reduceLeDiff]
 refine ⟨_, (l02Arrow_ok B c t.2).run, ?_⟩
 by_cases g2 : 0 ≤ t.2 ∧ t.2.toNat < c.frm.length
 rotate_left 1
 ·rw [dec_f g2]
  try simp only [go_sem]
  exact pure_ret (by rw [dec_f fun h => g2 h.2.1]) (.refl _)
 rw [dec_t g2]
 try simp only [go_sem, reduceAdd, reduceLeDiff]
 refine ⟨g2, ⟨g1.1, by omega⟩, pure_ret ?_ (.refl _)⟩
 by_cases e : ix c.frm t.2 = ix v t.1
 ·rw [decide_eq_true e, dec_t ⟨⟨g1.1, by omega⟩, g2, e⟩]
 ·rw [decide_eq_false e, dec_f fun h => e h.2.2]
end Go.Proofs.Shf
namespace Go.Proofs.Shf
open Go.AW Go.Proofs Go.Shf
theorem specIsQuery_ok (B : Nat) (c : Cat) (q : QS) : Pur Tryz.prog B 113 [.agg c.cells, .agg q.cells] (.bool (dec (c.Is ∧ q.Ok c))) := by
 refine ⟨fun H0 => c113 (by simp) fun ⟨_, hq, _⟩ => ?_⟩
 unfold s113
 try simp only [go_sem, reduceAdd]
 refine (l02Is_ok B c).go fun _ => ?_
 by_cases hc : c.Is
 rotate_left 1
 ·rw [dec_f hc]
  try simp only [go_sem]
  exact pure_ret (by rw [dec_f fun h => hc h.1]) (.refl _)
 rw [dec_t hc]
 try simp only [go_sem, reduceAdd, reduceLeDiff]
 by_cases g1 : q.v.length ≤ 4
 rotate_left 1
 ·rw [decide_eq_true (show (4 : Int) < q.v.length by omega)]
  try simp only [go_sem]
  exact pure_ret (by rw [dec_f fun h => g1 h.2.v4]) (.refl _)
 rw [decide_eq_false (show ¬ (4 : Int) < q.v.length by omega)]
 try simp only [go_sem, reduceAdd, reduceLeDiff]
 refine (l01Map_ok B q.v c.objs).go fun _ => ?_
 by_cases g2 : ∀ y, y ∈ q.v → 0 ≤ y ∧ y < c.objs
 rotate_left 1
 ·rw [dec_f g2]
  try simp only [go_sem]
  exact pure_ret (by rw [dec_f fun h => g2 h.2.vo]) (.refl _)
 rw [dec_t g2]
 try simp only [go_sem, reduceAdd, reduceLeDiff]
 by_cases g3 : q.l.length ≤ 6
 rotate_left 1
 ·rw [decide_eq_true (show (6 : Int) < q.l.length by omega)]
  try simp only [go_sem]
  exact pure_ret (by rw [dec_f fun h => g3 h.2.l6]) (.refl _)
 rw [decide_eq_false (show ¬ (6 : Int) < q.l.length by omega)]
 try simp only [go_sem, reduceAdd, reduceLeDiff]
 by_cases g4 : q.r.length = q.l.length
 rotate_left 1
 ·rw [decide_eq_false g4]
  try simp only [go_sem]
  exact pure_ret (by rw [dec_f fun h => g4 h.2.rl]) (.refl _)
 rw [decide_eq_true g4]
 try simp only [go_sem, reduceAdd, reduceLeDiff]
 by_cases g6 : q.o.length ≤ 4
 rotate_left 1
 ·rw [decide_eq_true (show (4 : Int) < q.o.length by omega)]
  try simp only [go_sem]
  exact pure_ret (by rw [dec_f fun h => g6 h.2.o4]) (.refl _)
 rw [decide_eq_false (show ¬ (4 : Int) < q.o.length by omega)]
 try simp only [go_sem, reduceAdd, reduceLeDiff]
 refine (l01Map_ok B q.o q.v.length).go fun _ => ?_
 by_cases g7 : ∀ y, y ∈ q.o → 0 ≤ y ∧ y < (q.v.length : Int)
 rotate_left 1
 ·rw [dec_f g7]
  try simp only [go_sem]
  exact pure_ret (by rw [dec_f fun h => g7 h.2.ov]) (.refl _)
 rw [dec_t g7]
 try simp only [go_sem]
 refine awp_for [2, 3] (fun k _ => [(5, some (.int .i64 (k : Int)))]) (fun k _ H => H = H0 ∧ ∀ i, i < k → CondOk c q.v (q.l.getD i default) (q.r.getD i default)) q.l.length () ⟨rfl, by simp⟩ rfl ?_
 rintro k _ H hk ⟨rfl, hall⟩
 try simp only [go_sem, reduceAdd, reduceLeDiff]
 refine ⟨fun h1 => At.mk ?_, fun h1 => At.mk ?_⟩
 ·have h1p := of_decide h1
  have w1 := wsucc (k := k) (by omega)
  try simp only [go_sem, reduceAdd, reduceLeDiff]
  refine ⟨prE_at h1p, ?_⟩
  rw [prE_get h1p]
  try simp only [go_sem, reduceAdd]
  refine ⟨_, (l38Term_ok B c q.v _).run, ?_⟩
  by_cases g8 : TermOk c q.v (q.l.getD k default)
  rotate_left 1
  ·rw [dec_f g8]
   try simp only [go_sem]
   exact pure_ret (by rw [dec_f fun h => g8 (h.2.cond k h1p).1]) (.refl _)
  rw [dec_t g8]
  try simp only [go_sem, reduceAdd, reduceLeDiff]
  refine ⟨prE_at (by omega), ?_⟩
  rw [prE_get (by omega)]
  try simp only [go_sem, reduceAdd]
  refine ⟨_, (l38Term_ok B c q.v _).run, ?_⟩
  by_cases g9 : TermOk c q.v (q.r.getD k default)
  rotate_left 1
  ·rw [dec_f g9]
   try simp only [go_sem]
   exact pure_ret (by rw [dec_f fun h => g9 (h.2.cond k h1p).2.1]) (.refl _)
  rw [dec_t g9]
  try simp only [go_sem, reduceAdd, reduceLeDiff]
  refine ⟨prE_at h1p, ?_⟩
  rw [prE_get h1p]
  try simp only [go_sem, reduceAdd, reduceLeDiff]
  have ha := g8.2.1
  have hb := g9.2.1
  have htl := hc.1.tol
  refine ⟨⟨ha.1, by omega⟩, prE_at (by omega), ?_⟩
  rw [prE_get (by omega)]
  try simp only [go_sem, reduceAdd, reduceLeDiff]
  refine ⟨⟨hb.1, by omega⟩, ?_⟩
  by_cases e : ix c.to (q.l.getD k default).2 = ix c.to (q.r.getD k default).2
  ·rw [decide_eq_true e]
   try simp only [go_sem, w1]
   exact for_next () h1p ⟨rfl, lt_succ_all hall ⟨g8, g9, e⟩⟩ rfl
  ·rw [decide_eq_false e]
   try simp only [go_sem]
   exact pure_ret (by rw [dec_f fun h => e (h.2.cond k h1p).2.2]) (.refl _)
 ·have h1p := of_ndecide h1
  have hall' : ∀ i, i < q.l.length → CondOk c q.v (q.l.getD i default) (q.r.getD i default) := fun i hi => hall i (by omega)
  try simp only [go_sem]
  exact pure_ret (by rw [dec_t ⟨hc, g1, g2, g3, g4, hall', g6, g7⟩]) (.refl _)
theorem l38Sizes_ok (B : Nat) (f : SF) (q : QS) (hv : ∀ y, y ∈ q.v → 0 ≤ y ∧ y.toNat < f.sizes.length) : Pur Tryz.prog B 153 [.agg f.cells, .agg q.cells] (iL (szT f q.v)) := by
 refine ⟨fun H0 => c153 (by simp) fun _ => ?_⟩
 unfold s153
 try simp only [go_sem, reduceAdd, reduceLeDiff]
 refine (l01Then_ok B q.v f.sizes hv).go fun _ => ?_
 try simp only [go_sem]
 exact pure_ret rfl (.refl _)
theorem l38Fits_ok (B : Nat) (f : SF) (hf : f.Is) (q : QS) (hq : q.Ok f.shape) : Pur Tryz.prog B 120 [.agg f.cells, .agg q.cells] (.bool (dec (prodT (szT f q.v) ≤ 4096))) := by
 have hsm : Sm (szT f q.v) := ⟨by rw [szT_len]; exact hq.v4, szT_bd hf hq⟩
 have hP := hsm.prod
 refine ⟨fun H0 => c120 (by simp) fun _ => ?_⟩
 unfold s120
 try simp only [go_sem, reduceAdd]
 refine (l38Sizes_ok B f q fun y hy => hf.1.inX (hq.vo y hy)).go fun _ => ?_
 try simp only [go_sem]
 refine (l01Total_ok B _ hsm).go fun _ => ?_
 try simp only [go_sem]
 refine (l01In_ok ..).go fun _ => ?_
 try simp only [go_sem]
 exact pure_ret (by congr 1; exact dec_congr ⟨fun h => h.2, fun h => ⟨hP.1, h⟩⟩) (.refl _)
open Classical in
/-- The code of a set functor and a query. -/
noncomputable def codQ (f : SF) (q : QS) : Int := if f.Is ∧ q.Ok f.shape then (if prodT (szT f q.v) ≤ 4096 then 0 else 3) else 1
end Go.Proofs.Shf
namespace Go.Shf
open Go.AW Go.Proofs.Shf
noncomputable def solK (f : SF) (q : QS) (k : Nat) : List (List Int) := ((List.range k).map fun i : Nat => atT (szT f q.v) i).filter fun t => dec (solvT f q t)
theorem solK_succ (f : SF) (q : QS) (k : Nat) : solK f q (k + 1) = solK f q k ++ if dec (solvT f q (atT (szT f q.v) k)) then [atT (szT f q.v) k] else [] := by
 rw [solK, List.range_succ, List.map_append, List.filter_append]
 congr 1
 simp only [List.map_cons, List.map_nil, List.filter_cons, List.filter_nil]
theorem solK_all (f : SF) (q : QS) : solK f q (prodT (szT f q.v)).toNat = solQ f q := rfl
theorem solK_len (f : SF) (q : QS) (k : Nat) : (solK f q k).length ≤ k := by
 refine Nat.le_trans (List.length_filter_le _ _) (by simp)
end Go.Shf
namespace Go.Proofs.Shf
open Go.AW Go.Proofs Go.Shf
theorem allT {P : Nat → Prop} {j : Nat} (h : true = dec (∀ i, i < j → P i)) {p : Prop} (hp : p ↔ P j) : dec p = dec (∀ i, i < j + 1 → P i) :=
 dec_congr ⟨fun q i hi => by
  by_cases e : i = j
  ·subst e; exact hp.mp q
  ·exact dec_iff.mp h.symm i (by omega), fun q => hp.mpr (q j (by omega))⟩
theorem sm_sz {f : SF} {q : QS} (hf : f.Is) (hq : q.Ok f.shape) : Sm (szT f q.v) := ⟨by rw [szT_len]; exact hq.v4, szT_bd hf hq⟩
theorem l38Solutions_ok (B : Nat) (f : SF) (hf : f.Is) (q : QS) (hq : q.Ok f.shape) (hP : prodT (szT f q.v) ≤ 4096) : Pur Tryz.prog B 68 [.agg f.cells, .agg q.cells] (iLL (solQ f q)) := by
 refine ⟨fun H0 => c68 (by simp) fun _ => ?_⟩
 have hsm := sm_sz hf hq
 have hP0 := hsm.prod
 have hl6 := hq.l6
 have hrl := hq.rl
 unfold s68
 have o : Owns H0 H0 [] := .nil _
 try simp only [go_sem, reduceAdd]
 refine (l38Sizes_ok B f q fun y hy => hf.1.inX (hq.vo y hy)).go fun _ => ?_
 try simp only [go_sem]
 refine new_list iL o fun id6 H o => ?_
 try simp only [go_sem]
 refine (l01Total_ok B _ hsm).go fun _ => ?_
 obtain ⟨n, hn⟩ : ∃ n : Nat, prodT (szT f q.v) = n := ⟨_, (Int.toNat_of_nonneg hP0.1).symm⟩
 rw [hn] at hP hP0 ⊢
 try simp only [go_sem]
 refine awp_for [2, 3, 5, 7] (G := Nat × List (List Int)) (fun k g => [(6, some (.buf g.1 g.2.length)), (8, some (.int .i64 (k : Int)))])
  (fun k g H => g.2 = solK f q k ∧ Owns H0 H [(g.1, .cells 1 (g.2.map iL) 0)]) n (id6, []) ⟨rfl, o⟩ rfl ?_
 clear o
 rintro k ⟨id6, out⟩ H hk ⟨hout, o⟩
 replace hout : out = solK f q k := hout
 replace o : Owns H0 H [(id6, .cells 1 (out.map iL) 0)] := o
 have hol := solK_len f q k
 rw [← hout] at hol
 try simp only [go_sem]
 refine ⟨fun h1 => At.mk ?_, fun h1 => At.mk ?_⟩
 ·have h1p : k < n := of_decide h1
  have w1 := wsucc (k := k) (by omega)
  have hkP : 0 ≤ (k : Int) ∧ (k : Int) < prodT (szT f q.v) := by omega
  have hpos := atT_smT hsm hkP
  try simp only [go_sem]
  refine (l01At_ok B _ hsm hpos k ⟨by omega, by omega⟩).go fun _ => ?_
  have htb := atT_in hpos (k : Int)
  generalize ht : atT (szT f q.v) (k : Int) = t at *
  try simp only [go_sem]
  refine awp_for [2, 3, 5, 6, 7, 8, 9] (G := Bool) (fun i v => [(10, some (.bool v)), (11, some (.int .i64 (i : Int)))])
   (fun i v H' => H' = H ∧ v = dec (∀ j, j < i → holdT f t (q.l.getD j default) (q.r.getD j default))) q.l.length true ⟨rfl, (dec_t (by simp)).symm⟩ rfl ?_
  rintro i v H' hi ⟨rfl, hv⟩
  cases v
  ·have hns : ¬ solvT f q t := fun h => dec_niff.mp hv.symm fun j hj => h j (by omega)
   have hs : out = solK f q (k + 1) := by rw [solK_succ, ht, dec_f hns, hout]; simp
   try simp only [go_sem, w1]
   exact for_next (id6, out) h1p ⟨hs, o⟩ rfl
  ·try simp only [go_sem, reduceAdd, reduceLeDiff]
   refine ⟨fun h2 => At.mk ?_, fun h2 => At.mk ?_⟩
   ·have h2p := of_decide h2
    have w2 := wsucc (k := i) (by omega)
    obtain ⟨ca, cb, cab⟩ := hq.cond i h2p
    obtain ⟨a1, a2, a3⟩ := term_in hf hq htb ca
    obtain ⟨b1, b2, b3⟩ := term_in hf hq htb cb
    try simp only [go_sem, reduceAdd, reduceLeDiff]
    refine ⟨prE_at h2p, ?_⟩
    rw [prE_get h2p]
    try simp only [go_sem, reduceAdd, reduceLeDiff]
    refine ⟨a2, prE_at h2p, ?_⟩
    rw [prE_get h2p]
    try simp only [go_sem, reduceAdd, reduceLeDiff]
    refine ⟨a1, a3, prE_at (by omega), ?_⟩
    rw [prE_get (by omega)]
    try simp only [go_sem, reduceAdd, reduceLeDiff]
    refine ⟨b2, prE_at (by omega), ?_⟩
    rw [prE_get (by omega)]
    try simp only [go_sem, reduceAdd, reduceLeDiff]
    refine ⟨b1, b3, ?_⟩
    try simp only [go_sem, w2]
    refine for_next (decide (ix (ix f.acts (q.l.getD i default).2) (ix t (q.l.getD i default).1) = ix (ix f.acts (q.r.getD i default).2) (ix t (q.r.getD i default).1))) h2p ⟨rfl, ?_⟩ rfl
    rw [decide_dec]
    exact allT hv .rfl
   ·have h2p := of_ndecide h2
    obtain rfl : i = q.l.length := by omega
    have hsv : solvT f q t := dec_iff.mp hv.symm
    have hs : out ++ [t] = solK f q (k + 1) := by rw [solK_succ, ht, dec_t hsv, hout]; rfl
    try simp only [go_sem, reduceAdd]
    refine app_own t o rfl rfl (by simp only [maxL]; omega) fun id6 H o => ?_
    try simp only [go_sem, w1]
    exact for_next (id6, out ++ [t]) h1p ⟨hs, o⟩ rfl
 ·have h1p : ¬ k < n := of_ndecide h1
  obtain rfl : k = n := by omega
  try simp only [go_sem]
  refine fz_own o rfl fun H o => ?_
  try simp only [go_sem]
  have e : solQ f q = out := by rw [hout, ← solK_all, hn]; rfl
  rw [e]
  exact pure_ret rfl o.sub
noncomputable def ansQ (f : SF) (q : QS) : List (List Int) := if codQ f q = 0 then solQ f q else []
theorem codQ_0 {f : SF} {q : QS} (h : codQ f q = 0) : (f.Is ∧ q.Ok f.shape) ∧ prodT (szT f q.v) ≤ 4096 := by
 unfold codQ at h
 split at h
 ·rename_i h1
  split at h
  ·rename_i h2; exact ⟨h1, h2⟩
  ·simp at h
 ·simp at h
end Go.Proofs.Shf
namespace Go.Proofs.Shf
open Go.AW Go.Proofs Go.Shf
@[go_sem] def hcE (f : SF) (x : (Int × Int) × (Int × Int)) : AV := .fn (.func 298) [.ptr [.ptr f.cells], .ptr [iI x.1.1, iI x.1.2], .ptr [iI x.2.1, iI x.2.2]]
instance (f : SF) : One (hcE f) := ⟨fun _ => rfl, fun _ => rfl⟩
def cdL (q : QS) (k : Nat) : List ((Int × Int) × (Int × Int)) := (List.range k).map fun i => (q.l.getD i default, q.r.getD i default)
theorem cond_ok (B : Nat) (f : SF) (hf : f.Is) (q : QS) (hq : q.Ok f.shape) (t : List Int) (ht : InB (szT f q.v) t) (x : (Int × Int) × (Int × Int)) (hx : CondOk f.shape q.v x.1 x.2) :
  Pur Tryz.prog B 298 [iL t, .ptr [.ptr f.cells], .ptr [iI x.1.1, iI x.1.2], .ptr [iI x.2.1, iI x.2.2]] (.bool (dec (holdT f t x.1 x.2))) := by
 refine ⟨fun H0 => c298 (by simp) fun _ => ?_⟩
 obtain ⟨a1, a2, a3⟩ := term_in hf hq ht hx.1
 obtain ⟨b1, b2, b3⟩ := term_in hf hq ht hx.2.1
 unfold s298
 try simp only [go_sem, reduceAdd, reduceLeDiff]
 refine ⟨a2, a1, a3, b2, b1, b3, ?_⟩
 exact pure_ret (by rw [decide_dec]; rfl) (.refl _)
theorem ncond_ok (B : Nat) (f : SF) (hf : f.Is) (q : QS) (hq : q.Ok f.shape) (t : List Int) (ht : InB (szT f q.v) t) (x : (Int × Int) × (Int × Int)) (hx : CondOk f.shape q.v x.1 x.2) :
  Pur Tryz.prog B 236 [hcE f x, .ptr [iL t]] (.bool (dec (¬ holdT f t x.1 x.2))) := by
 refine ⟨fun H0 => c236 (by simp) fun _ => ?_⟩
 unfold s236
 try simp only [go_sem, reduceAdd]
 refine (show CallH Tryz.prog B 298 _ _ _ from (cond_ok B f hf q hq t ht x hx).go fun _ => ?_)
 try simp only [go_sem]
 exact pure_ret (by by_cases h : holdT f t x.1 x.2 <;> simp [h, dec_t, dec_f]) (.refl _)
theorem indexCond_ok (B : Nat) (f : SF) (hf : f.Is) (q : QS) (hq : q.Ok f.shape) (t : List Int) (ht : InB (szT f q.v) t) (L : List ((Int × Int) × (Int × Int))) (hL : ∀ x, x ∈ L → CondOk f.shape q.v x.1 x.2) :
  Pur Tryz.prog B 300 [mL (hcE f) L, .fn (.func 236) [.ptr [iL t]]] (.int .i64 (idxR (L.findIdx? fun x => dec (¬ holdT f t x.1 x.2)))) := by
 refine ⟨fun H0 => c300 (by simp) fun ⟨hfi, _⟩ => ?_⟩
 have hll := fine_mL_le hfi
 simp only [maxL] at hll
 unfold s300
 try simp only [go_sem, reduceAdd]
 refine awp_for [0, 1, 7] (fun k _ => [(8, some (.int .i64 (k : Int)))]) (fun k _ H => H = H0 ∧ ∀ i, i < k → dec (¬ holdT f t (L.getD i default).1 (L.getD i default).2) = false) L.length () ⟨rfl, by simp⟩ rfl ?_
 rintro k _ H hk ⟨rfl, hall⟩
 try simp only [go_sem]
 refine ⟨fun h1 => At.mk ?_, fun h1 => At.mk ?_⟩
 ·try simp only [go_sem]
  have h1p := h1; simp only [decide_eq_true_eq] at h1p
  have w1 := wsucc (k := k) (by omega)
  refine ⟨h1p, ?_⟩
  refine (show CallH Tryz.prog B 236 _ _ _ from (ncond_ok B f hf q hq t ht _ (hL _ (mem_getD.mpr ⟨k, h1p, rfl⟩))).go fun _ => ?_)
  try simp only [go_sem]
  refine ⟨fun h2 => At.mk ?_, fun h2 => At.mk ?_⟩
  ·try simp only [go_sem]
   refine pure_ret ?_ (.refl _)
   have : (L.findIdx? fun x => dec (¬ holdT f t x.1 x.2)) = some k := by
    rw [List.findIdx?_eq_some_iff_getElem]
    refine ⟨h1p, by simpa [List.getD_eq_getElem?_getD, h1p] using h2, fun j hj => ?_⟩
    have := hall j hj
    simpa [List.getD_eq_getElem?_getD, show j < L.length by omega] using this
   rw [this]; rfl
  ·try simp only [go_sem, w1]
   exact for_next () (by omega) ⟨rfl, lt_succ_all hall h2⟩ rfl
 ·try simp only [go_sem]
  have h1p := h1; simp only [decide_eq_false_iff_not, Nat.not_lt] at h1p
  refine pure_ret ?_ (.refl _)
  have : (L.findIdx? fun x => dec (¬ holdT f t x.1 x.2)) = none := by
   rw [List.findIdx?_eq_none_iff]
   intro x hx
   obtain ⟨i, hi, rfl⟩ := mem_getD.mp hx
   exact hall i (by omega)
  rw [this]; rfl
end Go.Proofs.Shf
namespace Go.Proofs.Shf
open Go.AW Go.Proofs Go.Shf
theorem cdL_all {q : QS} {c : Cat} (hq : q.Ok c) : ∀ x, x ∈ cdL q q.l.length → CondOk c q.v x.1 x.2 := by
 intro x hx
 obtain ⟨i, hi, rfl⟩ := List.mem_map.mp hx
 exact hq.cond i (List.mem_range.mp hi)
theorem containsCond_ok (B : Nat) (f : SF) (hf : f.Is) (q : QS) (hq : q.Ok f.shape) (t : List Int) (ht : InB (szT f q.v) t) :
  Pur Tryz.prog B 235 [mL (hcE f) (cdL q q.l.length), .fn (.func 236) [.ptr [iL t]]] (.bool (dec (¬ solvT f q t))) := by
 refine ⟨fun H0 => c235 (by simp) fun _ => ?_⟩
 unfold s235
 try simp only [go_sem, reduceAdd]
 refine (indexCond_ok B f hf q hq t ht _ (cdL_all hq)).go fun _ => ?_
 try simp only [go_sem]
 refine pure_ret ?_ (.refl _)
 congr 1
 rw [decide_dec]
 refine dec_congr ?_
 cases e : (cdL q q.l.length).findIdx? fun x => dec (¬ holdT f t x.1 x.2) with
 | some k =>
  rw [List.findIdx?_eq_some_iff_getElem] at e
  obtain ⟨h1, h2, _⟩ := e
  have hk : k < q.l.length := by simpa [cdL] using h1
  refine ⟨fun _ h => ?_, fun _ => by simp [idxR]⟩
  have := dec_iff.mp h2
  simp only [cdL, List.getElem_map, List.getElem_range] at this
  exact this (h k hk)
 | none =>
  rw [List.findIdx?_eq_none_iff] at e
  refine ⟨fun h => by simp [idxR] at h, fun h => absurd ?_ h⟩
  intro i hi
  have := dec_niff.mp (e (q.l.getD i default, q.r.getD i default) (List.mem_map.mpr ⟨i, List.mem_range.mpr hi, rfl⟩))
  simpa using this
theorem cdL_succ (q : QS) (k : Nat) : cdL q (k + 1) = cdL q k ++ [(q.l.getD k default, q.r.getD k default)] := map_range_succ _ _
theorem conditions_ok (B : Nat) (f : SF) (q : QS) (hl : q.l.length ≤ 6) (hr : q.r.length = q.l.length) : Pur Tryz.prog B 233 [.ptr q.cells, .ptr f.cells] (mL (hcE f) (cdL q q.l.length)) := by
 refine ⟨fun H0 => c233p (by simp) fun _ => ?_⟩
 unfold s233p
 have o : Owns H0 H0 [] := .nil _
 try simp only [go_sem, reduceAdd]
 refine new_list (hcE f) o fun id5 H o => ?_
 try simp only [go_sem, reduceAdd, reduceLeDiff]
 refine awp_for [0, 3, 14] (G := Nat × List ((Int × Int) × (Int × Int))) (fun k g => [(5, some (.buf g.1 g.2.length)), (15, some (.int .i64 (k : Int)))])
  (fun k g H => g.2 = cdL q k ∧ Owns H0 H [(g.1, .cells 1 (g.2.map (hcE f)) 0)]) q.l.length (id5, []) ⟨rfl, o⟩ rfl ?_
 clear o
 rintro k ⟨id5, out⟩ H hk ⟨hout, o⟩
 replace hout : out = cdL q k := hout
 replace o : Owns H0 H [(id5, .cells 1 (out.map (hcE f)) 0)] := o
 have hol : out.length = k := by rw [hout]; simp [cdL]
 try simp only [go_sem]
 refine ⟨fun h1 => At.mk ?_, fun h1 => At.mk ?_⟩
 ·have h1p := of_decide h1
  have w1 := wsucc (k := k) (by omega)
  try simp only [go_sem, reduceAdd, reduceLeDiff]
  refine ⟨prE_at h1p, ?_⟩
  rw [prE_get h1p]
  try simp only [go_sem, reduceAdd, reduceLeDiff]
  refine ⟨prE_at (by omega), ?_⟩
  rw [prE_get (by omega)]
  try simp only [go_sem, reduceAdd]
  refine ⟨?_, ?_⟩
  focus
   refine newRef_own o fun id7 H o => ?_
   try simp only [go_sem, reduceAdd]
   refine newRef_own o fun id8 H o => ?_
   try simp only [go_sem]
   refine stc o.swap fun H o => ?_
   simp only [wr_cons, wr_nil, List.set_cons_zero, List.set_cons_succ] at o
   try simp only [go_sem]
   refine stc o.swap fun H o => ?_
   simp only [wr_cons, wr_nil, List.set_cons_zero, List.set_cons_succ] at o
   try simp only [go_sem]
  rotate_left 1
  focus
   refine newRef_own o fun id8 H o => ?_
   try simp only [go_sem, reduceAdd]
   refine newRef_own o fun id7 H o => ?_
   try simp only [go_sem]
   refine stc o fun H o => ?_
   simp only [wr_cons, wr_nil, List.set_cons_zero, List.set_cons_succ] at o
   try simp only [go_sem]
   refine stc o.swap fun H o => ?_
   simp only [wr_cons, wr_nil, List.set_cons_zero, List.set_cons_succ] at o
   try simp only [go_sem]
  all_goals
   refine wk_ref 8 o rfl fun H o => wk_ref 7 o rfl fun H o => wkW_done ?_
   try simp only [go_sem, reduceAdd]
   refine ⟨⟨rfl, fun c hc => by obtain rfl := List.mem_singleton.mp (show c ∈ [_] from hc); rfl⟩, ?_⟩
   refine app_own (f := hcE f) (q.l.getD k default, q.r.getD k default) o rfl rfl (by simp only [maxL]; omega) fun id5 H o => ?_
   try simp only [go_sem, w1]
   exact for_next (id5, out ++ [(q.l.getD k default, q.r.getD k default)]) h1p ⟨by rw [hout, cdL_succ], o⟩ rfl
 ·have h1p := of_ndecide h1
  obtain rfl : k = q.l.length := by omega
  try simp only [go_sem]
  refine fz_own o rfl fun H o => ?_
  try simp only [go_sem]
  rw [hout]
  exact pure_ret rfl o.sub
theorem solutions_ok (B : Nat) (f : SF) (hf : f.Is) (q : QS) (hq : q.Ok f.shape) : Pur Tryz.prog B 116 [.ptr q.cells, .ptr f.cells] (.tup [iLL (if prodT (szT f q.v) ≤ 4096 then solQ f q else []), .bool (decide (prodT (szT f q.v) ≤ 4096))]) := by
 refine ⟨fun H0 => c116p (by simp) fun _ => ?_⟩
 have hsm := sm_sz hf hq
 have hP0 := hsm.prod
 unfold s116p
 have o : Owns H0 H0 [] := .nil _
 try simp only [go_sem, reduceAdd, reduceLeDiff]
 refine ⟨_, (show Pur Tryz.prog B 107 [iL q.v, iL f.sizes] (iL (szT f q.v)) from then_ok B q.v f.sizes fun y hy => hf.1.inX (hq.vo y hy)).run, ?_⟩
 refine (tupleCount_ok B _ hsm).go fun _ => ?_
 try simp only [go_sem]
 by_cases hP : prodT (szT f q.v) ≤ 4096
 rotate_left 1
 ·rw [decide_eq_true (show (4096 : Int) < prodT (szT f q.v) by omega)]
  try simp only [go_sem]
  exact pure_ret (by rw [if_neg hP, decide_eq_false hP]; rfl) (.refl _)
 rw [decide_eq_false (show ¬ (4096 : Int) < prodT (szT f q.v) by omega), decide_eq_true hP, if_pos hP]
 try simp only [go_sem]
 refine (conditions_ok B f q hq.l6 hq.rl).go fun _ => ?_
 try simp only [go_sem]
 refine new_list iL o fun id9 H o => ?_
 obtain ⟨n, hn⟩ : ∃ n : Nat, prodT (szT f q.v) = n := ⟨_, (Int.toNat_of_nonneg hP0.1).symm⟩
 rw [hn] at hP hP0 ⊢
 try simp only [go_sem]
 refine awp_for [6, 8, 30] (G := Nat × List (List Int)) (fun k g => [(9, some (.buf g.1 g.2.length)), (31, some (.int .i64 (k : Int)))])
  (fun k g H => g.2 = solK f q k ∧ Owns H0 H [(g.1, .cells 1 (g.2.map iL) 0)]) n (id9, []) ⟨rfl, o⟩ rfl ?_
 clear o
 rintro k ⟨id9, out⟩ H hk ⟨hout, o⟩
 replace hout : out = solK f q k := hout
 replace o : Owns H0 H [(id9, .cells 1 (out.map iL) 0)] := o
 have hol := solK_len f q k
 rw [← hout] at hol
 try simp only [go_sem]
 refine ⟨fun h1 => At.mk ?_, fun h1 => At.mk ?_⟩
 ·have h1p : k < n := of_decide h1
  have w1 := wsucc (k := k) (by omega)
  have hkP : 0 ≤ (k : Int) ∧ (k : Int) < prodT (szT f q.v) := by omega
  have hpos := atT_smT hsm hkP
  try simp only [go_sem]
  refine (tupleAt_ok B _ hsm k hkP).go fun _ => ?_
  have htb := atT_in hpos (k : Int)
  generalize ht : atT (szT f q.v) (k : Int) = t at *
  try simp only [go_sem, reduceAdd, reduceLT]
  refine newRef_own o fun id11 H o => ?_
  try simp only [go_sem]
  refine stc o fun H o => ?_
  simp only [wr_cons, wr_nil, List.set_cons_zero, List.set_cons_succ] at o
  try simp only [go_sem]
  refine wk_ref 11 o rfl fun H o => wkW_done ?_
  try simp only [go_sem]
  refine (containsCond_ok B f hf q hq t htb).go fun _ => ?_
  by_cases hs : solvT f q t
  ·rw [dec_f fun h => h hs]
   try simp only [go_sem, reduceAdd]
   refine app_own t o rfl rfl (by simp only [maxL]; omega) fun id9 H o => ?_
   try simp only [go_sem, w1]
   exact for_next (id9, out ++ [t]) h1p ⟨by rw [solK_succ, ht, dec_t hs, hout]; rfl, o⟩ rfl
  ·rw [dec_t hs]
   try simp only [go_sem, w1]
   exact for_next (id9, out) h1p ⟨by rw [solK_succ, ht, dec_f hs, hout]; simp, o⟩ rfl
 ·have h1p : ¬ k < n := of_ndecide h1
  obtain rfl : k = n := by omega
  try simp only [go_sem]
  refine fz_own o rfl fun H o => ?_
  try simp only [go_sem]
  have e : solQ f q = out := by rw [hout, ← solK_all, hn]; rfl
  rw [e]
  exact pure_ret rfl o.sub
end Go.Proofs.Shf
namespace Go.Proofs.Shf
open Go.AW Go.Proofs Go.Shf
theorem solutionsCode_ok (B : Nat) (f : SF) (q : QS) : Pur Tryz.prog B 66 [.ptr f.cells, .ptr q.cells] (.tup [iLL (ansQ f q), iI (codQ f q)]) := by
 refine ⟨fun H0 => c66 (by simp) fun _ => ?_⟩
 unfold s66
 try simp only [go_sem, reduceAdd]
 refine (isSetFunctor_ok B f).go fun _ => ?_
 by_cases hf : f.Is
 rotate_left 1
 ·have e : codQ f q = 1 := by rw [codQ, if_neg fun h => hf h.1]
  rw [dec_f hf]
  try simp only [go_sem]
  exact pure_ret (by rw [ansQ, e]; rfl) (.refl _)
 rw [dec_t hf]
 try simp only [go_sem, reduceAdd, reduceLeDiff]
 refine (isQuery_ok B f.shape hf.1.is q).go fun _ => ?_
 by_cases hq : q.Ok f.shape
 rotate_left 1
 ·have e : codQ f q = 1 := by rw [codQ, if_neg fun h => hq h.2]
  rw [dec_f hq]
  try simp only [go_sem]
  exact pure_ret (by rw [ansQ, e]; rfl) (.refl _)
 rw [dec_t hq]
 try simp only [go_sem]
 refine (solutions_ok B f hf q hq).go fun _ => ?_
 by_cases hP : prodT (szT f q.v) ≤ 4096
 ·have e : codQ f q = 0 := by rw [codQ, if_pos ⟨hf, hq⟩, if_pos hP]
  rw [decide_eq_true hP, if_pos hP]
  try simp only [go_sem, reduceAdd, reduceLT]
  exact pure_ret (by rw [ansQ, e]; rfl) (.refl _)
 ·have e : codQ f q = 3 := by rw [codQ, if_pos ⟨hf, hq⟩, if_neg hP]
  rw [decide_eq_false hP, if_neg hP]
  try simp only [go_sem, reduceAdd, reduceLT]
  exact pure_ret (by rw [ansQ, e]; rfl) (.refl _)
def MatchQ (r : AV) : Prop := ∃ (a b : Int × Int) (ok : Bool), r = .tup [prE a, prE b, .bool ok]
end Go.Proofs.Shf
namespace Go.Proofs.Shf
open Go.AW Go.Proofs Go.Shf
theorem l38Match_ok (B : Nat) (c : Cat) (hc : c.Is) (q : QS) : Rd B 115 [.agg c.cells, .agg q.cells] MatchQ := by
 intro id s H0 H hs o
 refine c115 (by simp) fun ⟨_, _, hq, _⟩ => ?_
 have hm := hc.1.m
 have hml : c.frm.length ≤ 40 := by omega
 have htl := hc.1.tol
 unfold s115
 try simp only [go_sem, reduceAdd]
 refine newRef_own o fun id6 H o => ?_
 try simp only [go_sem, reduceAdd]
 refine newRef_own o fun id7 H o => ?_
 try simp only [go_sem, reduceAdd, reduceLeDiff]
 by_cases hn : q.v.length = 0
 ·rw [decide_eq_true (show (q.v.length : Int) = 0 by omega)]
  try simp only [go_sem]
  refine stc o.swap fun H o => ?_
  simp only [wr_cons, wr_nil, List.set_cons_zero, List.set_cons_succ] at o
  try simp only [go_sem]
  refine stc o.swap fun H o => ?_
  simp only [wr_cons, wr_nil, List.set_cons_zero, List.set_cons_succ] at o
  try simp only [go_sem]
  have hr6 := o.tl.rc 2 0 (by simp)
  have hr7 := o.rc 2 0 (by simp)
  simp only [List.drop_zero] at hr6 hr7
  rw [hr6, hr7]
  exact src_ret ⟨(0, 0), (0, 0), false, rfl⟩ hs (o.pull [_, _])
 rw [decide_eq_false (show ¬ (q.v.length : Int) = 0 by omega)]
 try simp only [go_sem]
 refine (l01Next_ok B q.v.length).go hs (o.pull [_, _]) fun r s H _ ⟨i, e, hi0, hi1, _⟩ hs o => ?_
 subst e
 try simp only [go_sem]
 refine (l01Next_ok B q.v.length).go hs o fun r s H _ ⟨j, e, hj0, hj1, _⟩ hs o => ?_
 subst e
 try simp only [go_sem]
 refine (l01Next_ok B c.frm.length).go hs o fun r s H _ ⟨a, e, ha0, ha1, ha2⟩ hs o => ?_
 subst e
 try simp only [go_sem]
 refine (l01Next_ok B c.frm.length).go hs o fun r s H _ ⟨b, e, hb0, hb1, hb2⟩ hs o => ?_
 subst e
 have o : Owns H0 H [(id7, MObj.cells 2 [.int .i64 0, .int .i64 0] 0), (id6, MObj.cells 2 [.int .i64 0, .int .i64 0] 0), (id, s.obj)] := o.perm (permC fun x => by (try dsimp only); simp only [List.append_eq, List.count_append, List.count_cons, List.count_nil, List.map_nil, List.length_nil, List.length_append, List.length_cons, List.length_set, Nat.zero_add, List.nil_append, iI, iL]; omega)
 replace hi1 := hi1 (by omega)
 replace hj1 := hj1 (by omega)
 obtain ⟨m, em⟩ : ∃ m : Nat, m = c.frm.length := ⟨_, rfl⟩
 have wm : IntKind.i64.wrap ((c.frm.length : Int) * (c.frm.length : Int)) = ((m * m : Nat) : Int) := by
  rw [← em]
  have : m * m ≤ 40 * 40 := Nat.mul_le_mul (by omega) (by omega)
  rw [← Int.natCast_mul]
  exact wrap_i64 (by omega) (by omega)
 have hmm : m * m ≤ 40 * 40 := Nat.mul_le_mul (by omega) (by omega)
 try simp only [go_sem]
 refine awp_for [4, 5, 6, 7, 10, 11, 12] (G := Int × Int) (fun k g => [(13, some (iI g.1)), (14, some (iI g.2)), (15, some (.int .i64 (k : Int)))])
  (fun k g H' => H' = H ∧ (0 < m → (0 ≤ g.1 ∧ g.1.toNat < m) ∧ 0 ≤ g.2 ∧ g.2.toNat < m)) (m * m) (a, b) ⟨rfl, fun h => ⟨⟨ha0, by have := ha1 (by omega); omega⟩, hb0, by have := hb1 (by omega); omega⟩⟩ rfl ?_
 rintro k ⟨a, b⟩ H' hk ⟨rfl, hab⟩
 try simp only [go_sem, wm]
 refine ⟨fun h1 => At.mk ?_, fun h1 => At.mk ?_⟩
 ·have h1p : k < m * m := of_decide h1
  have hm0 : 0 < m := by
   rcases Nat.eq_zero_or_pos m with e | e
   ·subst e; simp at h1p
   ·exact e
  obtain ⟨ha, hb⟩ := hab hm0
  have w1 := wsucc (k := k) (by omega)
  have wa : IntKind.i64.wrap (a + 1) = a + 1 := wrap_i64 (by omega) (by omega)
  have wb : IntKind.i64.wrap (b + 1) = b + 1 := wrap_i64 (by omega) (by omega)
  have ta : 0 ≤ (a + 1).tmod (c.frm.length : Int) ∧ ((a + 1).tmod (c.frm.length : Int)).toNat < m := by
   have h1 := Int.tmod_nonneg (c.frm.length : Int) (show 0 ≤ a + 1 by omega)
   have h2 := Int.tmod_lt_of_pos (a + 1) (show 0 < (c.frm.length : Int) by omega)
   omega
  have tb : 0 ≤ (b + 1).tmod (c.frm.length : Int) ∧ ((b + 1).tmod (c.frm.length : Int)).toNat < m := by
   have h1 := Int.tmod_nonneg (c.frm.length : Int) (show 0 ≤ b + 1 by omega)
   have h2 := Int.tmod_lt_of_pos (b + 1) (show 0 < (c.frm.length : Int) by omega)
   omega
  have wl : IntKind.i64.wrap ((c.frm.length : Int) - 1) = (c.frm.length : Int) - 1 := wrap_i64 (by omega) (by omega)
  try simp only [go_sem, reduceAdd, reduceLeDiff]
  refine ⟨⟨ha.1, by omega⟩, ⟨hi0, by omega⟩, ?_⟩
  by_cases e1 : ix c.frm a = ix q.v i
  focus
   rw [decide_eq_true e1]
   try simp only [go_sem, reduceAdd, reduceLeDiff]
   refine ⟨⟨hb.1, by omega⟩, ⟨hj0, by omega⟩, ?_⟩
   by_cases e2 : ix c.frm b = ix q.v j
   focus
    rw [decide_eq_true e2]
    try simp only [go_sem, reduceAdd, reduceLeDiff]
    refine ⟨⟨ha.1, by omega⟩, ⟨hb.1, by omega⟩, ?_⟩
    by_cases e3 : ix c.to a = ix c.to b
    focus
     rw [decide_eq_true e3]
     try simp only [go_sem, reduceAdd, reduceLeDiff]
     refine stc o.swap fun H o => ?_
     simp only [wr_cons, wr_nil, List.set_cons_zero, List.set_cons_succ] at o
     try simp only [go_sem]
     refine stc o.swap fun H o => ?_
     simp only [wr_cons, wr_nil, List.set_cons_zero, List.set_cons_succ] at o
     try simp only [go_sem]
     have hr6 := o.tl.rc 2 0 (by simp)
     have hr7 := o.rc 2 0 (by simp)
     simp only [List.drop_zero] at hr6 hr7
     rw [hr6, hr7]
     exact src_ret ⟨(i, a), (j, b), true, rfl⟩ hs (o.pull [_, _])
    rw [decide_eq_false e3]
    try simp only [go_sem]
   rotate_left 1
   focus
    rw [decide_eq_false e2]
    try simp only [go_sem]
  rotate_left 2
  focus
   rw [decide_eq_false e1]
   try simp only [go_sem]
  all_goals
   try simp only [go_sem, wb]
   refine ⟨by omega, ?_⟩
   try simp only [go_sem, wl]
   refine ⟨by omega, ?_⟩
   refine ⟨fun h2 => At.mk ?_, fun h2 => At.mk ?_⟩
   ·try simp only [go_sem, wa]
    refine ⟨by omega, ?_⟩
    try simp only [go_sem, w1]
    exact for_next ((a + 1).tmod (c.frm.length : Int), (b + 1).tmod (c.frm.length : Int)) h1p ⟨rfl, fun _ => ⟨ta, tb⟩⟩ rfl
   ·try simp only [go_sem, w1]
    exact for_next (a, (b + 1).tmod (c.frm.length : Int)) h1p ⟨rfl, fun _ => ⟨ha, tb⟩⟩ rfl
 ·have h1p : ¬ k < m * m := of_ndecide h1
  try simp only [go_sem]
  refine stc o.swap fun H o => ?_
  simp only [wr_cons, wr_nil, List.set_cons_zero, List.set_cons_succ] at o
  try simp only [go_sem]
  refine stc o.swap fun H o => ?_
  simp only [wr_cons, wr_nil, List.set_cons_zero, List.set_cons_succ] at o
  try simp only [go_sem]
  have hr6 := o.tl.rc 2 0 (by simp)
  have hr7 := o.rc 2 0 (by simp)
  simp only [List.drop_zero] at hr6 hr7
  rw [hr6, hr7]
  exact src_ret ⟨(0, 0), (0, 0), false, rfl⟩ hs (o.pull [_, _])
end Go.Proofs.Shf
namespace Go.AW
theorem wk_cellN {α : Type} {w : Nat} {f : α → AV} [AggN w f] {F : Env → Heap → Prop} {σ : Env} {H0 H : Heap} {l : List (Nat × MObj)} {id sz fr id2 n fr2 : Nat} {cs : List AV} {A : List α} (k : Nat)
  (o : Owns H0 H ((id, .cells sz cs fr) :: (id2, .cells w (flat (A.map f)) fr2) :: l)) (hc : cs[k]? = some (.buf id2 n)) (hn : n = A.length)
  (hk : ∀ H', Owns H0 H' ((id, .cells sz (cs.set k (mL f A)) fr) :: l) → wkW F σ H') : wkW F σ H := by
 subst hn
 have h1 := o.h0
 have h2 := o.tl.h0
 simp only at h1 h2
 have hne : id ≠ id2 := by
  have := o.nd
  simp only [List.map_cons, List.nodup_cons, List.mem_cons, not_or] at this
  exact this.1.1
 have o2 := ((o.swap.put (.cells w (flat (A.map f)) (flat (A.map f)).length)).tl).put (.cells sz (cs.set k (mL f A)) fr)
 refine wkW_step (σ1 := σ) ?_ (hk _ o2)
 intro g B w tm hW hE
 obtain ⟨g', q1, q2, q3⟩ := hW.gaveVn h2
 refine ⟨g', q1, ?_, hE.mono q1⟩
 refine q2.recell (by rw [Heap.get_set_ne _ _ hne]; exact h1) (by simp) fun j v hj hv => ?_
 by_cases e : j = k
 ·subst e
  have e1 : cs.getD j nv = .buf id2 A.length := by rw [List.getD_eq_getElem?_getD, hc]; rfl
  have e2 : (cs.set j (mL f A)).getD j nv = mL f A := by simp [List.getD_eq_getElem?_getD, hj]
  rw [e1] at hv
  rw [e2]; exact q3 g' v (.refl _) hv
 ·have e2 : (cs.set k (mL f A)).getD j nv = cs.getD j nv := by
   rw [List.getD_eq_getElem?_getD, List.getElem?_set_ne (by omega), ← List.getD_eq_getElem?_getD]
  rw [e2]; exact hv
theorem app_listN {α : Type} {f : α → AV} {w : Nat} [h : AggN w f] {H0 H : Heap} {l : List (Nat × MObj)} {K : Kont} {id m : Nat} {out r : List α} (o : Owns H0 H ((id, .cells w (flat (out.map f)) 0) :: l)) (hn : m = out.length) (hm : (out.length + r.length) * w ≤ maxL)
  (hk : ∀ id' H', Owns H0 H' ((id', .cells w (flat ((out ++ r).map f)) 0) :: l) → K (.buf id' (out ++ r).length) H') :
  appW w (some (.buf id m)) (some (mL f r)) K H := by
 subst hn
 have h0 := o.h0
 simp only at h0
 have h2 := h.two
 simp only [appW, h0, srcOf, mL, app2]
 have hle : out.length + r.length ≤ maxL := Nat.le_trans (Nat.le_mul_of_pos_right _ (by omega)) hm
 refine ⟨⟨trivial, flat_len out, by rw [List.length_map]; exact hle, by rw [List.length_map]; exact hm, okEls_mapN r⟩, fun id' hn => ?_⟩
 have := o.mv hn (.cells w (flat ((out ++ r).map f)) 0)
 have e : flat (out.map f) ++ flat (r.map f) = flat ((out ++ r).map f) := by rw [List.map_append, flat_app]
 rw [e]
 have := hk id' _ this
 simpa using this
end Go.AW
namespace Go.Proofs.Shf
open Go.AW Go.Proofs Go.Shf
def QueryR (r : AV) : Prop := ∃ q : QS, r = .agg q.cells
def QueryS (r : AV) : Prop := ∃ q : QS, r = .agg q.cells ∧ q.v.length ≤ 3 ∧ q.l.length ≤ 3 ∧ q.r.length ≤ 3 ∧ q.o.length ≤ 3
theorem l38Some_ok (B : Nat) (c : Cat) (hc : c.Is) : Rd B 228 [.agg c.cells] QueryS := by
 intro id s H0 H hs o
 refine c228p (by simp) fun _ => ?_
 have ho := hc.1.o
 unfold s228p
 try simp only [go_sem, reduceAdd]
 refine newRef_own o fun id4 H o => ?_
 try simp only [go_sem, reduceAdd, reduceLeDiff]
 refine newRef_own o fun id5 H o => ?_
 try simp only [go_sem]
 refine stc o fun H o => ?_
 simp only [wr_cons, wr_nil, List.set_cons_zero, List.set_cons_succ] at o
 try simp only [go_sem]
 refine wk_emc 0 o rfl fun H o => wk_emc 1 o rfl fun H o => wk_emc 2 o rfl fun H o => wk_emc 3 o rfl fun H o => wkW_done ?_
 simp only [List.set_cons_zero, List.set_cons_succ] at o
 try simp only [go_sem, reduceAdd, reduceLeDiff]
 by_cases h0 : c.objs = 0
 ·rw [decide_eq_true h0]
  try simp only [go_sem]
  refine rd_celln o (by simp) ?_
  try simp only [go_sem]
  refine stc o.swap fun H o => ?_
  simp only [wr_cons, wr_nil, List.set_cons_zero, List.set_cons_succ] at o
  try simp only [go_sem]
  have hr := o.rc 4 0 (by simp)
  simp only [List.drop_zero] at hr
  rw [hr]
  exact src_ret ⟨⟨[], [], [], []⟩, rfl, by simp, by simp, by simp, by simp⟩ hs (o.pull [_, _])
 rw [decide_eq_false h0]
 try simp only [go_sem]
 refine (l01Next_ok B 3).go hs (o.pull [_, _]) fun r s H _ ⟨x, e, hx0, hx1, _⟩ hs o => ?_
 subst e
 have hx1 := hx1 (by omega)
 obtain ⟨n, hn⟩ : ∃ n : Nat, x = n := ⟨_, (Int.toNat_of_nonneg hx0).symm⟩
 subst hn
 have wx : IntKind.i64.wrap ((n : Int) + 1) = ((n + 1 : Nat) : Int) := wrap_i64 (by omega) (by omega)
 try simp only [go_sem, wx]
 refine awp_for [0, 3, 4, 5] (G := Src × List Int) (fun k _ => [(6, some (.int .i64 ((n + 1 - k : Nat) : Int)))])
  (fun k g H' => g.1.Ok ∧ g.2.length = k ∧ Owns H0 H' [(id, g.1.obj), (id5, MObj.cells 4 [iL g.2, .sl [], .sl [], .sl []] 0), (id4, MObj.cells 4 [.nilsl, .nilsl, .nilsl, .nilsl] 0)]) (n + 1) (s, []) ⟨hs, rfl, o⟩ rfl ?_
 clear o hs s
 rintro k ⟨s, v⟩ H hk ⟨hs, hv, o⟩
 replace hs : s.Ok := hs
 replace hv : v.length = k := hv
 replace o : Owns H0 H [(id, s.obj), (id5, MObj.cells 4 [iL v, .sl [], .sl [], .sl []] 0), (id4, MObj.cells 4 [.nilsl, .nilsl, .nilsl, .nilsl] 0)] := o
 try simp only [go_sem]
 refine ⟨fun h1 => At.mk ?_, fun h1 => At.mk ?_⟩
 ·have h1p : k < n + 1 := by simp at h1; omega
  have wk1 : IntKind.i64.wrap (((n + 1 - k : Nat) : Int) - 1) = ((n + 1 - (k + 1) : Nat) : Int) := by rw [wrap_i64 (by omega) (by omega)]; omega
  have o := o.swap
  try simp only [go_sem, reduceAdd]
  refine ⟨⟨_, _, o.h0⟩, rd_cells o (by simp) ?_⟩
  try simp only [go_sem, reduceAdd, reduceLeDiff]
  refine New.go' (l01Own_new B v) o fun X1 p1 H ⟨z, e1, e2⟩ o hsb => ⟨hsb, ?_⟩
  subst e1 e2
  have o : Owns H0 H [(id, s.obj), (z, .cells 1 (v.map iI) 0), (id5, MObj.cells 4 [iL v, .sl [], .sl [], .sl []] 0), (id4, MObj.cells 4 [.nilsl, .nilsl, .nilsl, .nilsl] 0)] := o.perm (permC fun x => by (try dsimp only); simp only [List.append_eq, List.count_append, List.count_cons, List.count_nil, List.map_nil, List.length_nil, List.length_append, List.length_cons, List.length_set, Nat.zero_add, List.nil_append, iI, iL]; omega)
  refine (l01Next_ok B c.objs).goZ hs o fun r s H _ ⟨y, e, _⟩ hs o hz => ⟨hz, ?_⟩
  subst e
  try simp only [go_sem, reduceAdd]
  refine app_own y o.swap rfl rfl (by simp only [maxL]; omega) fun z H o => ?_
  have o : Owns H0 H [(id5, MObj.cells 4 [iL v, .sl [], .sl [], .sl []] 0), (z, .cells 1 ((v ++ [y]).map iI) 0), (id, s.obj), (id4, MObj.cells 4 [.nilsl, .nilsl, .nilsl, .nilsl] 0)] := o.perm (permC fun x => by (try dsimp only); simp only [List.append_eq, List.count_append, List.count_cons, List.count_nil, List.map_nil, List.length_nil, List.length_append, List.length_cons, List.length_set, Nat.zero_add, List.nil_append, iI, iL]; omega)
  try simp only [go_sem, reduceAdd]
  refine stc o fun H o => ?_
  simp only [wr_cons, wr_nil, List.set_cons_zero, List.set_cons_succ] at o
  try simp only [go_sem]
  refine wk_cell (f := iI) (A := v ++ [y]) 0 o rfl (by simp) fun H o => wkW_done ?_
  simp only [List.set_cons_zero, List.set_cons_succ] at o
  try simp only [go_sem, wk1]
  exact for_next (s, v ++ [y]) h1p ⟨hs, by simp [hv], o.swap⟩ rfl
 ·have h1p : k = n + 1 := by simp at h1; omega
  have hv3 : v.length ≤ 3 := by omega
  clear h1 hk
  have o := o.swap
  try simp only [go_sem, reduceAdd]
  refine rd_cells o (by simp) ?_
  try simp only [go_sem]
  refine (l01Next_ok B 4).go hs o.swap fun r s H _ ⟨x, e, hx0, hx1, _⟩ hs o => ?_
  subst e
  have hx1 := hx1 (by omega)
  obtain ⟨n, hn⟩ : ∃ n : Nat, x = n := ⟨_, (Int.toNat_of_nonneg hx0).symm⟩
  subst hn
  try simp only [go_sem]
  refine awp_for [0, 3, 4, 5, 7] (G := Src × List (Int × Int) × List (Int × Int)) (fun k _ => [(8, some (.int .i64 ((n - k : Nat) : Int)))])
   (fun k g H' => g.1.Ok ∧ g.2.1.length ≤ k ∧ g.2.2.length ≤ k ∧ Owns H0 H' [(id5, MObj.cells 4 [iL v, mL prE g.2.1, mL prE g.2.2, .sl []] 0), (id, g.1.obj), (id4, MObj.cells 4 [.nilsl, .nilsl, .nilsl, .nilsl] 0)]) n (s, [], []) ⟨hs, Nat.le_refl _, Nat.le_refl _, o.swap⟩ rfl ?_
  clear o hs s
  rintro k ⟨s, l, r⟩ H hk ⟨hs, hl, hr, o⟩
  replace hs : s.Ok := hs
  replace hl : l.length ≤ k := hl
  replace hr : r.length ≤ k := hr
  replace o : Owns H0 H [(id5, MObj.cells 4 [iL v, mL prE l, mL prE r, .sl []] 0), (id, s.obj), (id4, MObj.cells 4 [.nilsl, .nilsl, .nilsl, .nilsl] 0)] := o
  try simp only [go_sem]
  refine ⟨fun h1 => At.mk ?_, fun h1 => At.mk ?_⟩
  ·have h1p : k < n := by simp at h1; omega
   have wk1 : IntKind.i64.wrap (((n - k : Nat) : Int) - 1) = ((n - (k + 1) : Nat) : Int) := by rw [wrap_i64 (by omega) (by omega)]; omega
   try simp only [go_sem, reduceAdd]
   refine rd_celln o (by simp) ?_
   try simp only [go_sem]
   refine (l38Match_ok B c hc ⟨v, l, r, []⟩).go hs o.swap fun res s H _ ⟨a, b, ok, e⟩ hs o => ?_
   subst e
   try simp only [go_sem, reduceAdd, reduceLT]
   refine newRef_own o fun id9 H o => ?_
   try simp only [go_sem, reduceAdd]
   refine newRef_own o fun id10 H o => ?_
   try simp only [go_sem]
   refine stc o.swap fun H o => ?_
   simp only [wr_cons, wr_nil, List.set_cons_zero, List.set_cons_succ] at o
   try simp only [go_sem]
   refine stc o.swap fun H o => ?_
   simp only [wr_cons, wr_nil, List.set_cons_zero, List.set_cons_succ] at o
   try simp only [go_sem]
   refine wk_ref 10 o rfl fun H o => wk_ref 9 o rfl fun H o => wkW_done ?_
   have o := o.swap
   cases ok
   ·try simp only [go_sem]
    refine wkW_done ?_
    try simp only [go_sem, wk1]
    exact for_next (s, l, r) h1p ⟨hs, by simp only; omega, by simp only; omega, o⟩ rfl
   ·try simp only [go_sem, reduceAdd]
    refine ⟨⟨_, _, o.h0⟩, rd_cells o (by simp) ?_⟩
    try simp only [go_sem, reduceAdd]
    refine new_listN prE o fun z H o => ?_
    try simp only [go_sem]
    refine app_listN (f := prE) (r := l) o rfl (by simp only [maxL, List.length_nil]; omega) fun z H o => ?_
    simp only [List.nil_append] at o
    try simp only [go_sem]
    refine app_ownN (f := prE) a o rfl rfl (by simp only [maxL]; omega) fun z H o => ?_
    try simp only [go_sem, reduceAdd]
    refine stc o.swap fun H o => ?_
    simp only [wr_cons, wr_nil, List.set_cons_zero, List.set_cons_succ] at o
    try simp only [go_sem, reduceAdd]
    refine ⟨⟨_, _, o.h0⟩, rd_cells o (by simp) ?_⟩
    try simp only [go_sem, reduceAdd]
    refine new_listN prE o fun z2 H o => ?_
    try simp only [go_sem]
    refine app_listN (f := prE) (r := r) o rfl (by simp only [maxL, List.length_nil]; omega) fun z2 H o => ?_
    simp only [List.nil_append] at o
    try simp only [go_sem]
    refine app_ownN (f := prE) b o rfl rfl (by simp only [maxL]; omega) fun z2 H o => ?_
    try simp only [go_sem, reduceAdd]
    refine stc o.swap fun H o => ?_
    simp only [wr_cons, wr_nil, List.set_cons_zero, List.set_cons_succ] at o
    try simp only [go_sem]
    refine wk_cellN (f := prE) (A := r ++ [b]) 2 o rfl rfl fun H o => wk_cellN (f := prE) (A := l ++ [a]) 1 o rfl rfl fun H o => wkW_done ?_
    simp only [List.set_cons_zero, List.set_cons_succ] at o
    try simp only [go_sem, wk1]
    exact for_next (s, l ++ [a], r ++ [b]) h1p ⟨hs, by simp; omega, by simp; omega, o⟩ rfl
  ·have h1p : k = n := by simp at h1; omega
   clear h1 hk
   try simp only [go_sem]
   refine (l01Next_ok B 3).go hs o.swap fun res s H _ ⟨x, e, hx0, hx1, _⟩ hs o => ?_
   subst e
   have hx1 := hx1 (by omega)
   obtain ⟨n2, hn2⟩ : ∃ n2 : Nat, x = n2 := ⟨_, (Int.toNat_of_nonneg hx0).symm⟩
   subst hn2
   try simp only [go_sem]
   refine awp_for [0, 4, 5, 7] (G := Src × List Int) (fun k _ => [(12, some (.int .i64 ((n2 - k : Nat) : Int)))])
    (fun k g H' => g.1.Ok ∧ g.2.length ≤ k ∧ Owns H0 H' [(id5, MObj.cells 4 [iL v, mL prE l, mL prE r, iL g.2] 0), (id, g.1.obj), (id4, MObj.cells 4 [.nilsl, .nilsl, .nilsl, .nilsl] 0)]) n2 (s, []) ⟨hs, Nat.le_refl _, o.swap⟩ rfl ?_
   clear o hs s
   rintro k2 ⟨s, u⟩ H hk ⟨hs, hu, o⟩
   replace hs : s.Ok := hs
   replace hu : u.length ≤ k2 := hu
   replace o : Owns H0 H [(id5, MObj.cells 4 [iL v, mL prE l, mL prE r, iL u] 0), (id, s.obj), (id4, MObj.cells 4 [.nilsl, .nilsl, .nilsl, .nilsl] 0)] := o
   try simp only [go_sem]
   refine ⟨fun h1 => At.mk ?_, fun h1 => At.mk ?_⟩
   ·have h2p : k2 < n2 := by simp at h1; omega
    have wk1 : IntKind.i64.wrap (((n2 - k2 : Nat) : Int) - 1) = ((n2 - (k2 + 1) : Nat) : Int) := by rw [wrap_i64 (by omega) (by omega)]; omega
    try simp only [go_sem, reduceAdd]
    refine rd_cells o (by simp) ?_
    try simp only [go_sem]
    refine (l01Own_new B u).call o fun X1 p1 H ⟨z, e1, e2⟩ o => ?_
    subst e1 e2
    have o : Owns H0 H [(id, s.obj), (z, .cells 1 (u.map iI) 0), (id5, MObj.cells 4 [iL v, mL prE l, mL prE r, iL u] 0), (id4, MObj.cells 4 [.nilsl, .nilsl, .nilsl, .nilsl] 0)] := o.perm (permC fun x => by (try dsimp only); simp only [List.append_eq, List.count_append, List.count_cons, List.count_nil, List.map_nil, List.length_nil, List.length_append, List.length_cons, List.length_set, Nat.zero_add, List.nil_append, iI, iL]; omega)
    try simp only [go_sem]
    refine (l01Next_ok B v.length).go hs o fun res s H _ ⟨y, e, _⟩ hs o => ?_
    subst e
    try simp only [go_sem, reduceAdd]
    refine app_own y o.swap rfl rfl (by simp only [maxL]; omega) fun z H o => ?_
    have o : Owns H0 H [(id5, MObj.cells 4 [iL v, mL prE l, mL prE r, iL u] 0), (z, .cells 1 ((u ++ [y]).map iI) 0), (id, s.obj), (id4, MObj.cells 4 [.nilsl, .nilsl, .nilsl, .nilsl] 0)] := o.perm (permC fun x => by (try dsimp only); simp only [List.append_eq, List.count_append, List.count_cons, List.count_nil, List.map_nil, List.length_nil, List.length_append, List.length_cons, List.length_set, Nat.zero_add, List.nil_append, iI, iL]; omega)
    try simp only [go_sem, reduceAdd]
    refine stc o fun H o => ?_
    simp only [wr_cons, wr_nil, List.set_cons_zero, List.set_cons_succ] at o
    try simp only [go_sem]
    refine wk_cell (f := iI) (A := u ++ [y]) 3 o rfl (by simp) fun H o => wkW_done ?_
    simp only [List.set_cons_zero, List.set_cons_succ] at o
    try simp only [go_sem, wk1]
    exact for_next (s, u ++ [y]) h2p ⟨hs, by simp; omega, o⟩ rfl
   ·have h2p : k2 = n2 := by simp at h1; omega
    try simp only [go_sem]
    refine rd_celln o (by simp) ?_
    try simp only [go_sem]
    refine stc (o.pull [_, _]) fun H o => ?_
    simp only [wr_cons, wr_nil, List.set_cons_zero, List.set_cons_succ] at o
    try simp only [go_sem]
    have hrr := o.rc 4 0 (by simp)
    simp only [List.drop_zero] at hrr
    rw [hrr]
    exact src_ret ⟨⟨v, l, r, u⟩, rfl, hv3, by simp only; omega, by simp only; omega, by simp only; omega⟩ hs (o.pull [_, _])
end Go.Proofs.Shf
namespace Go.Proofs.Shf
open Go.AW Go.Proofs Go.Shf
theorem l38Draw_ok (B : Nat) (c : Cat) : Rd B 111 [.agg c.cells] QueryR := by
 intro id s H0 H hs o
 refine c111p (by simp) fun _ => ?_
 unfold s111p
 try simp only [go_sem, reduceAdd]
 refine newRef_own o fun id4 H o => ?_
 try simp only [go_sem, reduceAdd]
 refine (l02Is_ok B c).go fun _ => ?_
 by_cases hc : c.Is
 rotate_left 1
 ·rw [dec_f hc]
  try simp only [go_sem]
  refine stc o fun H o => ?_
  simp only [wr_cons, wr_nil, List.set_cons_zero, List.set_cons_succ] at o
  try simp only [go_sem]
  refine wk_nils _ [] H o fun H o => wkW_done ?_
  have hrr := o.rc 4 0 (by simp)
  simp only [List.drop_zero] at hrr
  try simp only [go_sem]
  rw [hrr]
  exact src_ret ⟨⟨[], [], [], []⟩, rfl⟩ hs o.swap
 rw [dec_t hc]
 have ho := hc.1.o
 try simp only [go_sem, reduceAdd]
 refine (l38Some_ok B c hc).go hs o.swap fun res s H hfi ⟨q, e, hqv, hql, hqr, hqo⟩ hs o => ?_
 subst e
 try simp only [go_sem, reduceAdd]
 refine newRef_own o fun id5 H o => ?_
 try simp only [go_sem]
 refine stc o fun H o => ?_
 simp only [wr_cons, wr_nil, List.set_cons_zero, List.set_cons_succ] at o
 try simp only [go_sem]
 refine (l01Next_ok B 40).go hs o.swap fun res s H _ ⟨x, e, hx0, hx1, _⟩ hs o => ?_
 subst e
 try simp only [go_sem]
 by_cases x0 : x = 0
 ·rw [decide_eq_true x0]
  try simp only [go_sem, reduceAdd]
  have o := o.swap
  refine ⟨⟨_, _, o.h0⟩, rd_cells o (by simp) ?_⟩
  try simp only [go_sem, reduceAdd, reduceLeDiff]
  refine New.go' (l01Own_new B q.v) o fun X1 p1 H ⟨z, e1, e2⟩ o hsb => ⟨hsb, ?_⟩
  subst e1 e2
  have o : Owns H0 H [(id, s.obj), (z, .cells 1 (q.v.map iI) 0), (id5, MObj.cells 4 [iL q.v, mL prE q.l, mL prE q.r, iL q.o] 0), (id4, MObj.cells 4 [.nilsl, .nilsl, .nilsl, .nilsl] 0)] := o.perm (permC fun x => by (try dsimp only); simp only [List.append_eq, List.count_append, List.count_cons, List.count_nil, List.map_nil, List.length_nil, List.length_append, List.length_cons, List.length_set, Nat.zero_add, List.nil_append, iI, iL]; omega)
  refine (l02Number_ok B c.objs).goZ hs o fun r s H _ ⟨y, e⟩ hs o hz => ⟨hz, ?_⟩
  subst e
  try simp only [go_sem, reduceAdd]
  refine app_own y o.swap rfl rfl (by simp only [maxL]; omega) fun z H o => ?_
  have o : Owns H0 H [(id5, MObj.cells 4 [iL q.v, mL prE q.l, mL prE q.r, iL q.o] 0), (z, .cells 1 ((q.v ++ [y]).map iI) 0), (id, s.obj), (id4, MObj.cells 4 [.nilsl, .nilsl, .nilsl, .nilsl] 0)] := o.perm (permC fun x => by (try dsimp only); simp only [List.append_eq, List.count_append, List.count_cons, List.count_nil, List.map_nil, List.length_nil, List.length_append, List.length_cons, List.length_set, Nat.zero_add, List.nil_append, iI, iL]; omega)
  try simp only [go_sem, reduceAdd]
  refine stc o fun H o => ?_
  simp only [wr_cons, wr_nil, List.set_cons_zero, List.set_cons_succ] at o
  try simp only [go_sem]
  refine wk_cell (f := iI) (A := q.v ++ [y]) 0 o rfl (by simp) fun H o => wkW_done ?_
  simp only [List.set_cons_zero, List.set_cons_succ] at o
  try simp only [go_sem]
  refine rd_celln o (by simp) ?_
  try simp only [go_sem]
  refine stc (o.pull [_, _]) fun H o => ?_
  simp only [wr_cons, wr_nil, List.set_cons_zero, List.set_cons_succ] at o
  try simp only [go_sem]
  refine wkW_done ?_
  have hrr := o.rc 4 0 (by simp)
  simp only [List.drop_zero] at hrr
  try simp only [go_sem]
  rw [hrr]
  exact src_ret ⟨⟨q.v ++ [y], q.l, q.r, q.o⟩, rfl⟩ hs (o.pull [_, _])
 rw [decide_eq_false x0]
 try simp only [go_sem]
 by_cases x1 : x = 1
 ·rw [decide_eq_true x1]
  try simp only [go_sem, reduceAdd]
  have o := o.swap
  refine ⟨⟨_, _, o.h0⟩, rd_cells o (by simp) ?_⟩
  try simp only [go_sem, reduceAdd]
  refine ⟨⟨_, _, o.h0⟩, rd_cells o (by simp) ?_⟩
  try simp only [go_sem, reduceAdd]
  refine New.go' (l01Own_new B q.o) o fun X1 p1 H ⟨z, e1, e2⟩ o hsb => ⟨hsb, ?_⟩
  subst e1 e2
  have o : Owns H0 H [(id, s.obj), (z, .cells 1 (q.o.map iI) 0), (id5, MObj.cells 4 [iL q.v, mL prE q.l, mL prE q.r, iL q.o] 0), (id4, MObj.cells 4 [.nilsl, .nilsl, .nilsl, .nilsl] 0)] := o.perm (permC fun x => by (try dsimp only); simp only [List.append_eq, List.count_append, List.count_cons, List.count_nil, List.map_nil, List.length_nil, List.length_append, List.length_cons, List.length_set, Nat.zero_add, List.nil_append, iI, iL]; omega)
  refine (l02Number_ok B q.v.length).goZ hs o fun r s H _ ⟨y, e⟩ hs o hz => ⟨hz, ?_⟩
  subst e
  try simp only [go_sem, reduceAdd]
  refine app_own y o.swap rfl rfl (by simp only [maxL]; omega) fun z H o => ?_
  have o : Owns H0 H [(id5, MObj.cells 4 [iL q.v, mL prE q.l, mL prE q.r, iL q.o] 0), (z, .cells 1 ((q.o ++ [y]).map iI) 0), (id, s.obj), (id4, MObj.cells 4 [.nilsl, .nilsl, .nilsl, .nilsl] 0)] := o.perm (permC fun x => by (try dsimp only); simp only [List.append_eq, List.count_append, List.count_cons, List.count_nil, List.map_nil, List.length_nil, List.length_append, List.length_cons, List.length_set, Nat.zero_add, List.nil_append, iI, iL]; omega)
  try simp only [go_sem, reduceAdd]
  refine stc o fun H o => ?_
  simp only [wr_cons, wr_nil, List.set_cons_zero, List.set_cons_succ] at o
  try simp only [go_sem]
  refine wk_cell (f := iI) (A := q.o ++ [y]) 3 o rfl (by simp) fun H o => wkW_done ?_
  simp only [List.set_cons_zero, List.set_cons_succ] at o
  try simp only [go_sem]
  refine rd_celln o (by simp) ?_
  try simp only [go_sem]
  refine stc (o.pull [_, _]) fun H o => ?_
  simp only [wr_cons, wr_nil, List.set_cons_zero, List.set_cons_succ] at o
  try simp only [go_sem]
  refine wkW_done ?_
  have hrr := o.rc 4 0 (by simp)
  simp only [List.drop_zero] at hrr
  try simp only [go_sem]
  rw [hrr]
  exact src_ret ⟨⟨q.v, q.l, q.r, q.o ++ [y]⟩, rfl⟩ hs (o.pull [_, _])
 rw [decide_eq_false x1]
 try simp only [go_sem]
 by_cases x2 : x = 2
 ·rw [decide_eq_true x2]
  try simp only [go_sem]
  refine new_listN prE o fun z H o => ?_
  try simp only [go_sem, reduceAdd]
  have o := o.pull [_, _]
  refine rd_cells o (by simp) ?_
  try simp only [go_sem]
  refine app_listN (f := prE) (r := q.l) o.swap rfl (by simp only [maxL, List.length_nil]; omega) fun z H o => ?_
  simp only [List.nil_append] at o
  try simp only [go_sem]
  refine (l01Next_ok B 3).go hs (o.pull [_, _]) fun res s H _ ⟨y1, e, _⟩ hs o => ?_
  subst e
  try simp only [go_sem]
  refine (l01Next_ok B 4).go hs o fun res s H _ ⟨y2, e, _⟩ hs o => ?_
  subst e
  try simp only [go_sem, reduceAdd, reduceLeDiff]
  refine app_ownN (f := prE) (y1, y2) o.swap rfl rfl (by simp only [maxL]; omega) fun z H o => ?_
  try simp only [go_sem, reduceAdd]
  refine stc (o.pull [_, _]) fun H o => ?_
  simp only [wr_cons, wr_nil, List.set_cons_zero, List.set_cons_succ] at o
  try simp only [go_sem]
  refine new_listN prE o fun z2 H o => ?_
  try simp only [go_sem, reduceAdd]
  refine rd_cells o.swap (by simp) ?_
  try simp only [go_sem]
  refine app_listN (f := prE) (r := q.r) o rfl (by simp only [maxL, List.length_nil]; omega) fun z2 H o => ?_
  simp only [List.nil_append] at o
  try simp only [go_sem]
  refine (l01Next_ok B 3).go hs (o.pull [_, _, _]) fun res s H _ ⟨y3, e, _⟩ hs o => ?_
  subst e
  try simp only [go_sem]
  refine (l01Next_ok B 4).go hs o fun res s H _ ⟨y4, e, _⟩ hs o => ?_
  subst e
  try simp only [go_sem, reduceAdd, reduceLeDiff]
  refine app_ownN (f := prE) (y3, y4) o.swap rfl rfl (by simp only [maxL]; omega) fun z2 H o => ?_
  try simp only [go_sem, reduceAdd]
  refine stc (o.pull [_, _]) fun H o => ?_
  simp only [wr_cons, wr_nil, List.set_cons_zero, List.set_cons_succ] at o
  try simp only [go_sem]
  refine wk_cellN (f := prE) (A := q.r ++ [(y3, y4)]) 2 o rfl (by simp) fun H o => wk_cellN (f := prE) (A := q.l ++ [(y1, y2)]) 1 (o.perm (.cons _ (.swap _ _ _))) rfl (by simp) fun H o => wkW_done ?_
  simp only [List.set_cons_zero, List.set_cons_succ] at o
  try simp only [go_sem]
  refine rd_celln o (by simp) ?_
  try simp only [go_sem]
  refine stc (o.pull [_, _]) fun H o => ?_
  simp only [wr_cons, wr_nil, List.set_cons_zero, List.set_cons_succ] at o
  try simp only [go_sem]
  refine wkW_done ?_
  have hrr := o.rc 4 0 (by simp)
  simp only [List.drop_zero] at hrr
  try simp only [go_sem]
  rw [hrr]
  exact src_ret ⟨⟨q.v, q.l ++ [(y1, y2)], q.r ++ [(y3, y4)], q.o⟩, rfl⟩ hs (o.pull [_, _])
 rw [decide_eq_false x2]
 try simp only [go_sem]
 have o := o.swap
 refine wkW_done ?_
 try simp only [go_sem]
 refine rd_celln o (by simp) ?_
 try simp only [go_sem]
 refine stc (o.pull [_, _]) fun H o => ?_
 simp only [wr_cons, wr_nil, List.set_cons_zero, List.set_cons_succ] at o
 try simp only [go_sem]
 refine wkW_done ?_
 have hrr := o.rc 4 0 (by simp)
 simp only [List.drop_zero] at hrr
 try simp only [go_sem]
 rw [hrr]
 exact src_ret ⟨q, rfl⟩ hs (o.pull [_, _])
end Go.Proofs.Shf
