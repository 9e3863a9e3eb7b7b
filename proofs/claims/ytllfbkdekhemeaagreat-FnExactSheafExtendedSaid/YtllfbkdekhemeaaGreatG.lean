/- The laws over abstract values. -/
import Derived.Test.YtllfbkdekhemeaaGreatF6
import Derived.Test.YtllfbkdekhemeaaGreatProg
import Derived.Recover
import Derived.Tactics
import Derived.Deep.Slices
import Derived.SizedLaws
set_option linter.unusedVariables false
set_option linter.unusedSimpArgs false
set_option linter.unusedSectionVars false
set_option maxRecDepth 100000
open Nat (reduceEqDiff reduceAdd reduceMul reduceLeDiff reduceLT)
namespace Go.AW
theorem New.go {P : Program} {B : Nat} {fn : FuncId} {args : List AV} {O : Ob → AV → Prop} {H0 H : Heap} {l : Ob} {K : Kont} (h : New P B fn args O) (o : Owns H0 H l) (hk : ∀ r p H', O p r → Owns H0 H' (p ++ l) → H.sub H' → K r H') : CallH P B fn args H K :=
 (h.run H).mono fun r H' ⟨p, q1, q2⟩ => hk r p H' q1 (o.trans q2) q2.sub
theorem Owns.last {H0 H : Heap} {q : Ob} {x : Nat × MObj} (o : Owns H0 H (q ++ [x])) : Owns H0 H (x :: q) := o.perm List.perm_append_comm
end Go.AW
namespace Go.Proofs.Shf
open Go.AW Go.Proofs Go.Shf
theorem perm_rev3 (a b c : Ob) : (c ++ (b ++ a)).Perm (a ++ (b ++ c)) := by
 refine List.perm_append_comm.trans ?_; rw [← List.append_assoc]; exact List.Perm.append_right c List.perm_append_comm
theorem perm_rev4 (a b c d : Ob) : (d ++ (c ++ (b ++ a))).Perm (a ++ (b ++ (c ++ d))) := by
 refine List.perm_append_comm.trans ?_; have := List.Perm.append_right d (perm_rev3 a b c); simpa only [List.append_assoc] using this
theorem clone_new (B : Nat) (l : List Int) : New Tryz.prog B 141 [iL l] fun p X => OL p X l :=
 ⟨fun H => (clone_own B l H H [] (.nil H)).mono fun r H' ⟨id, A, e, o, q⟩ => by
  subst e q; exact ⟨_, .inr ⟨id, _, [], rfl, by simp, rowsI _⟩, o⟩⟩
theorem clones_new (B : Nat) (l : List (List Int)) : New Tryz.prog B 106 [iLL l] fun p X => OLL p X l := by
 refine ⟨fun H0 => c106p (by simp) fun ⟨hf, _⟩ => ?_⟩; have hl := fine_mL_le hf; simp only [maxL] at hl; unfold s106p; simp only [go_sem, reduceAdd]; refine ⟨by simp only [maxL]; omega, newBuf_own (.nil _) fun id H o => ?_⟩; simp only [go_sem]; refine awp_for [9, 10] (G := AV × Ob) (fun k g => [(3, some g.1), (11, some (.int .i64 (k : Int)))])
  (fun k g H => OLL g.2 g.1 (l.take k) ∧ Owns H0 H (g.2 ++ [])) l.length (.buf id 0, [(id, .cells 1 [] 0)]) ⟨.inr ⟨id, [], [], rfl, rfl, .nil⟩, o⟩ rfl ?_
 clear o; rintro k ⟨X, q⟩ H hk ⟨hX, o⟩; replace hX : OLL q X (l.take k) := hX; replace o : Owns H0 H (q ++ []) := o; simp only [go_sem]; refine ⟨fun h1 => At.mk ?_, fun h1 => At.mk ?_⟩
 ·have h1p := of_decide h1; have w := wsucc (k := k) (by omega); simp only [go_sem]; refine ⟨h1p, ?_⟩; refine (clone_new B (l.getD k default)).go o fun Y p H hY o _ => ?_; have hY1 := hY.one; simp only [go_sem, reduceAdd]; refine ⟨by simp [okEls, AV.cells_one hY1, hY1], ?_⟩; refine hX.app hY ⟨AV.cells_one hY1, hY1⟩ o (by rw [List.length_take]; simp only [maxL]; omega) fun X' q' H hX1 hX' o => ?_; simp only [go_sem, w]; refine for_next (X', q') h1p ⟨?_, o⟩ rfl; simp only; rw [take_succ_getD l h1p]; exact hX'
 ·have h1p := of_ndecide h1; obtain rfl : k = l.length := by omega
  rw [List.take_length] at hX; rw [List.append_nil] at o; simp only [go_sem]; exact ⟨H, .refl H, q, hX, o⟩
theorem catCopy_new (B : Nat) (c : Cat) : New Tryz.prog B 99 [.ptr c.cells] fun p X => OCat p X c := by
 refine ⟨fun H0 => c99p (by simp) fun _ => ?_⟩; unfold s99p; simp only [go_sem, reduceAdd]; refine ⟨by simp [maxL], newRef_own (.nil _) fun id H o => ?_⟩; simp only [go_sem, reduceAdd, reduceLeDiff]; refine (clone_new B c.frm).go o fun X1 p1 H q1 o hs => ⟨hs, ?_⟩; refine (clone_new B c.to).go o fun X2 p2 H q2 o hs => ⟨hs, ?_⟩; refine (clone_new B c.idn).go o fun X3 p3 H q3 o hs => ⟨hs, ?_⟩; refine (clones_new B c.comp).go o fun X4 p4 H q4 o hs => ⟨hs, ?_⟩; have v1 := q1.one; have v2 := q2.one; have v3 := q3.one; have v4 := q4.one; simp only [go_sem, reduceAdd, reduceLeDiff, AV.cells_one v1, AV.cells_one v2, AV.cells_one v3, AV.cells_one v4]; have o := Owns.last (q := p4 ++ (p3 ++ (p2 ++ p1))) (by simpa only [List.append_assoc] using o); refine st_cells o (by simp) rfl (by simp only [memcons, memnil]; exact ⟨rfl, v1, v2, v3, v4, trivial⟩) fun H o => ?_; simp only [wr_cons, wr_nil, sZ, sY] at o; simp only [go_sem]; have hr := o.rc 5 0 (by simp); simp only [List.drop_zero] at hr; rw [hr]; exact ⟨H, .refl H, _, ⟨X1, X2, X3, X4, p1, p2, p3, p4, rfl, rfl, q1, q2, q3, q4⟩, o.tl.perm (perm_rev4 _ _ _ _)⟩
theorem sfCopy_new (B : Nat) (f : SF) : New Tryz.prog B 105 [.ptr f.cells] fun p X => OSF p X f := by
 refine ⟨fun H0 => c105p (by simp) fun _ => ?_⟩; unfold s105p; simp only [go_sem, reduceAdd]; refine ⟨by simp [maxL], newRef_own (.nil _) fun id H o => ?_⟩; simp only [go_sem, reduceAdd, reduceLeDiff]; refine (catCopy_new B f.shape).go o fun Z p1 H q1 o hs => ⟨hs, ?_⟩; refine (clone_new B f.sizes).go o fun X5 p2 H q2 o hs => ⟨hs, ?_⟩; refine (clones_new B f.acts).go o fun X6 p3 H q3 o hs => ⟨hs, ?_⟩; have v5 := q2.one; have v6 := q3.one; obtain ⟨X1, X2, X3, X4, a1, a2, a3, a4, rfl, rfl, b1, b2, b3, b4⟩ := q1; have v1 := b1.one; have v2 := b2.one; have v3 := b3.one; have v4 := b4.one; simp only [go_sem, reduceAdd, reduceLeDiff, AV.cells_one v5, AV.cells_one v6]; have o := Owns.last (q := p3 ++ (p2 ++ (a1 ++ (a2 ++ (a3 ++ a4))))) (by simpa only [List.append_assoc] using o); refine st_cells o (by simp) rfl (by simp only [memcons, memnil]; exact ⟨rfl, v1, v2, v3, v4, v5, v6, trivial⟩) fun H o => ?_; simp only [wr_cons, wr_nil, sZ, sY] at o; simp only [go_sem]; have hr := o.rc 7 0 (by simp); simp only [List.drop_zero] at hr; rw [hr]; refine ⟨H, .refl H, _, ⟨X1, X2, X3, X4, X5, X6, a1, a2, a3, a4, p2, p3, rfl, rfl, b1, b2, b3, b4, q2, q3⟩, ?_⟩; have o := o.tl.perm (perm_rev3 _ _ _); simpa only [List.append_assoc] using o
theorem OSF.seven {p : Ob} {X : AV} {f : SF} (h : OSF p X f) : ∃ X1 X2 X3 X4 X5 X6, X = .agg [iI f.shape.objs, X1, X2, X3, X4, X5, X6] ∧ X1.one = true ∧ X2.one = true ∧ X3.one = true ∧ X4.one = true ∧ X5.one = true ∧ X6.one = true := by
 obtain ⟨X1, X2, X3, X4, X5, X6, a1, a2, a3, a4, a5, a6, rfl, rfl, b1, b2, b3, b4, b5, b6⟩ := h; exact ⟨_, _, _, _, _, _, rfl, b1.one, b2.one, b3.one, b4.one, b5.one, b6.one⟩
theorem setMap_new (B : Nat) (f g : SF) (t : List (List Int)) : New Tryz.prog B 67 [.ptr f.cells, .ptr g.cells, iLL t] fun p X => OSM p X ⟨f, g, t⟩ := by
 refine ⟨fun H0 => c67 (by simp) fun _ => ?_⟩; unfold s67; simp only [go_sem, reduceAdd]; refine ⟨by simp [maxL], newRef_own (.nil _) fun id H o => ?_⟩; simp only [go_sem]; refine (sfCopy_new B f).go o fun Z p1 H q1 o _ => ?_; simp only [go_sem]; refine (sfCopy_new B g).go o fun Y p2 H q2 o _ => ?_; simp only [go_sem]; refine (clones_new B t).go o fun W p3 H q3 o _ => ?_; obtain ⟨X1, X2, X3, X4, X5, X6, rfl, u1, u2, u3, u4, u5, u6⟩ := OSF.seven q1; obtain ⟨Y1, Y2, Y3, Y4, Y5, Y6, rfl, v1, v2, v3, v4, v5, v6⟩ := OSF.seven q2; have w := q3.one; simp only [go_sem, reduceAdd, reduceLeDiff, AV.cells_one w]; have o := Owns.last (q := p3 ++ (p2 ++ p1)) (by simpa only [List.append_assoc] using o); refine st_cells o (by simp) rfl (by simp only [memcons, memnil]; exact ⟨rfl, u1, u2, u3, u4, u5, u6, rfl, v1, v2, v3, v4, v5, v6, w, trivial⟩) fun H o => ?_; simp only [wr_cons, wr_nil, sZ, sY] at o; simp only [go_sem]; have hr := o.rc 15 0 (by simp); simp only [List.drop_zero] at hr; rw [hr]; exact ⟨H, .refl H, _, ⟨[_, X1, X2, X3, X4, X5, X6], [_, Y1, Y2, Y3, Y4, Y5, Y6], W, p1, p2, p3, rfl, rfl, q1, q2, q3⟩, o.tl.perm (perm_rev3 _ _ _)⟩
end Go.Proofs.Shf
namespace Go.Shf
open Go.AW Go.Proofs.Shf
theorem leastV_eq {j : Top} (hF : j.Form) (hf : AllFew j.shape) : leastV (covV j) = leastL j.shape j.covers := by
 have hcv := form_covers hF hf; have hml : (covV j).marks.length = (listsOf j.shape).length := marks_len; rw [leastV, leastL, hml, hcv.1]; apply List.map_congr_left; intro x hx; have hx' : x < (listsOf j.shape).length := by have := List.mem_range.mp hx; omega
 rw [leastM, leastAt]; apply List.filter_congr; intro a ha; have hsv : (covV j).sieves = listsOf j.shape := rfl; have hmr : (covV j).marks.getD x default = ((listsOf j.shape).getD x default).map fun s => decide (s ∈ j.covers.getD x default) := marks_get hx'; rw [hsv, hmr, List.length_map, leastP, Bool.eq_iff_iff, chkP, List.all_eq_true, dT]
 constructor
 ·intro h s hs; obtain ⟨n, hn, rfl⟩ := mem_getD.mp (hcv.2 x hx' s hs).2; have := h n (List.mem_range.mpr hn); rw [map_getD _ hn] at this; simp only [Bool.or_eq_true, Bool.not_eq_true', dT, dF] at this; exact this.resolve_left fun e => e hs
 ·intro h n hn; have hn := List.mem_range.mp hn; rw [map_getD _ hn]; by_cases hs : ((listsOf j.shape).getD x default).getD n default ∈ j.covers.getD x default
  ·simp only [Bool.or_eq_true, dT]; exact .inr (h _ hs)
  ·simp only [Bool.or_eq_true, Bool.not_eq_true', dF]; exact .inl hs
def zSF : SF := ⟨⟨0, [], [], [], []⟩, [], []⟩
def zSM : SM := ⟨zSF, zSF, []⟩
theorem zSF_own : OSF [] (.agg [.int .i64 0, .nilsl, .nilsl, .nilsl, .nilsl, .nilsl, .nilsl]) zSF :=
 ⟨.nilsl, .nilsl, .nilsl, .nilsl, .nilsl, .nilsl, [], [], [], [], [], [], rfl, rfl, .inl ⟨rfl, rfl, rfl⟩, .inl ⟨rfl, rfl, rfl⟩, .inl ⟨rfl, rfl, rfl⟩, .inl ⟨rfl, rfl, rfl⟩, .inl ⟨rfl, rfl, rfl⟩, .inl ⟨rfl, rfl, rfl⟩⟩
theorem zSM_own : OSM [] (.agg [.int .i64 0, .nilsl, .nilsl, .nilsl, .nilsl, .nilsl, .nilsl, .int .i64 0, .nilsl, .nilsl, .nilsl, .nilsl, .nilsl, .nilsl, .nilsl]) zSM :=
 ⟨[_, _, _, _, _, _, _], [_, _, _, _, _, _, _], .nilsl, [], [], [], rfl, rfl, zSF_own, zSF_own, .inl ⟨rfl, rfl, rfl⟩⟩
end Go.Shf
namespace Go.AW
def OTc {α : Type} (O : Ob → AV → α → Prop) (code : Int) (p : Ob) (X : AV) (a : α) : Prop := ∃ Y, X = .tup [Y, .int .i64 code] ∧ O p Y a
theorem Ow.tupc {α : Type} {O : Ob → AV → α → Prop} {f : α → AV} (h : Ow O f) (code : Int) : Ow (OTc O code) fun a => .tup [f a, .int .i64 code] :=
 (Ow.tup fun a => [f a, .int .i64 code]).of fun p X a ⟨Y, e, hY⟩ => ⟨_, e, by
  have := Flds.cons h hY (fldI code .nil); rw [List.append_nil] at this; exact this⟩
end Go.AW
namespace Go.Proofs.Shf
open Go.AW Go.Proofs Go.Shf
theorem OSM.fifteen {p : Ob} {X : AV} {m : SM} (h : OSM p X m) : ∃ Xs, X = .agg Xs ∧ Xs.length = 15 ∧ ∀ c, c ∈ Xs → c.one = true := by
 obtain ⟨Xs, Ys, Z, p1, p2, p3, rfl, rfl, h1, h2, h3⟩ := h; obtain ⟨X1, X2, X3, X4, X5, X6, e, u1, u2, u3, u4, u5, u6⟩ := OSF.seven h1; obtain ⟨Y1, Y2, Y3, Y4, Y5, Y6, e2, v1, v2, v3, v4, v5, v6⟩ := OSF.seven h2; injection e with e
 injection e2 with e2
 subst e e2; refine ⟨_, rfl, rfl, ?_⟩; simp only [List.cons_append, List.nil_append, memcons, memnil]; exact ⟨rfl, u1, u2, u3, u4, u5, u6, rfl, v1, v2, v3, v4, v5, v6, h3.one, trivial⟩
theorem len15 {l : List AV} (h : l.length = 15) : ∃ a b c d e f g h i j k m n o p, l = [a, b, c, d, e, f, g, h, i, j, k, m, n, o, p] := by
 match l, h with
 | [a, b, c, d, e, f, g, h, i, j, k, m, n, o, p], _ => exact ⟨a, b, c, d, e, f, g, h, i, j, k, m, n, o, p, rfl⟩
end Go.Proofs.Shf
namespace Go.Shf
open Go.AW
def TwoFew (f : SF) (V : List (List Int)) : Prop := StepFew f V ∧ StepFew (stepSF f V) V
end Go.Shf
namespace Go.Proofs.Shf
open Go.AW Go.Proofs Go.Shf
open Classical in
noncomputable def bothB (f : SF) (V : List (List Int)) : List AV := if TwoFew f V then stepCells (stepSF f V) V else tabZ
theorem stepA8 (f : SF) (V : List (List Int)) : ∃ a1 a2 a3 a4 a5 a6 a7 a8, stepA f V = [a1, a2, a3, a4, a5, a6, a7, a8] ∧ ∀ c, c ∈ [a1, a2, a3, a4, a5, a6, a7, a8] → c.one = true := by
 unfold stepA
 split
 ·exact ⟨_, _, _, _, _, _, _, _, rfl, by simp only [memcons, memnil]; exact ⟨rfl, rfl, rfl, rfl, rfl, rfl, rfl, rfl, trivial⟩⟩
 ·exact ⟨_, _, _, _, _, _, _, _, rfl, by simp only [memcons, memnil]; exact ⟨rfl, rfl, rfl, rfl, rfl, rfl, rfl, rfl, trivial⟩⟩
theorem l28Both_ok (B : Nat) (f : SF) (h : f.Shape) (V : List (List Int)) (c : CovOk f.shape V) : Pur Tryz.prog B 94 [.agg f.cells, iLL V] (.tup [.agg (stepA f V), .agg (bothB f V), .bool (dec (TwoFew f V))]) := by
 refine ⟨fun H0 => c94p (by simp) fun hfi => ?_⟩; unfold s94p; simp only [go_sem, reduceAdd]; refine ⟨by simp [maxL], newRef_own (.nil _) fun id4 H o => ?_⟩; simp only [go_sem, reduceAdd]; refine ⟨by simp [maxL], newRef_own o fun id5 H o => ?_⟩; simp only [go_sem, reduceAdd]; refine (l28Make_ok B f h V c).go fun _ => ?_; by_cases h1 : StepFew f V
 ·rw [stepA_t h1, dec_t h1]; simp only [go_sem, reduceAdd, reduceLT]; refine ⟨by simp [maxL], newRef_own o fun id7 H o => ?_⟩; simp only [go_sem]; refine st_cells o (by simp) (by (simp only [go_sem]); (try simp)) (by first | (simp only [go_sem]; done) | ((simp only [go_sem]); simp [AV.one, one_mL])) fun H o => ?_; simp only [wr_cons, wr_nil, sZ, sY] at o; simp only [go_sem, reduceAdd]; refine rd_celln o (by simp) ?_; simp only [go_sem]; refine (l28Make_ok B (stepSF f V) (step_shape h c h1) V c).go fun _ => ?_; obtain ⟨a1, a2, a3, a4, a5, a6, a7, a8, hA, h8⟩ := stepA8 (stepSF f V) V; have hB : bothB f V = [a1, a2, a3, a4, a5, a6, a7, a8] := by
   rw [← hA, bothB, stepA]; by_cases h2 : StepFew (stepSF f V) V
   ·rw [if_pos ⟨h1, h2⟩, if_pos h2]
   ·rw [if_neg (fun e => h2 e.2), if_neg h2]
  have hD : dec (TwoFew f V) = dec (StepFew (stepSF f V) V) := by
   by_cases h2 : StepFew (stepSF f V) V
   ·rw [dec_t h2, dec_t ⟨h1, h2⟩]
   ·rw [dec_f h2, dec_f (fun e => h2 e.2)]
  rw [hA, hB, hD]; simp only [go_sem, reduceAdd, reduceLT]; refine ⟨by simp [maxL], newRef_own o fun id9 H o => ?_⟩; simp only [go_sem]; refine st_cells o (by simp) (by (simp only [go_sem]); (try simp)) h8 fun H o => ?_; simp only [wr_cons, wr_nil, sZ, sY] at o; simp only [go_sem]; refine wk_ref 9 o rfl fun H o => ?_; refine wk_ref 7 o rfl fun H o => wkW_done ?_; simp only [go_sem, reduceAdd]; refine st_cells o.swap (by simp) (by (simp only [go_sem]); (try simp)) (by first | (simp only [go_sem]; done) | ((simp only [go_sem]); simp [AV.one, one_mL])) fun H o => ?_; simp only [wr_cons, wr_nil, sZ, sY] at o; simp only [go_sem]; refine st_cells o.swap (by simp) (by (simp only [go_sem]); (try simp)) h8 fun H o => ?_; simp only [wr_cons, wr_nil, sZ, sY] at o; simp only [go_sem]; have hr := o.swap.rc 8 0 (by simp); have hr2 := o.rc 8 0 (by simp); simp only [List.drop_zero] at hr hr2; rw [hr, hr2]; exact pure_ret rfl o.sub
 ·have hB : bothB f V = tabZ := by rw [bothB, if_neg (fun e => h1 e.1)]
  rw [stepA_f h1, dec_f h1, hB, dec_f (fun e => h1 e.1)]; simp only [go_sem, reduceAdd, reduceLT]; refine ⟨by simp [maxL], newRef_own o fun id7 H o => ?_⟩; simp only [go_sem]; refine st_cells o (by simp) (by (simp only [go_sem]); (try simp)) (by first | (simp only [go_sem]; done) | ((simp only [go_sem]); simp [AV.one, one_mL])) fun H o => ?_; simp only [wr_cons, wr_nil, sZ, sY] at o; simp only [go_sem]; refine st_cells o.tl.swap (by simp) (by (simp only [go_sem]); (try simp)) (by first | (simp only [go_sem]; done) | ((simp only [go_sem]); simp [AV.one, one_mL])) fun H o => ?_; simp only [wr_cons, wr_nil, sZ, sY] at o; simp only [go_sem]; refine st_cells o.swap (by simp) (by (simp only [go_sem]); (try simp)) (by first | (simp only [go_sem]; done) | ((simp only [go_sem]); simp [AV.one, one_mL])) fun H o => ?_; simp only [wr_cons, wr_nil, sZ, sY] at o; simp only [go_sem]; have hr := o.swap.rc 8 0 (by simp); have hr2 := o.rc 8 0 (by simp); simp only [List.drop_zero] at hr hr2; rw [hr, hr2]; exact pure_ret rfl o.sub
open Classical in
noncomputable def twoA (j : Top) (f : SF) : List AV := if codeF j f = 0 ∧ TwoFew f (leastL j.shape j.covers) then stepCells f (leastL j.shape j.covers) else tabZ
open Classical in
noncomputable def twoB (j : Top) (f : SF) : List AV := if codeF j f = 0 ∧ TwoFew f (leastL j.shape j.covers) then stepCells (stepSF f (leastL j.shape j.covers)) (leastL j.shape j.covers) else tabZ
open Classical in
noncomputable def twoC (j : Top) (f : SF) : Int := if codeF j f = 0 then (if TwoFew f (leastL j.shape j.covers) then 0 else 3) else codeF j f
theorem code_cov {j : Top} {f : SF} (h : codeF j f = 0) : j.Form ∧ f.Is ∧ j.shape = f.shape ∧ CovOk f.shape (leastL f.shape j.covers) := by
 obtain ⟨hF, hf, hct, hsh⟩ := codeF_z h; have htop : TopIs j.shape j.covers := by
  unfold codeT at hct; rw [if_neg (fun e => e hF)] at hct
  split at hct
  ·cases hct
  ·split at hct
   ·assumption
   ·cases hct
 have hcov := least_cov hF.is hF.len (fun x hx s hs => by
  obtain ⟨k, hk, rfl⟩ := mem_getD.mp hs; exact hF.sv x hx k hk) htop
 rw [hsh] at hcov; exact ⟨hF, hf, hsh, hcov⟩
theorem l28Two_ok (B : Nat) (j : Top) (f : SF) : Pur Tryz.prog B 63 [.agg j.cells, .agg f.cells] (.tup [.agg (twoA j f), .agg (twoB j f), .int .i64 (twoC j f)]) := by
 refine ⟨fun H0 => c63p (by simp) fun hfi => ?_⟩; unfold s63p; simp only [go_sem, reduceAdd]; refine ⟨by simp [maxL], newRef_own (.nil _) fun id4 H o => ?_⟩; simp only [go_sem, reduceAdd]; refine ⟨by simp [maxL], newRef_own o fun id5 H o => ?_⟩; simp only [go_sem, reduceAdd]; refine (l28Code_ok B j f).go fun _ => ?_; simp only [go_sem]; refine ⟨fun h1 => At.mk ?_, fun h1 => At.mk ?_⟩
 ·have h1p : ¬ codeF j f = 0 := by simpa using h1
  simp only [go_sem]; refine st_cells o.swap (by simp) (by (simp only [go_sem]); (try simp)) (by first | (simp only [go_sem]; done) | ((simp only [go_sem]); simp [AV.one, one_mL])) fun H o => ?_; simp only [wr_cons, wr_nil, sZ, sY] at o; simp only [go_sem]; refine st_cells o.swap (by simp) (by (simp only [go_sem]); (try simp)) (by first | (simp only [go_sem]; done) | ((simp only [go_sem]); simp [AV.one, one_mL])) fun H o => ?_; simp only [wr_cons, wr_nil, sZ, sY] at o; simp only [go_sem]; have hr := o.swap.rc 8 0 (by simp); have hr2 := o.rc 8 0 (by simp); simp only [List.drop_zero] at hr hr2; rw [hr, hr2]; refine pure_ret ?_ o.sub; rw [twoA, twoB, twoC, if_neg (fun e => h1p e.1), if_neg (fun e => h1p e.1), if_neg h1p]; rfl
 ·have h1p : codeF j f = 0 := by simpa using h1
  obtain ⟨hF, hf, hsh, hcov⟩ := code_cov h1p; simp only [go_sem, reduceAdd]; refine ⟨_, (l27Least_ok B j).run, ?_⟩; rw [hsh]; refine ⟨_, (l28Both_ok B f hf.1 (leastL f.shape j.covers) hcov).run, ?_⟩; obtain ⟨a1, a2, a3, a4, a5, a6, a7, a8, hA, h8⟩ := stepA8 f (leastL f.shape j.covers); obtain ⟨b1, b2, b3, b4, b5, b6, b7, b8, hB, h8b⟩ : ∃ b1 b2 b3 b4 b5 b6 b7 b8, bothB f (leastL f.shape j.covers) = [b1, b2, b3, b4, b5, b6, b7, b8] ∧ ∀ c, c ∈ [b1, b2, b3, b4, b5, b6, b7, b8] → c.one = true := by
   unfold bothB
   split
   ·exact ⟨_, _, _, _, _, _, _, _, rfl, by simp only [memcons, memnil]; exact ⟨rfl, rfl, rfl, rfl, rfl, rfl, rfl, rfl, trivial⟩⟩
   ·exact ⟨_, _, _, _, _, _, _, _, rfl, by simp only [memcons, memnil]; exact ⟨rfl, rfl, rfl, rfl, rfl, rfl, rfl, rfl, trivial⟩⟩
  have hAA : TwoFew f (leastL f.shape j.covers) → twoA j f = [a1, a2, a3, a4, a5, a6, a7, a8] := fun h => by rw [twoA, hsh, if_pos ⟨h1p, h⟩, ← hA, stepA, if_pos h.1]
  have hBB : TwoFew f (leastL f.shape j.covers) → twoB j f = [b1, b2, b3, b4, b5, b6, b7, b8] := fun h => by rw [twoB, hsh, if_pos ⟨h1p, h⟩, ← hB, bothB, if_pos h]
  rw [hA, hB]; by_cases hfew : TwoFew f (leastL f.shape j.covers)
  ·have hC : twoC j f = 0 := by rw [twoC, hsh, if_pos h1p, if_pos hfew]
   rw [dec_t hfew]; simp only [go_sem, reduceAdd, reduceLT]; refine ⟨⟨by simp [maxL], newRef_own o fun id8 H o => ?_⟩, by simp [maxL], newRef_own o fun id9 H o => ?_⟩
   ·simp only [go_sem, reduceAdd]; refine ⟨by simp [maxL], newRef_own o fun id9 H o => ?_⟩; simp only [go_sem]; refine st_cells o.swap (by simp) (by (simp only [go_sem]); (try simp)) h8 fun H o => ?_; simp only [wr_cons, wr_nil, sZ, sY] at o; simp only [go_sem]; refine st_cells o.swap (by simp) (by (simp only [go_sem]); (try simp)) h8b fun H o => ?_; simp only [wr_cons, wr_nil, sZ, sY] at o; simp only [go_sem]; refine wk_ref 9 o rfl fun H o => ?_; refine wk_ref 8 o rfl fun H o => wkW_done ?_; simp only [go_sem, reduceAdd]; refine st_cells o.swap (by simp) (by (simp only [go_sem]); (try simp)) h8 fun H o => ?_; simp only [wr_cons, wr_nil, sZ, sY] at o; simp only [go_sem]; refine st_cells o.swap (by simp) (by (simp only [go_sem]); (try simp)) h8b fun H o => ?_; simp only [wr_cons, wr_nil, sZ, sY] at o; simp only [go_sem]; have hr := o.swap.rc 8 0 (by simp); have hr2 := o.rc 8 0 (by simp); simp only [List.drop_zero] at hr hr2; rw [hr, hr2]; refine pure_ret ?_ o.sub; rw [hAA hfew, hBB hfew, hC]; rfl
   ·simp only [go_sem, reduceAdd]; refine ⟨by simp [maxL], newRef_own o fun id8 H o => ?_⟩; simp only [go_sem]; refine st_cells o (by simp) (by (simp only [go_sem]); (try simp)) h8 fun H o => ?_; simp only [wr_cons, wr_nil, sZ, sY] at o; simp only [go_sem]; refine st_cells o.swap (by simp) (by (simp only [go_sem]); (try simp)) h8b fun H o => ?_; simp only [wr_cons, wr_nil, sZ, sY] at o; simp only [go_sem]; refine wk_ref 9 o rfl fun H o => ?_; refine wk_ref 8 o rfl fun H o => wkW_done ?_; simp only [go_sem, reduceAdd]; refine st_cells o.swap (by simp) (by (simp only [go_sem]); (try simp)) h8 fun H o => ?_; simp only [wr_cons, wr_nil, sZ, sY] at o; simp only [go_sem]; refine st_cells o.swap (by simp) (by (simp only [go_sem]); (try simp)) h8b fun H o => ?_; simp only [wr_cons, wr_nil, sZ, sY] at o; simp only [go_sem]; have hr := o.swap.rc 8 0 (by simp); have hr2 := o.rc 8 0 (by simp); simp only [List.drop_zero] at hr hr2; rw [hr, hr2]; refine pure_ret ?_ o.sub; rw [hAA hfew, hBB hfew, hC]; rfl
  ·have hC : twoC j f = 3 := by rw [twoC, hsh, if_pos h1p, if_neg hfew]
   have hA0 : twoA j f = tabZ := by rw [twoA, hsh, if_neg (fun e => hfew e.2)]
   have hB0 : twoB j f = tabZ := by rw [twoB, hsh, if_neg (fun e => hfew e.2)]
   rw [dec_f hfew]; simp only [go_sem, reduceAdd, reduceLT]; refine ⟨⟨by simp [maxL], newRef_own o fun id8 H o => ?_⟩, by simp [maxL], newRef_own o fun id9 H o => ?_⟩
   ·simp only [go_sem, reduceAdd]; refine ⟨by simp [maxL], newRef_own o fun id9 H o => ?_⟩; simp only [go_sem]; refine st_cells o.swap (by simp) (by (simp only [go_sem]); (try simp)) h8 fun H o => ?_; simp only [wr_cons, wr_nil, sZ, sY] at o; simp only [go_sem]; refine st_cells o.swap (by simp) (by (simp only [go_sem]); (try simp)) h8b fun H o => ?_; simp only [wr_cons, wr_nil, sZ, sY] at o; simp only [go_sem]; refine st_cells o.tl.tl.swap (by simp) (by (simp only [go_sem]); (try simp)) (by first | (simp only [go_sem]; done) | ((simp only [go_sem]); simp [AV.one, one_mL])) fun H o => ?_; simp only [wr_cons, wr_nil, sZ, sY] at o; simp only [go_sem]; refine st_cells o.swap (by simp) (by (simp only [go_sem]); (try simp)) (by first | (simp only [go_sem]; done) | ((simp only [go_sem]); simp [AV.one, one_mL])) fun H o => ?_; simp only [wr_cons, wr_nil, sZ, sY] at o; simp only [go_sem]; have hr := o.swap.rc 8 0 (by simp); have hr2 := o.rc 8 0 (by simp); simp only [List.drop_zero] at hr hr2; rw [hr, hr2]; refine pure_ret ?_ o.sub; rw [hA0, hB0, hC]; rfl
   ·simp only [go_sem, reduceAdd]; refine ⟨by simp [maxL], newRef_own o fun id8 H o => ?_⟩; simp only [go_sem]; refine st_cells o (by simp) (by (simp only [go_sem]); (try simp)) h8 fun H o => ?_; simp only [wr_cons, wr_nil, sZ, sY] at o; simp only [go_sem]; refine st_cells o.swap (by simp) (by (simp only [go_sem]); (try simp)) h8b fun H o => ?_; simp only [wr_cons, wr_nil, sZ, sY] at o; simp only [go_sem]; refine st_cells o.tl.tl.swap (by simp) (by (simp only [go_sem]); (try simp)) (by first | (simp only [go_sem]; done) | ((simp only [go_sem]); simp [AV.one, one_mL])) fun H o => ?_; simp only [wr_cons, wr_nil, sZ, sY] at o; simp only [go_sem]; refine st_cells o.swap (by simp) (by (simp only [go_sem]); (try simp)) (by first | (simp only [go_sem]; done) | ((simp only [go_sem]); simp [AV.one, one_mL])) fun H o => ?_; simp only [wr_cons, wr_nil, sZ, sY] at o; simp only [go_sem]; have hr := o.swap.rc 8 0 (by simp); have hr2 := o.rc 8 0 (by simp); simp only [List.drop_zero] at hr hr2; rw [hr, hr2]; refine pure_ret ?_ o.sub; rw [hA0, hB0, hC]; rfl
theorem twoB8 (j : Top) (f : SF) : ∃ a1 a2 a3 a4 a5 a6 a7 a8, twoB j f = [a1, a2, a3, a4, a5, a6, a7, a8] ∧ ∀ c, c ∈ [a1, a2, a3, a4, a5, a6, a7, a8] → c.one = true := by
 unfold twoB
 split
 ·exact ⟨_, _, _, _, _, _, _, _, rfl, by simp only [memcons, memnil]; exact ⟨rfl, rfl, rfl, rfl, rfl, rfl, rfl, rfl, trivial⟩⟩
 ·exact ⟨_, _, _, _, _, _, _, _, rfl, by simp only [memcons, memnil]; exact ⟨rfl, rfl, rfl, rfl, rfl, rfl, rfl, rfl, trivial⟩⟩
theorem twoA8 (j : Top) (f : SF) : ∃ a1 a2 a3 a4 a5 a6 a7 a8, twoA j f = [a1, a2, a3, a4, a5, a6, a7, a8] ∧ ∀ c, c ∈ [a1, a2, a3, a4, a5, a6, a7, a8] → c.one = true := by
 unfold twoA
 split
 ·exact ⟨_, _, _, _, _, _, _, _, rfl, by simp only [memcons, memnil]; exact ⟨rfl, rfl, rfl, rfl, rfl, rfl, rfl, rfl, trivial⟩⟩
 ·exact ⟨_, _, _, _, _, _, _, _, rfl, by simp only [memcons, memnil]; exact ⟨rfl, rfl, rfl, rfl, rfl, rfl, rfl, rfl, trivial⟩⟩
theorem two_z {j : Top} {f : SF} (hz : twoC j f = 0) : codeF j f = 0 ∧ TwoFew f (leastL j.shape j.covers) := by
 have hcf : codeF j f = 0 := by
  apply Classical.byContradiction; intro e; rw [twoC, if_neg e] at hz; exact e hz
 refine ⟨hcf, ?_⟩; rw [twoC, if_pos hcf] at hz; apply Classical.byContradiction; intro e; rw [if_neg e] at hz; cases hz
end Go.Proofs.Shf
namespace Go.Shf
open Go.AW Go.Proofs.Shf
open Classical in
noncomputable def shfOr (f : SF) (V : List (List Int)) : AV := if TwoFew f V then .ptr [stepVal f V, stepVal (stepSF f V) V] else .nilp
end Go.Shf
namespace Go.Proofs.Shf
open Go.AW Go.Proofs Go.Shf
theorem sheaf_ok (B : Nat) (v : Cov) (cnt : AV) (f : SF) (h : f.Shape) (hsh : v.shape = f.shape) (hml : (v.marks.length : Int) = f.shape.objs) (hsl : v.sieves.length = v.marks.length)
  (hms : ∀ x, x < v.marks.length → (v.marks.getD x default).length ≤ (v.sieves.getD x default).length ∧ (v.marks.getD x default).length ≤ 1000000)
  (c : CovOk f.shape (leastV v)) : Pur Tryz.prog B 70 [.ptr (v.cells cnt), .ptr f.cells] (.tup [shfOr f (leastV v), .bool (dec (TwoFew f (leastV v)))]) := by
 refine ⟨fun H0 => c70 (by simp) fun hfi => ?_⟩; have q1 := step_ok B v cnt f h hsh hml hsl hms c; have q2 := fun h1 => step_ok B v cnt (stepSF f (leastV v)) (step_shape h c h1) hsh hml hsl hms c; generalize v.cells cnt = cv at *; generalize leastV v = V at *; unfold s70; simp only [go_sem, reduceAdd]; refine q1.go fun _ => ?_; by_cases h1 : StepFew f V
 ·rw [stepOr, if_pos h1, dec_t h1]; simp only [go_sem, reduceAdd, reduceLeDiff, reduceLT]; refine (q2 h1).go fun _ => ?_; by_cases h2 : StepFew (stepSF f V) V
  ·rw [stepOr, if_pos h2, dec_t h2, shfOr, if_pos ⟨h1, h2⟩, dec_t ⟨h1, h2⟩]; simp only [go_sem, reduceAdd, reduceLeDiff, reduceLT]; exact pure_ret rfl (.refl _)
  ·rw [stepOr, if_neg h2, dec_f h2, shfOr, if_neg (fun e => h2 e.2), dec_f (fun e => h2 e.2)]; simp only [go_sem, reduceAdd, reduceLT]; exact pure_ret rfl (.refl _)
 ·rw [stepOr, if_neg h1, dec_f h1, shfOr, if_neg (fun e => h1 e.1), dec_f (fun e => h1 e.1)]; simp only [go_sem, reduceAdd, reduceLT]; exact pure_ret rfl (.refl _)
end Go.Proofs.Shf
namespace Go.Shf
open Go.AW
def PartAt (f g : SF) (p : List (List Int)) (x : Nat) : Prop := ((p.getD x default).length : Int) = f.sizes.getD x default ∧ ∀ y, y ∈ p.getD x default → 0 ≤ y ∧ y < g.sizes.getD x default
def PartsOk (f g : SF) (p : List (List Int)) : Prop := p.length = f.sizes.length ∧ ∀ x, x < p.length → PartAt f g p x
def NatAt (f g : SF) (p : List (List Int)) (a e : Nat) : Prop := ix (ix p (f.shape.to.getD a default)) ((f.acts.getD a default).getD e default) = ix (g.acts.getD a default) ((ix p (f.shape.frm.getD a default)).getD e default)
def NatOk (f g : SF) (p : List (List Int)) : Prop := ∀ a, a < f.acts.length → ∀ e : Nat, e < (f.acts.getD a default).length → NatAt f g p a e
structure SM.Is (m : SM) : Prop where
 s : m.src.Is
 t : m.tgt.Is
 eq : m.src.shape = m.tgt.shape
 p : PartsOk m.src m.tgt m.parts
 n : NatOk m.src m.tgt m.parts
structure MapD (f g : SF) (p : List (List Int)) : Prop where
 sf : f.Shape
 sg : g.Shape
 eq : f.shape = g.shape
 po : PartsOk f g p
structure SM.Shape (m : SM) : Prop where
 s : m.src.Is
 t : m.tgt.Is
 eq : m.src.shape = m.tgt.shape
 p : PartsOk m.src m.tgt m.parts
theorem SF.Shape.sl' {f g : SF} (hf : f.Shape) (hg : g.Shape) (e : f.shape = g.shape) : g.sizes.length = f.sizes.length := by
 have := hf.sl; have := hg.sl; rw [← e] at this; omega
theorem SM.Shape.d {m : SM} (h : m.Shape) : MapD m.src m.tgt m.parts := ⟨h.s.1, h.t.1, h.eq, h.p⟩
theorem SM.is_iff {m : SM} : m.Is ↔ m.Shape ∧ NatOk m.src m.tgt m.parts := ⟨fun h => ⟨⟨h.s, h.t, h.eq, h.p⟩, h.n⟩, fun ⟨h, n⟩ => ⟨h.s, h.t, h.eq, h.p, n⟩⟩
theorem MapD.at {f g : SF} {p : List (List Int)} (h : MapD f g p) {a e : Nat} (ha : a < f.acts.length) (he : e < (f.acts.getD a default).length) :
  (0 ≤ f.shape.frm.getD a default ∧ (f.shape.frm.getD a default).toNat < p.length) ∧ (0 ≤ f.shape.to.getD a default ∧ (f.shape.to.getD a default).toNat < p.length) ∧ a < g.acts.length ∧
  e < (ix p (f.shape.frm.getD a default)).length ∧ (0 ≤ (f.acts.getD a default).getD e default ∧ ((f.acts.getD a default).getD e default).toNat < (ix p (f.shape.to.getD a default)).length) ∧
  (0 ≤ (ix p (f.shape.frm.getD a default)).getD e default ∧ ((ix p (f.shape.frm.getD a default)).getD e default).toNat < (g.acts.getD a default).length) := by
 have hal := h.sf.al; have hag := h.sg.al; have f1 := h.sf.is.1.frm' (f := a) (by omega); have f2 := h.sf.is.1.to' (f := a) (by omega); have hil := h.sf.is.1.il; have hsl := h.sf.sl; have hp := h.po.1; have p1 := h.po.2 _ (show (f.shape.frm.getD a default).toNat < p.length by omega); have p2 := h.po.2 _ (show (f.shape.to.getD a default).toNat < p.length by omega); have a1 := h.sf.act a ha; have a2 := h.sg.act a (by rw [hag, ← h.eq]; omega); have a3 := a1.2 _ (mem_getD.mpr ⟨e, he, rfl⟩); rw [← h.eq] at a2; simp only [PartAt] at p1 p2; simp only [ix] at *; have p3 := p1.2 ((p.getD (f.shape.frm.getD a default).toNat default).getD e default) (mem_getD.mpr ⟨e, by omega, rfl⟩); refine ⟨⟨f1.1, by omega⟩, ⟨f2.1, by omega⟩, by rw [hag, ← h.eq]; omega, by omega, ⟨a3.1, by omega⟩, p3.1, by omega⟩
end Go.Shf
namespace Go.Proofs.Shf
open Go.AW Go.Proofs Go.Shf
theorem l19Parts_ok (B : Nat) (f g : SF) (p : List (List Int)) (hg : g.sizes.length = f.sizes.length) : Pur Tryz.prog B 114 [.agg f.cells, .agg g.cells, iLL p] (.bool (dec (PartsOk f g p))) := by
 refine ⟨fun H0 => c114 (by simp) fun ⟨_, _, hp, _⟩ => ?_⟩; have hl := fine_mL_le hp; simp only [maxL] at hl; unfold s114; simp only [go_sem, reduceAdd, reduceLeDiff]; refine ⟨fun h0 => At.mk ?_, fun h0 => At.mk ?_⟩
 ·simp only [go_sem]; have h0p := h0; simp only [bnt, dF] at h0p; exact pure_ret (by rw [dec_f]; intro h; exact h0p (by rw [h.1])) (.refl _)
 have h0p := h0; simp only [bnf, dT] at h0p; have h0q : p.length = f.sizes.length := by omega
 simp only [go_sem]; refine awp_for [2, 3, 4] (fun k _ => [(7, some (.int .i64 (k : Int)))]) (fun k _ H => H = H0 ∧ ∀ i, i < k → PartAt f g p i) p.length () ⟨rfl, by simp⟩ rfl ?_; rintro k _ H hk ⟨rfl, hall⟩; simp only [go_sem]; refine ⟨fun h1 => At.mk ?_, fun h1 => At.mk ?_⟩
 ·have h1p := h1; simp only [dT] at h1p; have w1 := wsucc (k := k) (by omega); simp only [go_sem, reduceAdd, reduceLeDiff]; refine ⟨h1p, by omega, ?_⟩; refine ⟨fun h2 => At.mk ?_, fun h2 => At.mk ?_⟩; rotate_left
  ·simp only [go_sem, h2]; have h2p := h2; simp only [bnt, dF] at h2p; exact pure_ret (by rw [dec_f]; intro h; exact h2p (h.2 k h1p).1) (.refl _)
  ·simp only [go_sem, reduceAdd, reduceLeDiff, h2]; have h2p := h2; simp only [bnf, dT] at h2p; refine ⟨by omega, h1p, _, (l01Map_ok B (p.getD k default) (g.sizes.getD k default)).run, ?_⟩; simp only [go_sem]; refine ⟨fun h3 => At.mk ?_, fun h3 => At.mk ?_⟩
   ·simp only [go_sem]; have h3p := h3; simp only [bnt, decf] at h3p; exact pure_ret (by rw [dec_f]; intro h; exact h3p (h.2 k h1p).2) (.refl _)
   ·simp only [go_sem, w1]; have h3p := h3; simp only [bnf, dect] at h3p; exact for_next () (by omega) ⟨rfl, lt_succ_all hall ⟨h2p, h3p⟩⟩ rfl
 ·simp only [go_sem]; have h1p := h1; simp only [dF, Nat.not_lt] at h1p; exact pure_ret (by rw [dec_t]; exact ⟨h0q, fun x hx => hall x (by omega)⟩) (.refl _)
theorem fits_ok (B : Nat) (m : SM) (hg : m.tgt.sizes.length = m.src.sizes.length) (hz : ∀ y, y ∈ m.tgt.sizes → 0 ≤ y ∧ y < 17) : Pur Tryz.prog B 174 [.ptr m.cells] (.bool (dec (PartsOk m.src m.tgt m.parts))) := by
 refine ⟨fun H0 => c174 (by simp) fun ⟨hp, _⟩ => ?_⟩; have hl := fine_mL_le (hp.ptr (c := iLL m.parts) (by simp [SM.cells])); simp only [maxL] at hl; unfold s174; simp only [go_sem, reduceAdd, reduceLeDiff]; refine ⟨fun h0 => At.mk ?_, fun h0 => At.mk ?_⟩
 ·simp only [go_sem]; have h0p := h0; simp only [bnt, dF] at h0p; exact pure_ret (by rw [dec_f]; intro h; exact h0p (by rw [h.1])) (.refl _)
 have h0p := h0; simp only [bnf, dT] at h0p; have h0q : m.parts.length = m.src.sizes.length := by omega
 simp only [go_sem, reduceAdd, reduceLeDiff]; refine awp_for [0, 20, 21] (fun k _ => [(22, some (.int .i64 (k : Int)))]) (fun k _ H => H = H0 ∧ ∀ i, i < k → PartAt m.src m.tgt m.parts i) m.parts.length () ⟨rfl, by simp⟩ rfl ?_; rintro k _ H hk ⟨rfl, hall⟩; simp only [go_sem]; refine ⟨fun h1 => At.mk ?_, fun h1 => At.mk ?_⟩
 ·have h1p := h1; simp only [dT] at h1p; have w1 := wsucc (k := k) (by omega); simp only [go_sem, reduceAdd, reduceLeDiff]; have hzk := hz _ (mem_getD.mpr ⟨k, by omega, rfl⟩); refine ⟨h1p, by omega, by omega, _, (isMapOf_ok B (m.parts.getD k default) (m.src.sizes.getD k default) (m.tgt.sizes.getD k default) (by omega)).run, ?_⟩; simp only [go_sem]; refine ⟨fun h3 => At.mk ?_, fun h3 => At.mk ?_⟩
  ·simp only [go_sem]; have h3p := h3; simp only [bnt, decf] at h3p; exact pure_ret (by rw [dec_f]; intro h; exact h3p (h.2 k h1p)) (.refl _)
  ·simp only [go_sem, w1]; have h3p := h3; simp only [bnf, dect] at h3p; exact for_next () (by omega) ⟨rfl, lt_succ_all hall h3p⟩ rfl
 ·simp only [go_sem]; have h1p := h1; simp only [dF, Nat.not_lt] at h1p; exact pure_ret (by rw [dec_t]; exact ⟨h0q, fun x hx => hall x (by omega)⟩) (.refl _)
def natK (P : Prop) (H0 : Heap) : Kont := fun r H' => H' = H0 ∧ ∃ a e : Int, r = .tup [.int .i64 a, .int .i64 e] ∧ (a < 0 ↔ P)
theorem nat_ret {P : Prop} {H0 H : Heap} {a e : Int} (h : a < 0 ↔ P) (hs : H0.sub H) : subW (natK P H0) (.tup [.int .i64 a, .int .i64 e]) H := ⟨H0, hs, rfl, a, e, rfl, h⟩
theorem l19Unnatural_ok (B : Nat) (f g : SF) (p : List (List Int)) (h : MapD f g p) (H0 : Heap) : CallH Tryz.prog B 115 [.agg f.cells, .agg g.cells, iLL p] H0 (natK (NatOk f g p) H0) := by
 refine c115 (by simp) fun ⟨_, _, hp, _⟩ => ?_; have hl := fine_mL_le hp; simp only [maxL] at hl; have hm := h.sf.is.1.m; have hal := h.sf.al; have htl := h.sf.is.1.tol; unfold s115; simp only [go_sem, reduceAdd]; refine awp_for [2, 3, 4] (fun k _ => [(8, some (.int .i64 (k : Int)))]) (fun k _ H => H = H0 ∧ ∀ a, a < k → ∀ e : Nat, e < (f.acts.getD a default).length → NatAt f g p a e) f.acts.length () ⟨rfl, by simp⟩ rfl ?_; rintro a _ H ha ⟨rfl, hall⟩; simp only [go_sem, reduceAdd, reduceLeDiff]; refine ⟨fun h1 => At.mk ?_, fun h1 => At.mk ?_⟩
 ·have h1p := h1; simp only [dT] at h1p; have w1 := wsucc (k := a) (by omega); have f1 := h.sf.is.1.frm' (f := a) (by omega); have hil := h.sf.is.1.il; have hsl := h.sf.sl; have a1 := (h.sf.act a h1p).1; have hz := h.sf.sz _ (ix_mem (l := f.sizes) (i := f.shape.frm.getD a default) (by omega)); simp only [go_sem, reduceAdd, reduceLeDiff]; refine ⟨by omega, by omega, ?_⟩; refine awp_for [2, 3, 4, 8, 9, 10] (fun k _ => [(11, some (.int .i64 (k : Int)))]) (fun k _ H' => H' = H ∧ ∀ e : Nat, e < k → NatAt f g p a e) (f.acts.getD a default).length () ⟨rfl, by simp⟩ rfl ?_; rintro e _ H he ⟨rfl, hall2⟩; simp only [go_sem, reduceAdd, reduceLeDiff]; refine ⟨by omega, ?_⟩; refine ⟨fun h2 => At.mk ?_, fun h2 => At.mk ?_⟩
  ·have h2p := h2; simp only [dT] at h2p; have w2 := wsucc (k := e) (by omega); have hat := h.at (a := a) (e := e) h1p (by omega); simp only [go_sem, reduceAdd, reduceLeDiff]; refine ⟨by omega, by omega, by omega, by omega, by omega, by omega, by omega, by omega, ?_⟩; refine ⟨fun h3 => At.mk ?_, fun h3 => At.mk ?_⟩
   ·simp only [go_sem]; have h3p := h3; simp only [bnt, dF] at h3p; exact nat_ret ⟨fun e => by omega, fun hn => absurd (hn a h1p e (by omega)) h3p⟩ (.refl _)
   ·simp only [go_sem, w2]; have h3p := h3; simp only [bnf, dT] at h3p; exact for_next () (by omega) ⟨rfl, lt_succ_all hall2 h3p⟩ rfl
  ·simp only [go_sem, w1]; have h2p := h2; simp only [dF, Int.not_lt] at h2p; exact for_next () (by omega) ⟨rfl, lt_succ_all hall fun e he => hall2 e (by omega)⟩ rfl
 ·simp only [go_sem]; have h1p := h1; simp only [dF, Nat.not_lt] at h1p; exact nat_ret ⟨fun _ a ha e he => hall a (by omega) e he, fun _ => by omega⟩ (.refl _)
theorem unnatural_ok (B : Nat) (m : SM) (h : MapD m.src m.tgt m.parts) (H0 : Heap) : CallH Tryz.prog B 151 [.ptr m.cells] H0 (natK (NatOk m.src m.tgt m.parts) H0) := by
 refine c151 (by simp) fun ⟨hp, _⟩ => ?_; have hl := fine_mL_le (hp.ptr (c := iLL m.parts) (by simp [SM.cells])); simp only [maxL] at hl; have hm := h.sf.is.1.m; have hal := h.sf.al; have htl := h.sf.is.1.tol; unfold s151; simp only [go_sem, reduceAdd, reduceLeDiff]; refine awp_for [0, 4, 16] (fun k _ => [(17, some (.int .i64 (k : Int)))]) (fun k _ H => H = H0 ∧ ∀ a, a < k → ∀ e : Nat, e < (m.src.acts.getD a default).length → NatAt m.src m.tgt m.parts a e) m.src.acts.length () ⟨rfl, by simp⟩ rfl ?_; rintro a _ H ha ⟨rfl, hall⟩; simp only [go_sem]; refine ⟨fun h1 => At.mk ?_, fun h1 => At.mk ?_⟩
 ·have h1p := h1; simp only [dT] at h1p; have w1 := wsucc (k := a) (by omega); have a1 := (h.sf.act a (by omega)).1; have f1 := h.sf.is.1.frm' (f := a) (by omega); have hil := h.sf.is.1.il; have hsl := h.sf.sl; have hz := h.sf.sz _ (ix_mem (l := m.src.sizes) (i := m.src.shape.frm.getD a default) (by omega)); simp only [go_sem, reduceAdd, reduceLeDiff]; refine ⟨by omega, ?_⟩; refine awp_for [0, 4, 5, 16, 17, 27, 28] (fun k _ => [(29, some (.int .i64 (k : Int)))]) (fun k _ H' => H' = H ∧ ∀ e : Nat, e < k → NatAt m.src m.tgt m.parts a e) (m.src.acts.getD a default).length () ⟨rfl, by simp⟩ rfl ?_; rintro e _ H he ⟨rfl, hall2⟩; simp only [go_sem]; refine ⟨fun h2 => At.mk ?_, fun h2 => At.mk ?_⟩
  ·have h2p := h2; simp only [dT] at h2p; have w2 := wsucc (k := e) (by omega); have hat := h.at (a := a) (e := e) (by omega) (by omega); simp only [go_sem, reduceAdd, reduceLeDiff]; refine ⟨by omega, ?_⟩; refine ⟨by omega, by omega, by omega, by omega, by omega, by omega, by omega, by omega, ?_⟩; refine ⟨fun h3 => At.mk ?_, fun h3 => At.mk ?_⟩
   ·simp only [go_sem]; have h3p := h3; simp only [bnt, dF] at h3p; exact nat_ret ⟨fun e => by omega, fun hn => absurd (hn a (by omega) e (by omega)) h3p⟩ (.refl _)
   ·simp only [go_sem, w2]; have h3p := h3; simp only [bnf, dT] at h3p; exact for_next () (by omega) ⟨rfl, lt_succ_all hall2 h3p⟩ rfl
  ·simp only [go_sem, w1]; have h2p := h2; simp only [dF, Nat.not_lt] at h2p; exact for_next () (by omega) ⟨rfl, lt_succ_all hall fun e he => hall2 e (by omega)⟩ rfl
 ·simp only [go_sem]; have h1p := h1; simp only [dF, Nat.not_lt] at h1p; exact nat_ret ⟨fun _ a ha e he => hall a (by omega) e he, fun _ => by omega⟩ (.refl _)
theorem l19Between_ok (B : Nat) (f g : SF) : Pur Tryz.prog B 113 [.agg f.cells, .agg g.cells] (.bool (dec (f.Is ∧ g.Is ∧ f.shape = g.shape))) := by
 refine ⟨fun H0 => c113 (by simp) fun _ => ?_⟩; unfold s113; simp only [go_sem, reduceAdd]; refine (l19Is_ok B f).go fun _ => ?_; by_cases hf : f.Is
 ·rw [dec_t hf]; simp only [go_sem, reduceAdd]; refine (l19Is_ok B g).go fun _ => ?_; by_cases hg : g.Is
  ·rw [dec_t hg]; simp only [go_sem, reduceAdd, reduceLeDiff]; refine (l02Same_ok B f.shape g.shape).go fun _ => ?_; simp only [go_sem]; exact pure_ret (by congr 1; exact dec_congr ⟨fun h => ⟨hf, hg, h⟩, fun h => h.2.2⟩) (.refl _)
  ·rw [dec_f hg]; simp only [go_sem]; exact pure_ret (by rw [dec_f]; exact fun h => hg h.2.1) (.refl _)
 ·rw [dec_f hf]; simp only [go_sem]; exact pure_ret (by rw [dec_f]; exact fun h => hf h.1) (.refl _)
theorem isShapeM_ok (B : Nat) (m : SM) : Pur Tryz.prog B 150 [.ptr m.cells] (.bool (dec m.Shape)) := by
 refine ⟨fun H0 => c150 (by simp) fun _ => ?_⟩; unfold s150; simp only [go_sem, reduceAdd, reduceLeDiff]; refine ⟨_, (areSetFunctors_ok B [m.src, m.tgt]).run, ?_⟩; by_cases hf : m.src.Is ∧ m.tgt.Is
 ·rw [dec_t (by simpa using hf)]; simp only [go_sem, reduceAdd, reduceLeDiff]; refine ⟨_, (sameCategory_ok B m.src.shape m.tgt.shape).run, ?_⟩; by_cases he : m.src.shape = m.tgt.shape
  ·rw [dec_t he]; simp only [go_sem]; refine ⟨_, (fits_ok B m (hf.1.1.sl' hf.2.1 he) hf.2.1.sz).run, ?_⟩; exact pure_ret (by congr 1; exact dec_congr ⟨fun h => ⟨hf.1, hf.2, he, h⟩, fun h => h.p⟩) (.refl _)
  ·rw [dec_f he]; simp only [go_sem]; exact pure_ret (by rw [dec_f]; exact fun h => he h.eq) (.refl _)
 ·rw [dec_f (by simpa using hf)]; simp only [go_sem]; exact pure_ret (by rw [dec_f]; exact fun h => hf ⟨h.s, h.t⟩) (.refl _)
theorem isNatural_ok (B : Nat) (m : SM) : Pur Tryz.prog B 116 [.ptr m.cells] (.bool (dec m.Is)) := by
 refine ⟨fun H0 => c116 (by simp) fun _ => ?_⟩; unfold s116; simp only [go_sem, reduceAdd]; refine (isShapeM_ok B m).go fun _ => ?_; by_cases h : m.Shape
 ·rw [dec_t h]; simp only [go_sem, Bool.not_true]; refine (unnatural_ok B m h.d H0).mono' ?_; rintro _ _ _ ⟨rfl, a, e, rfl, hk⟩; simp only [go_sem, reduceAdd, reduceLT]; exact pure_ret (by rw [decide_dec]; congr 1; exact dec_congr ⟨fun q => SM.is_iff.mpr ⟨h, hk.mp q⟩, fun q => hk.mpr q.n⟩) (.refl _)
 ·rw [dec_f h]; simp only [go_sem, Bool.not_false]; exact pure_ret (by rw [dec_f]; exact fun q => h (SM.is_iff.mp q).1) (.refl _)
theorem l19IsMap_ok (B : Nat) (m : SM) : Pur Tryz.prog B 73 [.agg m.cells] (.bool (dec m.Is)) := by
 refine ⟨fun H0 => c73 (by simp) fun _ => ?_⟩; unfold s73; simp only [go_sem, reduceAdd, reduceLeDiff]; refine (l19Between_ok B m.src m.tgt).go fun _ => ?_; by_cases hf : m.src.Is ∧ m.tgt.Is ∧ m.src.shape = m.tgt.shape
 ·rw [dec_t hf]; obtain ⟨h1, h2, he⟩ := hf; simp only [go_sem, reduceAdd, reduceLeDiff, Bool.not_true]; refine (l19Parts_ok B m.src m.tgt m.parts (h1.1.sl' h2.1 he)).go fun _ => ?_; by_cases h : PartsOk m.src m.tgt m.parts
  ·rw [dec_t h]; have hs : m.Shape := ⟨h1, h2, he, h⟩; simp only [go_sem, reduceAdd, reduceLeDiff, Bool.not_true]; refine (l19Unnatural_ok B m.src m.tgt m.parts hs.d H0).mono' ?_; rintro _ _ _ ⟨rfl, a, e, rfl, hk⟩; simp only [go_sem, reduceAdd, reduceLT]; exact pure_ret (by rw [decide_dec]; congr 1; exact dec_congr ⟨fun q => SM.is_iff.mpr ⟨hs, hk.mp q⟩, fun q => hk.mpr q.n⟩) (.refl _)
  ·rw [dec_f h]; simp only [go_sem, Bool.not_false]; exact pure_ret (by rw [dec_f]; exact fun q => h q.p) (.refl _)
 ·rw [dec_f hf]; simp only [go_sem, Bool.not_false]; exact pure_ret (by rw [dec_f]; exact fun q => hf ⟨q.s, q.t, q.eq⟩) (.refl _)
end Go.Proofs.Shf
namespace Go.Shf
open Go.AW Go.Proofs.Shf
theorem SM.Is.mapL {m : SM} (h : m.Is) : MapL m.src m.tgt m.parts := by
 have hs := h.s.1; have hp := h.p; have hsl := hs.sl; refine ⟨by rw [hp.1]; exact hsl, fun x hx => ?_, fun b hb e he => ?_⟩
 ·have := hp.2 x.toNat (by rw [hp.1]; omega); simp only [PartAt] at this; simp only [ix]; exact ⟨this.1, fun e he => this.2 _ (mem_getD.mpr ⟨e.toNat, by omega, rfl⟩)⟩
 ·have hal := hs.al; have ha := (hs.act b.toNat (by omega)).1; have hn := h.n b.toNat (by omega) e.toNat (by simp only [ix] at he ha ⊢; omega); simp only [NatAt] at hn; exact hn
def zA15 : List AV := [.int .i64 0, .nilsl, .nilsl, .nilsl, .nilsl, .nilsl, .nilsl, .int .i64 0, .nilsl, .nilsl, .nilsl, .nilsl, .nilsl, .nilsl, .nilsl]
end Go.Shf
namespace Go.Proofs.Shf
open Go.AW Go.Proofs Go.Shf
open Classical in
/-- The topology's coverage, for a map. -/
noncomputable def mapO (j : Top) (m : SM) : Int := if j.Form ∧ m.Is then codeO j m.src else 1
theorem mapO_f {j : Top} {m : SM} (hF : j.Form) (hm : m.Is) : mapO j m = codeF j m.src := by
 rw [mapO, if_pos ⟨hF, hm⟩, codeF, if_neg (fun e => e ⟨hF, hm.s⟩), codeO]
theorem mapOnCode_ok (B : Nat) (j : Top) (m : SM) (H0 : Heap) : CallH Tryz.prog B 75 [.ptr j.cells, .ptr m.cells] H0 (CovK j (mapO j m) H0) := by
 refine c75 (by simp) fun _ => ?_; unfold s75; have hoc := fun hF => onCode_ok B j m.src hF H0; simp only [go_sem, reduceAdd]; refine (hasForm_ok B j).go fun _ => ?_; by_cases hF : j.Form
 rotate_left
 ·have e0 : mapO j m = 1 := by rw [mapO, if_neg (fun e => hF e.1)]
  rw [dec_f hF]; simp only [go_sem, Bool.not_false]; exact cov_ret (.refl _) e0.symm (fun e2 => by rw [e0] at e2; cases e2)
 rw [dec_t hF]; simp only [go_sem, Bool.not_true]; refine (isNatural_ok B m).go fun _ => ?_; by_cases hm : m.Is
 rotate_left
 ·have e0 : mapO j m = 1 := by rw [mapO, if_neg (fun e => hm e.2)]
  rw [dec_f hm]; simp only [go_sem, Bool.not_false]; exact cov_ret (.refl _) e0.symm (fun e2 => by rw [e0] at e2; cases e2)
 have e0 : mapO j m = codeO j m.src := by rw [mapO, if_pos ⟨hF, hm⟩]
 rw [dec_t hm]; simp only [go_sem, reduceAdd, reduceLeDiff, Bool.not_true]; refine (hoc hF).mono ?_; rintro r H ⟨rfl, X, rfl, hX⟩; simp only [go_sem, reduceAdd, reduceLT]; rw [← e0] at hX ⊢; exact cov_ret (.refl _) rfl hX
theorem sheaf_at (B : Nat) (j : Top) (f : SF) (cnt : AV) (h0 : codeF j f = 0) : Pur Tryz.prog B 70 [.ptr ((covV j).cells cnt), .ptr f.cells] (.tup [shfOr f (leastL j.shape j.covers), .bool (dec (TwoFew f (leastL j.shape j.covers)))]) := by
 obtain ⟨hF, hf, hct, hsh⟩ := codeF_z h0; have haf : AllFew j.shape := by
  unfold codeT at hct; rw [if_neg (fun e => e hF)] at hct; apply Classical.byContradiction; intro e; rw [if_pos e] at hct; cases hct
 have hcov := (code_cov h0).2.2.2; rw [← hsh] at hcov; have tab := tabOk hF.is haf; have hml : (covV j).marks.length = (listsOf j.shape).length := marks_len; have hmk : MarkOk (listsOf j.shape) (covV j).marks := markOk; have hstep := sheaf_ok B (covV j) cnt f hf.1 hsh (by rw [hml, ← hsh]; exact tab.len) hml.symm (fun x hx => by
  have hx' : x < (listsOf j.shape).length := by rw [← hml]; exact hx
  have h1 := hmk.row x hx'; have h2 := tab.few x hx'; have h3 : (covV j).sieves = listsOf j.shape := rfl; rw [h1, h3]; exact ⟨Nat.le_refl _, by omega⟩) (by rw [leastV_eq hF haf, ← hsh]; exact hcov)
 rw [leastV_eq hF haf] at hstep; exact hstep
theorem codeF_tgt {j : Top} {m : SM} (hm : m.Is) : codeF j m.tgt = codeF j m.src := by
 by_cases hF : j.Form
 ·have h1 : codeF j m.tgt = codeO j m.tgt := by rw [codeF, if_neg (fun e => e ⟨hF, hm.t⟩), codeO]
  have h2 : codeF j m.src = codeO j m.src := by rw [codeF, if_neg (fun e => e ⟨hF, hm.s⟩), codeO]
  rw [h1, h2, codeO, codeO, hm.eq]
 ·rw [codeF, codeF, if_pos (fun e => hF e.1), if_pos (fun e => hF e.1)]
theorem twoC_t {j : Top} {f : SF} (h : codeF j f = 0) (h2 : TwoFew f (leastL j.shape j.covers)) : twoC j f = 0 := by rw [twoC, if_pos h, if_pos h2]
theorem twoC_f {j : Top} {f : SF} (h : codeF j f = 0) (h2 : ¬ TwoFew f (leastL j.shape j.covers)) : twoC j f = 3 := by rw [twoC, if_pos h, if_neg h2]
theorem catch_idle (p : Value) (w : World) : CallsD Tryz.prog 135 #[p] .returning w fun e u' w' => e = .returned (.tuple #[]) ∧ u' = .returning ∧ w' = w := by
 refine callsD_of_wpS Tryz.func135 rfl fun c₀ cs hu => ?_; apply wpS_seq; apply wpS_region; simp [wpOpsS, go_sem, recoverD, hu, Tryz.ntmps135, Exit.thenS]
 refine wpS_cond (t := false) (by simp [Act.eval, Array.replicate]) ?_; simp only [Bool.false_eq_true, if_false]; refine wpS_of_wp (wp_skip ?_); cases c₀
 simp_all [bodyPostS, results, Tryz.results135]
theorem catch_pan {B : Nat} {g : Gh} {H : Heap} {w : World} {id : Nat} {p : Value} (hW : WRel g B H w) (hO : H.get id = some (.cells 1 [.bool false] 0)) (hp : VRel g (.ref id 0) p) (t : TypeId) (v : Value) :
  CallsD Tryz.prog 135 #[p] (.panicking [{ v := .iface t v, recovered := false }]) w fun e u' w' => e = .returned (.tuple #[]) ∧ u' = .panicking [{ v := .iface t v, recovered := true }] ∧
   ∃ g', g.le g' ∧ WRel g' B (H.set id (.cells 1 [.bool false] 0)) w' ∧ Below B w w' := by
 refine callsD_of_wpS Tryz.func135 rfl fun c₀ cs hu => ?_; apply wpS_seq; apply wpS_region; simp [wpOpsS, go_sem, recoverD, hu, Tryz.ntmps135, Exit.thenS]
 refine wpS_cond (t := true) (by simp [Act.eval, Array.replicate]) ?_; simp only [if_true]; refine wpS_of_wp ?_; refine wp_mono (awp_sound (B := B) (N := 3) (hs := []) (df := []) (.reg [⟨none, none, .st 1 (.t 0) (.c (.bool false))⟩]) _ (by kernel_rfl) (fun e σ H' => e = .norm ∧ H' = H.set id (.cells 1 [.bool false] 0)) g H w [(0, some (.ref id 0))] _ hW ?_ rfl rfl ?_) ?_
 ·intro t' x hx; simp only [Env.get] at hx
  split at hx
  ·rename_i e; subst e; cases hx; exact ⟨by simp [Array.replicate], by simpa [Array.replicate] using hp⟩
  ·cases hx
 ·simp only [go_sem, hO, ↓reduceIte]; simp [maxL, wr, AV.one]
 ·intro e a' w' hq; cases e with
  | normal =>
   obtain ⟨g', σ', H', q1, ⟨-, rfl⟩, q3, q4, q5, q6, q7⟩ := hq; refine ⟨q7, .panicking [{ v := .iface t v, recovered := true }], ?_, .tuple #[], ?_, rfl, rfl, g', q1, q3, q5⟩
   ·cases c₀; rfl
   ·simp [results, Tryz.results135]
  | exit id =>
   obtain ⟨g', σ', H', q1, ⟨q2, _⟩, _⟩ := hq; cases q2
  | ret =>
   obtain ⟨g', σ', H', q1, ⟨q2, _⟩, _⟩ := hq; cases q2
  | goto l => exact hq.elim
  | panic ch => exact hq.elim
  | outgrown => exact hq.elim
theorem glued_ok {B : Nat} {f : FuncId} {ca : List AV} {b : Bool} {H0 : Heap} {K : Kont} (h : ∀ H, H0.sub H → CallX Tryz.prog B f ca H (fun _ H' => H.sub H' ∧ b = true) (fun H' => H.sub H' ∧ b = false))
  (hk : K (.bool b) H0) : CallH Tryz.prog B 90 [.fn (.func f) ca] H0 K := by
 refine ⟨⟨Tryz.f90, Tryz.func90, rfl, by kernel_rfl⟩, fun g w vs hW hv => ?_⟩; refine calls_of_wp_defers Tryz.func90 rfl ?_; obtain ⟨hsz, hE⟩ := erel_env (n := 6) hv (by simp)
 change (Code.wp _ _ _ { tmps := vs ++ Array.replicate (6 - vs.size) undef, defers := [] } w)
 generalize vs ++ Array.replicate (6 - vs.size) undef = tm at hsz hE; refine wp_seq ?_; refine wp_mono (awp_sound (B := B) (N := 6) (hs := []) (df := []) (.reg [⟨some 2, none, .alc [.bool false]⟩]) _ (by kernel_rfl) (fun e σ H' => e = .norm ∧ ∃ id, H0.get id = none ∧ σ = [(2, some (.ref id 0)), (0, some (.fn (.func f) ca))] ∧ H' = H0.set id (.cells 1 [.bool false] 0)) g H0 w _ _ hW hE hsz rfl ?_) ?_
 ·simp only [go_sem]; refine ⟨by simp [maxL], fun id hn => ?_⟩; simp only [go_sem]; exact ⟨id, hn, rfl, rfl⟩
 intro e a' w' hq; cases e with
 | normal =>
  obtain ⟨g1, σ', H', q1, ⟨-, id, hn, rfl, rfl⟩, q3, q4, q5, q6, q7⟩ := hq; refine wp_seq ?_; refine wp_region ?_
  change wpOps _ _ _ ([0] ++ [1]) _ _
  refine wpOps_append _ _ _ _ ?_; refine ops_sound (B := B) (N := 6) (hs := []) (df := []) [0] [⟨some 3, none, .mkf (.func 135) [.t 2]⟩] (by kernel_rfl) (fun σ H' => σ = [(3, some (.fn (.func 135) [.ref id 0])), (2, some (.ref id 0)), (0, some (.fn (.func f) ca))] ∧ H' = H0.set id (.cells 1 [.bool false] 0)) g1 _ w' _ a' _ q3 q4 q6 q7 ?_ ?_
  ·simp only [go_sem, ↓reduceIte]
  intro a2 w2 hq; obtain ⟨g2, σ', H', r1, ⟨rfl, rfl⟩, r3, r4, r5, r6, r7⟩ := hq; obtain ⟨cv, hev, hcr⟩ : ∃ cv, a2.tmps.getD 3 undef = .func (.func 135) #[] cv ∧ VRels g2 [.ref id 0] cv := by
   have := (r4 3 _ rfl).2; generalize a2.tmps.getD 3 undef = u at this ⊢; cases this
   exact ⟨_, rfl, by assumption, by assumption⟩
  obtain ⟨pv, rfl, hpv⟩ : ∃ pv, cv = #[pv] ∧ VRel g2 (.ref id 0) pv := by
   obtain ⟨l⟩ := cv; obtain ⟨hs, hv⟩ := hcr
   match l, hs with
   | [x], _ => exact ⟨x, rfl, hv 0 (by simp)⟩
  simp only; rw [wpOps_cons]; apply Or.inl; have hrun : (execOp a2.eval { dst := none, op := Op.defer { callee := Callee.value (Operand.tmp 3), args := #[], argTypes := #[] }, type := 0, pos := "l28_sheaves.go:112", after := #[{ on := 0, ground := Ground.data }], guard := none }).run Tryz.prog w2 =
    .ok (.defer ⟨.fn (.func 135) #[pv], #[]⟩) w2 := by
   simp [execOp, resolve, Act.eval, hev, Deferred.ofValue]
  unfold Oper.wp
  erw [hrun]
  rw [Oper.upon_defer]; obtain ⟨tm2, df2⟩ := a2; simp only at r4 r6 r7 hev; subst r7
  change Code.wp _ _ _ { tmps := tm2, defers := [⟨.fn (.func 135) #[pv], #[]⟩] } w2
  clear hrun hev; have hn0 : H0.sub (H0.set id (.cells 1 [.bool false] 0)) := Heap.sub_set _ hn (.refl H0); have hres : ∀ (σ : Env) (H' : Heap) (g' : Gh) (tm' : Array Value) (w' : World), g.le g' → WRel g' B H' w' → ERel g' [(2, some (.ref id 0))] tm' → Below B w w' → H'.get id = some (.cells 1 [.bool b] 0) → H0.sub H' →
    ∃ v, (results Tryz.f90 tm').run Tryz.prog w' = .ok v w' ∧ FinV g B w K v w' := fun σ H' g' tm' w' e1 e2 e3 e4 e5 e6 =>
   ret_run (rvs := [.cell 2 none]) (by kernel_rfl) (e := .ret) (σ := [(2, some (.ref id 0))]) (H := H') (a := { tmps := tm', defers := [] }) (by
    simp only [go_sem, ↓reduceIte]
    try rw [show rcV none (some (.ref id 0)) H' = some (.bool b) by simp [rcV, e5]]
    try rw [e5]
    simp only [go_sem]; exact ⟨H0, e6, hk⟩) e1 e2 e3 e4
  have hinv : ∀ w, (invoke (.fn (.func 135) #[pv]) #[]).run Tryz.prog w = .ok (.enter 135 #[pv]) w := fun w => by
   simp only [Go.invoke, callFunc, Sem.run_bind, run_program, Result.andThen_ok, Tryz.func135, show Tryz.f135.body.isNone = false from rfl, show (Tryz.f135.name == "runtime.NumGoroutine") = false by kernel_rfl, Bool.false_eq_true, if_false, Sem.run_pure, Array.empty_append]
  refine wp_seq ?_; refine wp_region ?_
  change wpOps _ _ _ ([0] ++ [1]) _ _
  refine wpOps_append _ _ _ _ ?_; refine ops_sound (B := B) (N := 6) (hs := []) (df := [⟨.fn (.func 135) #[pv], #[]⟩]) [0] [⟨some 4, none, .mv (.t 0)⟩] (by kernel_rfl) (fun σ H' => σ = [(4, some (.fn (.func f) ca)), (0, some (.fn (.func f) ca)), (2, some (.ref id 0))] ∧ H' = H0.set id (.cells 1 [.bool false] 0)) g2 _ w2 [(0, some (.fn (.func f) ca)), (2, some (.ref id 0))] _ _ r3 ?_ r6 rfl ?_ ?_
  ·exact fun t x hx => r4 t x (by
    simp only [Env.get_cons, get_nil] at hx ⊢; by_cases e0 : t = 0
    ·subst e0; simpa using hx
    ·by_cases e2 : t = 2
     ·subst e2; simpa using hx
     ·simp [e0, e2] at hx)
  ·simp only [go_sem, ↓reduceIte]
  intro a3 w3 hq; obtain ⟨g3, σ', H', s1, ⟨rfl, rfl⟩, s3, s4, s5, s6, s7⟩ := hq; simp only; rw [wpOps_cons]; refine callx_op (B := B) (N := 6) (hs := []) (i := 1) (d := some 5) (f := .t 4) (xs := []) ⟨_, rfl, by kernel_rfl⟩ s3 (s4.keep _) (K := fun _ H' => (H0.set id (.cells 1 [.bool false] 0)).sub H' ∧ b = true) (X0 := fun H' => (H0.set id (.cells 1 [.bool false] 0)).sub H' ∧ b = false) ?_ ?_ ?_
  ·simp only [go_sem, ↓reduceIte]; exact h _ hn0
  ·intro v w4 hf; obtain ⟨g4, r, H4, u1, ⟨u2, hb⟩, u3, u4, u5⟩ := hf; subst hb; have e4 : ERel g4 [(2, some (.ref id 0))] a3.tmps := fun t x hx => (s4.mono u1) t x (by
    simp only [Env.get_cons, get_nil] at hx ⊢; by_cases e2 : t = 2
    ·subst e2; simpa using hx
    ·simp [e2] at hx)
   have e5 : ERel g4 [(2, some (.ref id 0))] (a3.put (some 5) v).tmps := fun t x hx => by
    have := (e4.put (d := 5) (a := r) (v := v) (by omega) u3) t x (by
     simp only [Env.put, Env.get_cons, get_nil] at hx ⊢; by_cases e2 : t = 2
     ·subst e2; simpa using hx
     ·simp [e2] at hx)
    exact this
   change Code.wp _ _ _ (a3.put (some 5) v) w4
   have hg4 := u2 id _ (Heap.get_set_same _ _ _); refine wp_seq ?_; refine wp_mono (awp_sound (B := B) (N := 6) (hs := []) (df := [⟨.fn (.func 135) #[pv], #[]⟩]) (.reg [⟨none, none, .st 1 (.t 2) (.c (.bool true))⟩]) _ (by kernel_rfl) (fun e σ H' => e = .norm ∧ σ = [(2, some (.ref id 0))] ∧ H' = H4.set id (.cells 1 [.bool true] 0)) g4 H4 w4 [(2, some (.ref id 0))] _ u4 e5 (by rw [put_size]; exact s6) (by rw [put_defers]; exact s7) ?_) ?_
   ·simp only [go_sem, hg4, ↓reduceIte]; simp [maxL, wr, AV.one]
   intro e a5 w5 hq; cases e with
   | normal =>
    obtain ⟨g5, σ', H', v1, ⟨-, rfl, rfl⟩, v3, v4, v5, v6, v7⟩ := hq; refine wp_ret ?_
    change Leaves Tryz.prog Tryz.f90 a5.tmps _ a5.defers .returning w5
    rw [v7]; refine leaves_cons (f := 135) (args := #[pv]) (by simp) (hinv w5) ?_; refine (catch_idle pv w5).mono ?_; rintro e u' w'' ⟨rfl, rfl, rfl⟩; obtain ⟨v, k1, k2⟩ := hres [] _ g5 a5.tmps w'' (q1.trans (r1.trans (s1.trans (u1.trans v1)))) v3 v4 (q5.trans (r5.trans (s5.trans (u5.trans v5)))) (Heap.get_set_same _ _ _) (Heap.sub_set _ hn (hn0.trans u2)); exact ⟨v, k1, v, rfl, k2⟩
   | exit id =>
    obtain ⟨g', σ', H', q1, ⟨q2, _⟩, _⟩ := hq; cases q2
   | ret =>
    obtain ⟨g', σ', H', q1, ⟨q2, _⟩, _⟩ := hq; cases q2
   | goto l => exact hq.elim
   | panic ch => exact hq.elim
   | outgrown => exact hq.elim
  ·intro ch w4 hc hp; obtain ⟨g4, H4, u1, ⟨u2, hb⟩, u3, u4⟩ := hp; obtain ⟨t, v, rfl⟩ := hc; subst hb
   change Leaves Tryz.prog Tryz.f90 a3.tmps _ a3.defers (.panicking [{ v := .iface t v, recovered := false }]) w4
   rw [s7]; have hg4 := u2 id _ (Heap.get_set_same _ _ _); refine leaves_cons (f := 135) (args := #[pv]) (by simp) (hinv w4) ?_; refine (catch_pan u3 hg4 (hpv.mono (s1.trans u1)) t v).mono ?_; rintro e u' w'' ⟨rfl, rfl, g5, v1, v2, v3⟩; have e4 : ERel g5 [(2, some (.ref id 0))] a3.tmps := fun t x hx => (s4.mono (u1.trans v1)) t x (by
    simp only [Env.get_cons, get_nil] at hx ⊢; by_cases e2 : t = 2
    ·subst e2; simpa using hx
    ·simp [e2] at hx)
   obtain ⟨v, k1, k2⟩ := hres [] _ g5 a3.tmps w'' (q1.trans (r1.trans (s1.trans (u1.trans v1)))) v2 e4 (q5.trans (r5.trans (s5.trans (u4.trans v3)))) (Heap.get_set_same _ _ _) (Heap.sub_set _ hn (hn0.trans u2)); exact ⟨v, k1, v, rfl, k2⟩
 | exit id =>
  obtain ⟨g', σ', H', q1, ⟨q2, _⟩, _⟩ := hq; cases q2
 | ret =>
  obtain ⟨g', σ', H', q1, ⟨q2, _⟩, _⟩ := hq; cases q2
 | goto l => exact hq.elim
 | panic ch => exact hq.elim
 | outgrown => exact hq.elim
theorem fsc {P : Program} {N : Nat} {hs : Hints} {s : SC} {c : Code} (h : compileC P N hs c = some s.strip) : FitsX P N hs (.sc s) c := h
def s92x : XC :=
 .seq (.sc (.reg [⟨some 8, none, .mv (.c (.int .i64 0))⟩]))
 (.keep [0, 1, 2, 3] (.seq (.sc (.reg [⟨some 10, none, .mv (.t 0)⟩, ⟨some 11, none, .mv (.t 1)⟩, ⟨some 12, none, .mv (.t 2)⟩, ⟨some 13, none, .mv (.t 3)⟩, ⟨some 14, none, .call (.c (.fn (.func 136) [])) [.t 10, .t 11, .t 12, .t 13]⟩, ⟨some 9, none, .mv (.t 14)⟩]))
 (.keep [9] (.seq (.seq (.sc (.reg [⟨some 15, none, .mv (.t 9)⟩, ⟨some 16, none, .len (.t 15)⟩, ⟨some 17, none, .ar .neq .i64 (.t 16) (.c (.int .i64 1))⟩]))
  (.keep [9, 17] (.cond (.t 17) (.pnc [⟨some 18, none, .bld [] []⟩, ⟨some 19, none, .mki 182 (.t 18)⟩] (.t 19)) (.sc .skip))))
 (.keep [9] (.seq (.sc (.reg [⟨some 20, none, .mv (.t 9)⟩, ⟨some 21, none, .idx 1 (.t 20) (.c (.int .i64 0))⟩, ⟨some 22, none, .ld none (.t 21)⟩, ⟨some 8, none, .mv (.t 22)⟩])) (.sc .ret)))))))
theorem fits92 : FitsX Tryz.prog Tryz.f92.ntmps [] s92x (Tryz.f92.body.getD .skip) :=
 ⟨fsc (by kernel_rfl), fsc (by kernel_rfl), ⟨fsc (by kernel_rfl), by kernel_rfl, ⟨_, _, rfl, rfl, by kernel_rfl, rfl, rfl, by kernel_rfl⟩, fsc (by kernel_rfl)⟩, fsc (by kernel_rfl), fsc (by kernel_rfl)⟩
theorem glue_x (B : Nat) (f : SF) (x : Int) (s t : List Int) (hx : 0 ≤ x ∧ x.toNat < f.sizes.length) (hz : ix f.sizes x ≤ 17) (hs : ∀ a, a ∈ s → 0 ≤ a ∧ a.toNat < f.acts.length) (he : ∀ a, a ∈ s → ((ix f.acts a).length : Int) = ix f.sizes x) (H0 : Heap) :
  CallX Tryz.prog B 92 [.ptr f.cells, .int .i64 x, iL s, iL t] H0 (fun r H' => (r = .int .i64 (ix (glue f x s t) 0) ∧ UniqG f x s t) ∧ H' = H0) (fun H' => ¬ UniqG f x s t ∧ H' = H0) := by
 refine CallX.of_xwp (hs := []) (s := s92x) (rvs := [.tmp 8]) Tryz.func92 rfl (by kernel_rfl) fits92 (by kernel_rfl) (by rw [Tryz.ntmps92]; simp) fun _ => ?_; unfold s92x; simp only [go_sem, reduceAdd]; refine (amalgamations_ok B f x s t hx hz hs he).go fun _ => ?_; simp only [go_sem]; refine ⟨fun h1 => At.mk ?_, fun h1 => At.mk ?_⟩
 ·simp only [go_sem]; have h1p := h1; simp only [bnt, dF] at h1p; exact fun e => h1p (by simp only [UniqG] at e; omega)
 ·simp only [go_sem]; have h1p := h1; simp only [bnf, dT] at h1p; refine ⟨by omega, ?_⟩; exact ⟨H0, .refl _, ⟨rfl, by simp only [UniqG]; omega⟩, rfl⟩
theorem glue_n (B : Nat) (f : SF) (x : Int) (s t : List Int) (hx : 0 ≤ x ∧ x.toNat < f.sizes.length) (hz : ix f.sizes x ≤ 17) (hs : ∀ a, a ∈ s → 0 ≤ a ∧ a.toNat < f.acts.length) (he : ∀ a, a ∈ s → ((ix f.acts a).length : Int) = ix f.sizes x) (hu : UniqG f x s t) :
  Pur Tryz.prog B 92 [.ptr f.cells, .int .i64 x, iL s, iL t] (.int .i64 (ix (glue f x s t) 0)) :=
 ⟨fun H0 => ((glue_x B f x s t hx hz hs he H0).mono (fun r H h => ⟨h.1.1, h.2⟩) (fun H h => h.1 hu)).toH⟩
def s91x : XC :=
 .seq (.sc (.reg [⟨some 7, none, .ld none (.t 0)⟩, ⟨some 8, none, .len (.t 7)⟩, ⟨some 9, none, .mv (.c (.int .i64 0))⟩]))
 (.keep [1, 2, 3, 4, 7, 8, 9] (.block 0 (.loop [9, 1, 2, 3, 4, 7, 8] (.seq (.sc (.reg [⟨some 10, none, .ar .lss .i64 (.t 9) (.t 8)⟩]))
 (.keep [1, 2, 3, 4, 7, 8, 9, 10] (.seq (.sc (.cond (.t 10) .skip (.exit 0)))
 (.keep [1, 2, 3, 4, 7, 8, 9] (.seq (.block 1 (.seq (.sc (.reg [⟨some 11, none, .idx 1 (.t 7) (.t 9)⟩, ⟨some 12, none, .ld none (.t 11)⟩, ⟨some 6, none, .mv (.t 12)⟩]))
  (.keep [1, 2, 3, 4, 6, 7, 8, 9] (.callx [⟨some 13, none, .ld none (.t 1)⟩, ⟨some 14, none, .ld none (.t 2)⟩, ⟨some 15, none, .ld none (.t 3)⟩, ⟨some 16, none, .nck (.t 15)⟩, ⟨some 17, none, .fld 0 1 (.t 16)⟩, ⟨some 18, none, .ld none (.t 17)⟩, ⟨some 19, none, .nck (.t 18)⟩, ⟨some 20, none, .fld 7 1 (.t 19)⟩, ⟨some 21, none, .ld none (.t 20)⟩, ⟨some 22, none, .ld none (.t 2)⟩, ⟨some 23, none, .idx 1 (.t 21) (.t 22)⟩, ⟨some 24, none, .ld none (.t 23)⟩, ⟨some 25, none, .ld none (.t 4)⟩, ⟨some 26, none, .idx 1 (.t 24) (.t 25)⟩, ⟨some 27, none, .ld none (.t 26)⟩, ⟨some 28, none, .mv (.t 6)⟩] (some 29) (.c (.fn (.func 92) [])) [.t 13, .t 14, .t 27, .t 28]))))
 (.keep [1, 2, 3, 4, 7, 8, 9] (.sc (.reg [⟨some 30, none, .ar .add .i64 (.t 9) (.c (.int .i64 1))⟩, ⟨some 9, none, .mv (.t 30)⟩])))))))))))
def h91x : Hints := [(3, [0, 1, 2, 3, 4, 5, 6, 7, 8, 9, 10, 11, 12, 13, 14, 15, 16], [0, 0, 0, 0, 0, 0, 0, 0, 0, 0, 0, 0, 0, 0, 0, 0, 0])]
theorem fcx {P : Program} {N : Nat} {hs : Hints} {pre : List SOp} {d : Option Nat} {f : X} {xs : List X} {id : Nat} {ops : Array Oper} {dr : Bool} (h : lastX P N ops ((hs.lookup id).elim [] (·.2)) ((hs.lookup id).elim [] (·.1)) dr = some (pre, ⟨d, none, .call f xs⟩)) : FitsX P N hs (.callx pre d f xs) (.region id ops dr) := h
theorem fits91 : FitsX Tryz.prog Tryz.f91.ntmps h91x s91x (Tryz.f91.body.getD .skip) :=
 ⟨fsc (by kernel_rfl), rfl, fsc (by kernel_rfl), fsc (by kernel_rfl), ⟨rfl, fsc (by kernel_rfl), fcx (by kernel_rfl)⟩, fsc (by kernel_rfl)⟩
end Go.Proofs.Shf
namespace Go.AW
theorem xwp_for {P : Program} {B : Nat} {l : List Nat} {c : XC} {Q : AQ} {X0 : Heap → Prop} {σ : Env} {H : Heap} (lf : List Nat) {G : Type} (E : Nat → G → Env) (J : Nat → G → Heap → Prop) (n : Nat) (g : G)
  (h0 : J 0 g H) (he : Env.keep l σ = E 0 g ++ Env.keep lf σ)
  (h : ∀ k g H, k ≤ n → J k g H → xwp P B c (lpQ l (fun m σ' H => ∃ k g, k ≤ n ∧ m = n - k ∧ J k g H ∧ σ' = E k g ++ Env.keep lf σ) (n - k) Q) X0 (E k g ++ Env.keep lf σ) H) :
  xwp P B (.loop l c) Q X0 σ H :=
 ⟨fun m σ' H => ∃ k g, k ≤ n ∧ m = n - k ∧ J k g H ∧ σ' = E k g ++ Env.keep lf σ, n, _, _, ⟨0, g, by omega, rfl, h0, he⟩, .refl _ _,
  fun m σ H ⟨k, g, h1, h2, h3, h4⟩ => h2 ▸ h4 ▸ h k g H h1 h3⟩
end Go.AW
namespace Go.Proofs.Shf
open Go.AW Go.Proofs Go.Shf
theorem doGlue_x (B : Nat) (f : SF) (h : f.Shape) (v : Cov) (cnt : AV) (x s : Nat) (L : List (List Int)) (H : Heap) (i9 i5 i7 : Nat) (h9 : H.get i9 = some (.cells 1 [iLL L] 0)) (h5 : H.get i5 = some (.cells 1 [.int .i64 x] 0)) (h7 : H.get i7 = some (.cells 1 [.int .i64 s] 0))
  (hx : x < f.sizes.length) (hvx : x < v.sieves.length) (hvs : s < (v.sieves.getD x default).length) (hsv : f.shape.Sieve x ((v.sieves.getD x default).getD s default)) (hL : L.length ≤ 1000) :
  CallX Tryz.prog B 91 [.ref i9 0, .ptr [.ptr f.cells], .ref i5 0, .ptr [.ptr (v.cells cnt)], .ref i7 0] H (fun _ H' => H.sub H' ∧ dec (∀ t, t ∈ L → UniqG f x ((v.sieves.getD x default).getD s default) t) = true)
   (fun H' => H.sub H' ∧ dec (∀ t, t ∈ L → UniqG f x ((v.sieves.getD x default).getD s default) t) = false) := by
 have hal := h.al; have hsl := h.sl; have hz := h.sizeAt (y := (x : Int)) ⟨by omega, by omega⟩; have hgl := fun t => glue_x B f x ((v.sieves.getD x default).getD s default) t ⟨by omega, by simpa using hx⟩ (by omega) (fun a ha => by have := hsv.arr ha; omega) (fun a ha => by
  have hv := hsv.arr ha; have h1 := h.actLen hv.1.2; rw [hv.2] at h1; exact h1)
 generalize hS : (v.sieves.getD x default).getD s default = S at *; refine CallX.of_xwp (hs := h91x) (s := s91x) (rvs := []) Tryz.func91 rfl (by kernel_rfl) fits91 (by kernel_rfl) (by rw [Tryz.ntmps91]; simp) fun _ => ?_; unfold s91x; simp only [go_sem, reduceAdd, reduceLT, h9]; refine xwp_for [1, 2, 3, 4, 7, 8] (G := Unit) (fun k _ => [(9, some (.int .i64 (k : Int)))]) (fun k _ H' => H' = H ∧ ∀ i, i < k → UniqG f x S (L.getD i default)) L.length () ⟨rfl, by simp⟩ rfl ?_; rintro k _ H' hk ⟨rfl, hall⟩; simp only [go_sem]; refine ⟨fun h1 => At.mk ?_, fun h1 => At.mk ?_⟩
 ·have h1p := h1; simp only [dT] at h1p; have w := wsucc (k := k) (by omega); simp only [go_sem, reduceAdd, reduceLeDiff, reduceLT, h9, h5, h7]; refine ⟨h1p, hvx, hvs, ?_⟩; rw [hS]; refine (hgl (L.getD k default) H').mono ?_ ?_
  ·rintro r H ⟨⟨rfl, hu⟩, rfl⟩; simp only [go_sem, w]; exact for_next () h1p ⟨rfl, lt_succ_all hall hu⟩ rfl
  ·rintro H ⟨hu, rfl⟩; exact ⟨.refl _, dec_f fun q => hu (q _ (mem_getD.mpr ⟨k, h1p, rfl⟩))⟩
 ·simp only [go_sem]; have h1p := h1; simp only [dF, Nat.not_lt] at h1p; exact ⟨H', .refl _, .refl _, dec_t (all_getD.mpr fun i hi => hall i (by omega))⟩
def MarkGood (f : SF) (v : Cov) (x s : Nat) : Prop := (v.marks.getD x default).getD s default = true → CovGood f x ((v.sieves.getD x default).getD s default)
def SheafM (f : SF) (v : Cov) : Prop := ∀ x, x < v.marks.length → ∀ s, s < (v.marks.getD x default).length → MarkGood f v x s
theorem isSheaf_ok (B : Nat) (v : Cov) (cnt : AV) (f : SF) (h : f.Shape) (hml : (v.marks.length : Int) = f.shape.objs) (hsl : v.sieves.length = v.marks.length)
  (hms : ∀ x, x < v.marks.length → (v.marks.getD x default).length ≤ (v.sieves.getD x default).length ∧ (v.marks.getD x default).length ≤ 1000000)
  (hsv : ∀ x, x < v.marks.length → ∀ s, s < (v.sieves.getD x default).length → f.shape.Sieve x ((v.sieves.getD x default).getD s default)) :
  Pur Tryz.prog B 50 [.ptr (v.cells cnt), .ptr f.cells] (.bool (dec (SheafM f v))) := by
 refine ⟨fun H0 => c50p (by simp) fun hfi => ?_⟩; have hob := h.is.1.o; have hfl := h.sl; have hdo := doGlue_x B f h v cnt; unfold s50p; simp only [go_sem, reduceAdd, reduceLeDiff]; refine awp_for [2, 3, 15, 16] (G := Unit) (fun k _ => [(17, some (.int .i64 (k : Int)))]) (fun k _ H => H0.sub H ∧ ∀ x, x < k → ∀ s, s < (v.marks.getD x default).length → MarkGood f v x s) v.marks.length () ⟨.refl _, by simp⟩ rfl ?_; rintro x _ H hk ⟨hsub, hall⟩; replace hsub : H0.sub H := hsub; have o : Owns H0 H [] := ⟨hsub, by simp, by simp, by simp⟩; simp only [go_sem]; refine ⟨fun h1 => At.mk ?_, fun h1 => At.mk ?_⟩
 ·have h1p := h1; simp only [dT] at h1p; have w := wsucc (k := x) (by omega); have hm1 := hms x h1p; simp only [go_sem, reduceAdd]; refine ⟨h1p, ?_⟩; refine newRef_own o fun id5 H o => ?_; simp only [go_sem]; refine st_cells o (by simp) (by (simp only [go_sem]); (try simp)) (by first | (simp only [go_sem]; done) | ((simp only [go_sem]); simp [AV.one, one_mL])) fun H o => ?_; simp only [wr_cons, wr_nil, sZ, sY] at o; simp only [go_sem]; refine awp_for [2, 3, 5, 15, 16, 17, 22, 23] (G := Unit) (fun k _ => [(24, some (.int .i64 (k : Int)))]) (fun k _ H => Owns H0 H [(id5, .cells 1 [.int .i64 (x : Int)] 0)] ∧ ∀ s, s < k → MarkGood f v x s) (v.marks.getD x default).length () ⟨o, by simp⟩ rfl ?_; clear o; rintro s _ H hk2 ⟨o, hall2⟩; replace o : Owns H0 H [(id5, .cells 1 [.int .i64 (x : Int)] 0)] := o; simp only [go_sem]; refine ⟨fun h2 => At.mk ?_, fun h2 => At.mk ?_⟩
  ·have h2p := h2; simp only [dT] at h2p; have w2 := wsucc (k := s) (by omega); simp only [go_sem, reduceAdd]; refine ⟨h2p, ?_⟩; refine newRef_own o fun id7 H o => ?_; simp only [go_sem]; refine st_cells o (by simp) (by (simp only [go_sem]); (try simp)) (by first | (simp only [go_sem]; done) | ((simp only [go_sem]); simp [AV.one, one_mL])) fun H o => ?_; simp only [wr_cons, wr_nil, sZ, sY] at o; simp only [go_sem]; refine ⟨fun h3 => At.mk ?_, fun h3 => At.mk ?_⟩
   ·simp only [go_sem, w2]; have h3p : (v.marks.getD x default).getD s default = false := by simpa using h3
    exact for_next () (by omega) ⟨o.tl, lt_succ_all hall2 fun e => by rw [h3p] at e; cases e⟩ rfl
   ·have h3p : (v.marks.getD x default).getD s default = true := by simpa using h3
    have hS := hsv x h1p s (by omega); have hq := fun L hL H i9 h9 h5 h7 => hdo x s L H i9 id5 id7 h9 h5 h7 (by omega) (by omega) (by omega) hS hL; simp only [go_sem, reduceAdd, reduceLeDiff]; refine rd_get o.tl.h0 (by simp) ?_; simp only [go_sem]; refine ⟨by omega, ?_⟩; refine rd_get o.h0 (by simp) ?_; simp only [go_sem]; refine ⟨by omega, _, (families_ok B f h x ((v.sieves.getD x default).getD s default) hS 16 (by omega)).run, ?_⟩; generalize hFa : famS f ((v.sieves.getD x default).getD s default) = Fa at *; simp only [go_sem, reduceAdd, reduceLT]; refine newRef_own o fun id9 H o => ?_; simp only [go_sem]; refine st_cells o (by simp) (by (simp only [go_sem]); (try simp)) (by first | (simp only [go_sem]; done) | ((simp only [go_sem]); simp [AV.one, one_mL])) fun H o => ?_; simp only [wr_cons, wr_nil, sZ, sY] at o; simp only [go_sem]; by_cases h4p : Fa.length ≤ 16
    ·have htk : Fa.take 17 = Fa := List.take_of_length_le (by omega); rw [htk] at o; rw [decide_eq_true h4p]; simp only [go_sem]; refine glued_ok (b := dec (∀ t, t ∈ Fa → UniqG f x ((v.sieves.getD x default).getD s default) t)) (fun H1 hs1 => ?_) ?_
     ·exact hq Fa (by omega) H1 id9 (hs1 _ _ o.h0) (hs1 _ _ o.tl.tl.h0) (hs1 _ _ o.tl.h0)
     by_cases hu : ∀ t, t ∈ Fa → UniqG f x ((v.sieves.getD x default).getD s default) t
     ·rw [dec_t hu]; simp only [go_sem, Bool.not_true, w2]; refine for_next () (by omega) ⟨o.tl.tl, lt_succ_all hall2 fun _ => ⟨by rw [hFa]; exact h4p, by rw [hFa]; exact hu⟩⟩ rfl
     ·rw [dec_f hu]; simp only [go_sem, Bool.not_false]; exact pure_ret (by rw [dec_f]; exact fun q => hu (by have := (q x h1p s (by omega) h3p).2; rw [hFa] at this; exact this)) o.sub
    ·rw [decide_eq_false h4p]; simp only [go_sem, Bool.not_false]; exact pure_ret (by rw [dec_f]; exact fun q => h4p (by have := (q x h1p s (by omega) h3p).1; rw [hFa] at this; exact this)) o.sub
  ·simp only [go_sem, w]; have h2p := h2; simp only [dF, Nat.not_lt] at h2p; exact for_next () (by omega) ⟨o.sub, lt_succ_all hall fun s hs => hall2 s (by omega)⟩ rfl
 ·simp only [go_sem]; have h1p := h1; simp only [dF, Nat.not_lt] at h1p; exact pure_ret (by rw [dec_t]; exact fun x hx => hall x (by omega)) hsub
def SepAt (f : SF) (V : List (List Int)) (x : Nat) : Prop := ∀ e : Nat, e < (ix f.sizes x).toNat → UniqG f x (V.getD x default) (imgs f (V.getD x default) e)
theorem l28Separated_ok (B : Nat) (f : SF) (h : f.Shape) (V : List (List Int)) (c : CovOk f.shape V) : Pur Tryz.prog B 82 [.agg f.cells, iLL V] (.bool (dec (∀ x, x < V.length → SepAt f V x))) := by
 refine ⟨fun H0 => c82 (by simp) fun hfi => ?_⟩; have hob := h.is.1.o; have hfl := h.sl; have hal := h.al; have hvl := c.len; unfold s82; simp only [go_sem, reduceAdd]; refine awp_for [1, 2] (G := Unit) (fun k _ => [(5, some (.int .i64 (k : Int)))]) (fun k _ H => H = H0 ∧ ∀ x, x < k → SepAt f V x) V.length () ⟨rfl, by simp⟩ rfl ?_; rintro x _ H hk ⟨rfl, hall⟩; simp only [go_sem, reduceAdd, reduceLeDiff]; refine ⟨fun h1 => At.mk ?_, fun h1 => At.mk ?_⟩
 ·have h1p := h1; simp only [dT] at h1p; have w := wsucc (k := x) (by omega); have hz := h.sizeAt (y := (x : Int)) ⟨by omega, by omega⟩; have hixk : ix f.sizes x = f.sizes.getD x default := by simp only [ix_nat]
  have hsv := c.sv x (by omega); have hs1 : ∀ a, a ∈ V.getD x default → 0 ≤ a ∧ a.toNat < f.acts.length := fun a ha => by have := hsv.arr ha; omega
  have hs2 : ∀ a, a ∈ V.getD x default → ((ix f.acts a).length : Int) = ix f.sizes x := fun a ha => by
   have hv := hsv.arr ha; have h1 := h.actLen hv.1.2; rw [hv.2] at h1; exact h1
  simp only [go_sem]; refine awp_for [1, 2, 5] (G := Unit) (fun k _ => [(6, some (.int .i64 (k : Int)))]) (fun k _ H' => H' = H ∧ ∀ e : Nat, e < k → UniqG f x (V.getD x default) (imgs f (V.getD x default) e)) (ix f.sizes x).toNat () ⟨rfl, by simp⟩ rfl ?_; rintro e _ H hk2 ⟨rfl, hall2⟩; simp only [go_sem, reduceAdd, reduceLeDiff]; refine ⟨by omega, ?_⟩; refine ⟨fun h2 => At.mk ?_, fun h2 => At.mk ?_⟩
  ·have h2p := h2; simp only [dT] at h2p; have w2 := wsucc (k := e) (by omega); simp only [go_sem, reduceAdd]; refine ⟨by omega, by omega, _, (l28Images_ok B f (V.getD x default) e hs1 (by omega) (fun a ha => by have := hs2 a ha; omega)).run, ?_⟩; refine ⟨_, (l28Glued_ok B f x (V.getD x default) (imgs f (V.getD x default) e) ⟨by omega, by omega⟩ (by omega) hs1 hs2).run, ?_⟩; simp only [go_sem]; refine ⟨fun h3 => At.mk ?_, fun h3 => At.mk ?_⟩
   ·simp only [go_sem]; have h3p := h3; simp only [bnt, dF] at h3p; exact pure_ret (by rw [dec_f]; intro q; have := q x (by omega) e (by omega); simp only [UniqG] at this; omega) (.refl _)
   ·simp only [go_sem, w2]; have h3p := h3; simp only [bnf, dT] at h3p; exact for_next () (by omega) ⟨rfl, lt_succ_all hall2 (by simp only [UniqG]; omega)⟩ rfl
  ·simp only [go_sem, w]; have h2p := h2; simp only [dF, Int.not_lt] at h2p; exact for_next () (by omega) ⟨rfl, lt_succ_all hall fun e he => hall2 e (by omega)⟩ rfl
 ·simp only [go_sem]; have h1p := h1; simp only [dF, Int.not_lt] at h1p; exact pure_ret (by rw [dec_t]; exact fun x hx => hall x (by omega)) (.refl _)
theorem l28Sheaf_ok (B : Nat) (f : SF) (h : f.Shape) (V : List (List Int)) (c : CovOk f.shape V) : Pur Tryz.prog B 43 [.agg f.cells, iLL V] (.bool (dec (SheafLeast f V))) := by
 refine ⟨fun H0 => c43 (by simp) fun hfi => ?_⟩; have hob := h.is.1.o; have hfl := h.sl; have hvl := c.len; unfold s43; simp only [go_sem, reduceAdd]; refine (l28Separated_ok B f h V c).go fun _ => ?_; by_cases hsep : ∀ x, x < V.length → SepAt f V x
 rotate_left
 ·rw [dec_f hsep]; simp only [go_sem, Bool.not_false]; exact pure_ret (by rw [dec_f]; exact fun q => hsep fun x hx => (q x hx).1) (.refl _)
 rw [dec_t hsep]; simp only [go_sem, Bool.not_true]; refine awp_for [1, 2] (G := Unit) (fun k _ => [(5, some (.int .i64 (k : Int)))]) (fun k _ H => H = H0 ∧ ∀ x : Nat, x < k → ((famS f (V.getD x default)).length : Int) = ix f.sizes x) V.length () ⟨rfl, by simp⟩ rfl ?_; rintro x _ H hk ⟨rfl, hall⟩; simp only [go_sem, reduceAdd, reduceLeDiff]; refine ⟨fun h1 => At.mk ?_, fun h1 => At.mk ?_⟩
 ·have h1p := h1; simp only [dT] at h1p; have w := wsucc (k := x) (by omega); have hz := h.sizeAt (y := (x : Int)) ⟨by omega, by omega⟩; have hixk : ix f.sizes x = f.sizes.getD x default := by simp only [ix_nat]
  obtain ⟨n, hn⟩ : ∃ n : Nat, f.sizes.getD x default = (n : Int) := ⟨(f.sizes.getD x default).toNat, by omega⟩; have wn := wsucc (k := n) (by omega); have hfam := l28Families_ok B f x (V.getD x default) h (c.sv x (by omega)) (n + 1) (by omega) (by omega); simp only [go_sem, reduceAdd, reduceLeDiff]; rw [hn]; simp only [wn]; refine ⟨by omega, by omega, _, hfam.run, ?_⟩; simp only [go_sem, reduceAdd, reduceLeDiff]; have hlen : ((famS f (V.getD x default)).take (n + 1)).length = min (n + 1) (famS f (V.getD x default)).length := List.length_take; refine ⟨by omega, ?_⟩; refine ⟨fun h3 => At.mk ?_, fun h3 => At.mk ?_⟩
  ·simp only [go_sem]; have h3p := h3; simp only [bnt, dF] at h3p; exact pure_ret (by rw [dec_f]; intro q; have := (q x (by omega)).2; omega) (.refl _)
  ·simp only [go_sem, w]; have h3p := h3; simp only [bnf, dT] at h3p; exact for_next () (by omega) ⟨rfl, lt_succ_all hall (by omega)⟩ rfl
 ·simp only [go_sem]; have h1p := h1; simp only [dF, Int.not_lt] at h1p; exact pure_ret (by rw [dec_t]; exact fun x hx => ⟨hsep x hx, hall x (by omega)⟩) (.refl _)
theorem isSheaf_at (B : Nat) (j : Top) (f : SF) (cnt : AV) (h0 : codeF j f = 0) : Pur Tryz.prog B 50 [.ptr ((covV j).cells cnt), .ptr f.cells] (.bool (dec (SheafLeast f (leastL j.shape j.covers)))) := by
 obtain ⟨hF, hf, hct, hsh⟩ := codeF_z h0; have haf : AllFew j.shape := by
  unfold codeT at hct; rw [if_neg (fun e => e hF)] at hct; apply Classical.byContradiction; intro e; rw [if_pos e] at hct; cases hct
 have htop : TopIs j.shape j.covers := by
  unfold codeT at hct; rw [if_neg (fun e => e hF), if_neg (fun e => e haf)] at hct; apply Classical.byContradiction; intro e; rw [if_neg e] at hct; cases hct
 have tab := tabOk hF.is haf; have hml : (covV j).marks.length = (listsOf j.shape).length := marks_len; have hmk : MarkOk (listsOf j.shape) (covV j).marks := markOk; have hsv : (covV j).sieves = listsOf j.shape := rfl; have hLl : (listsOf j.shape).length = j.covers.length := by have := tab.len; have := hF.len; omega
 have hcs : ∀ x : Nat, x < j.covers.length → ∀ s, s ∈ j.covers.getD x default → j.shape.Sieve x s := fun x hx s hs => by
  obtain ⟨k, hk, rfl⟩ := mem_getD.mp hs; exact hF.sv x hx k hk
 have hst := isSheaf_ok B (covV j) cnt f hf.1 (by rw [hml, ← hsh]; exact tab.len) hml.symm (fun x hx => by
  have hx' : x < (listsOf j.shape).length := by rw [← hml]; exact hx
  have h1 := hmk.row x hx'; have h2 := tab.few x hx'; rw [h1, hsv]; exact ⟨Nat.le_refl _, by omega⟩) (fun x hx s hs => by
  rw [hsv] at hs ⊢; rw [← hsh]; exact tab.sv (by rw [← hml]; exact hx) hs)
 have key : SheafM f (covV j) ↔ SheafLeast f (leastL j.shape j.covers) := by
  have e := sheaf_iff hf.1 hf.compL (C := j.covers) (by rw [← hsh]; exact hF.len) (by rw [← hsh]; exact hcs) (by rw [← hsh]; exact htop); rw [← hsh] at e; rw [← e]
  constructor
  ·intro q x hx s hs; have hx' : x < (listsOf j.shape).length := by omega
   obtain ⟨k, hk, rfl⟩ := mem_getD.mp (((tab.all x hx').mem s).mpr (hcs x hx s hs)); have hrow := hmk.row x hx'; refine q x (by omega) k (by rw [hrow]; exact hk) ?_; show ((marksOf (listsOf j.shape) j.covers).getD x default).getD k default = true; rw [marks_at hx' hk, dT]; exact hs
  ·intro q x hx s hs hm; have hx' : x < (listsOf j.shape).length := by omega
   have hs' : s < ((listsOf j.shape).getD x default).length := by rw [← hmk.row x hx']; exact hs
   have hm2 : ((marksOf (listsOf j.shape) j.covers).getD x default).getD s default = true := hm; rw [marks_at hx' hs', dT] at hm2; exact q x (by omega) _ hm2
 rw [dec_congr key] at hst; exact hst
theorem l28Down_ok (B : Nat) (f g : SF) (h : f.Shape) (hg : g.Shape) (hgc : g.CompL) (e : f.shape = g.shape) (p : List (List Int)) (m : MapL f g p) (V : List (List Int)) (c : CovOk f.shape V) (hfew : StepFew f V) (hsh : SheafLeast g V) :
  Pur Tryz.prog B 77 [.agg (stepCells f V), iLL V, .agg g.cells, iLL p] (iLL (downS f g V p)) := by
 refine ⟨fun H0 => c77p (by simp) fun hfi => ?_⟩; have hm := h.is.1.m; have hob := h.is.1.o; have htl := h.is.1.tol; have hfl := h.sl; have hvl := c.len; have hfll : (famsOf f V).length = V.length := by simp [famsOf]
 have hgo : g.shape.objs = V.length := by rw [← e]; omega
 have c' := c; rw [e] at c'; have hgal := hg.al; have hgsl := hg.sl; have hgtl := hg.is.1.tol; have hpl := m.len; unfold s77p; simp only [go_sem, reduceAdd, reduceLeDiff]; refine ⟨by simp [maxL], newRef_own (.nil _) fun id9 H o => ?_⟩; simp only [go_sem]; refine st_cells o (by simp) (by (simp only [go_sem]); (try simp)) (by first | (simp only [go_sem]; done) | ((simp only [go_sem]); simp [AV.one, one_mL])) fun H o => ?_; simp only [wr_cons, wr_nil, sZ, sY] at o; simp only [go_sem]; refine new_list iL o fun id11 H o => ?_; simp only [go_sem]; refine awp_for [1, 3, 4, 6, 9] (G := Nat) (fun k g => [(10, some (.buf g k)), (11, some (.int .i64 (k : Int)))])
  (fun k id H => Owns H0 H [(id, .cells 1 (((List.range k).map (downAt f g V p)).map iL) 0), (id9, .cells 5 (Cat.cells g.shape) 0)]) V.length id11 o rfl ?_
 clear o; rintro k id11 H hk o; replace o : Owns H0 H [(id11, .cells 1 (((List.range k).map (downAt f g V p)).map iL) 0), (id9, .cells 5 (Cat.cells g.shape) 0)] := o; simp only [go_sem, reduceAdd]; refine rd_get (o.get (id9, _) (by repeat (first | exact List.mem_cons_self | refine List.mem_cons_of_mem _ ?_ | refine List.mem_append_right _ ?_))) (by simp [Cat.cells]) ?_; simp only [Cat.cells, List.getD_cons_zero]; simp only [go_sem]; refine ⟨fun h1 => At.mk ?_, fun h1 => At.mk ?_⟩
 ·have h1q := of_decide h1; have h1p : k < V.length := by omega
  have w := wsucc (k := k) (by omega); have hsv := c.sv k (by omega); have hsn := hsv.len; have hfk : (famsOf f V).getD k default = famAt f V k := by rw [famsOf, getD_map_range _ _ (by omega)]
  have hfkl : (famAt f V k).length ≤ 16 := hfew k (by omega); simp only [go_sem]; refine new_list iI o fun id13 H o => ?_; simp only [go_sem]; refine awp_for [1, 3, 4, 6, 9, 10, 11] (G := Nat × List Int) (fun i g => [(12, some (.buf g.1 g.2.length)), (13, some (.int .i64 (i : Int)))])
   (fun i r H => r.2 = ((famAt f V k).take i).map (fun t => gl g k (V.getD k default) (mapT f.shape p (V.getD k default) t)) ∧ Owns H0 H [(r.1, .cells 1 (r.2.map iI) 0), (id11, .cells 1 (((List.range k).map (downAt f g V p)).map iL) 0), (id9, .cells 5 (Cat.cells g.shape) 0)]) (famAt f V k).length (id13, []) ⟨rfl, o⟩ rfl ?_
  clear o; rintro i ⟨id13, row⟩ H hi ⟨hrow, o⟩; replace hrow : row = ((famAt f V k).take i).map (fun t => gl g k (V.getD k default) (mapT f.shape p (V.getD k default) t)) := hrow; replace o : Owns H0 H [(id13, .cells 1 (row.map iI) 0), (id11, .cells 1 (((List.range k).map (downAt f g V p)).map iL) 0), (id9, .cells 5 (Cat.cells g.shape) 0)] := o; have hrl : row.length = i := by rw [hrow, List.length_map, List.length_take]; omega
  simp only [go_sem, reduceAdd, reduceLeDiff]; refine ⟨by omega, ?_⟩; rw [hfk]; refine ⟨fun h2 => At.mk ?_, fun h2 => At.mk ?_⟩
  ·have h2p := of_decide h2; have w2 := wsucc (k := i) (by omega); have hft := ((famS_is h hsv).mem _).mp (show (famAt f V k).getD i default ∈ famS f (V.getD k default) from mem_getD.mpr ⟨i, h2p, rfl⟩); generalize ht : (famAt f V k).getD i default = t at *; simp only [go_sem]; refine new_list iI o fun id15 H o => ?_; simp only [go_sem]; refine awp_for [1, 3, 4, 6, 9, 10, 11, 12, 13] (G := Nat × List Int) (fun n g => [(14, some (.buf g.1 g.2.length)), (15, some (.int .i64 (n : Int)))])
    (fun n r H => r.2 = (List.range n).map (fun j => ix (ix p (ix g.shape.to ((V.getD k default).getD j default))) (t.getD j default)) ∧ Owns H0 H [(r.1, .cells 1 (r.2.map iI) 0), (id13, .cells 1 (row.map iI) 0), (id11, .cells 1 (((List.range k).map (downAt f g V p)).map iL) 0), (id9, .cells 5 (Cat.cells g.shape) 0)]) (V.getD k default).length (id15, []) ⟨rfl, o⟩ rfl ?_
   clear o; rintro n ⟨id15, fam⟩ H hn ⟨hfam, o⟩; replace hfam : fam = (List.range n).map (fun j => ix (ix p (ix g.shape.to ((V.getD k default).getD j default))) (t.getD j default)) := hfam; replace o : Owns H0 H [(id15, .cells 1 (fam.map iI) 0), (id13, .cells 1 (row.map iI) 0), (id11, .cells 1 (((List.range k).map (downAt f g V p)).map iL) 0), (id9, .cells 5 (Cat.cells g.shape) 0)] := o; have hfal : fam.length = n := by rw [hfam]; simp
   simp only [go_sem]; refine ⟨h1p, ?_⟩; refine ⟨fun h3 => At.mk ?_, fun h3 => At.mk ?_⟩
   ·have h3p := of_decide h3; have w3 := wsucc (k := n) (by omega); have ha := hsv.arr (mem_getD.mpr ⟨n, h3p, rfl⟩); have hto := h.is.1.toObj ha.1.2; have hpx := (m.pl _ hto).1; have hrn := hft.ran n h3p; have htl := hft.len; rw [e] at ha hto hpx hrn; simp only [go_sem, reduceAdd]; refine rd_get (o.get (id9, _) (by repeat (first | exact List.mem_cons_self | refine List.mem_cons_of_mem _ ?_ | refine List.mem_append_right _ ?_))) (by simp [Cat.cells]) ?_; simp only [Cat.cells, List.getD_cons_zero, List.getD_cons_succ]; simp only [go_sem, reduceAdd, reduceLeDiff]; rw [hfk, ht]; refine ⟨h1p, h3p, by omega, by omega, by omega, by omega, by omega, by omega, ?_⟩; refine app_own (f := iI) (ix (ix p (ix g.shape.to ((V.getD k default).getD n default))) (t.getD n default)) o rfl rfl (by simp only [maxL]; omega) fun id15 H o => ?_; have e8 : fam ++ [ix (ix p (ix g.shape.to ((V.getD k default).getD n default))) (t.getD n default)] = (List.range (n + 1)).map (fun j => ix (ix p (ix g.shape.to ((V.getD k default).getD j default))) (t.getD j default)) := by
     rw [hfam, List.range_succ]; simp [-List.getD_eq_getElem?_getD]
    simp only [go_sem, w3]; exact for_next (_, _) (by omega) ⟨e8, o⟩ rfl
   ·have h3p := of_ndecide h3; have hfe : fam = mapT f.shape p (V.getD k default) t := by rw [hfam, mapT, e, show n = (V.getD k default).length by omega]
    simp only [go_sem]; refine fz_own o rfl fun H o => ?_; simp only [go_sem, reduceAdd]; have hu : UniqG g k (V.getD k default) fam := by
     have hv := c'.at (x := (k : Int)) ⟨by omega, by omega⟩; have := sheaf_uniq hg hgc c' hsh (x := (k : Int)) ⟨by omega, by omega⟩ (t := fam) (by simp only [ix_nat]; rw [hfe]; exact mapT_fam h hg e m hsv hft); simpa only [ix_nat] using this
    have hz := hg.sizeAt (y := (k : Int)) ⟨by omega, by omega⟩; have hsv' := c'.sv k (by omega); have hs1 : ∀ a, a ∈ V.getD k default → 0 ≤ a ∧ a.toNat < g.acts.length := fun a ha => by have := hsv'.arr ha; omega
    have hs2 : ∀ a, a ∈ V.getD k default → ((ix g.acts a).length : Int) = ix g.sizes k := fun a ha => by
     have hv := hsv'.arr ha; have h1 := hg.actLen hv.1.2; rw [hv.2] at h1; exact h1
    have hl1 : 0 < (glue g k (V.getD k default) fam).length := by simp only [UniqG] at hu; omega
    refine ⟨h1p, _, (l28Glued_ok B g k (V.getD k default) fam ⟨by omega, by omega⟩ (by omega) hs1 hs2).run, ?_⟩; simp only [go_sem, reduceAdd]; refine ⟨⟨by omega, by simpa using hl1⟩, ?_⟩; refine app_own (f := iI) (gl g k (V.getD k default) (mapT f.shape p (V.getD k default) t)) o (by rw [hfe]; rfl) rfl (by simp only [maxL]; omega) fun id13 H o => ?_; have e8 : row ++ [gl g k (V.getD k default) (mapT f.shape p (V.getD k default) t)] = ((famAt f V k).take (i + 1)).map (fun t => gl g k (V.getD k default) (mapT f.shape p (V.getD k default) t)) := by
     rw [hrow, take_map_succ _ _ h2p, ht]
    simp only [go_sem, w2]; exact for_next (_, _) (by omega) ⟨e8, o⟩ rfl
  ·have h2p := of_ndecide h2; have hrow2 : row = downAt f g V p k := by rw [hrow, List.take_of_length_le (by omega)]; rfl
   simp only [go_sem]; refine fz_own o rfl fun H o => ?_; simp only [go_sem, reduceAdd]; refine app_own (f := iL) row o rfl (by simp) (by simp only [List.length_map, List.length_range, maxL]; omega) fun id9 H o => ?_; have e7 : (List.range k).map (downAt f g V p) ++ [row] = (List.range (k + 1)).map (downAt f g V p) := by rw [List.range_succ, List.map_append, hrow2]; rfl
   rw [e7] at o ⊢; simp only [go_sem, w]; exact for_next id9 (by omega) o (by simp)
 ·have h1q := of_ndecide h1; have h1p : ¬ k < V.length := by omega
  obtain rfl : k = V.length := by omega
  simp only [go_sem]; refine fz_own o (by simp) fun H o => ?_; simp only [go_sem]; exact pure_ret rfl o.sub
theorem extended_ok (B : Nat) (f g : SF) (h : f.Shape) (hg : g.Shape) (hgc : g.CompL) (e : f.shape = g.shape) (p : List (List Int)) (m : MapL f g p) (V : List (List Int)) (c : CovOk f.shape V) (hfew : StepFew f V) (hsh : SheafLeast g V) :
  Pur Tryz.prog B 78 [stepVal f V, .ptr g.cells, iLL p] (iLL (downS f g V p)) := by
 refine ⟨fun H0 => c78p (by simp) fun hfi => ?_⟩; have hm := h.is.1.m; have hob := h.is.1.o; have htl := h.is.1.tol; have hfl := h.sl; have hvl := c.len; have hfll : (famsOf f V).length = V.length := by simp [famsOf]
 have hgal := hg.al; have hgsl := hg.sl; have hgtl := hg.is.1.tol; have hgo : g.shape.objs = V.length := by rw [← e]; omega
 have hpl := m.len; have c' := c; rw [e] at c'; unfold s78p; simp only [go_sem, reduceAdd, reduceLeDiff]; refine new_list iL (.nil _) fun id11 H o => ?_; simp only [go_sem, reduceAdd, reduceLeDiff]; refine awp_for [0, 1, 2, 7, 24, 25] (G := Nat) (fun k g => [(8, some (.buf g k)), (26, some (.int .i64 (k : Int)))])
  (fun k id H => Owns H0 H [(id, .cells 1 (((List.range k).map (downAt f g V p)).map iL) 0)]) V.length id11 o (by rw [hfll]; rfl) ?_
 clear o; rintro k id11 H hk o; replace o : Owns H0 H [(id11, .cells 1 (((List.range k).map (downAt f g V p)).map iL) 0)] := o; simp only [go_sem]; refine ⟨fun h1 => At.mk ?_, fun h1 => At.mk ?_⟩
 ·have h1p := of_decide h1; rw [hfll] at h1p; have w := wsucc (k := k) (by omega); have hsv := c.sv k (by omega); have hsv' := c'.sv k (by omega); have hsn := hsv.len; have hfk : (famsOf f V).getD k default = famAt f V k := by rw [famsOf, getD_map_range _ _ (by omega)]
  have hfkl : (famAt f V k).length ≤ 16 := hfew k (by omega); simp only [go_sem]; refine ⟨by omega, ?_⟩; refine new_list iI o fun id13 H o => ?_; simp only [go_sem]; rw [hfk]; refine awp_for [0, 1, 2, 7, 8, 9, 24, 25, 26, 32, 33] (G := Nat × List Int) (fun i g => [(11, some (.buf g.1 g.2.length)), (34, some (.int .i64 (i : Int)))])
   (fun i r H => r.2 = ((famAt f V k).take i).map (fun t => gl g k (V.getD k default) (mapT f.shape p (V.getD k default) t)) ∧ Owns H0 H [(r.1, .cells 1 (r.2.map iI) 0), (id11, .cells 1 (((List.range k).map (downAt f g V p)).map iL) 0)]) (famAt f V k).length (id13, []) ⟨rfl, o⟩ rfl ?_
  clear o; rintro i ⟨id13, row⟩ H hi ⟨hrow, o⟩; replace hrow : row = ((famAt f V k).take i).map (fun t => gl g k (V.getD k default) (mapT f.shape p (V.getD k default) t)) := hrow; replace o : Owns H0 H [(id13, .cells 1 (row.map iI) 0), (id11, .cells 1 (((List.range k).map (downAt f g V p)).map iL) 0)] := o; have hrl : row.length = i := by rw [hrow, List.length_map, List.length_take]; omega
  simp only [go_sem]; refine ⟨fun h2 => At.mk ?_, fun h2 => At.mk ?_⟩
  ·have h2p := of_decide h2; have w2 := wsucc (k := i) (by omega); have hft := ((famS_is h hsv).mem _).mp (show (famAt f V k).getD i default ∈ famS f (V.getD k default) from mem_getD.mpr ⟨i, h2p, rfl⟩); generalize ht : (famAt f V k).getD i default = t at *; simp only [go_sem]; refine ⟨h2p, ?_⟩; rw [ht]; refine new_list iI o fun id15 H o => ?_; simp only [go_sem, reduceAdd, reduceLeDiff]; refine ⟨h1p, ?_⟩; refine awp_for [0, 1, 2, 7, 8, 9, 11, 13, 24, 25, 26, 32, 33, 34, 45, 46] (G := Nat × List Int) (fun n g => [(14, some (.buf g.1 g.2.length)), (47, some (.int .i64 (n : Int)))])
    (fun n r H => r.2 = (List.range n).map (fun j => ix (ix p (ix g.shape.to ((V.getD k default).getD j default))) (t.getD j default)) ∧ Owns H0 H [(r.1, .cells 1 (r.2.map iI) 0), (id13, .cells 1 (row.map iI) 0), (id11, .cells 1 (((List.range k).map (downAt f g V p)).map iL) 0)]) (V.getD k default).length (id15, []) ⟨rfl, o⟩ rfl ?_
   clear o; rintro n ⟨id15, fam⟩ H hn ⟨hfam, o⟩; replace hfam : fam = (List.range n).map (fun j => ix (ix p (ix g.shape.to ((V.getD k default).getD j default))) (t.getD j default)) := hfam; replace o : Owns H0 H [(id15, .cells 1 (fam.map iI) 0), (id13, .cells 1 (row.map iI) 0), (id11, .cells 1 (((List.range k).map (downAt f g V p)).map iL) 0)] := o; have hfal : fam.length = n := by rw [hfam]; simp
   simp only [go_sem]; refine ⟨fun h3 => At.mk ?_, fun h3 => At.mk ?_⟩
   ·have h3p := of_decide h3; have w3 := wsucc (k := n) (by omega); have ha := hsv.arr (mem_getD.mpr ⟨n, h3p, rfl⟩); have hto := h.is.1.toObj ha.1.2; have hpx := (m.pl _ hto).1; have hrn := hft.ran n h3p; have htl := hft.len; rw [e] at ha hto hpx hrn; simp only [go_sem, reduceAdd, reduceLeDiff]; refine ⟨h3p, by omega, by omega, by omega, by omega, ?_⟩; refine app_own (f := iI) (ix (ix p (ix g.shape.to ((V.getD k default).getD n default))) (t.getD n default)) o rfl rfl (by simp only [maxL]; omega) fun id15 H o => ?_; have e8 : fam ++ [ix (ix p (ix g.shape.to ((V.getD k default).getD n default))) (t.getD n default)] = (List.range (n + 1)).map (fun j => ix (ix p (ix g.shape.to ((V.getD k default).getD j default))) (t.getD j default)) := by
     rw [hfam, List.range_succ]; simp [-List.getD_eq_getElem?_getD]
    simp only [go_sem, w3]; exact for_next (_, _) (by omega) ⟨e8, o⟩ rfl
   ·have h3p := of_ndecide h3; have hfe : fam = mapT f.shape p (V.getD k default) t := by rw [hfam, mapT, e, show n = (V.getD k default).length by omega]
    have hu : UniqG g k (V.getD k default) fam := by
     have := sheaf_uniq hg hgc c' hsh (x := (k : Int)) ⟨by omega, by omega⟩ (t := fam) (by simp only [ix_nat]; rw [hfe]; exact mapT_fam h hg e m hsv hft); simpa only [ix_nat] using this
    have hz := hg.sizeAt (y := (k : Int)) ⟨by omega, by omega⟩; have hs1 : ∀ a, a ∈ V.getD k default → 0 ≤ a ∧ a.toNat < g.acts.length := fun a ha => by have := hsv'.arr ha; omega
    have hs2 : ∀ a, a ∈ V.getD k default → ((ix g.acts a).length : Int) = ix g.sizes k := fun a ha => by
     have hv := hsv'.arr ha; have h1 := hg.actLen hv.1.2; rw [hv.2] at h1; exact h1
    simp only [go_sem]; refine fz_own o rfl fun H o => ?_; simp only [go_sem, reduceAdd, reduceLeDiff]; refine ⟨h1p, (glue_n B g k (V.getD k default) fam ⟨by omega, by omega⟩ (by omega) hs1 hs2 hu).go fun _ => ?_⟩; simp only [go_sem, reduceAdd]; refine app_own (f := iI) (gl g k (V.getD k default) (mapT f.shape p (V.getD k default) t)) o (by rw [hfe]; rfl) rfl (by simp only [maxL]; omega) fun id13 H o => ?_; have e8 : row ++ [gl g k (V.getD k default) (mapT f.shape p (V.getD k default) t)] = ((famAt f V k).take (i + 1)).map (fun t => gl g k (V.getD k default) (mapT f.shape p (V.getD k default) t)) := by
     rw [hrow, take_map_succ _ _ h2p, ht]
    simp only [go_sem, w2]; exact for_next (_, _) (by omega) ⟨e8, o⟩ rfl
  ·have h2p := of_ndecide h2; have hrow2 : row = downAt f g V p k := by rw [hrow, List.take_of_length_le (by omega)]; rfl
   simp only [go_sem]; refine fz_own o rfl fun H o => ?_; simp only [go_sem, reduceAdd]; refine app_own (f := iL) row o rfl (by simp) (by simp only [List.length_map, List.length_range, maxL]; omega) fun id9 H o => ?_; have e7 : (List.range k).map (downAt f g V p) ++ [row] = (List.range (k + 1)).map (downAt f g V p) := by rw [List.range_succ, List.map_append, hrow2]; rfl
   rw [e7] at o ⊢; simp only [go_sem, w]; exact for_next id9 (by omega) o (by simp)
 ·have h1p := of_ndecide h1; rw [hfll] at h1p; obtain rfl : k = V.length := by omega
  simp only [go_sem]; refine fz_own o (by simp) fun H o => ?_; simp only [go_sem]; exact pure_ret rfl o.sub
end Go.Proofs.Shf
namespace Go.Shf
open Go.AW Go.Proofs.Shf
open Classical in
noncomputable def extC (j : Top) (m : SM) : Int := if j.Form ∧ m.Is then (if twoC j m.src = 0 then (if SheafLeast m.tgt (leastL j.shape j.covers) then 0 else 4) else twoC j m.src) else 1
noncomputable def extMap (m : SM) (V : List (List Int)) : SM := ⟨stepSF (stepSF m.src V) V, m.tgt, downS (stepSF m.src V) m.tgt V (downS m.src m.tgt V m.parts)⟩
def ExtOk (j : Top) (m : SM) : Prop := (j.Form ∧ m.Is) ∧ twoC j m.src = 0 ∧ SheafLeast m.tgt (leastL j.shape j.covers)
open Classical in
noncomputable def extM (j : Top) (m : SM) : SM := if ExtOk j m then extMap m (leastL j.shape j.covers) else zSM
open Classical in
noncomputable def extA (j : Top) (m : SM) : List AV := if ExtOk j m then SM.cells (extMap m (leastL j.shape j.covers)) else zA15
end Go.Shf
namespace Go.Proofs.Shf
open Go.AW Go.Proofs Go.Shf
theorem SheafExtended_ok (B : Nat) (j : Top) (m : SM) : Pur Tryz.prog B 36 [.agg j.cells, .agg m.cells] (.tup [.agg (extA j m), .int .i64 (extC j m)]) := by
 refine ⟨fun H0 => c36p (by simp) fun hfi => ?_⟩; unfold s36p; simp only [go_sem, reduceAdd]; refine ⟨by simp [maxL], newRef_own (.nil _) fun id4 H o => ?_⟩; simp only [go_sem, reduceAdd]; refine (l27Shape_ok B j).go fun _ => ?_; by_cases hF : j.Form
 rotate_left
 ·have e1 : extC j m = 1 := by rw [extC, if_neg (fun e => hF e.1)]
  have e2 : extA j m = zA15 := by rw [extA, if_neg (fun e => hF e.1.1)]
  rw [dec_f hF, e1, e2, zA15]; simp only [go_sem, Bool.not_false]; refine st_cells o (by simp) (by (simp only [go_sem]); (try simp)) (by first | (simp only [go_sem]; done) | ((simp only [go_sem]); simp [AV.one, one_mL])) fun H o => ?_; simp only [wr_cons, wr_nil, sZ, sY] at o; simp only [go_sem]; have hr := o.rc 15 0 (by simp); simp only [List.drop_zero] at hr; rw [hr]; exact pure_ret rfl o.sub
 rw [dec_t hF]; simp only [go_sem, reduceAdd, Bool.not_true]; refine (l19IsMap_ok B m).go fun _ => ?_; by_cases hm : m.Is
 rotate_left
 ·have e1 : extC j m = 1 := by rw [extC, if_neg (fun e => hm e.2)]
  have e2 : extA j m = zA15 := by rw [extA, if_neg (fun e => hm e.1.2)]
  rw [dec_f hm, e1, e2, zA15]; simp only [go_sem, Bool.not_false]; refine st_cells o (by simp) (by (simp only [go_sem]); (try simp)) (by first | (simp only [go_sem]; done) | ((simp only [go_sem]); simp [AV.one, one_mL])) fun H o => ?_; simp only [wr_cons, wr_nil, sZ, sY] at o; simp only [go_sem]; have hr := o.rc 15 0 (by simp); simp only [List.drop_zero] at hr; rw [hr]; exact pure_ret rfl o.sub
 rw [dec_t hm]; simp only [go_sem, reduceAdd, reduceLeDiff, Bool.not_true]; refine (l28Two_ok B j m.src).go fun _ => ?_; by_cases hz : twoC j m.src = 0
 rotate_left
 ·have e1 : extC j m = twoC j m.src := by rw [extC, if_pos ⟨hF, hm⟩, if_neg hz]
  have e2 : extA j m = zA15 := by rw [extA, if_neg (fun e => hz e.2.1)]
  rw [e1, e2, zA15]; obtain ⟨a1, a2, a3, a4, a5, a6, a7, a8, hA, h1⟩ := twoA8 j m.src; obtain ⟨b1, b2, b3, b4, b5, b6, b7, b8, hB, h2⟩ := twoB8 j m.src; rw [hA, hB]; generalize twoC j m.src = cd at *; simp only [go_sem, reduceAdd, reduceLT]; refine ⟨by simp [maxL], newRef_own o fun id6 H o => ?_⟩; simp only [go_sem, reduceAdd]; refine ⟨by simp [maxL], newRef_own o fun id7 H o => ?_⟩; simp only [go_sem]; refine st_cells o.swap (by simp) (by (simp only [go_sem]); (try simp)) h1 fun H o => ?_; simp only [wr_cons, wr_nil, sZ, sY] at o; simp only [go_sem]; refine st_cells o.swap (by simp) (by (simp only [go_sem]); (try simp)) h2 fun H o => ?_; simp only [wr_cons, wr_nil, sZ, sY] at o; simp only [go_sem]; refine ⟨fun _ => At.mk ?_, fun e => absurd (by simpa using e) hz⟩; simp only [go_sem]; refine st_cells o.tl.tl (by simp) (by (simp only [go_sem]); (try simp)) (by first | (simp only [go_sem]; done) | ((simp only [go_sem]); simp [AV.one, one_mL])) fun H o => ?_; simp only [wr_cons, wr_nil, sZ, sY] at o; simp only [go_sem]; have hr := o.rc 15 0 (by simp); simp only [List.drop_zero] at hr; rw [hr]; exact pure_ret rfl o.sub
 obtain ⟨hcf, hfew⟩ := two_z hz; obtain ⟨-, hf, hsh, hcov⟩ := code_cov hcf; have hA : twoA j m.src = stepCells m.src (leastL j.shape j.covers) := by rw [twoA, if_pos ⟨hcf, hfew⟩]
 have hB : twoB j m.src = stepCells (stepSF m.src (leastL j.shape j.covers)) (leastL j.shape j.covers) := by rw [twoB, if_pos ⟨hcf, hfew⟩]
 have hl := l27Least_ok B j; rw [← hsh] at hcov; rw [hz, hA, hB]; have eC0 : ∀ h : SheafLeast m.tgt (leastL j.shape j.covers), extC j m = 0 := fun h => by rw [extC, if_pos ⟨hF, hm⟩, if_pos hz, if_pos h]
 have eC4 : ∀ h : ¬ SheafLeast m.tgt (leastL j.shape j.covers), extC j m = 4 := fun h => by rw [extC, if_pos ⟨hF, hm⟩, if_pos hz, if_neg h]
 have eA : ∀ h : SheafLeast m.tgt (leastL j.shape j.covers), extA j m = SM.cells (extMap m (leastL j.shape j.covers)) := fun h => by rw [extA, if_pos ⟨⟨hF, hm⟩, hz, h⟩]
 have eN : ∀ h : ¬ SheafLeast m.tgt (leastL j.shape j.covers), extA j m = zA15 := fun h => by rw [extA, if_neg (fun e => h e.2.2)]
 generalize hV : leastL j.shape j.covers = V at *; have heq := hm.eq; have hcs := hcov; have hct := hcov; rw [hsh] at hcs; rw [hsh, heq] at hct; have qs := l28Sheaf_ok B m.tgt hm.t.1 V hct; simp only [go_sem, reduceAdd, reduceLT]; refine ⟨by simp [maxL], newRef_own o fun id6 H o => ?_⟩; simp only [go_sem, reduceAdd]; refine ⟨by simp [maxL], newRef_own o fun id7 H o => ?_⟩; simp only [go_sem]; refine st_cells o.swap (by simp) (by (simp only [go_sem]); (try simp)) (by first | (simp only [go_sem]; done) | ((simp only [go_sem]); simp [AV.one, one_mL])) fun H o => ?_; simp only [wr_cons, wr_nil, sZ, sY] at o; simp only [go_sem]; refine st_cells o.swap (by simp) (by (simp only [go_sem]); (try simp)) (by first | (simp only [go_sem]; done) | ((simp only [go_sem]); simp [AV.one, one_mL])) fun H o => ?_; simp only [wr_cons, wr_nil, sZ, sY] at o; simp only [go_sem]; refine ⟨fun e => (by simp at e), fun _ => At.mk ?_⟩; simp only [go_sem, reduceAdd]; refine hl.go fun _ => ?_; simp only [go_sem, reduceAdd, reduceLeDiff]; refine qs.go fun _ => ?_; by_cases hS : SheafLeast m.tgt V
 rotate_left
 ·rw [dec_f hS, eC4 hS, eN hS, zA15]; simp only [go_sem, Bool.not_false]; refine st_cells o.tl.tl (by simp) (by (simp only [go_sem]); (try simp)) (by first | (simp only [go_sem]; done) | ((simp only [go_sem]); simp [AV.one, one_mL])) fun H o => ?_; simp only [wr_cons, wr_nil, sZ, sY] at o; simp only [go_sem]; have hr := o.rc 15 0 (by simp); simp only [List.drop_zero] at hr; rw [hr]; exact pure_ret rfl o.sub
 have q1 := l28Down_ok B m.src m.tgt hm.s.1 hm.t.1 hm.t.compL heq m.parts hm.mapL V hcs hfew.1 hS; have q2 := l28Down_ok B (stepSF m.src V) m.tgt (step_shape hm.s.1 hcs hfew.1) hm.t.1 hm.t.compL heq _ (down_map hm.s.1 hm.t.1 hm.t.compL heq hm.mapL hcs hS) V hcs hfew.2 hS; have q3 := l19Make_ok B (stepSF (stepSF m.src V) V) m.tgt (downS (stepSF m.src V) m.tgt V (downS m.src m.tgt V m.parts)); rw [dec_t hS, eC0 hS, eA hS]; generalize hP1 : downS m.src m.tgt V m.parts = P1 at *; generalize hP2 : downS (stepSF m.src V) m.tgt V P1 = P2 at *; simp only [go_sem, Bool.not_true]; refine rd_celln o.tl (by simp) ?_; simp only [go_sem, reduceAdd, reduceLeDiff]; refine q1.go fun _ => ?_; simp only [go_sem, reduceAdd]; refine rd_celln o (by simp) ?_; simp only [go_sem, reduceAdd, reduceLeDiff]; refine rd_celln o (by simp) ?_; simp only [go_sem, reduceAdd, reduceLeDiff]; refine ⟨_, q2.run, ?_⟩; refine ⟨_, q3.run, ?_⟩; simp only [go_sem]; refine st_cells o.tl.tl (by simp) (by (simp only [go_sem]); (try simp)) (by first | (simp only [go_sem]; done) | ((simp only [go_sem]); simp [AV.one, one_mL])) fun H o => ?_; simp only [wr_cons, wr_nil, sZ, sY] at o; simp only [go_sem]; have hr := o.rc 15 0 (by simp); simp only [List.drop_zero] at hr; rw [hr]; exact pure_ret (by rw [extMap, hP1, hP2]; rfl) o.sub
theorem implSheafExtended_new (B : Nat) (j : Top) (m : SM) : New Tryz.prog B 37 [.agg j.cells, .agg m.cells] fun p X => OTc OSM (extC j m) p X (extM j m) := by
 refine ⟨fun H0 => c37 (by simp) fun _ => ?_⟩; unfold s37; have hsc := fun H => mapOnCode_ok B j m H; simp only [go_sem, reduceAdd]; refine ⟨by simp [maxL], newRef_own (.nil _) fun id H o => ?_⟩; simp only [go_sem]; refine (hsc H).mono ?_; rintro r H ⟨rfl, X, rfl, hX⟩; have nope : ¬ ExtOk j m → extM j m = zSM := fun h => by rw [extM, if_neg h]
 by_cases h0 : mapO j m = 0
 ·obtain ⟨cnt, rfl⟩ := hX h0; have hFm : j.Form ∧ m.Is := by
   apply Classical.byContradiction; intro e; rw [mapO, if_neg e] at h0; cases h0
  obtain ⟨hF, hm⟩ := hFm; have c1 : codeF j m.src = 0 := by rw [← mapO_f hF hm]; exact h0
  have c2 : codeF j m.tgt = 0 := by rw [codeF_tgt hm]; exact c1
  have p1 := sheaf_at B j m.src cnt c1; have p2 := isSheaf_at B j m.tgt cnt c2; obtain ⟨-, -, hsh, hcs⟩ := code_cov c1; obtain ⟨-, -, hsh2, hct⟩ := code_cov c2; rw [← hsh] at hcs; rw [← hsh2] at hct; rw [h0]; have e1 := fun h => twoC_t c1 h; have e1n := fun h => twoC_f c1 h; generalize hcc : (covV j).cells cnt = cv at *; generalize hV : leastL j.shape j.covers = V at *; rw [hsh] at hcs; rw [hsh2] at hct; simp only [go_sem, reduceAdd, reduceLT]; refine ⟨fun e => (by simp at e), fun _ => At.mk ?_⟩; simp only [go_sem, reduceAdd, reduceLeDiff]; refine p1.go fun _ => ?_; by_cases f1 : TwoFew m.src V
  rotate_left
  ·have e1 := e1n f1; have hM := nope fun e => by rw [e.2.1] at e1; cases e1
   have hC : extC j m = 3 := by rw [extC, if_pos ⟨hF, hm⟩, if_neg (by rw [e1]; decide), e1]
   rw [dec_f f1, hM, hC]; simp only [go_sem, reduceAdd, reduceLT, Bool.not_false]; refine st_cells o (by simp) (by (simp only [go_sem]); (try simp)) (by first | (simp only [go_sem]; done) | ((simp only [go_sem]); simp [AV.one, one_mL])) fun H o => ?_; simp only [wr_cons, wr_nil, sZ, sY] at o; simp only [go_sem]; have hr := o.rc 15 0 (by simp); simp only [List.drop_zero] at hr; rw [hr]; exact ⟨H, .refl H, [], ⟨_, rfl, zSM_own⟩, o.tl⟩
  replace e1 := e1 f1; by_cases f2 : SheafLeast m.tgt V
  rotate_left
  ·have hM := nope fun e => f2 (by have := e.2.2; rw [hV] at this; exact this); have hC : extC j m = 4 := by rw [extC, if_pos ⟨hF, hm⟩, if_pos e1, hV, if_neg f2]
   rw [dec_t f1, hM, hC, shfOr, if_pos f1]; simp only [go_sem, reduceAdd, reduceLeDiff, reduceLT, Bool.not_true]; refine p2.go fun _ => ?_; rw [dec_f f2]; simp only [go_sem, Bool.not_false]; refine st_cells o (by simp) (by (simp only [go_sem]); (try simp)) (by first | (simp only [go_sem]; done) | ((simp only [go_sem]); simp [AV.one, one_mL])) fun H o => ?_; simp only [wr_cons, wr_nil, sZ, sY] at o; simp only [go_sem]; have hr := o.rc 15 0 (by simp); simp only [List.drop_zero] at hr; rw [hr]; exact ⟨H, .refl H, [], ⟨_, rfl, zSM_own⟩, o.tl⟩
  have hM : extM j m = extMap m V := by rw [extM, if_pos ⟨⟨hF, hm⟩, e1, by rw [hV]; exact f2⟩, hV]
  have hC : extC j m = 0 := by rw [extC, if_pos ⟨hF, hm⟩, if_pos e1, hV, if_pos f2]
  have heq := hm.eq; have q1 := extended_ok B m.src m.tgt hm.s.1 hm.t.1 hm.t.compL heq m.parts hm.mapL V hcs f1.1 f2; have q2 := extended_ok B (stepSF m.src V) m.tgt (step_shape hm.s.1 hcs f1.1) hm.t.1 hm.t.compL heq _ (down_map hm.s.1 hm.t.1 hm.t.compL heq hm.mapL hcs f2) V hcs f1.2 f2; have hset := setMap_new B (stepSF (stepSF m.src V) V) m.tgt (downS (stepSF m.src V) m.tgt V (downS m.src m.tgt V m.parts)); rw [dec_t f1, hM, hC, shfOr, if_pos f1]; rw [extMap]; generalize downS m.src m.tgt V m.parts = P1 at *; generalize downS (stepSF m.src V) m.tgt V P1 = P2 at *; simp only [go_sem, reduceAdd, reduceLeDiff, reduceLT, Bool.not_true]; refine p2.go fun _ => ?_; rw [dec_t f2]; simp only [go_sem, reduceAdd, reduceLeDiff, Bool.not_true]; refine ⟨_, q1.run, ?_⟩; refine ⟨_, q2.run, ?_⟩; refine hset.go o fun Y p H q o _ => ?_; obtain ⟨Ys, rfl, hl, h1⟩ := OSM.fifteen q; simp only [go_sem]; have o := Owns.last o; refine st_cells o (by simp) hl h1 fun H o => ?_; obtain ⟨y1, y2, y3, y4, y5, y6, y7, y8, y9, y10, y11, y12, y13, y14, y15, rfl⟩ := len15 hl; simp only [wr_cons, wr_nil, sZ, sY] at o; simp only [go_sem]; have hr := o.rc 15 0 (by simp); simp only [List.drop_zero] at hr; rw [hr]; exact ⟨H, .refl H, p, ⟨_, rfl, q⟩, o.tl⟩
 ·have hC : extC j m = mapO j m := by
   by_cases hFm : j.Form ∧ m.Is
   ·have e0 := mapO_f hFm.1 hFm.2; rw [e0] at h0 ⊢; have e1 : twoC j m.src = codeF j m.src := by rw [twoC, if_neg h0]
    rw [extC, if_pos hFm, if_neg (by rw [e1]; exact h0), e1]
   ·rw [extC, if_neg hFm, mapO, if_neg hFm]
  have hM := nope fun e => by
   have e2 := two_z e.2.1; rw [← mapO_f e.1.1 e.1.2] at e2; exact h0 e2.1
  rw [hM, hC]; simp only [go_sem, reduceAdd, reduceLT]; refine ⟨fun _ => At.mk ?_, fun e => ?_⟩; rotate_left
  ·exact absurd (by simpa using e) h0
  simp only [go_sem]; refine st_cells o (by simp) (by (simp only [go_sem]); (try simp)) (by first | (simp only [go_sem]; done) | ((simp only [go_sem]); simp [AV.one, one_mL])) fun H o => ?_; simp only [wr_cons, wr_nil, sZ, sY] at o; simp only [go_sem]; have hr := o.rc 15 0 (by simp); simp only [List.drop_zero] at hr; rw [hr]; exact ⟨H, .refl H, [], ⟨_, rfl, zSM_own⟩, o.tl⟩
theorem perm_of_count {l r : Ob} (h : ∀ x, @List.count _ (@instBEqOfDecidableEq _ (Classical.typeDecidableEq _)) x l = @List.count _ (@instBEqOfDecidableEq _ (Classical.typeDecidableEq _)) x r) : l.Perm r := by
 letI : DecidableEq (Nat × MObj) := Classical.typeDecidableEq _
 exact List.perm_iff_count.mpr h
theorem st_rows {α : Type} {O : Ob → AV → α → Prop} {H0 H : Heap} {K : Kont} {id off m : Nat} {z Y : AV} {Xs : List AV} {l : Ob} (o : Owns H0 H ((id, .cells 1 (Xs ++ List.replicate (m + 1) z) 0) :: l)) (h1 : Y.one = true) (ho : off = Xs.length)
  (hk : ∀ H', Owns H0 H' ((id, .cells 1 ((Xs ++ [Y]) ++ List.replicate m z) 0) :: l) → K nv H') : st1 (H.get id) id off 1 [Y] K H := by
 subst ho; have h0 := o.h0; simp only at h0; rw [h0, st1_c]; refine ⟨⟨by omega, by simp, rfl, fun c hc => ?_⟩, ?_⟩
 ·rw [List.mem_singleton] at hc; subst hc; exact h1
 ·have e : wr (Xs ++ List.replicate (m + 1) z) Xs.length [Y] = (Xs ++ [Y]) ++ List.replicate m z := by
   simp only [wr, List.replicate_succ, List.append_assoc]; rw [List.set_append_right _ _ (by simp)]; simp
  rw [e]; exact hk _ (o.put _)
theorem toInt64S_new (B : Nat) (l : List (Int)) : New Tryz.prog B 47 [iL l] fun p X => OL p X l := by
 refine ⟨fun H0 => c47p (by simp) fun ⟨hf, _⟩ => ?_⟩; have hl := fine_mL_le hf; simp only [maxL] at hl; unfold s47p; simp only [go_sem, reduceAdd]; refine ⟨by simp [maxL] <;> omega, ?_⟩; refine mks_own iI (.nil _) fun id H o => ?_; simp only [go_sem]; refine awp_for [0, 3] (fun k _ => [(4, some (.int .i64 (k : Int)))]) (fun k _ H => Owns H0 H [(id, .cells 1 ((l.take k).map iI ++ List.replicate (l.length - k) (.int .i64 0)) 0)]) l.length () o rfl ?_; rintro k _ H hk o; have hlen : (l.take k).length = k := by simp; omega
 simp only [go_sem]; refine ⟨fun h1 => At.mk ?_, fun h1 => At.mk ?_⟩
 ·have h1 := of_decide h1; have w1 := wsucc (k := k) (by omega); have hsub : l.length - k = (l.length - (k + 1)) + 1 := by omega
  rw [hsub] at o; simp only [go_sem]; refine ⟨h1, ?_⟩; refine ⟨by omega, ?_⟩; refine st_own (l.getD k default) o rfl (by omega) fun H o => ?_; simp only [go_sem, w1]; exact for_next () (by omega) (by rw [take_succ' l h1]; exact o) rfl
 ·simp only [go_sem]; have h1 := of_ndecide h1; have hsub : l.length - k = 0 := by omega
  have hkl : k = l.length := by omega
  rw [hsub] at o; subst hkl; rw [List.take_length, List.replicate_zero, List.append_nil] at o; exact ⟨H, .refl H, _, .inr ⟨id, _, [], rfl, by simp, rowsI _⟩, o⟩
theorem toInt64SS_new (B : Nat) (l : List (List Int)) : New Tryz.prog B 48 [mL iL l] fun p X => OLL p X l := by
 refine ⟨fun H0 => c48p (by simp) fun ⟨hf, _⟩ => ?_⟩; have hl := fine_mL_le hf; simp only [maxL] at hl; unfold s48p; simp only [go_sem, reduceAdd]; refine ⟨by simp [maxL] <;> omega, ?_⟩; rw [rep_one]; refine newBuf_own (.nil _) fun id H o => ?_; simp only [go_sem]; refine awp_for [0, 3] (G := List AV × Ob) (fun k _ => [(4, some (.int .i64 (k : Int)))]) (fun k g H => RowsG OL g.1 (l.take k) g.2 ∧ Owns H0 H ((id, .cells 1 (g.1 ++ List.replicate (l.length - k) .nilsl) 0) :: g.2)) l.length ([], []) ⟨.nil, o⟩ rfl ?_; clear o; rintro k ⟨Xs, q⟩ H hk ⟨hr, o⟩; replace hr : RowsG OL Xs (l.take k) q := hr; replace o : Owns H0 H ((id, .cells 1 (Xs ++ List.replicate (l.length - k) .nilsl) 0) :: q) := o; have hlen : (l.take k).length = k := by simp; omega
 have hXl := hr.len; simp only [go_sem]; refine ⟨fun h1 => At.mk ?_, fun h1 => At.mk ?_⟩
 ·have h1 := of_decide h1; have w1 := wsucc (k := k) (by omega); have hsub : l.length - k = (l.length - (k + 1)) + 1 := by omega
  rw [hsub] at o; simp only [go_sem]; refine ⟨h1, ?_⟩; refine (toInt64S_new B (l.getD k default)).call o fun Y p H hY o => ?_; simp only [go_sem]; refine ⟨by omega, ?_⟩; have o2 := o.perm (List.perm_middle (a := (id, MObj.cells 1 (Xs ++ List.replicate (l.length - (k + 1) + 1) .nilsl) 0)) (l₁ := p) (l₂ := q)); rw [AV.cells_one hY.one]; refine st_rows (O := OL) o2 hY.one (by omega) fun H o => ?_; simp only [go_sem, w1]; refine for_next (Xs ++ [Y], q ++ p) (by omega) ⟨?_, ?_⟩ rfl
  ·simp only; rw [take_succ_getD l h1]; refine hr.app ?_; have := RowsG.cons hY RowsG.nil; rw [List.append_nil] at this; exact this
  ·exact o.perm (List.Perm.cons _ List.perm_append_comm)
 ·simp only [go_sem]; have h1 := of_ndecide h1; have hkl : k = l.length := by omega
  subst hkl; rw [List.take_length] at hr hXl; rw [Nat.sub_self, List.replicate_zero, List.append_nil] at o; exact ⟨H, .refl H, _, .inr ⟨id, Xs, q, rfl, by rw [hXl], hr⟩, o⟩
theorem toInt64SSS_new (B : Nat) (l : List (List (List Int))) : New Tryz.prog B 46 [mL iLL l] fun p X => OLLL p X l := by
 refine ⟨fun H0 => c46p (by simp) fun ⟨hf, _⟩ => ?_⟩; have hl := fine_mL_le hf; simp only [maxL] at hl; unfold s46p; simp only [go_sem, reduceAdd]; refine ⟨by simp [maxL] <;> omega, ?_⟩; rw [rep_one]; refine newBuf_own (.nil _) fun id H o => ?_; simp only [go_sem]; refine awp_for [0, 3] (G := List AV × Ob) (fun k _ => [(4, some (.int .i64 (k : Int)))]) (fun k g H => RowsG OLL g.1 (l.take k) g.2 ∧ Owns H0 H ((id, .cells 1 (g.1 ++ List.replicate (l.length - k) .nilsl) 0) :: g.2)) l.length ([], []) ⟨.nil, o⟩ rfl ?_; clear o; rintro k ⟨Xs, q⟩ H hk ⟨hr, o⟩; replace hr : RowsG OLL Xs (l.take k) q := hr; replace o : Owns H0 H ((id, .cells 1 (Xs ++ List.replicate (l.length - k) .nilsl) 0) :: q) := o; have hlen : (l.take k).length = k := by simp; omega
 have hXl := hr.len; simp only [go_sem]; refine ⟨fun h1 => At.mk ?_, fun h1 => At.mk ?_⟩
 ·have h1 := of_decide h1; have w1 := wsucc (k := k) (by omega); have hsub : l.length - k = (l.length - (k + 1)) + 1 := by omega
  rw [hsub] at o; simp only [go_sem]; refine ⟨h1, ?_⟩; refine (toInt64SS_new B (l.getD k default)).call o fun Y p H hY o => ?_; simp only [go_sem]; refine ⟨by omega, ?_⟩; have o2 := o.perm (List.perm_middle (a := (id, MObj.cells 1 (Xs ++ List.replicate (l.length - (k + 1) + 1) .nilsl) 0)) (l₁ := p) (l₂ := q)); rw [AV.cells_one hY.one]; refine st_rows (O := OLL) o2 hY.one (by omega) fun H o => ?_; simp only [go_sem, w1]; refine for_next (Xs ++ [Y], q ++ p) (by omega) ⟨?_, ?_⟩ rfl
  ·simp only; rw [take_succ_getD l h1]; refine hr.app ?_; have := RowsG.cons hY RowsG.nil; rw [List.append_nil] at this; exact this
  ·exact o.perm (List.Perm.cons _ List.perm_append_comm)
 ·simp only [go_sem]; have h1 := of_ndecide h1; have hkl : k = l.length := by omega
  subst hkl; rw [List.take_length] at hr hXl; rw [Nat.sub_self, List.replicate_zero, List.append_nil] at o; exact ⟨H, .refl H, _, .inr ⟨id, Xs, q, rfl, by rw [hXl], hr⟩, o⟩
theorem toCategory_new (B : Nat) (c : Cat) : New Tryz.prog B 45 [.agg c.cells] fun p X => OCat p X c := by
 refine ⟨fun H0 => c45 (by simp) fun hf => ?_⟩; unfold s45; simp only [go_sem, reduceAdd]; refine ⟨by simp [maxL], newRef_own (.nil _) fun i1 H o => ?_⟩; simp only [go_sem, reduceAdd]; refine ⟨by simp [maxL], newRef_own o fun i2 H o => ?_⟩; simp only [go_sem, reduceAdd, reduceLeDiff]; refine st_cells o (by simp) (by (simp only [go_sem]); (try simp)) (by first | (simp only [go_sem]; done) | ((simp only [go_sem]); simp [AV.one, one_mL])) fun H o => ?_; simp only [wr_cons, wr_nil, sZ, sY] at o; simp only [go_sem, reduceAdd, reduceLeDiff]; refine (toInt64S_new B c.frm).call o fun X1 p1 H q1 o => ?_; simp only [go_sem, reduceAdd, AV.cells_one q1.one]; refine st_cells (o.perm List.perm_middle) (by simp) rfl (by simp [q1.one]) fun H o => ?_; simp only [wr_cons, wr_nil, sZ, sY] at o; simp only [go_sem, reduceAdd, reduceLeDiff]; refine (toInt64S_new B c.to).call o fun X2 p2 H q2 o => ?_; simp only [go_sem, reduceAdd, AV.cells_one q2.one]; refine st_cells (o.perm List.perm_middle) (by simp) rfl (by simp [q2.one]) fun H o => ?_; simp only [wr_cons, wr_nil, sZ, sY] at o; simp only [go_sem, reduceAdd, reduceLeDiff]; refine (toInt64S_new B c.idn).call o fun X3 p3 H q3 o => ?_; simp only [go_sem, reduceAdd, AV.cells_one q3.one]; refine st_cells (o.perm List.perm_middle) (by simp) rfl (by simp [q3.one]) fun H o => ?_; simp only [wr_cons, wr_nil, sZ, sY] at o; simp only [go_sem, reduceAdd, reduceLeDiff]; refine (toInt64SS_new B c.comp).call o fun X4 p4 H q4 o => ?_; simp only [go_sem, reduceAdd, AV.cells_one q4.one]; refine st_cells (o.perm List.perm_middle) (by simp) rfl (by simp [q4.one]) fun H o => ?_; simp only [wr_cons, wr_nil, sZ, sY] at o; simp only [go_sem]; refine rd_celln o (by simp) ?_; have v1 := q1.one; have v2 := q2.one; have v3 := q3.one; have v4 := q4.one; simp only [go_sem]; have o := Owns.last (q := p4 ++ (p3 ++ (p2 ++ p1))) (by simpa only [List.append_assoc] using o.tl); refine st_cells o (by simp) rfl (by simp only [memcons, memnil]; exact ⟨rfl, v1, v2, v3, v4, trivial⟩) fun H o => ?_; simp only [wr_cons, wr_nil, sZ, sY] at o; simp only [go_sem]; have hr := o.rc 5 0 (by simp); simp only [List.drop_zero] at hr; rw [hr]; exact ⟨H, .refl H, _, ⟨X1, X2, X3, X4, p1, p2, p3, p4, rfl, rfl, q1, q2, q3, q4⟩, o.tl.perm (perm_of_count fun x => by simp only [List.count_append]; omega)⟩
theorem OCat.five {p : Ob} {Xs : List AV} {c : Cat} (h : OCat p (.agg Xs) c) : Xs.length = 5 := by
 obtain ⟨X1, X2, X3, X4, p1, p2, p3, p4, e, _⟩ := h; injection e with e
 subst e; rfl
theorem toTopology_new (B : Nat) (j : Top) : New Tryz.prog B 13 [.agg j.cells] fun p X => OTop p X j := by
 refine ⟨fun H0 => c13 (by simp) fun hf => ?_⟩; unfold s13; simp only [go_sem, reduceAdd]; refine ⟨by simp [maxL], newRef_own (.nil _) fun i1 H o => ?_⟩; simp only [go_sem, reduceAdd]; refine ⟨by simp [maxL], newRef_own o fun i2 H o => ?_⟩; simp only [go_sem, reduceAdd, reduceLeDiff]; refine (toCategory_new B j.shape).call o fun Z p1 H q1 o => ?_; obtain ⟨Xs, e⟩ : ∃ Xs : List AV, Z = .agg Xs := by
  obtain ⟨X1, X2, X3, X4, a1, a2, a3, a4, rfl, rfl, b1, b2, b3, b4⟩ := q1; exact ⟨_, rfl⟩
 subst e; have h5 := OCat.five q1; have v := OCat.ones q1; obtain ⟨Y0, Y1, Y2, Y3, Y4, rfl⟩ := len5 h5; simp only [go_sem, reduceAdd]; refine st_cells (o.perm List.perm_middle) (by simp) rfl v fun H o => ?_; simp only [wr_cons, wr_nil, sZ, sY] at o; simp only [memcons, memnil] at v; obtain ⟨w0, w1, w2, w3, w4, _⟩ := v; simp only [go_sem, reduceAdd, reduceLeDiff]; refine (toInt64SSS_new B j.covers).call o fun X5 p2 H q2 o => ?_; have v5 := q2.one; simp only [go_sem, reduceAdd, AV.cells_one v5]; refine st_cells (o.perm List.perm_middle) (by simp) rfl (by simp [v5]) fun H o => ?_; simp only [wr_cons, wr_nil, sZ, sY] at o; simp only [go_sem]; refine rd_celln o (by simp) ?_; simp only [go_sem]; have o := Owns.last (q := p2 ++ p1) (by simpa only [List.append_assoc] using o.tl); refine st_cells o (by simp) rfl (by simp only [memcons, memnil]; exact ⟨w0, w1, w2, w3, w4, v5, trivial⟩) fun H o => ?_; simp only [wr_cons, wr_nil, sZ, sY] at o; simp only [go_sem]; have hr := o.rc 6 0 (by simp); simp only [List.drop_zero] at hr; rw [hr]; exact ⟨H, .refl H, _, OTop.mk q1 q2, o.tl.perm List.perm_append_comm⟩
theorem toSetFunctor_new (B : Nat) (f : SF) : New Tryz.prog B 14 [.agg f.cells] fun p X => OSF p X f := by
 refine ⟨fun H0 => c14 (by simp) fun hf => ?_⟩; unfold s14; simp only [go_sem, reduceAdd]; refine ⟨by simp [maxL], newRef_own (.nil _) fun i1 H o => ?_⟩; simp only [go_sem, reduceAdd]; refine ⟨by simp [maxL], newRef_own o fun i2 H o => ?_⟩; simp only [go_sem, reduceAdd, reduceLeDiff]; refine (toCategory_new B f.shape).call o fun Z p1 H q1 o => ?_; obtain ⟨Xs, e⟩ : ∃ Xs : List AV, Z = .agg Xs := by
  obtain ⟨X1, X2, X3, X4, a1, a2, a3, a4, rfl, rfl, b1, b2, b3, b4⟩ := q1; exact ⟨_, rfl⟩
 subst e; have h5 := OCat.five q1; have v := OCat.ones q1; obtain ⟨Y0, Y1, Y2, Y3, Y4, rfl⟩ := len5 h5; simp only [go_sem, reduceAdd]; refine st_cells (o.perm List.perm_middle) (by simp) rfl v fun H o => ?_; simp only [wr_cons, wr_nil, sZ, sY] at o; simp only [memcons, memnil] at v; obtain ⟨w0, w1, w2, w3, w4, _⟩ := v; simp only [go_sem, reduceAdd, reduceLeDiff]; refine (toInt64S_new B f.sizes).call o fun X5 p2 H q2 o => ?_; have v5 := q2.one; simp only [go_sem, reduceAdd, AV.cells_one v5]; refine st_cells (o.perm List.perm_middle) (by simp) rfl (by simp [v5]) fun H o => ?_; simp only [wr_cons, wr_nil, sZ, sY] at o; simp only [go_sem, reduceAdd, reduceLeDiff]; refine (toInt64SS_new B f.acts).call o fun X6 p3 H q3 o => ?_; have v6 := q3.one; simp only [go_sem, reduceAdd, AV.cells_one v6]; refine st_cells (o.perm List.perm_middle) (by simp) rfl (by simp [v6]) fun H o => ?_; simp only [wr_cons, wr_nil, sZ, sY] at o; simp only [go_sem]; refine rd_celln o (by simp) ?_; simp only [go_sem]; have o := Owns.last (q := p3 ++ (p2 ++ p1)) (by simpa only [List.append_assoc] using o.tl); refine st_cells o (by simp) rfl (by simp only [memcons, memnil]; exact ⟨w0, w1, w2, w3, w4, v5, v6, trivial⟩) fun H o => ?_; simp only [wr_cons, wr_nil, sZ, sY] at o; simp only [go_sem]; have hr := o.rc 7 0 (by simp); simp only [List.drop_zero] at hr; rw [hr]; exact ⟨H, .refl H, _, OSF.mk q1 q2 q3, o.tl.perm (perm_rev3 _ _ _)⟩
end Go.Proofs.Shf
namespace Go.AW
def W1 (a : AV) : Prop := (∃ l : List Int, a = iL l) ∨ ∃ n, 1048576 < n ∧ n ≤ 140737488355328 ∧ a = .big n
def WN (P : AV → Prop) (a : AV) : Prop := (∃ al : List AV, a = .sl al ∧ ∀ x, x ∈ al → P x) ∨ ∃ n, 1048576 < n ∧ n ≤ 140737488355328 ∧ a = .big n
abbrev W2 := WN W1
abbrev W3 := WN W2
theorem W1.cells {a : AV} (h : W1 a) : a.cells = [a] := by rcases h with ⟨l, rfl⟩ | ⟨n, _, _, rfl⟩ <;> rfl
theorem WN.cells {P : AV → Prop} {a : AV} (h : WN P a) : a.cells = [a] := by rcases h with ⟨l, rfl, _⟩ | ⟨n, _, _, rfl⟩ <;> rfl
def szK (Q : Int → Prop) (H0 : Heap) : Kont := fun r H' => H' = H0 ∧ ∃ n, r = .int .i64 n ∧ Q n
theorem sz_ret {Q : Int → Prop} {H0 H : Heap} {n : Int} (hs : H0.sub H) (h : Q n) : subW (szK Q H0) (.int .i64 n) H := ⟨H0, hs, rfl, n, rfl, h⟩
end Go.AW
namespace Go.Proofs.Shf
open Go.AW Go.Proofs Go.Shf
def SzQ {α : Type} (f : α → AV) (sz : α → Nat) (a : AV) (left n : Int) : Prop := -1 ≤ n ∧ n ≤ left ∧ (0 ≤ n → ∃ x, a = f x ∧ n + sz x ≤ left)
theorem szInt64S_w (B : Nat) (a : AV) (h : W1 a) (left : Int) (h0 : 0 ≤ left) (h1 : left ≤ 1048576) (H0 : Heap) : CallH Tryz.prog B 40 [a, .int .i64 left] H0 (szK (SzQ iL szL a left) H0) := by
 rcases h with ⟨l, rfl⟩ | ⟨n, hn1, hn2, rfl⟩
 ·refine PureF.of_fine ⟨_, Tryz.func40, by kernel_rfl, by kernel_rfl⟩ (r := .int .i64 (if left - (l.length : Int) < 0 then -1 else left - (l.length : Int))) (fun hf => ?_) H0 |>.mono ?_
  ·have hl := fine_mL_le hf.1; simp only [maxL] at hl; exact (szInt64S_ok B (iL l) l.length left (by simp [iL, mL, lenE]) (by omega) h0 h1).run
  ·rintro r H ⟨rfl, rfl⟩; refine ⟨rfl, _, rfl, ?_⟩; by_cases e : left - (l.length : Int) < 0
   ·rw [if_pos e]; exact ⟨by omega, by omega, fun h => by omega⟩
   ·rw [if_neg e]; exact ⟨by omega, by omega, fun _ => ⟨l, rfl, by simp only [szL]; omega⟩⟩
 ·refine ((szInt64S_ok B (.big n) n left (by simp [lenE]) (by omega) h0 h1).run H0).mono ?_; rintro r H ⟨rfl, rfl⟩; refine ⟨rfl, _, rfl, ?_⟩; rw [if_pos (by omega)]; exact ⟨by omega, by omega, fun h => by omega⟩
theorem szInt64SS_w (B : Nat) (a : AV) (h : WN W1 a) (left : Int) (h0 : 0 ≤ left) (h1 : left ≤ 1048576) (H0 : Heap) : CallH Tryz.prog B 41 [a, .int .i64 left] H0 (szK (SzQ iLL szLL a left) H0) := by
 refine c41 (by simp) fun hfi => ?_; unfold s41; rcases h with ⟨al, rfl, hW⟩ | ⟨n, hn1, hn2, rfl⟩
 rotate_left
 ·have w : IntKind.i64.wrap (left - n) = left - n := wrap_i64 (by omega) (by omega); simp only [go_sem, reduceAdd, lenE_big]; rw [w]; refine ⟨fun _ => At.mk ?_, fun e => ?_⟩; rotate_left
  ·exfalso; have := of_ndecide e; omega
  simp only [go_sem]; exact sz_ret (.refl _) ⟨by omega, by omega, fun h => by omega⟩
 ·by_cases hbig : left - (al.length : Int) < 0
  ·refine ?_; by_cases hwr : al.length ≤ maxL
   ·have w : IntKind.i64.wrap (left - (al.length : Int)) = left - al.length := by simp only [maxL] at hwr; exact wrap_i64 (by omega) (by omega)
    simp only [go_sem, reduceAdd]; rw [w]; refine ⟨fun _ => At.mk ?_, fun e => ?_⟩; rotate_left
    ·exfalso; have := of_ndecide e; omega
    simp only [go_sem]; exact sz_ret (.refl _) ⟨by omega, by omega, fun h => by omega⟩
   ·exact absurd (AV.fine.sl_le hfi.1) hwr
  ·have hal : al.length ≤ 1048576 := by omega
   have w : IntKind.i64.wrap (left - (al.length : Int)) = left - al.length := wrap_i64 (by omega) (by omega); simp only [go_sem, reduceAdd]; rw [w]; refine ⟨fun e => ?_, fun _ => At.mk ?_⟩
   ·exfalso; have := of_decide e; omega
   simp only [go_sem]; refine awp_for [0] (G := Int × List (List Int)) (fun k g => [(1, some (.int .i64 g.1)), (5, some (.int .i64 (k : Int)))])
    (fun k g H => H = H0 ∧ 0 ≤ g.1 ∧ g.2.length = k ∧ al.take k = g.2.map iL ∧ g.1 + (g.2.map szL).sum ≤ left - al.length) al.length (left - al.length, []) ⟨rfl, by simp only; omega, rfl, by simp, by simp⟩ rfl ?_
   rintro k ⟨u, D⟩ H hk ⟨rfl, hu, hD, hDe, hs⟩; replace hu : 0 ≤ u := hu; replace hD : D.length = k := hD; replace hDe : al.take k = D.map iL := hDe; replace hs : u + (D.map szL).sum ≤ left - al.length := hs; simp only [go_sem]; refine ⟨fun h2 => At.mk ?_, fun h2 => At.mk ?_⟩
   ·have h2p := of_decide h2; have w2 := wsucc (k := k) (by omega); have hwk := hW (al.getD k nv) (by rw [gQ, List.getElem?_eq_getElem h2p]; simp); have hcl := hwk.cells; simp only [go_sem]; refine ⟨⟨h2p, by rw [hcl]; rfl⟩, ?_⟩; rw [hcl]; simp only [go_sem]; refine (szInt64S_w B _ hwk u hu (by omega) H).mono ?_; rintro r H' ⟨rfl, n, rfl, q1, q2, q3⟩; by_cases hn : n < 0
    ·simp only [go_sem]; refine ⟨fun _ => At.mk ?_, fun e => ?_⟩; rotate_left
     ·exfalso; have := of_ndecide e; omega
     simp only [go_sem]; exact sz_ret (.refl _) ⟨by omega, by omega, fun h => by omega⟩
    ·obtain ⟨x, hx, hxs⟩ := q3 (by omega); simp only [go_sem]; refine ⟨fun e => ?_, fun _ => At.mk ?_⟩
     ·exfalso; have := of_decide e; omega
     simp only [go_sem, w2]; refine for_next (n, D ++ [x]) h2p ⟨rfl, by simp only; omega, by simp [hD], ?_, ?_⟩ rfl
     ·simp only; rw [List.map_append, ← hDe, List.take_add_one, List.getElem?_eq_getElem h2p]; have : al[k] = iL x := by rw [← hx]; simp [gQ, h2p]
      rw [this]; rfl
     ·simp only [List.map_append, List.map_cons, List.map_nil, List.sum_append, List.sum_cons, List.sum_nil]; omega
   ·have h2p := of_ndecide h2; obtain rfl : k = al.length := by omega
    simp only [go_sem]; refine sz_ret (.refl _) ⟨by omega, by omega, fun _ => ⟨D, ?_, ?_⟩⟩
    ·rw [List.take_length] at hDe; rw [hDe]; rfl
    ·simp only [szLL]; omega
theorem szInt64SSS_w (B : Nat) (a : AV) (h : WN W2 a) (left : Int) (h0 : 0 ≤ left) (h1 : left ≤ 1048576) (H0 : Heap) : CallH Tryz.prog B 39 [a, .int .i64 left] H0 (szK (SzQ iLLL szLLL a left) H0) := by
 refine c39 (by simp) fun hfi => ?_; unfold s39; rcases h with ⟨al, rfl, hW⟩ | ⟨n, hn1, hn2, rfl⟩
 rotate_left
 ·have w : IntKind.i64.wrap (left - n) = left - n := wrap_i64 (by omega) (by omega); simp only [go_sem, reduceAdd, lenE_big]; rw [w]; refine ⟨fun _ => At.mk ?_, fun e => ?_⟩; rotate_left
  ·exfalso; have := of_ndecide e; omega
  simp only [go_sem]; exact sz_ret (.refl _) ⟨by omega, by omega, fun h => by omega⟩
 ·by_cases hbig : left - (al.length : Int) < 0
  ·refine ?_; by_cases hwr : al.length ≤ maxL
   ·have w : IntKind.i64.wrap (left - (al.length : Int)) = left - al.length := by simp only [maxL] at hwr; exact wrap_i64 (by omega) (by omega)
    simp only [go_sem, reduceAdd]; rw [w]; refine ⟨fun _ => At.mk ?_, fun e => ?_⟩; rotate_left
    ·exfalso; have := of_ndecide e; omega
    simp only [go_sem]; exact sz_ret (.refl _) ⟨by omega, by omega, fun h => by omega⟩
   ·exact absurd (AV.fine.sl_le hfi.1) hwr
  ·have hal : al.length ≤ 1048576 := by omega
   have w : IntKind.i64.wrap (left - (al.length : Int)) = left - al.length := wrap_i64 (by omega) (by omega); simp only [go_sem, reduceAdd]; rw [w]; refine ⟨fun e => ?_, fun _ => At.mk ?_⟩
   ·exfalso; have := of_decide e; omega
   simp only [go_sem]; refine awp_for [0] (G := Int × List (List (List Int))) (fun k g => [(1, some (.int .i64 g.1)), (5, some (.int .i64 (k : Int)))])
    (fun k g H => H = H0 ∧ 0 ≤ g.1 ∧ g.2.length = k ∧ al.take k = g.2.map iLL ∧ g.1 + (g.2.map szLL).sum ≤ left - al.length) al.length (left - al.length, []) ⟨rfl, by simp only; omega, rfl, by simp, by simp⟩ rfl ?_
   rintro k ⟨u, D⟩ H hk ⟨rfl, hu, hD, hDe, hs⟩; replace hu : 0 ≤ u := hu; replace hD : D.length = k := hD; replace hDe : al.take k = D.map iLL := hDe; replace hs : u + (D.map szLL).sum ≤ left - al.length := hs; simp only [go_sem]; refine ⟨fun h2 => At.mk ?_, fun h2 => At.mk ?_⟩
   ·have h2p := of_decide h2; have w2 := wsucc (k := k) (by omega); have hwk := hW (al.getD k nv) (by rw [gQ, List.getElem?_eq_getElem h2p]; simp); have hcl := hwk.cells; simp only [go_sem]; refine ⟨⟨h2p, by rw [hcl]; rfl⟩, ?_⟩; rw [hcl]; simp only [go_sem]; refine (szInt64SS_w B _ hwk u hu (by omega) H).mono ?_; rintro r H' ⟨rfl, n, rfl, q1, q2, q3⟩; by_cases hn : n < 0
    ·simp only [go_sem]; refine ⟨fun _ => At.mk ?_, fun e => ?_⟩; rotate_left
     ·exfalso; have := of_ndecide e; omega
     simp only [go_sem]; exact sz_ret (.refl _) ⟨by omega, by omega, fun h => by omega⟩
    ·obtain ⟨x, hx, hxs⟩ := q3 (by omega); simp only [go_sem]; refine ⟨fun e => ?_, fun _ => At.mk ?_⟩
     ·exfalso; have := of_decide e; omega
     simp only [go_sem, w2]; refine for_next (n, D ++ [x]) h2p ⟨rfl, by simp only; omega, by simp [hD], ?_, ?_⟩ rfl
     ·simp only; rw [List.map_append, ← hDe, List.take_add_one, List.getElem?_eq_getElem h2p]; have : al[k] = iLL x := by rw [← hx]; simp [gQ, h2p]
      rw [this]; rfl
     ·simp only [List.map_append, List.map_cons, List.map_nil, List.sum_append, List.sum_cons, List.sum_nil]; omega
   ·have h2p := of_ndecide h2; obtain rfl : k = al.length := by omega
    simp only [go_sem]; refine sz_ret (.refl _) ⟨by omega, by omega, fun _ => ⟨D, ?_, ?_⟩⟩
    ·rw [List.take_length] at hDe; rw [hDe]; rfl
    ·simp only [szLLL]; omega
theorem szCategory_w (B : Nat) (n : Int) (a1 a2 a3 a4 : AV) (w1 : W1 a1) (w2 : W1 a2) (w3 : W1 a3) (w4 : W2 a4) (left : Int) (h0 : 0 ≤ left) (h1 : left ≤ 1048576) (H0 : Heap) :
  CallH Tryz.prog B 38 [.agg [iI n, a1, a2, a3, a4], .int .i64 left] H0 (szK (SzQ (fun c => .agg (Cat.cells c)) szCat (.agg [iI n, a1, a2, a3, a4]) left) H0) := by
 refine c38 (by simp) fun _ => ?_; unfold s38; have o1 : a1.one = true := by rcases w1 with ⟨l, rfl⟩ | ⟨n, _, _, rfl⟩ <;> rfl
 have o2 : a2.one = true := by rcases w2 with ⟨l, rfl⟩ | ⟨n, _, _, rfl⟩ <;> rfl
 have o3 : a3.one = true := by rcases w3 with ⟨l, rfl⟩ | ⟨n, _, _, rfl⟩ <;> rfl
 have o4 : a4.one = true := by rcases w4 with ⟨l, rfl, _⟩ | ⟨n, _, _, rfl⟩ <;> rfl
 simp only [go_sem, reduceAdd, reduceLeDiff]; refine ⟨⟨o1, o2, o3, o4⟩, ?_⟩; refine (szInt64S_w B a1 w1 left h0 h1 H0).mono ?_; rintro r H ⟨rfl, u1, rfl, p1, p2, p3⟩; simp only [go_sem]; refine ⟨fun e1 => At.mk ?_, fun e1 => At.mk ?_⟩
 ·simp only [go_sem]; exact sz_ret (.refl _) ⟨by omega, by omega, fun h => by omega⟩
 have e1p := of_ndecide e1; obtain ⟨l1, rfl, s1⟩ := p3 (by omega); simp only [go_sem, reduceAdd, reduceLeDiff]; refine (szInt64S_w B a2 w2 u1 (by omega) (by omega) H).mono ?_; rintro r H ⟨rfl, u2, rfl, p4, p5, p6⟩; simp only [go_sem]; refine ⟨fun e2 => At.mk ?_, fun e2 => At.mk ?_⟩
 ·simp only [go_sem]; exact sz_ret (.refl _) ⟨by omega, by omega, fun h => by omega⟩
 have e2p := of_ndecide e2; obtain ⟨l2, rfl, s2⟩ := p6 (by omega); simp only [go_sem, reduceAdd, reduceLeDiff]; refine (szInt64S_w B a3 w3 u2 (by omega) (by omega) H).mono ?_; rintro r H ⟨rfl, u3, rfl, p7, p8, p9⟩; simp only [go_sem]; refine ⟨fun e3 => At.mk ?_, fun e3 => At.mk ?_⟩
 ·simp only [go_sem]; exact sz_ret (.refl _) ⟨by omega, by omega, fun h => by omega⟩
 have e3p := of_ndecide e3; obtain ⟨l3, rfl, s3⟩ := p9 (by omega); simp only [go_sem, reduceAdd, reduceLeDiff]; refine (szInt64SS_w B a4 w4 u3 (by omega) (by omega) H).mono ?_; rintro r H ⟨rfl, u4, rfl, p10, p11, p12⟩; simp only [go_sem]; refine ⟨fun e4 => At.mk ?_, fun e4 => At.mk ?_⟩
 ·simp only [go_sem]; exact sz_ret (.refl _) ⟨by omega, by omega, fun h => by omega⟩
 have e4p := of_ndecide e4; obtain ⟨l4, rfl, s4⟩ := p12 (by omega); simp only [go_sem]; exact sz_ret (.refl _) ⟨by omega, by omega, fun _ => ⟨⟨n, l1, l2, l3, l4⟩, rfl, by simp only [szCat]; omega⟩⟩
theorem W1.one {a : AV} (h : W1 a) : a.one = true := by rcases h with ⟨l, rfl⟩ | ⟨n, _, _, rfl⟩ <;> rfl
theorem WN.one {P : AV → Prop} {a : AV} (h : WN P a) : a.one = true := by rcases h with ⟨l, rfl, _⟩ | ⟨n, _, _, rfl⟩ <;> rfl
theorem szTopology_w (B : Nat) (n : Int) (a1 a2 a3 a4 a5 : AV) (w1 : W1 a1) (w2 : W1 a2) (w3 : W1 a3) (w4 : W2 a4) (w5 : W3 a5) (left : Int) (h0 : 0 ≤ left) (h1 : left ≤ 1048576) (H0 : Heap) :
  CallH Tryz.prog B 10 [.agg [iI n, a1, a2, a3, a4, a5], .int .i64 left] H0 (szK (SzQ (fun c => .agg (Top.cells c)) szTop (.agg [iI n, a1, a2, a3, a4, a5]) left) H0) := by
 refine c10 (by simp) fun _ => ?_; unfold s10; have o1 := W1.one w1; have o2 := W1.one w2; have o3 := W1.one w3; have o4 := WN.one w4; have o5 := WN.one w5; simp only [go_sem, reduceAdd, reduceLeDiff]; refine ⟨⟨o1, o2, o3, o4, o5⟩, ?_⟩; refine (szCategory_w B n a1 a2 a3 a4 w1 w2 w3 w4 left h0 h1 H0).mono ?_; rintro r H ⟨rfl, u1, rfl, p1, p2, p3⟩; simp only [go_sem]; refine ⟨fun e1 => At.mk ?_, fun e1 => At.mk ?_⟩
 ·simp only [go_sem]; exact sz_ret (.refl _) ⟨by omega, by omega, fun h => by omega⟩
 have e1p := of_ndecide e1; obtain ⟨c, ec, s1⟩ := p3 (by omega); injection ec with ec
 simp only [Cat.cells, List.cons.injEq, and_true] at ec; obtain ⟨en, rfl, rfl, rfl, rfl⟩ := ec; simp only [go_sem, reduceAdd, reduceLeDiff]; refine (szInt64SSS_w B a5 w5 u1 (by omega) (by omega) H).mono ?_; rintro r H ⟨rfl, u2, rfl, p4, p5, p6⟩; simp only [go_sem]; refine ⟨fun e2 => At.mk ?_, fun e2 => At.mk ?_⟩
 ·simp only [go_sem]; exact sz_ret (.refl _) ⟨by omega, by omega, fun h => by omega⟩
 have e2p := of_ndecide e2; obtain ⟨l2, rfl, s2⟩ := p6 (by omega); simp only [go_sem]; exact sz_ret (.refl _) ⟨by omega, by omega, fun _ => ⟨⟨c, l2⟩, by rw [en], by simp only [szTop]; omega⟩⟩
theorem szSetFunctor_w (B : Nat) (n : Int) (a1 a2 a3 a4 a5 a6 : AV) (w1 : W1 a1) (w2 : W1 a2) (w3 : W1 a3) (w4 : W2 a4) (w5 : W1 a5) (w6 : W2 a6) (left : Int) (h0 : 0 ≤ left) (h1 : left ≤ 1048576) (H0 : Heap) :
  CallH Tryz.prog B 11 [.agg [iI n, a1, a2, a3, a4, a5, a6], .int .i64 left] H0 (szK (SzQ (fun c => .agg (SF.cells c)) szSF (.agg [iI n, a1, a2, a3, a4, a5, a6]) left) H0) := by
 refine c11 (by simp) fun _ => ?_; unfold s11; have o1 := W1.one w1; have o2 := W1.one w2; have o3 := W1.one w3; have o4 := WN.one w4; have o5 := W1.one w5; have o6 := WN.one w6; simp only [go_sem, reduceAdd, reduceLeDiff]; refine ⟨⟨o1, o2, o3, o4, o5, o6⟩, ?_⟩; refine (szCategory_w B n a1 a2 a3 a4 w1 w2 w3 w4 left h0 h1 H0).mono ?_; rintro r H ⟨rfl, u1, rfl, p1, p2, p3⟩; simp only [go_sem]; refine ⟨fun e1 => At.mk ?_, fun e1 => At.mk ?_⟩
 ·simp only [go_sem]; exact sz_ret (.refl _) ⟨by omega, by omega, fun h => by omega⟩
 have e1p := of_ndecide e1; obtain ⟨c, ec, s1⟩ := p3 (by omega); injection ec with ec
 simp only [Cat.cells, List.cons.injEq, and_true] at ec; obtain ⟨en, rfl, rfl, rfl, rfl⟩ := ec; simp only [go_sem, reduceAdd, reduceLeDiff]; refine (szInt64S_w B a5 w5 u1 (by omega) (by omega) H).mono ?_; rintro r H ⟨rfl, u2, rfl, p4, p5, p6⟩; simp only [go_sem]; refine ⟨fun e2 => At.mk ?_, fun e2 => At.mk ?_⟩
 ·simp only [go_sem]; exact sz_ret (.refl _) ⟨by omega, by omega, fun h => by omega⟩
 have e2p := of_ndecide e2; obtain ⟨l2, rfl, s2⟩ := p6 (by omega); simp only [go_sem, reduceAdd, reduceLeDiff]; refine (szInt64SS_w B a6 w6 u2 (by omega) (by omega) H).mono ?_; rintro r H ⟨rfl, u3, rfl, p7, p8, p9⟩; simp only [go_sem]; refine ⟨fun e3 => At.mk ?_, fun e3 => At.mk ?_⟩
 ·simp only [go_sem]; exact sz_ret (.refl _) ⟨by omega, by omega, fun h => by omega⟩
 have e3p := of_ndecide e3; obtain ⟨l3, rfl, s3⟩ := p9 (by omega); simp only [go_sem]; exact sz_ret (.refl _) ⟨by omega, by omega, fun _ => ⟨⟨c, l2, l3⟩, by rw [en], by simp only [szSF]; omega⟩⟩
end Go.Proofs.Shf
namespace Go.AW
open Go.Proofs Go.Shf Go.Proofs.Shf
theorem Pur.weak {P : Program} {B : Nat} {f : FuncId} {args : List AV} {r r' : AV} (h : Pur P B f args r) (hw : ∀ g v, VRel g r v → VRel g r' v) : Pur P B f args r' := by
 refine ⟨fun H => ⟨(h.run H).1, fun g w vs hW hv => ?_⟩⟩; refine ((h.run H).2 g w vs hW hv).mono fun e w' ⟨v, he, g', r2, H', q1, ⟨q2, q3⟩, q4, q5, q6⟩ => ?_; subst q2 q3; exact ⟨v, he, g', r', H', q1, ⟨rfl, rfl⟩, hw _ _ q4, q5, q6⟩
end Go.AW
namespace Go.Proofs.Shf
open Go.AW Go.Proofs Go.Shf
theorem szLL_le {l : List (List Int)} {a b : Nat} (h1 : l.length ≤ a) (h2 : ∀ r, r ∈ l → r.length ≤ b) : szLL l ≤ a * b := by
 refine Nat.le_trans ?_ (Nat.mul_le_mul_right b h1); clear h1
 induction l with
 | nil => simp [szLL]
 | cons r l ih =>
  have := ih fun r hr => h2 r (by simp [hr]); have h3 := h2 r (by simp); simp only [szLL, List.map_cons, List.sum_cons, szL, List.length_cons, Nat.succ_mul] at this ⊢; omega
theorem szCat_le {c : Cat} (h : c.Shape) : szCat c ≤ 2000 := by
 have h1 := h.m; have h2 := h.o; have h3 := h.il; have h4 := h.tol; have h5 : szLL c.comp ≤ 40 * 40 := szLL_le (by rw [h.cl]; exact h1) fun r hr => by
  obtain ⟨k, hk, rfl⟩ := mem_getD.mp hr; rw [h.row k (by rw [← h.cl]; exact hk)]; exact h1
 simp only [szCat, szL]; omega
theorem szSF_le {f : SF} (h : f.Shape) : szSF f ≤ 3000 := by
 have h1 := szCat_le h.is.1; have h2 := h.is.1.o; have h3 := h.sl; have h5 : szLL f.acts ≤ 40 * 16 := szLL_le (by rw [h.al]; exact h.is.1.m) fun r hr => by
  obtain ⟨k, hk, rfl⟩ := mem_getD.mp hr; have := (h.act k hk).1; have hk2 : k < f.shape.frm.length := by rw [← h.al]; exact hk
  have hfo := h.is.1.frm' hk2; have hsz := h.sz (ix f.sizes (f.shape.frm.getD k default)) (ix_mem (by have := h.is.1.il; omega)); omega
 simp only [szSF, szL]; omega
theorem markSetMap_ok (B : Nat) : Marks Tryz.prog B 28 OSM szSM HdSM := by
 refine ⟨fun p X a H0 H l k hO o h0 h1 => c28 (by simp) fun _ => ?_⟩; obtain ⟨Zs, e, hl, h15⟩ := OSM.fifteen hO; obtain ⟨Xs, Ys, W, p1, p2, p3, rfl, rfl, q1, q2, q3⟩ := hO; obtain ⟨X1, X2, X3, X4, X5, X6, e1, u1, u2, u3, u4, u5, u6⟩ := OSF.seven q1; obtain ⟨Y1, Y2, Y3, Y4, Y5, Y6, e2, v1, v2, v3, v4, v5, v6⟩ := OSF.seven q2; have w := q3.one; injection e1 with e1
 injection e2 with e2
 subst e1 e2; simp only [szSM] at h1 ⊢; unfold s28; simp only [List.cons_append, List.nil_append]; simp only [go_sem, reduceAdd, reduceLeDiff]; refine ⟨⟨u1, u2, u3, u4, u5, u6, v1, v2, v3, v4, v5, v6, w⟩, ?_⟩; have o : Owns H0 H (p1 ++ (p2 ++ (p3 ++ l))) := by simpa using o
 refine (markSetFunctor_ok B).go q1 o (by omega) (by omega) fun a1 p1 H q1 d1 o => ?_; simp only [go_sem, reduceAdd, reduceLeDiff]; refine (markSetFunctor_ok B).go q2 (by simpa only [List.append_assoc] using o.rot) (by omega) (by omega) fun a2 p2 H q2 d2 o => ?_; simp only [go_sem, reduceAdd, reduceLeDiff]; refine (markInt64SS_ok B).go q3 (by simpa only [List.append_assoc] using o.rot) (by omega) (by omega) fun a3 p3 H q3 d3 o => ?_; simp only [go_sem]; have e : k + (szSF a.src : Int) + (szSF a.tgt : Int) + (szLL a.parts : Int) = k + ((szSF a.src + szSF a.tgt + szLL a.parts : Nat) : Int) := by omega
 rw [e] at d3 ⊢; have o := o.rot; simp only [List.append_assoc] at o; exact ⟨H, .refl H, rfl, ⟨a1, a2, a3⟩, p1 ++ (p2 ++ p3), ⟨_, _, W, p1, p2, p3, rfl, rfl, q1, q2, q3⟩, ⟨_, _, d1, d2, d3⟩, o.rot⟩
def WkV (a b : AV) : Prop := ∀ g v, VRel g a v → VRel g b v
theorem WkV.refl (a : AV) : WkV a a := fun _ _ h => h
theorem WkV.nil : WkV .nilsl (.sl []) := fun g v h => by cases h; exact .slnil none 0
inductive WkL : List AV → List AV → Prop
 | nil : WkL [] []
 | cons {a b : AV} {r s : List AV} (h : WkV a b) (t : WkL r s) : WkL (a :: r) (b :: s)
theorem WkL.get {r s : List AV} (h : WkL r s) : r.length = s.length ∧ ∀ i, i < r.length → WkV (r.getD i nv) (s.getD i nv) := by
 induction h with
 | nil => exact ⟨rfl, fun i hi => by simp at hi⟩
 | cons h _ ih =>
  refine ⟨by simp [ih.1], fun i hi => ?_⟩; cases i with
  | zero => simpa using h
  | succ i => simpa using ih.2 i (by simpa using hi)
theorem WkV.agg {r s : List AV} (h : WkL r s) : WkV (.agg r) (.agg s) := fun g v hv => by
 obtain ⟨hl, h⟩ := h.get; cases hv with
 | agg _ vs hs hv => exact .agg s vs (by omega) fun i hi => h i (by omega) g _ (hv i (by omega))
theorem WkV.tup {r s : List AV} (h : WkL r s) : WkV (.tup r) (.tup s) := fun g v hv => by
 obtain ⟨hl, h⟩ := h.get; cases hv with
 | tup _ vs hs hv => exact .tup s vs (by omega) fun i hi => h i (by omega) g _ (hv i (by omega))
theorem OTop.six {p : Ob} {X : AV} {f : Top} (h : OTop p X f) : ∃ X1 X2 X3 X4 X5, X = .agg [iI f.shape.objs, X1, X2, X3, X4, X5] ∧ X1.one = true ∧ X2.one = true ∧ X3.one = true ∧ X4.one = true ∧ X5.one = true := by
 obtain ⟨X1, X2, X3, X4, X5, a1, a2, a3, a4, a5, rfl, rfl, b1, b2, b3, b4, b5⟩ := h; exact ⟨_, _, _, _, _, rfl, b1.one, b2.one, b3.one, b4.one, b5.one⟩
theorem canon4 {H0 H : Heap} {x10 x9 x8 x6 : Nat × MObj} {p8 p9 p10 : Ob} (o : Owns H0 H (x10 :: (p10 ++ (x9 :: (p9 ++ (x8 :: (p8 ++ [x6]))))))) : Owns H0 H (p8 ++ (p9 ++ (p10 ++ [x10, x9, x8, x6]))) :=
 o.perm (perm_of_count fun x => by simp only [List.count_append, List.count_cons, List.count_nil]; omega)
theorem swap3 (a b c : Ob) : (a ++ (b ++ c)).Perm (b ++ (a ++ c)) := (perm_of_count fun x => by simp only [List.count_append, List.count_cons, List.count_nil]; omega)
theorem front3 (a b c d : Ob) : (a ++ (b ++ (c ++ d))).Perm (c ++ (a ++ (b ++ d))) := (perm_of_count fun x => by simp only [List.count_append, List.count_cons, List.count_nil]; omega)
theorem lent2 {α β : Type} {O : Ob → AV → α → Prop} {O' : Ob → AV → β → Prop} {f : α → AV} {f' : β → AV} {B : Nat} {H0 H : Heap} {l p p' : Ob} {X X' : AV} {a : α} {a' : β} (hO : Ow O f) (hO' : Ow O' f') (h : O p X a) (h' : O' p' X' a') (o : Owns H0 H l)
  (hp : ∀ x, x ∈ p → x ∈ l) (hp' : ∀ x, x ∈ p' → x ∈ l) : ∀ i, i < [X, X'].length → ∀ g w v, WRel g B H w → VRel g ([X, X'].getD i nv) v → VRel (g.lend H w) ([f a, f' a'].getD i nv) v := by
 intro i hi; simp only [List.length_cons, List.length_nil] at hi; obtain rfl | rfl : i = 0 ∨ i = 1 := by omega
 ·exact hO.arg h o hp
 ·exact hO'.arg h' o hp'
theorem lent1 {α : Type} {O : Ob → AV → α → Prop} {f : α → AV} {B : Nat} {H0 H : Heap} {l p : Ob} {X : AV} {a : α} (Y : AV) (hO : Ow O f) (h : O p X a) (o : Owns H0 H l)
  (hp : ∀ x, x ∈ p → x ∈ l) : ∀ i, i < [X, Y].length → ∀ g w v, WRel g B H w → VRel g ([X, Y].getD i nv) v → VRel (g.lend H w) ([f a, Y].getD i nv) v := by
 intro i hi; simp only [List.length_cons, List.length_nil] at hi; obtain rfl | rfl : i = 0 ∨ i = 1 := by omega
 ·exact hO.arg h o hp
 ·exact val_arg _
theorem OSM.fifteen15 {p : Ob} {X : AV} {f : SM} (h : OSM p X f) : ∃ a b c d e f g h i j k m n o p : AV, X = .agg [a, b, c, d, e, f, g, h, i, j, k, m, n, o, p] ∧ a.one = true ∧ b.one = true ∧ c.one = true ∧ d.one = true ∧ e.one = true ∧ f.one = true ∧
  g.one = true ∧ h.one = true ∧ i.one = true ∧ j.one = true ∧ k.one = true ∧ m.one = true ∧ n.one = true ∧ o.one = true ∧ p.one = true := by
 obtain ⟨Xs, rfl, hl, h1⟩ := OSM.fifteen h; obtain ⟨a, b, c, d, e, f, g, h, i, j, k, m, n, o, p, rfl⟩ := len15 hl; simp only [memcons, memnil] at h1; obtain ⟨u1, u2, u3, u4, u5, u6, u7, u8, u9, u10, u11, u12, u13, u14, u15, _⟩ := h1; exact ⟨_, _, _, _, _, _, _, _, _, _, _, _, _, _, _, rfl, u1, u2, u3, u4, u5, u6, u7, u8, u9, u10, u11, u12, u13, u14, u15⟩
end Go.Proofs.Shf
namespace Go.Proofs.Shf
open Go.AW Go.Proofs Go.Shf
open Go.Deep
def gh0 (W : World) : Gh := ⟨fun b o => W.cell? ⟨b, o, none⟩, fun _ => none, fun _ => none⟩
theorem wrel0 (W : World) : WRel (gh0 W) W.heap.size [] W where
 fz b o v h := h
 fm b es h := by cases h
 ob i o h := by simp [Heap.get] at h
 inj i j b c c' n h := by simp [Heap.get] at h
 injm i j b n h := by simp [Heap.get] at h
 base := Nat.le_refl _
 fin := ⟨0, fun i _ => rfl⟩
section
variable {H : Type} {enc : TypeId × Value → H} {W : World}
def Rd (enc : TypeId × Value → H) (W : World) (t : TypeId) (Q : AV → Prop) : Prop :=
 ∀ fuel v d ps, DataW.trod enc Tryz.prog W 0 (fun _ => true) true fuel t [v] = some (d, ps) → (∀ n, n ∈ d.weights Tryz.prog t → n ≤ reachBytes) → ∃ a, Q a ∧ VRel (gh0 W) a v
theorem rd_int : Rd enc W 2 fun a => ∃ n, a = iI n := by
 intro fuel v d ps h _; cases fuel with
 | zero => simp [DataW.trod] at h
 | succ fuel =>
  cases v <;> simp only [DataW.trod, Tryz.underlying2] at h <;> try (cases h; done)
  rename_i k n
  split at h
  ·rename_i hk; obtain ⟨rfl, _⟩ := hk; exact ⟨_, ⟨n, rfl⟩, .int _ n⟩
  ·cases h
theorem weightsAll_mem {P : Program} {e : TypeId} {l : List (DataW H)} {x : DataW H} (hx : x ∈ l) {n : Nat} (hn : n ∈ x.weights P e) : n ∈ DataW.weightsAll P e l := by
 induction l with
 | nil => simp at hx
 | cons y r ih =>
  simp only [DataW.weightsAll, List.mem_append]; rcases List.mem_cons.mp hx with rfl | hx
  ·exact .inl hn
  ·exact .inr (ih hx)
theorem rd_slice {t e : TypeId} {Q : AV → Prop} (ht : Tryz.prog.underlying t = some (.slice e)) (hc : Tryz.prog.cellsOf e = 1) (hb : 1 ≤ Tryz.prog.bytesOf e) (hQ : ∀ a, Q a → a.cells = [a]) (h : Rd enc W e Q) : Rd enc W t (WN Q) := by
 intro fuel v d ps htr hw; rcases open_slice1 ht hc htr with ⟨hv, hx⟩ | ⟨a, len, cap, m, n, V, D, Pl, hv, _, hl, hm, hmm, hx, hel⟩
 ·injection hv with hv
  subst hv; exact ⟨.sl [], .inl ⟨[], rfl, by simp⟩, .slnil none 0⟩
 ·injection hv with hv
  subst hv; simp only [if_true] at hmm; subst hmm; simp only [Prod.mk.injEq] at hx; obtain ⟨rfl, rfl⟩ := hx; have hw0 : (((List.range len).map D).length + ((List.range (m - len)).map fun j => D (len + j)).length) * Tryz.prog.bytesOf e ≤ reachBytes := hw _ (by simp [DataW.weights, ht]); have hlen : len ≤ 140737488355328 := by
   simp only [List.length_map, List.length_range] at hw0; have h1 : len * 1 ≤ (len + (m - len)) * Tryz.prog.bytesOf e := Nat.mul_le_mul (by omega) hb; have h2 : reachBytes ≤ 140737488355328 := by decide
   omega
  by_cases hbig : 1099511627776 < len
  ·exact ⟨.big len, .inr ⟨len, by omega, hlen, rfl⟩, .big _ _ _ hlen⟩
  ·have hall : ∀ i, ∃ x, i < len → Q x ∧ VRel (gh0 W) x (V i) := by
    intro i; by_cases hi : i < len
    ·obtain ⟨x, q1, q2⟩ := h n (V i) (D i) (Pl i) (hel i (by omega)).2 fun k hk => hw k (by
      simp only [DataW.weights, ht, List.mem_cons, List.mem_append]; exact .inr (.inl (weightsAll_mem (List.mem_map.mpr ⟨i, List.mem_range.mpr hi, rfl⟩) hk)))
     exact ⟨x, fun _ => ⟨q1, q2⟩⟩
    ·exact ⟨.nilp, fun h => absurd h hi⟩
   obtain ⟨A, hA⟩ := Classical.axiomOfChoice hall; have hget : ∀ i, i < len → ((List.range len).map A).getD i nv = A i := fun i hi => getD_map_range A nv hi; refine ⟨.sl ((List.range len).map A), .inl ⟨_, rfl, fun x hx => ?_⟩, ?_⟩
   ·obtain ⟨i, hi, rfl⟩ := List.mem_map.mp hx; exact (hA i (List.mem_range.mp hi)).1
   ·by_cases h0 : len = 0
    ·subst h0; exact .slnil _ _
    ·have hsp : a = ⟨a.block, a.off, none⟩ := by
      have := (hel 0 (by omega)).1; obtain ⟨b, o, s⟩ := a; cases s with
      | none => rfl
      | some s => exfalso; simp [Addr.add, World.cell?] at this; split at this <;> simp at this
     have hadd : ∀ i, a.add i = ⟨a.block, a.off + i, none⟩ := by
      intro i; rw [hsp]; unfold Addr.add
      split
      ·rename_i e; simp [e]
      ·rfl
     have key : VRel (gh0 W) (.sl ((List.range len).map A)) (.slice (some ⟨a.block, a.off, none⟩) ((List.range len).map A).length m) := by
      refine .sl _ a.block a.off 1 m V (by simp [maxL]; omega) (fun i hi => ?_) (fun i j hi hj => ?_) (fun i j hi hj => ?_)
      ·rw [hget i (by simpa using hi), hQ _ (hA i (by simpa using hi)).1]; rfl
      ·have hi' : i < len := by simpa using hi
       have := (hel i (by omega)).1; rw [hadd] at this; have e : i * 1 + j = i := by omega
       rw [e]; exact this
      ·have hi' : i < len := by simpa using hi
       have e : i * 1 + j = i := by omega
       obtain rfl : j = 0 := by omega
       rw [e, hget i hi', hQ _ (hA i hi').1]; exact (hA i hi').2
     rw [List.length_map, List.length_range, ← hsp] at key; exact key
theorem W1.of {a : AV} (h : WN (fun a => ∃ n, a = iI n) a) : W1 a := by
 rcases h with ⟨l, rfl, hl⟩ | h
 ·refine .inl ⟨l.map fun x => match x with | .int _ n => n | _ => 0, ?_⟩; rw [iL, mL, List.map_map]
  congr 1
  have : ∀ x, x ∈ l → (iI ∘ fun x : AV => match x with | .int _ n => n | _ => (0 : Int)) x = x := fun x hx => by obtain ⟨n, rfl⟩ := hl x hx; rfl
  exact ((List.map_congr_left this).trans (by simp)).symm
 ·exact .inr h
theorem Rd.mono {t : TypeId} {Q Q' : AV → Prop} (h : Rd enc W t Q) (hq : ∀ a, Q a → Q' a) : Rd enc W t Q' := fun fuel v d ps k w => by
 obtain ⟨a, q1, q2⟩ := h fuel v d ps k w; exact ⟨a, hq a q1, q2⟩
theorem rd_w1 : Rd enc W 22 W1 := (rd_slice Tryz.underlying22 (by kernel_rfl) (of_decide_eq_true (by kernel_rfl)) (fun a ⟨n, e⟩ => by rw [e]; rfl) rd_int).mono fun a h => W1.of h
theorem rd_w2 : Rd enc W 23 W2 := rd_slice Tryz.underlying23 (by kernel_rfl) (of_decide_eq_true (by kernel_rfl)) (fun a h => W1.cells h) rd_w1
theorem rd_w3 : Rd enc W 26 W3 := rd_slice Tryz.underlying26 (by kernel_rfl) (of_decide_eq_true (by kernel_rfl)) (fun a h => WN.cells h) rd_w2
theorem rd_struct {t : TypeId} {fs : Array Field} (ht : Tryz.prog.underlying t = some (.struct fs)) {fuel : Nat} {cs : List Value} {d : DataW H} {ps : List MemPlace}
  (h : DataW.trod enc Tryz.prog W 0 (fun _ => true) true fuel t cs = some (d, ps)) (hw : ∀ n, n ∈ d.weights Tryz.prog t → n ≤ reachBytes) (j : Nat) (f : Field) (hf : fs.toList[j]? = some f) :
  ∃ fuel' d' ps', DataW.trod enc Tryz.prog W 0 (fun _ => true) true fuel' f.type ((cs.drop f.offset).take (Tryz.prog.cellsOf f.type)) = some (d', ps') ∧ ∀ n, n ∈ d'.weights Tryz.prog f.type → n ≤ reachBytes := by
 cases fuel with
 | zero => simp [DataW.trod] at h
 | succ fuel =>
  simp only [DataW.trod, ht] at h
  split at h
  ·rw [Option.map_eq_some_iff] at h; obtain ⟨xs, hxs, e⟩ := h; simp only [Prod.mk.injEq] at e; obtain ⟨rfl, rfl⟩ := e; have h1 := mapM_some_get hxs j f hf; have hlen := mapM_some_length hxs; have hj : j < xs.length := by
    have := (List.getElem?_eq_some_iff.mp hf).1; omega
   rw [List.getElem?_eq_getElem hj] at h1; refine ⟨fuel, xs[j].1, xs[j].2, h1, fun n hn => hw n ?_⟩; simp only [DataW.weights, ht]; exact DataW.weights_mem_each (j := j) (t := f.type) (d := xs[j].1) (by simp [hf]) (by simp [hj]) n hn
  ·cases h
theorem rd_cat {fuel : Nat} {c0 c1 c2 c3 c4 : Value} {d : DataW H} {ps : List MemPlace} (h : DataW.trod enc Tryz.prog W 0 (fun _ => true) true fuel 25 [c0, c1, c2, c3, c4] = some (d, ps)) (hw : ∀ n, n ∈ d.weights Tryz.prog 25 → n ≤ reachBytes) :
  ∃ n a1 a2 a3 a4, VRel (gh0 W) (iI n) c0 ∧ (W1 a1 ∧ VRel (gh0 W) a1 c1) ∧ (W1 a2 ∧ VRel (gh0 W) a2 c2) ∧ (W1 a3 ∧ VRel (gh0 W) a3 c3) ∧ (W2 a4 ∧ VRel (gh0 W) a4 c4) := by
 have k2 : Tryz.prog.cellsOf 2 = 1 := by kernel_rfl
 have k22 : Tryz.prog.cellsOf 22 = 1 := by kernel_rfl
 have k23 : Tryz.prog.cellsOf 23 = 1 := by kernel_rfl
 obtain ⟨_, _, _, q0, u0⟩ := rd_struct Tryz.underlying25 h hw 0 _ rfl; obtain ⟨_, _, _, q1, u1⟩ := rd_struct Tryz.underlying25 h hw 1 _ rfl; obtain ⟨_, _, _, q2, u2⟩ := rd_struct Tryz.underlying25 h hw 2 _ rfl; obtain ⟨_, _, _, q3, u3⟩ := rd_struct Tryz.underlying25 h hw 3 _ rfl; obtain ⟨_, _, _, q4, u4⟩ := rd_struct Tryz.underlying25 h hw 4 _ rfl; simp only [k2, k22, k23, List.drop_zero, List.drop_succ_cons, List.take_succ_cons, List.take_zero] at q0 q1 q2 q3 q4; obtain ⟨_, ⟨n, rfl⟩, r0⟩ := rd_int _ _ _ _ q0 u0; obtain ⟨a1, w1, r1⟩ := rd_w1 _ _ _ _ q1 u1; obtain ⟨a2, w2, r2⟩ := rd_w1 _ _ _ _ q2 u2; obtain ⟨a3, w3, r3⟩ := rd_w1 _ _ _ _ q3 u3; obtain ⟨a4, w4, r4⟩ := rd_w2 _ _ _ _ q4 u4; exact ⟨n, a1, a2, a3, a4, r0, ⟨w1, r1⟩, ⟨w2, r2⟩, ⟨w3, r3⟩, ⟨w4, r4⟩⟩
theorem agg_rel {g : Gh} {al : List AV} {vs : List Value} (hl : vs.length = al.length) (h : ∀ i, i < al.length → VRel g (al.getD i nv) (vs.getD i undef)) : VRel g (.agg al) (.agg vs.toArray) :=
 .agg al vs.toArray (by simpa using hl) fun i hi => by
  have := h i hi; simpa [Array.getD, gQ, show i < vs.length by omega] using this
theorem rd_top {fuel : Nat} {c0 c1 c2 c3 c4 c5 : Value} {d : DataW H} {ps : List MemPlace} (h : DataW.trod enc Tryz.prog W 0 (fun _ => true) true fuel 28 [c0, c1, c2, c3, c4, c5] = some (d, ps)) (hw : ∀ n, n ∈ d.weights Tryz.prog 28 → n ≤ reachBytes) :
  ∃ n a1 a2 a3 a4 a5, W1 a1 ∧ W1 a2 ∧ W1 a3 ∧ W2 a4 ∧ W3 a5 ∧ VRel (gh0 W) (.agg [iI n, a1, a2, a3, a4, a5]) (.agg #[c0, c1, c2, c3, c4, c5]) := by
 have k25 : Tryz.prog.cellsOf 25 = 5 := by kernel_rfl
 have k26 : Tryz.prog.cellsOf 26 = 1 := by kernel_rfl
 obtain ⟨_, _, _, q0, u0⟩ := rd_struct Tryz.underlying28 h hw 0 _ rfl; obtain ⟨_, _, _, q1, u1⟩ := rd_struct Tryz.underlying28 h hw 1 _ rfl; simp only [k25, k26, List.drop_zero, List.drop_succ_cons, List.take_succ_cons, List.take_zero] at q0 q1; obtain ⟨n, a1, a2, a3, a4, r0, ⟨w1, r1⟩, ⟨w2, r2⟩, ⟨w3, r3⟩, ⟨w4, r4⟩⟩ := rd_cat q0 u0; obtain ⟨a5, w5, r5⟩ := rd_w3 _ _ _ _ q1 u1; refine ⟨n, a1, a2, a3, a4, a5, w1, w2, w3, w4, w5, ?_⟩; refine agg_rel (vs := [c0, c1, c2, c3, c4, c5]) rfl fun i hi => ?_; simp only [List.length_cons, List.length_nil] at hi; obtain rfl | rfl | rfl | rfl | rfl | rfl : i = 0 ∨ i = 1 ∨ i = 2 ∨ i = 3 ∨ i = 4 ∨ i = 5 := by omega
 all_goals assumption
theorem rd_sf {fuel : Nat} {c0 c1 c2 c3 c4 c5 c6 : Value} {d : DataW H} {ps : List MemPlace} (h : DataW.trod enc Tryz.prog W 0 (fun _ => true) true fuel 30 [c0, c1, c2, c3, c4, c5, c6] = some (d, ps)) (hw : ∀ n, n ∈ d.weights Tryz.prog 30 → n ≤ reachBytes) :
  ∃ n a1 a2 a3 a4 a5 a6, W1 a1 ∧ W1 a2 ∧ W1 a3 ∧ W2 a4 ∧ W1 a5 ∧ W2 a6 ∧ VRel (gh0 W) (.agg [iI n, a1, a2, a3, a4, a5, a6]) (.agg #[c0, c1, c2, c3, c4, c5, c6]) := by
 have k25 : Tryz.prog.cellsOf 25 = 5 := by kernel_rfl
 have k22 : Tryz.prog.cellsOf 22 = 1 := by kernel_rfl
 have k23 : Tryz.prog.cellsOf 23 = 1 := by kernel_rfl
 obtain ⟨_, _, _, q0, u0⟩ := rd_struct Tryz.underlying30 h hw 0 _ rfl; obtain ⟨_, _, _, q1, u1⟩ := rd_struct Tryz.underlying30 h hw 1 _ rfl; obtain ⟨_, _, _, q2, u2⟩ := rd_struct Tryz.underlying30 h hw 2 _ rfl; simp only [k25, k22, k23, List.drop_zero, List.drop_succ_cons, List.take_succ_cons, List.take_zero] at q0 q1 q2; obtain ⟨n, a1, a2, a3, a4, r0, ⟨w1, r1⟩, ⟨w2, r2⟩, ⟨w3, r3⟩, ⟨w4, r4⟩⟩ := rd_cat q0 u0; obtain ⟨a5, w5, r5⟩ := rd_w1 _ _ _ _ q1 u1; obtain ⟨a6, w6, r6⟩ := rd_w2 _ _ _ _ q2 u2; refine ⟨n, a1, a2, a3, a4, a5, a6, w1, w2, w3, w4, w5, w6, ?_⟩; refine agg_rel (vs := [c0, c1, c2, c3, c4, c5, c6]) rfl fun i hi => ?_; simp only [List.length_cons, List.length_nil] at hi; obtain rfl | rfl | rfl | rfl | rfl | rfl | rfl : i = 0 ∨ i = 1 ∨ i = 2 ∨ i = 3 ∨ i = 4 ∨ i = 5 ∨ i = 6 := by omega
 all_goals assumption
end
end Go.Proofs.Shf
namespace Go.Proofs.Shf
open Go.AW Go.Proofs Go.Shf
open Go.Deep
theorem szSetMap_w (B : Nat) (n1 n2 : Int) (a1 a2 a3 a4 a5 a6 b1 b2 b3 b4 b5 b6 d : AV) (w1 : W1 a1) (w2 : W1 a2) (w3 : W1 a3) (w4 : W2 a4) (w5 : W1 a5) (w6 : W2 a6) (v1 : W1 b1) (v2 : W1 b2) (v3 : W1 b3) (v4 : W2 b4) (v5 : W1 b5) (v6 : W2 b6) (u : W2 d)
  (left : Int) (h0 : 0 ≤ left) (h1 : left ≤ 1048576) (H0 : Heap) :
  CallH Tryz.prog B 32 [.agg [iI n1, a1, a2, a3, a4, a5, a6, iI n2, b1, b2, b3, b4, b5, b6, d], .int .i64 left] H0 (szK (SzQ (fun c => .agg (SM.cells c)) szSM (.agg [iI n1, a1, a2, a3, a4, a5, a6, iI n2, b1, b2, b3, b4, b5, b6, d]) left) H0) := by
 refine c32 (by simp) fun _ => ?_; unfold s32; have o1 := W1.one w1; have o2 := W1.one w2; have o3 := W1.one w3; have o4 := WN.one w4; have o5 := W1.one w5; have o6 := WN.one w6; have p1 := W1.one v1; have p2 := W1.one v2; have p3 := W1.one v3; have p4 := WN.one v4; have p5 := W1.one v5; have p6 := WN.one v6; have q := WN.one u; simp only [go_sem, reduceAdd, reduceLeDiff]; refine ⟨⟨o1, o2, o3, o4, o5, o6, p1, p2, p3, p4, p5, p6, q⟩, ?_⟩; refine (szSetFunctor_w B n1 a1 a2 a3 a4 a5 a6 w1 w2 w3 w4 w5 w6 left h0 h1 H0).mono ?_; rintro r H ⟨rfl, l1, rfl, r1, r2, r3⟩; simp only [go_sem]; refine ⟨fun e1 => At.mk ?_, fun e1 => At.mk ?_⟩
 ·simp only [go_sem]; exact sz_ret (.refl _) ⟨by omega, by omega, fun h => by omega⟩
 have e1p := of_ndecide e1; obtain ⟨f, ef, s1⟩ := r3 (by omega); injection ef with ef
 simp only [SF.cells, List.cons.injEq, and_true] at ef; obtain ⟨en, rfl, rfl, rfl, rfl, rfl, rfl⟩ := ef; simp only [go_sem, reduceAdd, reduceLeDiff]; refine (szSetFunctor_w B n2 b1 b2 b3 b4 b5 b6 v1 v2 v3 v4 v5 v6 l1 (by omega) (by omega) H).mono ?_; rintro r H ⟨rfl, l2, rfl, r4, r5, r6⟩; simp only [go_sem]; refine ⟨fun e2 => At.mk ?_, fun e2 => At.mk ?_⟩
 ·simp only [go_sem]; exact sz_ret (.refl _) ⟨by omega, by omega, fun h => by omega⟩
 have e2p := of_ndecide e2; obtain ⟨g, eg, s2⟩ := r6 (by omega); injection eg with eg
 simp only [SF.cells, List.cons.injEq, and_true] at eg; obtain ⟨eq, rfl, rfl, rfl, rfl, rfl, rfl⟩ := eg; simp only [go_sem, reduceAdd, reduceLeDiff]; refine (szInt64SS_w B d u l2 (by omega) (by omega) H).mono ?_; rintro r H ⟨rfl, l3, rfl, r7, r8, r9⟩; simp only [go_sem]; refine ⟨fun e3 => At.mk ?_, fun e3 => At.mk ?_⟩
 ·simp only [go_sem]; exact sz_ret (.refl _) ⟨by omega, by omega, fun h => by omega⟩
 have e3p := of_ndecide e3; obtain ⟨p, rfl, s3⟩ := r9 (by omega); simp only [go_sem]; exact sz_ret (.refl _) ⟨by omega, by omega, fun _ => ⟨⟨f, g, p⟩, by rw [en, eq], by simp only [szSM]; omega⟩⟩
theorem toSetMap_new (B : Nat) (m : SM) : New Tryz.prog B 34 [.agg m.cells] fun p X => OSM p X m := by
 refine ⟨fun H0 => c34 (by simp) fun hf => ?_⟩; unfold s34; simp only [go_sem, reduceAdd]; refine ⟨by simp [maxL], newRef_own (.nil _) fun i1 H o => ?_⟩; simp only [go_sem, reduceAdd]; refine ⟨by simp [maxL], newRef_own o fun i2 H o => ?_⟩; simp only [go_sem, reduceAdd, reduceLeDiff]; refine (toSetFunctor_new B m.src).call o fun Z p1 H q1 o => ?_; obtain ⟨X1, X2, X3, X4, X5, X6, rfl, u1, u2, u3, u4, u5, u6⟩ := OSF.seven q1; simp only [go_sem, reduceAdd]; refine st_cells (o.perm List.perm_middle) (by simp) rfl (by simp only [memcons, memnil]; exact ⟨rfl, u1, u2, u3, u4, u5, u6, trivial⟩) fun H o => ?_; simp only [wr_cons, wr_nil, sZ, sY] at o; simp only [go_sem, reduceAdd, reduceLeDiff]; refine (toSetFunctor_new B m.tgt).call o fun Y p2 H q2 o => ?_; obtain ⟨Y1, Y2, Y3, Y4, Y5, Y6, rfl, v1, v2, v3, v4, v5, v6⟩ := OSF.seven q2; simp only [go_sem, reduceAdd]; refine st_cells (o.perm List.perm_middle) (by simp) rfl (by simp only [memcons, memnil]; exact ⟨rfl, v1, v2, v3, v4, v5, v6, trivial⟩) fun H o => ?_; simp only [wr_cons, wr_nil, sZ, sY] at o; simp only [go_sem, reduceAdd, reduceLeDiff]; refine (toInt64SS_new B m.parts).call o fun W p3 H q3 o => ?_; have w := q3.one; simp only [go_sem, reduceAdd, AV.cells_one w]; refine st_cells (o.perm List.perm_middle) (by simp) rfl (by simp [w]) fun H o => ?_; simp only [wr_cons, wr_nil, sZ, sY] at o; simp only [go_sem]; refine rd_celln o (by simp) ?_; simp only [go_sem]; have o := Owns.last (q := p3 ++ (p2 ++ p1)) (by simpa only [List.append_assoc] using o.tl); refine st_cells o (by simp) rfl (by simp only [memcons, memnil]; exact ⟨rfl, u1, u2, u3, u4, u5, u6, rfl, v1, v2, v3, v4, v5, v6, w, trivial⟩) fun H o => ?_; simp only [wr_cons, wr_nil, sZ, sY] at o; simp only [go_sem]; have hr := o.rc 15 0 (by simp); simp only [List.drop_zero] at hr; rw [hr]; exact ⟨H, .refl H, _, ⟨[_, X1, X2, X3, X4, X5, X6], [_, Y1, Y2, Y3, Y4, Y5, Y6], W, p1, p2, p3, rfl, rfl, q1, q2, q3⟩, o.tl.perm (perm_rev3 _ _ _)⟩
section
variable {H : Type} {enc : TypeId × Value → H} {W : World}
theorem agg_at {g : Gh} {cs : List AV} {vs : Array Value} (h : VRel g (.agg cs) (.agg vs)) : ∀ i, i < cs.length → VRel g (cs.getD i nv) (vs.getD i undef) := by
 cases h with
 | agg _ _ hs hv => exact hv
theorem rd_sm {fuel : Nat} {c0 c1 c2 c3 c4 c5 c6 d0 d1 d2 d3 d4 d5 d6 e : Value} {d : DataW H} {ps : List MemPlace}
  (h : DataW.trod enc Tryz.prog W 0 (fun _ => true) true fuel 56 [c0, c1, c2, c3, c4, c5, c6, d0, d1, d2, d3, d4, d5, d6, e] = some (d, ps)) (hw : ∀ n, n ∈ d.weights Tryz.prog 56 → n ≤ reachBytes) :
  ∃ n a1 a2 a3 a4 a5 a6 m b1 b2 b3 b4 b5 b6 u, (W1 a1 ∧ W1 a2 ∧ W1 a3 ∧ W2 a4 ∧ W1 a5 ∧ W2 a6) ∧ (W1 b1 ∧ W1 b2 ∧ W1 b3 ∧ W2 b4 ∧ W1 b5 ∧ W2 b6) ∧ W2 u ∧
   VRel (gh0 W) (.agg [iI n, a1, a2, a3, a4, a5, a6, iI m, b1, b2, b3, b4, b5, b6, u]) (.agg #[c0, c1, c2, c3, c4, c5, c6, d0, d1, d2, d3, d4, d5, d6, e]) := by
 have k30 : Tryz.prog.cellsOf 30 = 7 := by kernel_rfl
 have k23 : Tryz.prog.cellsOf 23 = 1 := by kernel_rfl
 obtain ⟨_, _, _, q0, u0⟩ := rd_struct Tryz.underlying56 h hw 0 _ rfl; obtain ⟨_, _, _, q1, u1⟩ := rd_struct Tryz.underlying56 h hw 1 _ rfl; obtain ⟨_, _, _, q2, u2⟩ := rd_struct Tryz.underlying56 h hw 2 _ rfl; simp only [k30, k23, List.drop_zero, List.drop_succ_cons, List.take_succ_cons, List.take_zero] at q0 q1 q2; obtain ⟨n, a1, a2, a3, a4, a5, a6, w1, w2, w3, w4, w5, w6, r0⟩ := rd_sf q0 u0; obtain ⟨m, b1, b2, b3, b4, b5, b6, v1, v2, v3, v4, v5, v6, r1⟩ := rd_sf q1 u1; obtain ⟨u, w, r2⟩ := rd_w2 _ _ _ _ q2 u2; refine ⟨n, a1, a2, a3, a4, a5, a6, m, b1, b2, b3, b4, b5, b6, u, ⟨w1, w2, w3, w4, w5, w6⟩, ⟨v1, v2, v3, v4, v5, v6⟩, w, ?_⟩; have s0 := agg_at r0; have s1 := agg_at r1; refine agg_rel (vs := [c0, c1, c2, c3, c4, c5, c6, d0, d1, d2, d3, d4, d5, d6, e]) rfl fun i hi => ?_; simp only [List.length_cons, List.length_nil] at hi; by_cases h1 : i < 7
 ·have := s0 i (by simpa using h1); obtain rfl | rfl | rfl | rfl | rfl | rfl | rfl : i = 0 ∨ i = 1 ∨ i = 2 ∨ i = 3 ∨ i = 4 ∨ i = 5 ∨ i = 6 := by omega
  all_goals exact this
 ·by_cases h2 : i < 14
  ·have := s1 (i - 7) (by simp only [List.length_cons, List.length_nil]; omega); obtain rfl | rfl | rfl | rfl | rfl | rfl | rfl : i = 7 ∨ i = 8 ∨ i = 9 ∨ i = 10 ∨ i = 11 ∨ i = 12 ∨ i = 13 := by omega
   all_goals exact this
  ·obtain rfl : i = 14 := by omega
   exact r2
end
end Go.Proofs.Shf
namespace Go.Proofs.Shf
open Go.AW Go.Proofs Go.Shf
theorem zSM_sz : szSM zSM ≤ 10000 ∧ szSF zSM.tgt ≤ 10000 := ⟨by decide, by decide⟩
theorem SMok_sz {f g : SF} {p : List (List Int)} (h : f.Shape) (hg : g.Shape) (m : MapL f g p) : szSM ⟨f, g, p⟩ ≤ 10000 := by
 have h1 := szSF_le h; have h2 := szSF_le hg; have h3 : szLL p ≤ 8 * 16 := by
  have ho := h.is.1.o; have hl := m.len; refine szLL_le (by omega) fun r hr => ?_; obtain ⟨k, hk, rfl⟩ := mem_getD.mp hr; have := (m.pl (k : Int) (by omega)).1; simp only [ix_nat] at this; have h4 := h.sizeAt (y := (k : Int)) (by omega); simp only [ix_nat] at h4; omega
 simp only [szSM]; omega
theorem zA15_w : WkV (.agg zA15) (.agg (SM.cells zSM)) := .agg (.cons (.refl _) (.cons .nil (.cons .nil (.cons .nil (.cons .nil (.cons .nil (.cons .nil (.cons (.refl _) (.cons .nil (.cons .nil (.cons .nil (.cons .nil (.cons .nil (.cons .nil (.cons .nil .nil)))))))))))))))
theorem extM_sz (j : Top) (m : SM) : szSM (extM j m) ≤ 10000 := by
 rw [extM]
 split
 ·rename_i h; obtain ⟨⟨hF, hm⟩, z1, hS⟩ := h; obtain ⟨c1, f1⟩ := two_z z1; obtain ⟨-, -, h1, v1⟩ := code_cov c1; rw [← h1] at v1; generalize leastL j.shape j.covers = V at *; rw [h1] at v1; have s1 := step_shape hm.s.1 v1 f1.1; exact SMok_sz (step_shape s1 v1 f1.2) hm.t.1 (down_map s1 hm.t.1 hm.t.compL hm.eq (down_map hm.s.1 hm.t.1 hm.t.compL hm.eq hm.mapL v1 hS) v1 hS)
 ·exact zSM_sz.1
theorem SheafExtended_w (B : Nat) (j : Top) (m : SM) : Pur Tryz.prog B 36 [.agg j.cells, .agg m.cells] (.tup [.agg (SM.cells (extM j m)), .int .i64 (extC j m)]) := by
 refine (SheafExtended_ok B j m).weak fun g v hv => ?_; by_cases h : ExtOk j m
 ·have e1 : extA j m = SM.cells (extM j m) := by rw [extA, extM, if_pos h, if_pos h]
  rw [e1] at hv; exact hv
 ·have e1 : extA j m = zA15 := by rw [extA, if_neg h]
  have e2 : extM j m = zSM := by rw [extM, if_neg h]
  rw [e1] at hv; rw [e2]; exact WkV.tup (.cons zA15_w (.cons (.refl _) .nil)) g v hv
theorem law9_ok (B : Nat) (n m1 m2 : Int) (a1 a2 a3 a4 a5 b1 b2 b3 b4 b5 b6 c1 c2 c3 c4 c5 c6 d : AV) (w1 : W1 a1) (w2 : W1 a2) (w3 : W1 a3) (w4 : W2 a4) (w5 : W3 a5) (v1 : W1 b1) (v2 : W1 b2) (v3 : W1 b3) (v4 : W2 b4) (v5 : W1 b5) (v6 : W2 b6) (y1 : W1 c1) (y2 : W1 c2) (y3 : W1 c3) (y4 : W2 c4) (y5 : W1 c5) (y6 : W2 c6) (yd : W2 d) (H0 : Heap) :
  CallH Tryz.prog B 9 [.agg [iI n, a1, a2, a3, a4, a5], .agg [iI m1, b1, b2, b3, b4, b5, b6, iI m2, c1, c2, c3, c4, c5, c6, d]] H0 fun r H' => r = .bool true := by
 refine c9p (by simp) fun _ => ?_; unfold s9p; have o1 := W1.one w1; have o2 := W1.one w2; have o3 := W1.one w3; have o4 := WN.one w4; have o5 := WN.one w5; have u1 := W1.one v1; have u2 := W1.one v2; have u3 := W1.one v3; have u4 := WN.one v4; have u5 := W1.one v5; have u6 := WN.one v6; have z1 := W1.one y1; have z2 := W1.one y2; have z3 := W1.one y3; have z4 := WN.one y4; have z5 := W1.one y5; have z6 := WN.one y6; have zd := WN.one yd; simp only [go_sem, reduceAdd]; refine ⟨⟨o1, o2, o3, o4, o5⟩, ⟨u1, u2, u3, u4, u5, u6, z1, z2, z3, z4, z5, z6, zd⟩, ?_⟩; refine (szTopology_w B n a1 a2 a3 a4 a5 w1 w2 w3 w4 w5 1048576 (by omega) (by omega) H0).mono ?_; rintro r H ⟨rfl, left, rfl, p1, p2, p3⟩; simp only [go_sem]; refine ⟨fun e1 => At.mk ?_, fun e1 => At.mk ?_⟩
 ·simp only [go_sem]; exact ⟨H, .refl H, rfl⟩
 have e1p := of_ndecide e1; obtain ⟨j, ej, sj⟩ := p3 (by omega); simp only [go_sem, reduceAdd]; refine (szSetMap_w B m1 m2 b1 b2 b3 b4 b5 b6 c1 c2 c3 c4 c5 c6 d v1 v2 v3 v4 v5 v6 y1 y2 y3 y4 y5 y6 yd left (by omega) (by omega) H).mono ?_; rintro r H ⟨rfl, left2, rfl, p4, p5, p6⟩; simp only [go_sem]; refine ⟨fun e2 => At.mk ?_, fun e2 => At.mk ?_⟩
 ·simp only [go_sem]; exact ⟨H, .refl H, rfl⟩
 have e2p := of_ndecide e2; obtain ⟨f, ef, sf⟩ := p6 (by omega); injection ej with ej
 injection ef with ef
 simp only [Top.cells, List.cons.injEq, and_true, AV.int.injEq, true_and] at ej; simp only [SM.cells, List.cons.injEq, and_true, AV.int.injEq, true_and] at ef; obtain ⟨rfl, rfl, rfl, rfl, rfl, rfl⟩ := ej; obtain ⟨rfl, rfl, rfl, rfl, rfl, rfl, rfl, rfl, rfl, rfl, rfl, rfl, rfl, rfl, rfl⟩ := ef; have hT := toTopology_ok B j; have hTn := toTopology_new B j; have hS := toSetMap_ok B f; have hSn := toSetMap_new B f; have eT := eqTopology_ok B j j; have eS := eqSetMap_ok B f f; have eW := eqSetMap_ok B (extM j f) (extM j f); rw [dec_t rfl] at eT eS eW; have hsp := SheafExtended_w B j f; have him := implSheafExtended_new B j f; have hip := New.pur (Ow.tupc owSM (extC j f)) him; have hsz := extM_sz j f; simp only [szTop, szSM] at sj sf; have hsT : szTop j ≤ 1048576 := by simp only [szTop]; omega
 have hsS : szSM f ≤ 1048576 := by simp only [szSM]; omega
 clear p3 p6 p1 p2 p4 p5 sj sf o1 o2 o3 o4 o5 u1 u2 u3 u4 u5 u6 w1 w2 w3 w4 w5 v1 v2 v3 v4 v5 v6 y1 y2 y3 y4 y5 y6 yd z1 z2 z3 z4 z5 z6 zd e1 e2 e1p e2p; generalize extM j f = U at *; generalize extC j f = code at *; simp only [go_sem, reduceAdd]; refine ⟨_, hT.run, ?_⟩; simp only [go_sem]; refine ⟨_, hS.run, ?_⟩; simp only [go_sem]; refine ⟨_, hsp.run, ?_⟩; simp only [go_sem, reduceAdd, reduceLT]; refine ⟨by simp [maxL], newRef_own (.nil _) fun id6 H o => ?_⟩; simp only [go_sem]; refine st_cells o (by simp) (by (simp only [go_sem]); (try simp)) (by first | (simp only [go_sem]; done) | ((simp only [go_sem]); simp [AV.one, one_mL])) fun H o => ?_; simp only [wr_cons, wr_nil, sZ, sY] at o; simp only [go_sem, reduceAdd]; refine hTn.call o fun Y8 p8 H q8 o => ?_; obtain ⟨x1, x2, x3, x4, x5, rfl, y1, y2, y3, y4, y5⟩ := OTop.six q8; simp only [go_sem, reduceAdd]; refine ⟨by simp [maxL], newRef_own o fun id8 H o => ?_⟩; simp only [go_sem]; refine st_cells o (by simp) (by (simp only [go_sem]); (try simp)) (by simp only [memcons, memnil]; exact ⟨rfl, y1, y2, y3, y4, y5, trivial⟩) fun H o => ?_; simp only [wr_cons, wr_nil, sZ, sY] at o; simp only [go_sem, reduceAdd]; refine hSn.call o fun Y9 p9 H q9 o => ?_; have q9q := q9; obtain ⟨z1, z2, z3, z4, z5, z6, z7, z8, z9, z10, z11, z12, z13, z14, z15, rfl, t1, t2, t3, t4, t5, t6, t7, t8, t9, t10, t11, t12, t13, t14, t15⟩ := OSM.fifteen15 q9q; simp only [go_sem, reduceAdd]; refine ⟨by simp [maxL], newRef_own o fun id9 H o => ?_⟩; simp only [go_sem]; refine st_cells o (by simp) (by (simp only [go_sem]); (try simp)) (by simp only [memcons, memnil]; exact ⟨t1, t2, t3, t4, t5, t6, t7, t8, t9, t10, t11, t12, t13, t14, t15, trivial⟩) fun H o => ?_; simp only [wr_cons, wr_nil, sZ, sY] at o; simp only [go_sem]; refine rd_getn (o.get (id8, _) (by repeat (first | exact List.mem_cons_self | refine List.mem_cons_of_mem _ ?_ | refine List.mem_append_right _ ?_))) (by simp) ?_; simp only [go_sem]; refine rd_getn (o.get (id9, _) (by repeat (first | exact List.mem_cons_self | refine List.mem_cons_of_mem _ ?_ | refine List.mem_append_right _ ?_))) (by simp) ?_; simp only [go_sem]; refine New.lent (Ow.tupc owSM code) him o rfl (lent2 (f := fun c : Top => AV.agg c.cells) (f' := fun c : SM => AV.agg c.cells) (a := j) (a' := f) owTop owSM q8 q9 o (fun x hx => by simp [hx]) (fun x hx => by simp [hx])) fun r p10 H hr o => ?_; obtain ⟨Y10, rfl, q10⟩ := hr; obtain ⟨g1, g2, g3, g4, g5, g6, g7, g8, g9, g10, g11, g12, g13, g14, g15, rfl, k1, k2, k3, k4, k5, k6, k7, k8, k9, k10, k11, k12, k13, k14, k15⟩ := OSM.fifteen15 q10; simp only [go_sem, reduceAdd, reduceLT]; refine ⟨by simp [maxL], newRef_own o fun id10 H o => ?_⟩; simp only [go_sem]; refine st_cells o (by simp) (by (simp only [go_sem]); (try simp)) (by simp only [memcons, memnil]; exact ⟨k1, k2, k3, k4, k5, k6, k7, k8, k9, k10, k11, k12, k13, k14, k15, trivial⟩) fun H o => ?_; simp only [wr_cons, wr_nil, sZ, sY] at o; simp only [go_sem]; refine rd_getn (o.get (id10, _) (by repeat (first | exact List.mem_cons_self | refine List.mem_cons_of_mem _ ?_ | refine List.mem_append_right _ ?_))) (by simp) ?_; simp only [go_sem]; refine rd_getn (o.get (id6, _) (by repeat (first | exact List.mem_cons_self | refine List.mem_cons_of_mem _ ?_ | refine List.mem_append_right _ ?_))) (by simp) ?_; simp only [go_sem]; refine CallH.lentPure (es := [.agg U.cells, .agg U.cells]) (.bool _) rfl (lent1 (f := fun c : SM => AV.agg c.cells) (a := U) _ owSM q10 o (fun x hx => by simp [hx])) eW.run ?_; simp only [go_sem]; refine ⟨fun e => (by simp at e), fun _ => At.mk ?_⟩; simp only [go_sem]; refine rd_getn (o.get (id8, _) (by repeat (first | exact List.mem_cons_self | refine List.mem_cons_of_mem _ ?_ | refine List.mem_append_right _ ?_))) (by simp) ?_; simp only [go_sem, reduceAdd]; refine ⟨_, hT.run, ?_⟩; simp only [go_sem]; refine CallH.lentPure (es := [.agg j.cells, .agg j.cells]) (.bool _) rfl (lent1 (f := fun c : Top => AV.agg c.cells) (a := j) _ owTop q8 o (fun x hx => by simp [hx])) eT.run ?_; simp only [go_sem]; refine rd_getn (o.get (id9, _) (by repeat (first | exact List.mem_cons_self | refine List.mem_cons_of_mem _ ?_ | refine List.mem_append_right _ ?_))) (by simp) ?_; simp only [go_sem, reduceAdd]; refine ⟨_, hS.run, ?_⟩; simp only [go_sem]; refine CallH.lentPure (es := [.agg f.cells, .agg f.cells]) (.bool _) rfl (lent1 (f := fun c : SM => AV.agg c.cells) (a := f) _ owSM q9 o (fun x hx => by simp [hx])) eS.run ?_; simp only [go_sem]; refine rd_getn (o.get (id8, _) (by repeat (first | exact List.mem_cons_self | refine List.mem_cons_of_mem _ ?_ | refine List.mem_append_right _ ?_))) (by simp) ?_; simp only [go_sem]; refine (markTopology_ok B).go q8 (canon4 o) (by omega) (by omega) fun j8 p8 H q8 d8 o => ?_; simp only [go_sem]; refine rd_getn (o.get (id9, _) (by repeat (first | exact List.mem_cons_self | refine List.mem_cons_of_mem _ ?_ | refine List.mem_append_right _ ?_))) (by simp) ?_; simp only [go_sem]; refine (markSetMap_ok B).go q9 (o.perm (swap3 _ _ _)) (by omega) (by omega) fun j9 p9 H q9 d9 o => ?_; have hd : decide (1 + (szTop j : Int) + (szSM f : Int) < 0) = false := decide_eq_false (by omega); simp only [go_sem, hd]; refine rd_getn (o.get (id10, _) (by repeat (first | exact List.mem_cons_self | refine List.mem_cons_of_mem _ ?_ | refine List.mem_append_right _ ?_))) (by simp) ?_; simp only [go_sem]; refine rd_getn (o.get (id6, _) (by repeat (first | exact List.mem_cons_self | refine List.mem_cons_of_mem _ ?_ | refine List.mem_append_right _ ?_))) (by simp) ?_; simp only [go_sem]; refine CallH.lentPure (es := [.agg U.cells, .agg U.cells]) (.bool _) rfl (lent1 (f := fun c : SM => AV.agg c.cells) (a := U) _ owSM q10 o (fun x hx => by simp [hx])) eW.run ?_; simp only [go_sem]; refine ⟨fun e => (by simp at e), fun _ => At.mk ?_⟩; simp only [go_sem]; refine rd_getn (o.get (id10, _) (by repeat (first | exact List.mem_cons_self | refine List.mem_cons_of_mem _ ?_ | refine List.mem_append_right _ ?_))) (by simp) ?_; simp only [go_sem]; refine (markSetMap_ok B).go q10 (o.perm (front3 _ _ _ _)) (by omega) (by omega) fun j10 p10 H q10 d10 o => ?_; have hq10 := (fun p X a => OSM.fifteen15 (p := p) (X := X) (f := a)) _ _ _ q10; simp only [go_sem]; refine rd_getn (o.get (id10, _) (by repeat (first | exact List.mem_cons_self | refine List.mem_cons_of_mem _ ?_ | refine List.mem_append_right _ ?_))) (by simp) ?_; simp only [go_sem]; have hheld := (heldSetMap_ok B).run _ _ _ d10 (by omega) (by omega); have hd2 : decide (1 + (szSM U : Int) < 0) = false := decide_eq_false (by omega); refine CallH.lentPure (es := [.agg j10.cells, .int .i64 1]) (.int _ _) rfl (lent1 (f := fun c : SM => AV.agg c.cells) (a := j10) _ owSM q10 o (fun x hx => by simp [hx])) hheld.run ?_; simp only [go_sem, hd2]; refine ⟨fun e => (by simp at e), fun _ => At.mk ?_⟩; simp only [go_sem, reduceAdd]; refine ⟨_, hT.run, ?_⟩; simp only [go_sem]; refine ⟨_, hS.run, ?_⟩; simp only [go_sem]; refine ⟨_, hip.run, ?_⟩; simp only [go_sem, reduceAdd, reduceLT]; refine ⟨by simp [maxL], newRef_own o fun id15 H o => ?_⟩; simp only [go_sem]; refine st_cells o (by simp) (by (simp only [go_sem]); (try simp)) (by first | (simp only [go_sem]; done) | ((simp only [go_sem]); simp [AV.one, one_mL])) fun H o => ?_; simp only [wr_cons, wr_nil, sZ, sY] at o; simp only [go_sem]; refine rd_getn (o.get (id15, _) (by repeat (first | exact List.mem_cons_self | refine List.mem_cons_of_mem _ ?_ | refine List.mem_append_right _ ?_))) (by simp) ?_; simp only [go_sem]; refine rd_getn (o.get (id6, _) (by repeat (first | exact List.mem_cons_self | refine List.mem_cons_of_mem _ ?_ | refine List.mem_append_right _ ?_))) (by simp) ?_; simp only [go_sem]; refine eW.go fun _ => ?_; simp only [go_sem]; refine ⟨fun e => (by simp at e), fun _ => At.mk ?_⟩; simp only [go_sem]; refine rd_getn (o.get (id10, _) (by repeat (first | exact List.mem_cons_self | refine List.mem_cons_of_mem _ ?_ | refine List.mem_append_right _ ?_))) (by simp) ?_; simp only [go_sem]; refine CallH.lentPure (es := [.agg j10.cells, .int .i64 1]) (.int _ _) rfl (lent1 (f := fun c : SM => AV.agg c.cells) (a := j10) _ owSM q10 o (fun x hx => by simp [hx])) hheld.run ?_; simp only [go_sem, hd2]; refine ⟨fun e => (by simp at e), fun _ => At.mk ?_⟩; simp only [go_sem]; exact ⟨H, .refl H, rfl⟩
end Go.Proofs.Shf
