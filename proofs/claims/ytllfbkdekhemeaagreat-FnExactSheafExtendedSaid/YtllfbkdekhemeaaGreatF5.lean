/- Contracts, part 5. -/
import Derived.Test.YtllfbkdekhemeaaGreatF4
import Derived.Test.YtllfbkdekhemeaaGreatProg
import Derived.Shelf.SlLaysF
import Derived.Shelf.SlSortCmp.Whole1
set_option linter.unusedVariables false
set_option linter.unusedSimpArgs false
set_option linter.unusedSectionVars false
open Nat (reduceEqDiff reduceAdd reduceMul reduceLeDiff reduceLT)
namespace Go.AW
theorem LsO.focus {α β : Type} {f : α → AV} {g : β → AV} {H0 H : Heap} {x : Nat × MObj} {p r : List (Nat × MObj)} {X Y : AV} {A : List α} {C : List β} (h : LsO f H0 H (x :: (p ++ r)) X A) (hp : LsP g p Y C) :
  ∃ q, LsP f q X A ∧ LsO g H0 H (x :: (r ++ q)) Y C := by
 obtain ⟨q, o, hq⟩ := h.split; refine ⟨q, hq, LsO.mk (p := p) (o.perm ?_) hp⟩; have := perm_cba q [x] p r; refine (by simpa using this : (q ++ x :: (p ++ r)).Perm (p ++ x :: (q ++ r))).trans ?_; exact List.Perm.append_left p (.cons _ List.perm_append_comm)
end Go.AW
namespace Go.Shf
open Go.AW
def plE (L : List (List Int)) : AV := .imap (plS L L.length).1 (plS L L.length).2
instance : One plE := ⟨fun _ => rfl, fun _ => rfl⟩
def leastV (v : Cov) : List (List Int) := (List.range v.marks.length).map (leastM v)
end Go.Shf
namespace Go.Proofs.Shf
open Go.AW Go.Proofs Go.Shf
@[go_sem] noncomputable def stepVal (f : SF) (V : List (List Int)) : AV := .ptr [.ptr f.cells, iI f.shape.objs, iL f.shape.frm, iL f.shape.to, iL f.shape.idn, iLL f.shape.comp, iL (stepSizes f V), iLL (stepActs f V), iLL V, iLLL (famsOf f V), mL plE (famsOf f V)]
open Classical in
noncomputable def stepOr (f : SF) (V : List (List Int)) : AV := if StepFew f V then stepVal f V else .nilp
theorem step_ok (B : Nat) (v : Cov) (cnt : AV) (f : SF) (h : f.Shape) (hsh : v.shape = f.shape) (hml : (v.marks.length : Int) = f.shape.objs) (hsl : v.sieves.length = v.marks.length)
  (hms : ∀ x, x < v.marks.length → (v.marks.getD x default).length ≤ (v.sieves.getD x default).length ∧ (v.marks.getD x default).length ≤ 1000000)
  (c : CovOk f.shape (leastV v)) : Pur Tryz.prog B 66 [.ptr (v.cells cnt), .ptr f.cells] (.tup [stepOr f (leastV v), .bool (dec (StepFew f (leastV v)))]) := by
 obtain ⟨c0, sz, pl, sv, mk⟩ := v; obtain rfl : c0 = f.shape := hsh; refine ⟨fun H0 => c66p (by simp) fun hfi => ?_⟩; have hm := h.is.1.m; have hob := h.is.1.o; have htl := h.is.1.tol; have hfl := h.sl; have hal := h.al; simp only at hml hsl hms; generalize hv : (⟨f.shape, sz, pl, sv, mk⟩ : Cov) = v at c ⊢; have hvm : v.marks = mk := by rw [← hv]
 have hvs : v.shape = f.shape := by rw [← hv]
 have hvv : v.sieves = sv := by rw [← hv]
 have hVl : (leastV v).length = mk.length := by simp [leastV, hvm]
 have hLx : ∀ x, x < mk.length → (leastV v).getD x default = leastM v x := fun x hx => by rw [leastV, getD_map_range _ _ (by rw [hvm]; exact hx)]
 generalize hV : leastV v = V at *; have hvc : v.cells cnt = [.ptr v.cls, .ptr f.shape.cells, mL (mL AV.bool) mk, cnt] := by rw [Cov.cells, hvs, hvm]
 generalize hcls : v.cls = cls at hvc; rw [hvc]; unfold s66p; simp only [go_sem, reduceAdd, reduceLeDiff]; refine (catCopy_ok B f.shape).go fun _ => ?_; simp only [go_sem, reduceAdd, reduceLeDiff]
 let st : AV → AV → AV → AV → AV → MObj := fun x6 x7 x8 x9 x10 => .cells 11 [.ptr f.cells, iI f.shape.objs, iL f.shape.frm, iL f.shape.to, iL f.shape.idn, iLL f.shape.comp, x6, x7, x8, x9, x10] 0
 refine ⟨by simp [maxL], newRef_own (.nil _) fun id7 H o => ?_⟩; simp only [go_sem]; refine awp_for [0, 1, 6, 7] (G := (AV × AV × AV × AV) × List (Nat × MObj) × List (Nat × MObj) × List (Nat × MObj)) (fun k g => [(8, some (.int .i64 (k : Int)))])
  (fun k g H => LsO iL H0 H ((id7, st g.1.1 .nilsl g.1.2.1 g.1.2.2.1 g.1.2.2.2) :: (g.2.1 ++ (g.2.2.1 ++ g.2.2.2))) g.1.2.1 (V.take k) ∧ LsP iLL g.2.1 g.1.2.2.1 ((List.range k).map (famAt f V)) ∧
   LsP plE g.2.2.1 g.1.2.2.2 ((List.range k).map (famAt f V)) ∧ LsP iI g.2.2.2 g.1.1 ((List.range k).map (sizeAt f V)) ∧ ∀ x, x < k → (famAt f V x).length ≤ 16)
  f.shape.objs.toNat ((.nilsl, .nilsl, .nilsl, .nilsl), [], [], []) ⟨.inl ⟨rfl, rfl, o⟩, .inl ⟨rfl, rfl, rfl⟩, .inl ⟨rfl, rfl, rfl⟩, .inl ⟨rfl, rfl, rfl⟩, by simp⟩ rfl ?_
 clear o; rintro k ⟨⟨X6, X8, X9, X10⟩, p9, p10, p6⟩ H hk ⟨hX, h9, h10, h6, hall⟩; replace hX : LsO iL H0 H ((id7, st X6 .nilsl X8 X9 X10) :: (p9 ++ (p10 ++ p6))) X8 (V.take k) := hX; replace h9 : LsP iLL p9 X9 ((List.range k).map (famAt f V)) := h9; replace h10 : LsP plE p10 X10 ((List.range k).map (famAt f V)) := h10; replace h6 : LsP iI p6 X6 ((List.range k).map (sizeAt f V)) := h6; simp only [go_sem, reduceAdd, reduceLeDiff]; refine ⟨fun h1 => At.mk ?_, fun h1 => At.mk ?_⟩
 ·have h1p := of_decide h1; have hkm : k < mk.length := by omega
  have w := wsucc (k := k) (by omega); simp only [go_sem]; have hk2 := hms k hkm; rw [← hvm, ← hvv] at hk2; have hcv : AV.ptr [.ptr cls, .ptr f.shape.cells, mL (mL AV.bool) mk, cnt] = .ptr (v.cells cnt) := by rw [hvc]
  refine (show Pur Tryz.prog B 100 [.ptr [.ptr cls, .ptr f.shape.cells, mL (mL AV.bool) mk, cnt], .int .i64 k] (iL (leastM v k)) from by
   rw [hcv]; exact leastM_ok B v cnt k (by rw [hvm]; exact hkm) (by rw [hvv]; omega) hk2.1 (by rw [hvs]; exact hm) hk2.2).go fun _ => ?_
  rw [← hLx k hkm]; simp only [go_sem]; refine (families_ok B f h k (V.getD k default) (c.sv k (by omega)) 16 (by omega)).go fun _ => ?_; have hfa : famS f (V.getD k default) = famAt f V k := rfl; rw [hfa]; generalize hF : famAt f V k = F at *; simp only [go_sem, reduceAdd, reduceLT]; refine ⟨fun h2 => At.mk ?_, fun h2 => At.mk ?_⟩
  ·simp only [go_sem]; have h2p : 16 < F.length := by simpa using h2
   have hno : ¬ StepFew f V := fun e => by have := e k (by omega); rw [hF] at this; omega
   have hsub : H0.sub H := by obtain ⟨_, oo, _⟩ := hX.split; exact oo.sub
   refine pure_ret ?_ hsub; rw [stepOr, if_neg hno, dec_f hno]
  ·have h2p : F.length ≤ 16 := by simpa using h2
   have htk : F.take 17 = F := List.take_of_length_le (by omega); rw [htk]; simp only [go_sem, reduceAdd]; refine rd_get hX.obj (by simp [st]) ?_; simp only [go_sem, reduceAdd]; refine hX.app (V.getD k default) rfl (by rw [List.length_take]; simp only [maxL]; omega) fun idn H o => ?_; rw [← take_succ_getD V (by omega)] at o ⊢; simp only [go_sem, reduceAdd]; refine st_cells o.swap (by simp) (by (simp only [go_sem]); (try simp)) (by first | (simp only [go_sem]; done) | ((simp only [go_sem]); simp [AV.one, one_mL])) fun H o => ?_; simp only [wr_cons, wr_nil, sZ, sY] at o; have hX : LsO iL H0 H ((id7, st X6 .nilsl (.buf idn (V.take (k + 1)).length) X9 X10) :: (p9 ++ (p10 ++ p6))) (.buf idn (V.take (k + 1)).length) (V.take (k + 1)) := .inr ⟨idn, rfl, o.swap⟩; generalize (AV.buf idn (V.take (k + 1)).length) = X8 at hX; clear o; obtain ⟨p8, h8, hX⟩ := hX.focus h9; simp only [go_sem, reduceAdd]; refine rd_get hX.obj (by simp [st]) ?_; simp only [go_sem, reduceAdd]; obtain ⟨Fk, hFk⟩ : ∃ Fk, Fk = (List.range (k + 1)).map (famAt f V) := ⟨_, rfl⟩; obtain ⟨Sk, hSk⟩ : ∃ Sk, Sk = (List.range (k + 1)).map (sizeAt f V) := ⟨_, rfl⟩; have e9 : (List.range k).map (famAt f V) ++ [F] = Fk := by rw [hFk, List.range_succ, List.map_append, ← hF]; rfl
   have e6 : (List.range k).map (sizeAt f V) ++ [(F.length : Int)] = Sk := by
    rw [hSk, List.range_succ, List.map_append, ← hF]; rfl
   have hsk := c.sv k (by omega); have hsn := hsk.len; rw [List.append_assoc] at hX; refine hX.app F rfl (by simp only [List.length_map, List.length_range, maxL]; omega) fun idn H o => ?_; rw [e9] at o ⊢; simp only [go_sem, reduceAdd]; refine st_cells o.swap (by simp) (by (simp only [go_sem]); (try simp)) (by first | (simp only [go_sem]; done) | ((simp only [go_sem]); simp [AV.one, one_mL])) fun H o => ?_; simp only [wr_cons, wr_nil, sZ, sY] at o; have hX : LsO iLL H0 H ((id7, st X6 .nilsl X8 (.buf idn Fk.length) X10) :: (p10 ++ (p6 ++ p8))) (.buf idn Fk.length) Fk := .inr ⟨idn, rfl, o.swap⟩; generalize (AV.buf idn Fk.length) = X9 at hX; clear o; obtain ⟨p9, h9, hX⟩ := hX.focus h10; rw [List.append_assoc] at hX; simp only [go_sem, reduceAdd]; refine rd_get hX.obj (by simp [st]) ?_; simp only [go_sem, reduceAdd]; refine ⟨_, (places_ok B F (by omega) fun l hl => ?_).run, ?_⟩
   ·rw [← hF] at hl; have := (((famS_is h hsk).mem l).mp hl).len; omega
   refine ⟨⟨rfl, fun c hc => by cases List.mem_singleton.mp hc; rfl⟩, ?_⟩; refine hX.app (f := plE) F rfl (by simp only [List.length_map, List.length_range, maxL]; omega) fun idn H o => ?_; rw [e9] at o ⊢; simp only [go_sem, reduceAdd]; refine st_cells o.swap (by simp) (by (simp only [go_sem]); (try simp)) (by first | (simp only [go_sem]; done) | ((simp only [go_sem]); simp [AV.one, one_mL])) fun H o => ?_; simp only [wr_cons, wr_nil, sZ, sY] at o; have hX : LsO plE H0 H ((id7, st X6 .nilsl X8 X9 (.buf idn Fk.length)) :: (p6 ++ (p8 ++ p9))) (.buf idn Fk.length) Fk := .inr ⟨idn, rfl, o.swap⟩; generalize (AV.buf idn Fk.length) = X10 at hX; clear o; obtain ⟨p10, h10, hX⟩ := hX.focus h6; rw [List.append_assoc] at hX; simp only [go_sem, reduceAdd]; refine rd_get hX.obj (by simp [st]) ?_; simp only [go_sem, reduceAdd]; refine hX.app (F.length : Int) rfl (by simp only [List.length_map, List.length_range, maxL]; omega) fun idn H o => ?_; rw [e6] at o ⊢; simp only [go_sem, reduceAdd]; refine st_cells o.swap (by simp) (by (simp only [go_sem]); (try simp)) (by first | (simp only [go_sem]; done) | ((simp only [go_sem]); simp [AV.one, one_mL])) fun H o => ?_; simp only [wr_cons, wr_nil, sZ, sY] at o; have hX : LsO iI H0 H ((id7, st (.buf idn Sk.length) .nilsl X8 X9 X10) :: (p8 ++ (p9 ++ p10))) (.buf idn Sk.length) Sk := .inr ⟨idn, rfl, o.swap⟩; generalize (AV.buf idn Sk.length) = X6 at hX; clear o; obtain ⟨p6, h6, hX⟩ := hX.focus h8; rw [List.append_assoc] at hX; rw [hFk] at h9 h10; rw [hSk] at h6; simp only [go_sem, w]; refine for_next ((X6, X8, X9, X10), p9, p10, p6) (by omega) ⟨hX, h9, h10, h6, fun x hx => ?_⟩ rfl; by_cases e : x = k
   ·subst e; rw [hF]; exact h2p
   ·exact hall x (by omega)
 ·have h1p := of_ndecide h1; simp only [go_sem]; have hkn : k = V.length := by omega
  have hfew : StepFew f V := fun x hx => hall x (by omega); rw [stepOr, if_pos hfew, dec_t hfew]; have hVk : V.take k = V := List.take_of_length_le (by omega); rw [hVk] at hX; have hFk : (List.range k).map (famAt f V) = famsOf f V := by rw [hkn]; rfl
  have hSk : (List.range k).map (sizeAt f V) = stepSizes f V := by rw [hkn]; rfl
  rw [hFk] at h9 h10; rw [hSk] at h6; refine wk_ls 8 hX rfl fun H o => ?_; clear hX; simp only [sZ, sY] at o; have hX := LsO.mk (o.perm List.perm_middle.symm) h9; clear o; refine wk_ls 9 hX rfl fun H o => ?_; clear hX; simp only [sZ, sY] at o; have hX := LsO.mk (o.perm List.perm_middle.symm) h10; clear o; refine wk_ls 10 hX rfl fun H o => ?_; clear hX; simp only [sZ, sY] at o; have hX := LsO.mk (p := p6) (l := [_]) (o.perm (List.perm_append_singleton _ _).symm) h6; clear o; refine wk_ls 6 hX rfl fun H o => wkW_done ?_; clear hX; simp only [sZ, sY] at o; generalize hst : st = st2; clear hall h9 h10 h6 hst st2 st
  let st : AV → MObj := fun x7 => .cells 11 [.ptr f.cells, iI f.shape.objs, iL f.shape.frm, iL f.shape.to, iL f.shape.idn, iLL f.shape.comp, iL (stepSizes f V), x7, iLL V, iLLL (famsOf f V), mL plE (famsOf f V)] 0
  simp only [go_sem, reduceAdd, reduceLeDiff]; refine awp_for [6, 7, 98] (G := AV) (fun a g => [(99, some (.int .i64 (a : Int)))])
   (fun a X H => LsO iL H0 H [(id7, st X)] X ((List.range a).map (actAt f V))) f.shape.frm.length .nilsl (.inl ⟨rfl, rfl, o⟩) rfl ?_
  clear o; rintro a X H ha hX; replace hX : LsO iL H0 H [(id7, st X)] X ((List.range a).map (actAt f V)) := hX; simp only [go_sem]; refine ⟨fun h2 => At.mk ?_, fun h2 => At.mk ?_⟩
  ·have h2p := of_decide h2; have w2 := wsucc (k := a) (by omega); have haa : 0 ≤ (a : Int) ∧ (a : Int).toNat < f.shape.frm.length := ⟨by omega, by simpa using h2p⟩; have hfo := h.is.1.frmObj haa.2; have hto := h.is.1.toObj haa.2; simp only [ix_nat] at hfo hto; obtain ⟨q, o, hq⟩ := hX.split; clear hX; simp only [go_sem, reduceAdd, reduceLeDiff]; refine ⟨h2p, by omega, ?_⟩; refine new_list iI o fun idr H o => ?_; simp only [go_sem, reduceAdd]; have hF0 : ix (famsOf f V) (f.shape.frm.getD a default) = famAt f V (f.shape.frm.getD a default).toNat := by rw [ix, famsOf, getD_map_range _ _ (by omega)]
   have hF1 : ix (famsOf f V) (f.shape.to.getD a default) = famAt f V (f.shape.to.getD a default).toNat := by rw [ix, famsOf, getD_map_range _ _ (by omega)]
   have hfl2 : (famsOf f V).length = V.length := by simp [famsOf]
   have hfs0 : (famAt f V (f.shape.frm.getD a default).toNat).length ≤ 16 := hfew _ (by omega); have hv0 := c.frm h.is haa; have hv1 := c.to h.is haa; simp only [ix_nat] at hv0 hv1; have hl1 := hv1.len; have hact : actAt f V a = (famAt f V (f.shape.frm.getD a default).toNat).map fun t => indexOf (famAt f V (f.shape.to.getD a default).toNat) (movedF f.shape V a t) := rfl; have hm0 : ∀ t, t ∈ famAt f V (f.shape.frm.getD a default).toNat → Fam f (ix V (f.shape.frm.getD a default)) t := fun t ht => ((famS_is h hv0).mem t).mp ht; have hm1 : ∀ t, t ∈ famAt f V (f.shape.to.getD a default).toNat ↔ Fam f (ix V (f.shape.to.getD a default)) t := fun t => (famS_is h hv1).mem t; have hnd1 : (famAt f V (f.shape.to.getD a default).toNat).Nodup := (famS_is h hv1).nodup; have hmv : ∀ t, t ∈ famAt f V (f.shape.frm.getD a default).toNat → movedF f.shape V a t ∈ famAt f V (f.shape.to.getD a default).toNat := fun t ht => by
    rw [hm1]; have := moved_fam h c haa (t := t) (by simp only [ix_nat]; exact hm0 t ht); simpa only [ix_nat] using this
   have hent : ∀ t, t ∈ famAt f V (f.shape.to.getD a default).toNat → ∀ y, y ∈ t → 0 ≤ y ∧ y < 255 := fun t ht y hy => by
    have hft := (hm1 t).mp ht; obtain ⟨j, hj, rfl⟩ := mem_getD.mp hy; have hj2 : j < (ix V (f.shape.to.getD a default)).length := by rw [← hft.len]; exact hj
    have h1 := hft.ran j hj2; have h2 := (fam_size h hv1 (i := j) hj2); rw [h2.1] at h2; omega
   have hg7 : H.get id7 = some (st X) := o.get (id7, st X) (by simp); refine rd_get hg7 (by simp [st]) ?_; simp only [go_sem]; refine ⟨⟨hfo.1, by omega⟩, ?_⟩; rw [hF0]; generalize hF0v : famAt f V (f.shape.frm.getD a default).toNat = F0 at *; generalize hF1v : famAt f V (f.shape.to.getD a default).toNat = F1 at *; refine awp_for [6, 7, 12, 13, 14, 98, 99, 123, 124] (G := Nat × List Int) (fun i g => [(15, some (.buf g.1 g.2.length)), (125, some (.int .i64 (i : Int)))])
    (fun i g H => g.2 = (F0.take i).map (fun t => indexOf F1 (movedF f.shape V a t)) ∧ Owns H0 H ((g.1, .cells 1 (g.2.map iI) 0) :: (q ++ [(id7, st X)]))) F0.length (idr, []) ⟨by simp, o⟩ rfl ?_
   clear o hg7; rintro i ⟨idr, row⟩ H hi ⟨hrow, o⟩; replace hrow : row = (F0.take i).map (fun t => indexOf F1 (movedF f.shape V a t)) := hrow; replace o : Owns H0 H ((idr, .cells 1 (row.map iI) 0) :: (q ++ [(id7, st X)])) := o; have hrl : row.length = i := by rw [hrow, List.length_map, List.length_take]; omega
   simp only [go_sem]; refine ⟨fun h3 => At.mk ?_, fun h3 => At.mk ?_⟩
   ·have h3p := of_decide h3; have w3 := wsucc (k := i) (by omega); simp only [go_sem]; refine ⟨h3p, ?_⟩; refine new_list iI o fun idm H o => ?_; have hg7 : H.get id7 = some (st X) := o.get (id7, st X) (by simp); simp only [go_sem, reduceAdd]; refine rd_get hg7 (by simp [st]) ?_; simp only [go_sem]; refine ⟨⟨hto.1, by omega⟩, ?_⟩; have hTm : F0.getD i default ∈ F0 := mem_getD.mpr ⟨i, h3p, rfl⟩; generalize hT : F0.getD i default = T at *; have hTf := hm0 T hTm; generalize hW : ix V (f.shape.to.getD a default) = W at *; generalize hU : ix V (f.shape.frm.getD a default) = U at *; have hWs : f.shape.Sieve (f.shape.to.getD a default) W := hv1; have hUs : f.shape.Sieve (f.shape.frm.getD a default) U := hv0; have hWl := hWs.len; have hTl := hTf.len; refine awp_for [6, 7, 12, 13, 14, 15, 17, 98, 99, 123, 124, 125, 136, 137] (G := Nat × List Int) (fun n g => [(18, some (.buf g.1 g.2.length)), (138, some (.int .i64 (n : Int)))])
     (fun n g H => g.2 = (W.take n).map (fun b => ix T (indexOf U (ix (ix f.shape.comp a) b))) ∧ Owns H0 H ((g.1, .cells 1 (g.2.map iI) 0) :: (idr, .cells 1 (row.map iI) 0) :: (q ++ [(id7, st X)]))) W.length (idm, []) ⟨by simp, o⟩ rfl ?_
    clear o hg7; rintro n ⟨idm, mv⟩ H hnn ⟨hmvv, o⟩; replace hmvv : mv = (W.take n).map (fun b => ix T (indexOf U (ix (ix f.shape.comp a) b))) := hmvv; replace o : Owns H0 H ((idm, .cells 1 (mv.map iI) 0) :: (idr, .cells 1 (row.map iI) 0) :: (q ++ [(id7, st X)])) := o; have hml2 : mv.length = n := by rw [hmvv, List.length_map, List.length_take]; omega
    have hg7 : H.get id7 = some (st X) := o.get (id7, st X) (by simp); simp only [go_sem]; refine ⟨fun h4 => At.mk ?_, fun h4 => At.mk ?_⟩
    ·have h4p := of_decide h4; have w4 := wsucc (k := n) (by omega); simp only [go_sem, reduceAdd]; have hb : W.getD n default ∈ W := mem_getD.mpr ⟨n, h4p, rfl⟩; have hbv := hWs.arr hb; have hst := c.st a haa (W.getD n default) (by simp only [ix_nat]; rw [hW]; exact hb); simp only [ix_nat] at hst; rw [hU] at hst; have hin := indexOf_in hst; have hrow := h.is.1.row' (a := (a : Int)) haa.2; simp only [ix_nat] at hrow; refine ⟨h4p, ?_⟩; refine rd_get hg7 (by simp [st]) ?_; simp only [go_sem]; refine ⟨⟨hfo.1, by omega⟩, ?_⟩; rw [hU]; refine ⟨_, (catThen_ok B f.shape a (W.getD n default) ⟨by omega, by rw [h.is.1.cl]; exact haa.2⟩ ⟨hbv.1.1, by rw [ix_nat]; omega⟩).run, ?_⟩; simp only [go_sem]; refine ⟨_, (index_ok B U _).run, ?_⟩; simp only [go_sem, reduceAdd]
     try simp only [ix_nat] at hin
     refine ⟨⟨hin.1, by omega⟩, ?_⟩; refine app_own (f := iI) (ix T (indexOf U (ix (ix f.shape.comp a) (W.getD n default)))) o (by simp only [ix_nat]) rfl (by simp only [maxL]; omega) fun idm H o => ?_; simp only [go_sem, w4]; exact for_next (_, _) (by omega) ⟨by rw [take_succ_getD W h4p, List.map_append, hmvv]; rfl, o⟩ rfl
    ·have h4p := of_ndecide h4; obtain rfl : n = W.length := by omega
     rw [List.take_length] at hmvv; have hmv2 : mv = movedF f.shape V a T := by
      rw [hmvv, movedF]; simp only [ix_nat]; rw [hW, hU]
     simp only [go_sem]; refine fz_own o rfl fun H o => ?_; have hg7 : H.get id7 = some (st X) := o.get (id7, st X) (by simp); simp only [go_sem, reduceAdd]; refine rd_get hg7 (by simp [st]) ?_; simp only [go_sem, reduceAdd]; refine ⟨⟨hto.1, by omega⟩, _, (key_ok B [mv] (by simp [keyB]; omega)).run, ?_⟩; rw [hF1]; simp only [plE]; simp only [go_sem, reduceAdd]; refine ⟨okKey_plS _ _ _, ?_⟩; have hmm := hmv T hTm; rw [← hmv2] at hmm; rw [plS_get hnd1 hent hmm]; simp only [Option.getD_some]; refine ⟨⟨rfl, fun c hc => by cases List.mem_singleton.mp hc; rfl⟩, ?_⟩; refine app_own (f := iI) (indexOf F1 mv) o rfl rfl (by simp only [maxL]; omega) fun idr H o => ?_; simp only [go_sem, w3]; exact for_next (_, _) (by omega) ⟨by rw [take_succ_getD F0 h3p, List.map_append, hT, hrow, hmv2]; rfl, o⟩ rfl
   ·have h3p := of_ndecide h3; obtain rfl : i = F0.length := by omega
    rw [List.take_length, ← hact] at hrow; simp only [go_sem]; refine fz_own o rfl fun H o => ?_; simp only [go_sem, reduceAdd]; have hX : LsO iL H0 H [(id7, st X)] X ((List.range a).map (actAt f V)) := LsO.mk o hq; clear o; refine rd_get hX.obj (by simp [st]) ?_; simp only [go_sem, reduceAdd]; refine hX.app row rfl (by simp only [List.length_map, List.length_range, maxL]; omega) fun idn H o => ?_; simp only [go_sem, reduceAdd]; refine st_cells o.swap (by simp) (by (simp only [go_sem]); (try simp)) (by first | (simp only [go_sem]; done) | ((simp only [go_sem]); simp [AV.one, one_mL])) fun H o => ?_; simp only [wr_cons, wr_nil, sZ, sY] at o; have e7 : (List.range a).map (actAt f V) ++ [row] = (List.range (a + 1)).map (actAt f V) := by rw [List.range_succ, List.map_append, hrow]; rfl
    have hX : LsO iL H0 H [(id7, st (.buf idn ((List.range a).map (actAt f V) ++ [row]).length))] (.buf idn ((List.range a).map (actAt f V) ++ [row]).length) ((List.range a).map (actAt f V) ++ [row]) := .inr ⟨idn, rfl, o.swap⟩; generalize (AV.buf idn ((List.range a).map (actAt f V) ++ [row]).length) = X7 at hX; rw [e7] at hX; simp only [go_sem, w2]; exact for_next X7 (by omega) hX rfl
  ·have h2p := of_ndecide h2; obtain rfl : a = f.shape.frm.length := by omega
   simp only [go_sem]; refine wk_ls 7 hX rfl fun H o => ?_; simp only [sZ, sY] at o; refine wk_ref 7 o rfl fun H o => wkW_done ?_; simp only [go_sem]; exact pure_ret rfl o.sub
end Go.Proofs.Shf
namespace Go.Shf
open Go.AW
end Go.Shf
namespace Go.Proofs.Shf
open Go.AW Go.Proofs Go.Shf
end Go.Proofs.Shf
namespace Go.Shf
open Go.AW
@[go_sem] def clsCells (c : Cat) (S : List (List (List Int))) (sz : AV) (pl : AV) : List AV := [iI c.objs, iL c.frm, iL c.to, iL c.idn, iLL c.comp, sz, pl, iLLL S]
def Cov.mark (v : Cov) (x : Int) (s : List Int) : Bool := (ix v.marks x).getD (indexOf (ix v.sieves x) s).toNat default
end Go.Shf
namespace Go.Proofs.Shf
open Go.AW Go.Proofs Go.Shf
theorem number_ok (B : Nat) (c : Cat) (S : List (List (List Int))) (sz pl : AV) (x : Int) (hx : 0 ≤ x ∧ x.toNat < S.length) (s : List Int) : Pur Tryz.prog B 186 [.ptr (clsCells c S sz pl), .int .i64 x, iL s] (.int .i64 (indexOf (ix S x) s)) := by
 refine ⟨fun H0 => c186 (by simp) fun hfi => ?_⟩; unfold s186; simp only [go_sem, reduceAdd, reduceLeDiff]; refine ⟨hx, ?_⟩; refine (indexFunc_ok B (ix S x) 196 [.ptr [iL s]] (fun t => dec (s = t)) fun t _ => (same1_ok B s t).run).go fun _ => ?_; rw [findIdx_same]; simp only [go_sem]; exact pure_ret rfl (.refl _)
theorem isM_ok (B : Nat) (v : Cov) (cnt : AV) (x : Int) (s : List Int) (hx : 0 ≤ x ∧ x.toNat < v.sieves.length) (hm : x.toNat < v.marks.length) (hs : s ∈ ix v.sieves x) (hl : (ix v.marks x).length = (ix v.sieves x).length) :
  Pur Tryz.prog B 206 [.ptr (v.cells cnt), .int .i64 x, iL s] (.bool (v.mark x s)) := by
 refine ⟨fun H0 => c206 (by simp) fun hfi => ?_⟩; have hin := indexOf_in hs; unfold s206; simp only [go_sem, reduceAdd, reduceLeDiff]; refine ⟨⟨hx.1, hm⟩, ?_⟩; refine ⟨_, (number_ok B v.shape v.sieves (iL v.sizes) (iLL v.pulls) x hx s).run, ?_⟩; simp only [go_sem]; exact ⟨⟨hin.1, by omega⟩, pure_ret rfl (.refl _)⟩
def locP (v : Cov) (s t : List Int) : Prop := ∀ a, a ∈ t → v.mark (ix v.shape.to a) (pullS v.shape a s) = true
theorem locally_ok (B : Nat) (v : Cov) (hc : v.shape.Is) (cnt : AV) (s t : List Int) (x : Int) (hs : v.shape.Sieve x s) (ht : ∀ a, a ∈ t → 0 ≤ a ∧ a.toNat < v.shape.frm.length ∧ ix v.shape.frm a = x) (hsl : (v.sieves.length : Int) = v.shape.objs) (hml : v.marks.length = v.sieves.length)
  (hall : ∀ y : Int, 0 ≤ y ∧ y < v.shape.objs → (ix v.marks y).length = (ix v.sieves y).length ∧ ∀ s, v.shape.Sieve y s → s ∈ ix v.sieves y) (htn : t.length ≤ 1000000) :
  Pur Tryz.prog B 199 [.ptr (v.cells cnt), iL s, iL t] (.bool (dec (locP v s t))) := by
 refine ⟨fun H0 => c199 (by simp) fun hfi => ?_⟩; unfold s199; simp only [go_sem, reduceAdd]; refine awp_for [0, 1, 9, 10] (G := Unit) (fun k _ => [(11, some (.int .i64 (k : Int)))])
  (fun k _ H => H = H0 ∧ ∀ i, i < k → v.mark (ix v.shape.to (t.getD i default)) (pullS v.shape (t.getD i default) s) = true) t.length () ⟨rfl, by simp⟩ rfl ?_
 rintro k _ H hk ⟨rfl, hyes⟩; simp only [go_sem]; refine ⟨fun h1 => At.mk ?_, fun h1 => At.mk ?_⟩
 ·have h1p := of_decide h1; have w := wsucc (k := k) (by omega); have ha := ht _ (mem_getD.mpr ⟨k, h1p, rfl⟩); have hto := hc.1.toObj ha.2.1; have htl := hc.1.tol; simp only [go_sem, reduceAdd, reduceLeDiff]; refine ⟨h1p, ⟨ha.1, by omega⟩, ?_⟩; generalize hav : t.getD k default = a at *; refine ⟨_, (pull_ok B v.shape hc.1 a ⟨ha.1, ha.2.1⟩ s).run, ?_⟩; have hp := hall _ hto; refine ⟨_, (isM_ok B v cnt (ix v.shape.to a) (pullS v.shape a s) ⟨hto.1, by omega⟩ (by omega) (hp.2 _ ?_) hp.1).run, ?_⟩
  ·exact pullS_sieve hc ⟨ha.1, ha.2.1⟩ (by rw [ha.2.2]; exact hs)
  cases hmk : v.mark (ix v.shape.to a) (pullS v.shape a s) with
  | true =>
   simp only [go_sem, w]; exact for_next () h1p ⟨rfl, lt_succ_all hyes (by rw [hav]; exact hmk)⟩ rfl
  | false =>
   simp only [go_sem]; refine pure_ret ?_ (.refl _); rw [dec_f]; intro e; have := e a (by rw [← hav]; exact mem_getD.mpr ⟨k, h1p, rfl⟩); rw [hmk] at this; cases this
 ·have h1p := of_ndecide h1; simp only [go_sem]; refine pure_ret ?_ (.refl _); rw [dec_t]; intro a ha; obtain ⟨i, hi, rfl⟩ := mem_getD.mp ha; exact hyes i (by omega)
theorem codeF_z {j : Top} {f : SF} (h : codeF j f = 0) : j.Form ∧ f.Is ∧ codeT j = 0 ∧ j.shape = f.shape := by
 unfold codeF at h; by_cases h1 : j.Form ∧ f.Is
 ·rw [if_neg (fun e => e h1)] at h; by_cases h2 : codeT j = 0 ∧ ¬ j.shape = f.shape
  ·rw [if_pos h2] at h; cases h
  ·rw [if_neg h2] at h; exact ⟨h1.1, h1.2, h, Classical.byContradiction fun e => h2 ⟨h, e⟩⟩
 ·rw [if_pos h1] at h; cases h
abbrev zs7 : List AV := [.int .i64 0, .nilsl, .nilsl, .nilsl, .nilsl, .nilsl, .nilsl]
def lensOf (L : List (List (List Int))) : List Int := L.map fun l => (l.length : Int)
open Classical in
noncomputable def clsOr (c : Cat) : AV := if AllFew c then .ptr (clsCells c (listsOf c) (iL (lensOf (listsOf c))) (iLL (pullsOf c (listsOf c)))) else .nilp
def SievesOk (B : Nat) (c : Cat) : Prop := ∀ x : Nat, x < c.objs.toNat → ∃ l, Pur Tryz.prog B 202 [.ptr c.cells, .int .i64 x] (.tup [iLL l, .bool (dec (Few c x))]) ∧ (Few c x → l = allS c x ∧ l.length ≤ 16)
theorem classifier_ok (B : Nat) (c : Cat) (hc : c.Is) (hsv : SievesOk B c) : Pur Tryz.prog B 193 [.ptr c.cells] (.tup [clsOr c, .bool (dec (AllFew c))]) := by
 refine ⟨fun H0 => c193p (by simp) fun hfi => ?_⟩; have hm := hc.1.m; have hob := hc.1.o; have htl := hc.1.tol; unfold s193p; simp only [go_sem, reduceAdd]; refine (catCopy_ok B c).go fun _ => ?_; simp only [go_sem, reduceAdd, reduceLeDiff]
 let st : AV → AV → AV → MObj := fun x5 x6 x7 => .cells 8 [iI c.objs, iL c.frm, iL c.to, iL c.idn, iLL c.comp, x5, x6, x7] 0
 refine ⟨by simp [maxL], newRef_own (.nil _) fun id4 H o => ?_⟩; simp only [go_sem]; refine awp_for [0, 4] (G := (AV × AV) × List (Nat × MObj)) (fun k g => [(5, some (.int .i64 (k : Int)))])
  (fun k g H => LsO iLL H0 H ((id4, st g.1.1 .nilsl g.1.2) :: (g.2 ++ [])) g.1.2 ((List.range k).map fun x : Nat => allS c (x : Int)) ∧ LsP iI g.2 g.1.1 (lensOf ((List.range k).map fun x : Nat => allS c (x : Int))) ∧ ∀ x : Nat, x < k → Few c x)
  c.objs.toNat ((.nilsl, .nilsl), []) ⟨.inl ⟨rfl, rfl, o⟩, .inl ⟨rfl, rfl, rfl⟩, by simp⟩ rfl ?_
 clear o; rintro k ⟨⟨X5, X7⟩, p5⟩ H hk ⟨hX, h5, hall⟩; replace hX : LsO iLL H0 H ((id4, st X5 .nilsl X7) :: (p5 ++ [])) X7 ((List.range k).map fun x : Nat => allS c (x : Int)) := hX; replace h5 : LsP iI p5 X5 (lensOf ((List.range k).map fun x : Nat => allS c (x : Int))) := h5; simp only [go_sem, reduceAdd, reduceLeDiff]; refine ⟨fun h1 => At.mk ?_, fun h1 => At.mk ?_⟩
 ·have h1p := of_decide h1; have w := wsucc (k := k) (by omega); obtain ⟨l, hl, hl2⟩ := hsv k (by omega); simp only [go_sem]; refine hl.go fun _ => ?_; simp only [go_sem, reduceAdd, reduceLT]; by_cases hfw : Few c k
  ·rw [dec_t hfw]; obtain ⟨rfl, hl16⟩ := hl2 hfw; simp only [go_sem, reduceAdd]; obtain ⟨Lk, hLk⟩ : ∃ Lk, Lk = (List.range (k + 1)).map fun x : Nat => allS c (x : Int) := ⟨_, rfl⟩; have e7 : ((List.range k).map fun x : Nat => allS c (x : Int)) ++ [allS c k] = Lk := by rw [hLk, List.range_succ, List.map_append]; rfl
   have e5 : lensOf ((List.range k).map fun x : Nat => allS c (x : Int)) ++ [((allS c k).length : Int)] = lensOf Lk := by
    rw [← e7, lensOf, lensOf, List.map_append]; rfl
   have hLl : Lk.length = k + 1 := by rw [hLk]; simp
   have hll : (lensOf Lk).length = k + 1 := by rw [lensOf, List.length_map, hLl]
   refine rd_get hX.obj (by simp [st]) ?_; simp only [go_sem, reduceAdd]; refine hX.app (allS c k) rfl (by simp only [List.length_map, List.length_range, maxL]; omega) fun idn H o => ?_; rw [e7] at o ⊢; simp only [go_sem, reduceAdd]; refine st_cells o.swap (by simp) (by (simp only [go_sem]); (try simp)) (by first | (simp only [go_sem]; done) | ((simp only [go_sem]); simp [AV.one, one_mL])) fun H o => ?_; simp only [wr_cons, wr_nil, sZ, sY] at o; have hX : LsO iLL H0 H ((id4, st X5 .nilsl (.buf idn Lk.length)) :: (p5 ++ [])) (.buf idn Lk.length) Lk := .inr ⟨idn, rfl, o.swap⟩; generalize (AV.buf idn Lk.length) = X7 at hX; clear o; obtain ⟨p7, h7, hX⟩ := hX.focus h5; rw [List.nil_append] at hX; simp only [go_sem, reduceAdd]; refine rd_get hX.obj (by simp [st]) ?_; simp only [go_sem, reduceAdd]; refine hX.app ((allS c k).length : Int) rfl (by simp only [lensOf, List.length_map, List.length_range, maxL]; omega) fun idn H o => ?_; rw [e5] at o ⊢; simp only [go_sem, reduceAdd]; refine st_cells o.swap (by simp) (by (simp only [go_sem]); (try simp)) (by first | (simp only [go_sem]; done) | ((simp only [go_sem]); simp [AV.one, one_mL])) fun H o => ?_; simp only [wr_cons, wr_nil, sZ, sY] at o; have hX : LsO iI H0 H ((id4, st (.buf idn (lensOf Lk).length) .nilsl X7) :: p7) (.buf idn (lensOf Lk).length) (lensOf Lk) := .inr ⟨idn, rfl, o.swap⟩; generalize (AV.buf idn (lensOf Lk).length) = X5 at hX; clear o; rw [← List.append_nil p7] at hX; obtain ⟨p5, h5, hX⟩ := hX.focus h7; rw [hLk] at hX h5; rw [List.nil_append, ← List.append_nil p5] at hX; simp only [go_sem, w]; refine for_next ((X5, X7), p5) (by omega) ⟨hX, h5, fun x hx => ?_⟩ rfl; by_cases e : x = k
   ·subst e; exact hfw
   ·exact hall x (by omega)
  ·rw [dec_f hfw]; simp only [go_sem]; have hno : ¬ AllFew c := fun e => hfw (e k (by omega)); have hsub : H0.sub H := by obtain ⟨_, oo, _⟩ := hX.split; exact oo.sub
   refine pure_ret ?_ hsub; rw [clsOr, if_neg hno, dec_f hno]
 ·have h1p := of_ndecide h1; simp only [go_sem]; have hkn : k = c.objs.toNat := by omega
  have hfew : AllFew c := fun x hx => hall x (by omega); rw [clsOr, if_pos hfew, dec_t hfew]; have hLk : ((List.range k).map fun x : Nat => allS c (x : Int)) = listsOf c := by rw [hkn]; rfl
  have tab := tabOk hc hfew; rw [hLk] at hX h5; generalize hL : listsOf c = L at *; refine wk_ls 7 hX rfl fun H o => ?_; clear hX; simp only [sZ, sY] at o; have hX := LsO.mk (o.perm List.perm_middle.symm) h5; clear o; refine wk_ls 5 hX rfl fun H o => wkW_done ?_; clear hX; simp only [sZ, sY] at o; generalize hst : st = st2; clear hall h5 hst st2 st
  let st : AV → MObj := fun x6 => .cells 8 [iI c.objs, iL c.frm, iL c.to, iL c.idn, iLL c.comp, iL (lensOf L), x6, iLLL L] 0
  have hLl := tab.len; simp only [go_sem, reduceAdd, reduceLeDiff]; refine awp_for [0, 4, 60] (G := AV) (fun a g => [(61, some (.int .i64 (a : Int)))])
   (fun a X H => LsO iL H0 H [(id4, st X)] X ((List.range a).map (rowP c L))) c.frm.length .nilsl (.inl ⟨rfl, rfl, o⟩) rfl ?_
  clear o; rintro a X H ha hX; replace hX : LsO iL H0 H [(id4, st X)] X ((List.range a).map (rowP c L)) := hX; simp only [go_sem]; refine ⟨fun h2 => At.mk ?_, fun h2 => At.mk ?_⟩
  ·have h2p := of_decide h2; have w2 := wsucc (k := a) (by omega); have haa : 0 ≤ (a : Int) ∧ (a : Int).toNat < c.frm.length := ⟨by omega, by simpa using h2p⟩; have hfo := hc.1.frmObj haa.2; have hto := hc.1.toObj haa.2; simp only [ix_nat] at hfo hto; obtain ⟨q, o, hq⟩ := hX.split; clear hX; simp only [go_sem]; refine new_list iI o fun idr H o => ?_; have hg4 : H.get id4 = some (st X) := o.get (id4, st X) (by simp); simp only [go_sem, reduceAdd]; refine rd_get hg4 (by simp [st]) ?_; simp only [go_sem, reduceAdd, reduceLeDiff]; refine ⟨h2p, ⟨hfo.1, by omega⟩, ?_⟩; have hF0 : ix L (c.frm.getD a default) = L.getD (c.frm.getD a default).toNat default := rfl; have hfw := tab.few (c.frm.getD a default).toNat (by omega); have hrow : rowP c L a = (L.getD (c.frm.getD a default).toNat default).map fun s => indexOf (ix L (c.to.getD a default)) (pullS c a s) := rfl; rw [hF0]; generalize hF : L.getD (c.frm.getD a default).toNat default = F at *; refine awp_for [0, 4, 8, 60, 61, 77, 78] (G := Nat × List Int) (fun i g => [(9, some (.buf g.1 g.2.length)), (79, some (.int .i64 (i : Int)))])
    (fun i g H => g.2 = (F.take i).map (fun s => indexOf (ix L (c.to.getD a default)) (pullS c a s)) ∧ Owns H0 H ((g.1, .cells 1 (g.2.map iI) 0) :: (q ++ [(id4, st X)]))) F.length (idr, []) ⟨by simp, o⟩ rfl ?_
   clear o hg4; rintro i ⟨idr, row⟩ H hi ⟨hr, o⟩; replace hr : row = (F.take i).map (fun s => indexOf (ix L (c.to.getD a default)) (pullS c a s)) := hr; replace o : Owns H0 H ((idr, .cells 1 (row.map iI) 0) :: (q ++ [(id4, st X)])) := o; have hrl : row.length = i := by rw [hr, List.length_map, List.length_take]; omega
   have hg4 : H.get id4 = some (st X) := o.get (id4, st X) (by simp); simp only [go_sem]; refine ⟨fun h3 => At.mk ?_, fun h3 => At.mk ?_⟩
   ·have h3p := of_decide h3; have w3 := wsucc (k := i) (by omega); simp only [go_sem, reduceAdd, reduceLeDiff]; refine ⟨h3p, by omega, _, (pull_ok B c hc.1 a haa (F.getD i default)).run, ?_⟩; refine CallH.lentPure (es := [.ptr (clsCells c L (iL (lensOf L)) X), .int .i64 (c.to.getD a default), iL (pullS c a (F.getD i default))]) (.int _ _) rfl (fun j hj => ?_) (number_ok B c L (iL (lensOf L)) X (c.to.getD a default) ⟨hto.1, by omega⟩ _).run ?_
    ·obtain rfl | rfl | rfl : j = 0 ∨ j = 1 ∨ j = 2 := by simp only [List.length_cons, List.length_nil] at hj; omega
     ·exact (Tr.ref id4 8 0 _ _ hg4 rfl fun i _ => .val _).arg
     ·exact val_arg _
     ·exact val_arg _
    simp only [go_sem, reduceAdd]; refine app_own (f := iI) (indexOf (ix L (c.to.getD a default)) (pullS c a (F.getD i default))) o rfl rfl (by simp only [maxL]; omega) fun idr H o => ?_; simp only [go_sem, w3]; exact for_next (_, _) (by omega) ⟨by rw [take_succ_getD F h3p, List.map_append, hr]; rfl, o⟩ rfl
   ·have h3p := of_ndecide h3; obtain rfl : i = F.length := by omega
    rw [List.take_length, ← hrow] at hr; simp only [go_sem]; refine fz_own o rfl fun H o => ?_; simp only [go_sem, reduceAdd]; have hX : LsO iL H0 H [(id4, st X)] X ((List.range a).map (rowP c L)) := LsO.mk o hq; clear o; refine rd_get hX.obj (by simp [st]) ?_; simp only [go_sem, reduceAdd]; refine hX.app row rfl (by simp only [List.length_map, List.length_range, maxL]; omega) fun idn H o => ?_; simp only [go_sem, reduceAdd]; refine st_cells o.swap (by simp) (by (simp only [go_sem]); (try simp)) (by first | (simp only [go_sem]; done) | ((simp only [go_sem]); simp [AV.one, one_mL])) fun H o => ?_; simp only [wr_cons, wr_nil, sZ, sY] at o; have e7 : (List.range a).map (rowP c L) ++ [row] = (List.range (a + 1)).map (rowP c L) := by rw [List.range_succ, List.map_append, hr]; rfl
    have hX : LsO iL H0 H [(id4, st (.buf idn ((List.range a).map (rowP c L) ++ [row]).length))] (.buf idn ((List.range a).map (rowP c L) ++ [row]).length) ((List.range a).map (rowP c L) ++ [row]) := .inr ⟨idn, rfl, o.swap⟩; generalize (AV.buf idn ((List.range a).map (rowP c L) ++ [row]).length) = X7 at hX; rw [e7] at hX; simp only [go_sem, w2]; exact for_next X7 (by omega) hX rfl
  ·have h2p := of_ndecide h2; obtain rfl : a = c.frm.length := by omega
   simp only [go_sem]; refine wk_ls 6 hX rfl fun H o => ?_; simp only [sZ, sY] at o; refine wk_ref 4 o rfl fun H o => wkW_done ?_; simp only [go_sem]; exact pure_ret rfl o.sub
theorem closeS_nil {c : Cat} {x : Int} : c.Sieve x [] := ⟨by simp [Rising], by simp, by simp, by simp⟩
structure WorkL (c : Cat) (x : Int) (S : List (List Int)) (k j : Nat) : Prop where
 z : [] ∈ S
 nd : S.Nodup
 sv : ∀ t, t ∈ S → c.Sieve x t
 dn : ∀ i, i < k → ∀ a, a ∈ outs c x → closeS c (S.getD i default ++ [a]) ∈ S
 pt : ∀ i, i < j → i < (outs c x).length → closeS c (S.getD k default ++ [(outs c x).getD i default]) ∈ S
def LibSorts : Prop := Go.AW.Enters Tryz.prog 211 ∧ ∀ (S : List (List Int)) [Inhabited (Fin S.length)], S.length ≤ 16 → LibSort S.length fun x y => cmp (S.getD x default) (S.getD y default)
open Classical in
theorem sieves_ok (B : Nat) (hlib : LibSorts) (c : Cat) (hc : c.Is) (x : Nat) (hx : x < c.objs.toNat) : Pur Tryz.prog B 202 [.ptr c.cells, .int .i64 x] (.tup [iLL (if Few c x then allS c x else []), .bool (dec (Few c x))]) := by
 refine ⟨fun H0 => c202p (by simp) fun hfi => ?_⟩; have hm := hc.1.m; have hob := hc.1.o; have htl := hc.1.tol; have hLl : (outs c x).length ≤ 40 := by
  rw [outs, List.length_map]; refine Nat.le_trans (List.length_filter_le _ _) ?_; rw [List.length_range]; omega
 have hLm : ∀ a, a ∈ outs c x → (0 ≤ a ∧ a.toNat < c.frm.length) ∧ ix c.frm a = x := fun a ha => by have := mem_outs.mp ha; exact ⟨⟨this.1, this.2.1⟩, this.2.2⟩
 unfold s202p; simp only [go_sem, reduceAdd]; refine newBuf_own (.nil _) fun id6 H o => ?_; simp only [go_sem]; refine awp_while [0, 1] (fun (g : Nat × List (List Int) × Nat) => [(6, some (.buf g.1 g.2.1.length)), (7, some (.int .i64 (g.2.2 : Int)))])
  (fun m g H => m = 16 - g.2.2 ∧ g.2.2 ≤ g.2.1.length ∧ g.2.1.length ≤ 16 ∧ WorkL c x g.2.1 g.2.2 0 ∧ Owns H0 H [(g.1, .cells 1 (g.2.1.map iL) 0)]) 16 (id6, [[]], 0)
  ⟨rfl, by simp, by simp, ⟨by simp, by simp, fun t ht => by
   rw [List.mem_singleton] at ht; subst ht; exact closeS_nil, by simp, by simp⟩, o⟩ rfl ?_
 clear o; rintro m ⟨id6, S, k⟩ H ⟨rfl, hkl, hS16, hW, o⟩; replace hkl : k ≤ S.length := hkl; replace hS16 : S.length ≤ 16 := hS16; replace hW : WorkL c x S k 0 := hW; replace o : Owns H0 H [(id6, .cells 1 (S.map iL) 0)] := o; simp only [go_sem]; refine ⟨fun h1 => At.mk ?_, fun h1 => At.mk ?_⟩
 ·have h1p := of_decide h1; have w := wsucc (k := k) (by omega); simp only [go_sem]; refine (outOf_ok B c x).go fun _ => ?_; generalize hL : outs c x = L at *; simp only [go_sem]; refine awp_for [0, 1, 7, 21, 22] (G := Nat × List (List Int)) (fun j g => [(6, some (.buf g.1 g.2.length)), (23, some (.int .i64 (j : Int)))])
   (fun j g H => k < g.2.length ∧ g.2.length ≤ 16 ∧ WorkL c x g.2 k j ∧ Owns H0 H [(g.1, .cells 1 (g.2.map iL) 0)]) L.length (id6, S) ⟨h1p, hS16, hW, o⟩ rfl ?_
  clear o hkl hS16 hW h1 h1p; rintro j ⟨id6, S⟩ H hj ⟨hkl, hS16, hW, o⟩; replace hkl : k < S.length := hkl; replace hS16 : S.length ≤ 16 := hS16; replace hW : WorkL c x S k j := hW; replace o : Owns H0 H [(id6, .cells 1 (S.map iL) 0)] := o; simp only [go_sem]; refine ⟨fun h2 => At.mk ?_, fun h2 => At.mk ?_⟩
  ·have h2p := of_decide h2; have w2 := wsucc (k := j) (by omega); simp only [go_sem]; refine ⟨h2p, hkl, rd_inner (f := iL) o.h0 hkl ?_⟩; generalize ha : L.getD j default = a at *; generalize ht : S.getD k default = t at *; have htm : t ∈ S := by rw [← ht]; exact mem_getD.mpr ⟨k, hkl, rfl⟩
   have ham : a ∈ L := by rw [← ha]; exact mem_getD.mpr ⟨j, h2p, rfl⟩
   have hts := hW.sv t htm; have htl2 := hts.len; simp only [go_sem]; refine (clone_own B t H0 H _ o).own fun idc A H o hA => ?_; rw [hA] at o ⊢; simp only [go_sem, reduceAdd]; refine app_own (f := iI) a o rfl rfl (by simp only [maxL]; omega) fun idc H o => ?_; simp only [go_sem]; refine call_fz 1 rfl o rfl fun H o => ?_; simp only [go_sem]; have hta : ∀ b, b ∈ t ++ [a] → (0 ≤ b ∧ b.toNat < c.frm.length) ∧ ix c.frm b = x := fun b hb => by
    rw [List.mem_append, List.mem_singleton] at hb; rcases hb with hb | rfl
    ·exact hts.arr hb
    ·exact hLm _ ham
   refine (sieveOf_ok B c hc.1 (t ++ [a]) (fun b hb => (hta b hb).1)).go fun _ => ?_; have hss := closeS_sieve hc hta; generalize hs : closeS c (t ++ [a]) = s at *; simp only [go_sem, reduceAdd]; refine newRef_own o fun id10 H o => ?_; simp only [go_sem]; refine st_cells o (by simp) (by (simp only [go_sem]); (try simp)) (by first | (simp only [go_sem]; done) | ((simp only [go_sem]); simp [AV.one, one_mL])) fun H o => ?_; simp only [wr_cons, wr_nil, sZ, sY] at o; simp only [go_sem]; refine wk_ref 10 o rfl fun H o => wkW_done ?_; simp only [go_sem]; refine CallH.lentPure (es := [iLL S, .fn (.func 210) [.ptr [iL s]]]) (.bool _) rfl (fun i hi => ?_) (containsFunc_ok B S s).run ?_
   ·obtain rfl | rfl : i = 0 ∨ i = 1 := by simp only [List.length_cons, List.length_nil] at hi; omega
    ·exact lent_arg o rfl
    ·exact val_arg _
   by_cases hin : s ∈ S
   ·rw [dec_t hin]; simp only [go_sem, w2]; refine for_next (id6, S) h2p ⟨hkl, hS16, ⟨hW.z, hW.nd, hW.sv, hW.dn, fun i hi hiL => ?_⟩, o⟩ rfl; by_cases e : i = j
    ·subst e; rw [hL, ha, ht, hs]; exact hin
    ·exact hW.pt i (by omega) hiL
   ·rw [dec_f hin]; simp only [go_sem]; refine ⟨fun h3 => At.mk ?_, fun h3 => At.mk ?_⟩
    ·have h3p : S.length = 16 := by have := of_decide h3; omega
     simp only [go_sem]; refine pure_ret ?_ o.sub; have hnf : ¬ Few c x := ?_
     ·rw [dec_f hnf, if_neg hnf]; rfl
     ·refine Few.no (M := S ++ [s]) ?_ ?_ (by simp; omega)
      ·rw [List.nodup_append]; refine ⟨hW.nd, by simp, fun a ha b hb => ?_⟩; rw [List.mem_singleton] at hb; rintro rfl; rw [hb] at ha; exact hin ha
      ·intro u hu; rw [List.mem_append, List.mem_singleton] at hu; rcases hu with hu | rfl
       ·exact hW.sv u hu
       ·exact hss
    ·simp only [go_sem, reduceAdd]; have h3p : ¬ S.length = 16 := fun e => by rw [e] at h3; simp at h3
     have hgd : ∀ i, i < S.length → (S ++ [s]).getD i default = S.getD i default := fun i hi => by
      simp [gQ, List.getElem?_append_left hi]
     refine app_own (f := iL) s o rfl rfl (by simp only [maxL]; omega) fun id6 H o => ?_; simp only [go_sem, w2]; refine for_next (id6, S ++ [s]) h2p ⟨by simp; omega, by simp; omega, ⟨by simp [hW.z], ?_, fun u hu => ?_, fun i hi b hb => ?_, fun i hi hiL => ?_⟩, o⟩ rfl
     ·rw [List.nodup_append]; refine ⟨hW.nd, by simp, fun a ha b hb => ?_⟩; rw [List.mem_singleton] at hb; rintro rfl; rw [hb] at ha; exact hin ha
     ·rw [List.mem_append, List.mem_singleton] at hu; rcases hu with hu | rfl
      ·exact hW.sv u hu
      ·exact hss
     ·rw [hgd i (by omega)]; exact List.mem_append_left _ (hW.dn i hi b hb)
     ·rw [hgd k hkl]; by_cases e : i = j
      ·subst e; rw [hL, ha, ht, hs]; simp
      ·exact List.mem_append_left _ (hW.pt i (by omega) hiL)
  ·have h2p := of_ndecide h2; simp only [go_sem]; refine ⟨16 - (k + 1), _, H, by omega, ⟨(id6, S, k + 1), ⟨rfl, by simp only; omega, hS16, ⟨hW.z, hW.nd, hW.sv, fun i hi b hb => ?_, by simp⟩, o⟩, rfl⟩, by rw [w]; exact .refl _ _⟩; replace hi : i < k + 1 := hi; by_cases e : i = k
   ·subst e; rw [hL] at hb; obtain ⟨n, hn, rfl⟩ := mem_getD.mp hb; have hnj : n < j := Nat.lt_of_lt_of_le hn (Nat.le_of_not_lt h2p); have := hW.pt n hnj (by rw [hL]; exact hn); rw [hL] at this; exact this
   ·exact hW.dn i (by omega) b hb
 ·have h1p := of_ndecide h1; simp only [go_sem]; have hall := all_sieves hc hW.z hW.sv fun t ht a ha => by
   obtain ⟨i, hi, rfl⟩ := mem_getD.mp ht; exact hW.dn i (by omega) a ha
  have hpos : 0 < S.length := List.length_pos_of_mem hW.z
  letI : Inhabited (Fin S.length) := ⟨⟨0, hpos⟩⟩
  refine sort_own B S hW.nd (hlib.2 S hS16) hlib.1 o fun H S' hp hs o => ?_; have hia : IsAll c x S' := ⟨hs, fun s => by rw [hp.mem_iff]; exact ⟨hW.sv s, hall s⟩⟩; have hfew : Few c x := ⟨S', hia, by rw [hp.length_eq]; exact hS16⟩; have hS' : S' = allS c x := hia.uniq (allS_is hfew).1; simp only [go_sem]; refine fz_own o hp.length_eq.symm fun H o => ?_; simp only [go_sem]; exact pure_ret (by rw [dec_t hfew, if_pos hfew, hS']) o.sub
theorem sieves_all (B : Nat) (hlib : LibSorts) (c : Cat) (hc : c.Is) : SievesOk B c := fun x hx => by
 classical
 exact ⟨_, sieves_ok B hlib c hc x hx, fun h => by rw [if_pos h]; exact ⟨rfl, (allS_is h).2⟩⟩
end Go.Proofs.Shf
namespace Go.Proofs
open Go.Shelf
def Tryz.sortL_ren : Go.Shelf.Ren := ⟨fun | 6 => 211 | 15 => 215 | 14 => 214 | 28 => 224 | 29 => 225 | 20 => 216 | 21 => 217 | 22 => 218 | 23 => 219 | 24 => 220 | 25 => 221 | 26 => 222 | 27 => 223 | 46 => 226 | 47 => 227 | 48 => 228 | 49 => 229 | 50 => 230 | 57 => 231 | n => n, fun | 22 => 95 | 24 => 134 | 25 => 254 | 3 => 3 | 39 => 262 | 0 => 0 | 53 => 272 | 55 => 274 | 4 => 4 | 46 => 265 | 45 => 264 | 50 => 269 | 5 => 5 | 9 => 9 | 66 => 275 | 70 => 279 | 76 => 281 | 77 => 282 | n => n, fun | n => n⟩
theorem Tryz.sortL : Go.Proofs.SlLaysF.n6 Tryz.prog Tryz.sortL_ren := {
 mixed := by kernel_rfl
 f6 := ⟨Tryz.f211.name, by decide, Tryz.func211.trans (congrArg some (by kernel_rfl))⟩
 f14 := ⟨Tryz.f214.name, by decide, Tryz.func214.trans (congrArg some (by kernel_rfl))⟩
 f15 := Tryz.func215.trans (congrArg some (by kernel_rfl))
 f20 := ⟨Tryz.f216.name, by decide, Tryz.func216.trans (congrArg some (by kernel_rfl))⟩
 f21 := ⟨Tryz.f217.name, by decide, Tryz.func217.trans (congrArg some (by kernel_rfl))⟩
 f22 := ⟨Tryz.f218.name, by decide, Tryz.func218.trans (congrArg some (by kernel_rfl))⟩
 f23 := ⟨Tryz.f219.name, by decide, Tryz.func219.trans (congrArg some (by kernel_rfl))⟩
 f24 := ⟨Tryz.f220.name, by decide, Tryz.func220.trans (congrArg some (by kernel_rfl))⟩
 f25 := ⟨Tryz.f221.name, by decide, Tryz.func221.trans (congrArg some (by kernel_rfl))⟩
 f26 := ⟨Tryz.f222.name, by decide, Tryz.func222.trans (congrArg some (by kernel_rfl))⟩
 f27 := ⟨Tryz.f223.name, by decide, Tryz.func223.trans (congrArg some (by kernel_rfl))⟩
 f28 := Tryz.func224.trans (congrArg some (by kernel_rfl))
 f29 := Tryz.func225.trans (congrArg some (by kernel_rfl))
 f46 := ⟨Tryz.f226.name, by decide, Tryz.func226.trans (congrArg some (by kernel_rfl))⟩
 f47 := Tryz.func227.trans (congrArg some (by kernel_rfl))
 f48 := Tryz.func228.trans (congrArg some (by kernel_rfl))
 f49 := ⟨Tryz.f229.name, by decide, Tryz.func229.trans (congrArg some (by kernel_rfl))⟩
 f50 := ⟨Tryz.f230.name, by decide, Tryz.func230.trans (congrArg some (by kernel_rfl))⟩
 f57 := ⟨Tryz.f231.name, by decide, Tryz.func231.trans (congrArg some (by kernel_rfl))⟩
 t0 := Tryz.underlying0
 a0 := Tryz.isAgg0
 z0 := Tryz.sizeOf0
 v0 := Tryz.zeroValue0
 t3 := Tryz.underlying3
 a3 := Tryz.isAgg3
 z3 := Tryz.sizeOf3
 v3 := Tryz.zeroValue3
 t4 := Tryz.underlying4
 a4 := Tryz.isAgg4
 z4 := Tryz.sizeOf4
 v4 := Tryz.zeroValue4
 t5 := Tryz.underlying5
 a5 := Tryz.isAgg5
 z5 := Tryz.sizeOf5
 v5 := Tryz.zeroValue5
 t9 := Tryz.underlying9
 a9 := Tryz.isAgg9
 z9 := Tryz.sizeOf9
 v9 := Tryz.zeroValue9
 t22 := Tryz.underlying95
 a22 := Tryz.isAgg95
 z22 := Tryz.sizeOf95
 v22 := Tryz.zeroValue95
 a24 := Tryz.isAgg134
 z24 := Tryz.sizeOf134
 t25 := Tryz.underlying254
 a25 := Tryz.isAgg254
 z25 := Tryz.sizeOf254
 v25 := Tryz.zeroValue254
 t39 := Tryz.underlying262
 a39 := Tryz.isAgg262
 z39 := Tryz.sizeOf262
 v39 := Tryz.zeroValue262
 t45 := Tryz.underlying264
 a45 := Tryz.isAgg264
 z45 := Tryz.sizeOf264
 v45 := Tryz.zeroValue264
 t46 := Tryz.underlying265
 a46 := Tryz.isAgg265
 z46 := Tryz.sizeOf265
 v46 := Tryz.zeroValue265
 t50 := Tryz.underlying269
 a50 := Tryz.isAgg269
 z50 := Tryz.sizeOf269
 v50 := Tryz.zeroValue269
 t53 := Tryz.underlying272
 a53 := Tryz.isAgg272
 z53 := Tryz.sizeOf272
 v53 := Tryz.zeroValue272
 t55 := Tryz.underlying274
 a55 := Tryz.isAgg274
 z55 := Tryz.sizeOf274
 v55 := Tryz.zeroValue274
 t66 := Tryz.underlying275
 a66 := Tryz.isAgg275
 z66 := Tryz.sizeOf275
 v66 := Tryz.zeroValue275
 t70 := Tryz.underlying279
 a70 := Tryz.isAgg279
 z70 := Tryz.sizeOf279
 v70 := Tryz.zeroValue279
 t76 := Tryz.underlying281
 a76 := Tryz.isAgg281
 z76 := Tryz.sizeOf281
 v76 := Tryz.zeroValue281
 t77 := Tryz.underlying282
 a77 := Tryz.isAgg282
 z77 := Tryz.sizeOf282
 v77 := Tryz.zeroValue282 }
end Go.Proofs
namespace Go.Proofs.Shf
open Go.AW Go.Proofs Go.Shf Go.RowKit Go.Sort
theorem cmp_ntr {a b c : List Int} (h1 : ¬ cmp a b < 0) (h2 : ¬ cmp b c < 0) : ¬ cmp a c < 0 := by
 intro h; have n1 := cmp_neg a b; have n2 := cmp_neg b c; have n3 := cmp_neg a c; by_cases e1 : cmp a b = 0
 ·rw [cmp_zero] at e1; subst e1; exact h2 h
 ·by_cases e2 : cmp b c = 0
  ·rw [cmp_zero] at e2; subst e2; exact h1 h
  ·have := cmp_trans (a := c) (b := b) (c := a) (by omega) (by omega); omega
theorem swo_cmp {n : Nat} (S : List (List Int)) : SWO (ltOf fun x y : Fin n => cmp (S.getD x default) (S.getD y default)) where
 irrefl x := by simp [ltOf, cmp_zero.mpr rfl]
 trans x y z h1 h2 := decide_eq_true (cmp_trans (of_decide_eq_true h1) (of_decide_eq_true h2))
 ntrans x y z h1 h2 := decide_eq_false (cmp_ntr (of_decide_eq_false h1) (of_decide_eq_false h2))
theorem lib_sort (S : List (List Int)) [Inhabited (Fin S.length)] (hsz : S.length < 4611686018427387904) : LibSort S.length fun x y => cmp (S.getD x default) (S.getD y default) := by
 intro b cap w enc h1 hcmp hH hbl; have eg : ∀ args w, (callFunc 212 args).run Tryz.prog w = .ok (.enter 212 args) w := enters_of Tryz.func212 (by kernel_rfl) rfl; have h := Any.slices_SortFunc Tryz.sortL enc h1 (fun x y => cmp (S.getD x default) (S.getD y default)) (swo_cmp S) 212 #[] b 0 cap (Array.ofFn fun i => i) w eg hcmp hH hbl (by simpa using hsz); exact h
end Go.Proofs.Shf
