/- Contracts, part 4. -/
import Derived.Test.YtllfbkdekhemeaaGreatF3
set_option linter.unusedVariables false
set_option linter.unusedSimpArgs false
set_option linter.unusedSectionVars false
open Nat (reduceEqDiff reduceAdd reduceMul reduceLeDiff reduceLT)
namespace Go.Proofs.Shf
open Go.AW Go.Proofs Go.Shf
theorem lkOf_get {f : SF} {x : Int} {s : List Int} (h : f.Shape) (hs : f.shape.Sieve x s) {r : List Int} (hr : r ∈ rowsOf f.shape s) :
  r.length = 3 ∧ (0 ≤ r.getD 0 default ∧ (r.getD 0 default).toNat < s.length) ∧ (0 ≤ r.getD 1 default ∧ (r.getD 1 default).toNat < f.acts.length) ∧ (0 ≤ r.getD 2 default ∧ (r.getD 2 default).toNat < s.length) := by
 obtain ⟨i, hi, b, hb, e, rfl⟩ := mem_rowsOf.mp hr
 have := (sieve_idx h hs hi hb e).1
 exact ⟨rfl, ⟨by simp [lkRow], by simpa [lkRow] using hi⟩, ⟨by simp [lkRow], by rw [h.al]; simpa [lkRow] using hb⟩, this⟩
theorem l28Families_ok (B : Nat) (f : SF) (x : Int) (s : List Int) (h : f.Shape) (hs : f.shape.Sieve x s) (most : Nat) (hm0 : 0 < most) (hmost : most ≤ 1048576) :
  Pur Tryz.prog B 83 [.agg f.cells, iL s, .int .i64 most] (iLL ((famS f s).take most)) := by
 refine ⟨fun H0 => c83p (by simp) fun _ => ?_⟩
 have hm := h.is.1.m
 have htl := h.is.1.tol
 have hslen := hs.len
 have hsl := h.sl
 have hob := h.is.1.o
 unfold s83p
 (try simp only [go_sem, reduceAdd, reduceLeDiff])
 refine ⟨by simp [maxL], newRef_own (.nil _) fun id7 H o => ?_⟩
 (try simp only [go_sem])
 refine st_cells o (by simp) (by (try simp only [go_sem]); (try simp)) (by first | (simp only [go_sem]; done) | ((try simp only [go_sem]); simp [AV.one, one_mL])) fun H o => ?_
 simp only [wr_cons, wr_nil, List.set_cons_zero, List.set_cons_succ] at o
 (try simp only [go_sem])
 refine new_list iI o fun id8 H o => ?_
 (try simp only [go_sem])
 refine newBuf_own o fun id9 H o => ?_
 (try simp only [go_sem])
 refine awp_for [1, 2, 3, 7, 9] (G := Nat × List Int) (fun k g => [(8, some (.buf g.1 g.2.length)), (10, some (.int .i64 (k : Int)))]) (fun k g H => g.2 = (s.take k).map (fun a => ix f.sizes (ix f.shape.to a)) ∧ Owns H0 H ((g.1, .cells 1 (g.2.map iI) 0) :: [(id9, .cells 4 (flat (([] : List Lk).map lkE)) 0), (id7, .cells 5 [iI f.shape.objs, iL f.shape.frm, iL f.shape.to, iL f.shape.idn, iLL f.shape.comp] 0)])) s.length (id8, []) ⟨by simp, o.swap⟩ rfl ?_
 rintro k ⟨id8, out⟩ H hk ⟨hout, o⟩
 replace hout : out = (s.take k).map (fun a => ix f.sizes (ix f.shape.to a)) := hout
 replace o : Owns H0 H ((id8, .cells 1 (out.map iI) 0) :: [(id9, .cells 4 (flat (([] : List Lk).map lkE)) 0), (id7, .cells 5 [iI f.shape.objs, iL f.shape.frm, iL f.shape.to, iL f.shape.idn, iLL f.shape.comp] 0)]) := o
 have hol : out.length = k := by rw [hout]; simp; omega
 (try simp only [go_sem])
 refine ⟨fun h1 => At.mk ?_, fun h1 => At.mk ?_⟩
 ·(try simp only [go_sem, reduceAdd, reduceLeDiff])
  have h1p := of_decide h1
  have w1 := wsucc (k := k) (by omega)
  have ha := hs.arr (mem_getD.mpr ⟨k, h1p, rfl⟩)
  have hto := h.is.1.toObj ha.1.2
  refine rd_cells o.tl.tl (by simp) ?_
  (try simp only [go_sem, reduceAdd])
  refine ⟨h1p, ⟨ha.1.1, by omega⟩, ⟨hto.1, by omega⟩, ?_⟩
  refine app_own (ix f.sizes (ix f.shape.to (s.getD k default))) o rfl rfl (by simp only [maxL]; omega) fun id8 H o => ?_
  (try simp only [go_sem, w1])
  exact for_next (_, _) (by omega) ⟨by rw [take_map_succ s _ h1p, hout], o⟩ rfl
 ·(try simp only [go_sem])
  have h1p := of_ndecide h1
  have hsz : out = famSizes f s := by rw [hout, show k = s.length by omega, List.take_length]; rfl
  refine rd_celln o.tl.tl (by simp) ?_
  (try simp only [go_sem])
  refine (l28Links_ok B f.shape h.is.1 s (fun a ha => (hs.arr ha).1) (by omega)).go fun _ => ?_
  have hrl : (rowsOf f.shape s).length ≤ 1600 := by
   have h1 := rowsTo_len f.shape s s.length
   have h2 : s.length * f.shape.frm.length ≤ 40 * 40 := Nat.mul_le_mul (by omega) hm
   unfold rowsOf; omega
  (try simp only [go_sem])
  refine awp_for [2, 3, 8, 11] (G := Nat × List Lk) (fun k g => [(9, some (.buf g.1 g.2.length)), (12, some (.int .i64 (k : Int)))]) (fun k g H => g.2 = ((rowsOf f.shape s).take k).map (lkOf f s) ∧ Owns H0 H [(g.1, .cells 4 (flat (g.2.map lkE)) 0), (id8, .cells 1 (out.map iI) 0)]) (rowsOf f.shape s).length (id9, []) ⟨by simp, (o.swap.perm (List.Perm.refl _)).perm (by exact (List.perm_append_comm (l₁ := [_, _]) (l₂ := [_]))) |>.tl⟩ rfl ?_
  rintro k2 ⟨id9, ls⟩ H hk2 ⟨hls, o⟩
  replace hls : ls = ((rowsOf f.shape s).take k2).map (lkOf f s) := hls
  replace o : Owns H0 H [(id9, .cells 4 (flat (ls.map lkE)) 0), (id8, .cells 1 (out.map iI) 0)] := o
  have hll : ls.length = k2 := by rw [hls]; simp; omega
  have hfl : (famSizes f s).length = s.length := by simp [famSizes]
  (try simp only [go_sem])
  refine ⟨fun h2 => At.mk ?_, fun h2 => At.mk ?_⟩
  ·(try simp only [go_sem, reduceAdd, reduceLeDiff])
   have h2p := of_decide h2
   have w2 := wsucc (k := k2) (by omega)
   have hr := lkOf_get h hs (mem_getD.mpr ⟨k2, h2p, rfl⟩)
   generalize hrr : (rowsOf f.shape s).getD k2 default = r at *
   have e0 : ix r 0 = r.getD 0 default := rfl
   have e1 : ix r 1 = r.getD 1 default := rfl
   have e2 : ix r 2 = r.getD 2 default := rfl
   have l0 : (0 : Int) ≤ 0 ∧ (0 : Int).toNat < r.length := ⟨by omega, by rw [hr.1]; decide⟩
   have l1 : (0 : Int) ≤ 1 ∧ (1 : Int).toNat < r.length := ⟨by omega, by rw [hr.1]; decide⟩
   have l2 : (0 : Int) ≤ 2 ∧ (2 : Int).toNat < r.length := ⟨by omega, by rw [hr.1]; decide⟩
   have hs2 := (fam_size h hs hr.2.2.2.2).2
   have hsz2 : ix out (r.getD 2 default) = (((famSizes f s).getD (r.getD 2 default).toNat default).toNat : Int) := by
    rw [hsz, Int.toNat_of_nonneg hs2.1]; rfl
   refine ⟨h2p, l0, l2, l1, ⟨by rw [e1]; exact hr.2.2.1.1, by rw [e1]; exact hr.2.2.1.2⟩, l2, ⟨by rw [e2]; exact hr.2.2.2.1, by rw [e2, hsz, hfl]; exact hr.2.2.2.2⟩, rd_own o.tl (by rw [e2, hsz, hfl]; exact hr.2.2.2.2) ?_⟩
   (try simp only [go_sem, reduceAdd, reduceLeDiff])
   rw [show out.getD (ix r 2).toNat default = (((famSizes f s).getD (r.getD 2 default).toNat default).toNat : Int) from hsz2]
   refine ⟨_, (l23Count_ok B _ (by omega)).run, ?_⟩
   (try simp only [go_sem, reduceAdd])
   refine app_ownN (f := lkE) (lkOf f s r) o ?_ rfl (by simp only [maxL]; omega) fun id9 H o => ?_
   ·simp only [lkE, lkOf, natsL]
    rfl
   (try simp only [go_sem, w2])
   exact for_next (_, _) (by omega) ⟨by rw [take_map_succ _ _ h2p, hls, hrr], o⟩ rfl
  ·(try simp only [go_sem])
   have h2p := of_ndecide h2
   have hls2 : ls = famLinks f s := by rw [hls, show k2 = (rowsOf f.shape s).length by omega, List.take_length]; rfl
   refine fz_ownN o rfl fun H o => ?_
   (try simp only [go_sem])
   refine fz_own o rfl fun H o => ?_
   (try simp only [go_sem])
   rw [hsz, hls2]
   refine (l22Solve_ok B (famSizes f s) (famLinks f s) most hm0 hmost (lksOk h hs) (by rw [hfl]; omega) (by rw [← hls2]; omega)).go fun _ => ?_
   (try simp only [go_sem])
   exact pure_ret rfl o.sub
end Go.Proofs.Shf
namespace Go.Proofs.Shf
open Go.AW Go.Proofs Go.Shf
@[go_sem] noncomputable def stepCells (f : SF) (V : List (List Int)) : List AV := [iI f.shape.objs, iL f.shape.frm, iL f.shape.to, iL f.shape.idn, iLL f.shape.comp, iL (stepSizes f V), iLL (stepActs f V), iLLL (famsOf f V)]
abbrev zs8 : List AV := [.int .i64 0, .nilsl, .nilsl, .nilsl, .nilsl, .nilsl, .nilsl, .nilsl]
end Go.Proofs.Shf
namespace Go.Proofs.Shf
open Go.AW Go.Proofs Go.Shf
def RulesAt (ls : List Lk) (ks vs : List AV) : Prop := (∀ i : Int, okKey false (iI i) ks) ∧
 ∀ i : Int, (mget (iI i) ks vs).getD .nilsl = mL rlE (ls.filter fun l => decide (l.i = i)) ∨ ((mget (iI i) ks vs).getD .nilsl = .nilsl ∧ (ls.filter fun l => decide (l.i = i)) = [])
theorem set_solver (B : Nat) (sizes : List Int) (ls : List Lk) (hls : LksId sizes ls) (hsl : sizes.length ≤ 1000) (hll : ls.length ≤ 1000000) (ks vs : List AV) (hM : RulesAt ls ks vs) (idL idN idM idS : Nat) (fv : AV) :
  ∀ (n : Nat) (p : List Int), unset p = n → PartN sizes p → ∀ (H0 H : Heap) (l : List (Nat × MObj)) (X : AV) (note : List Int) (i : Nat) (e : Int),
   LsO iI H0 H ((idN, .cells 1 [X] 0) :: (idL, .cells 1 (p.map iI) 0) :: l) X note → (idM, .map ks vs) ∈ l → i < p.length → 0 ≤ e ∧ e < sizes.getD i default → note.length + unset p ≤ 1000 →
   CallH Tryz.prog B 189 [.dual [iL sizes, .mref idM, .buf idL sizes.length, fv] idS, .int .i64 i, .int .i64 e, .ref idN 0] H
    (fun r H' => ∃ ok p' N X', r = .bool ok ∧ LsO iI H0 H' ((idN, .cells 1 [X'] 0) :: (idL, .cells 1 (p'.map iI) 0) :: l) X' (note ++ N) ∧ SetQ sizes ls p i e p' N ok ∧ N.length + unset p' ≤ unset p) := by
 intro n
 induction n using Nat.strongRecOn with
 | _ n ih =>
 intro p hn hp H0 H l X note i e hX hm hi he hnb
 refine c189p (by simp) fun _ => ?_
 have hpl := hp.1
 unfold s189p
 (try simp only [go_sem, ↓reduceIte, reduceAdd, reduceLeDiff])
 have hgL := hX.get (x := (idL, .cells 1 (p.map iI) 0)) (by simp)
 refine ⟨by omega, rd_inner hgL hi ?_⟩
 (try simp only [go_sem])
 refine ⟨fun h1 => At.mk ?_, fun h1 => At.mk ?_⟩
 ·(try simp only [go_sem, ↓reduceIte, reduceAdd, reduceLeDiff])
  have h1p := of_decide h1
  refine ⟨by omega, rd_inner hgL hi ?_⟩
  (try simp only [go_sem])
  exact ⟨H, .refl _, _, p, [], X, rfl, by rw [List.append_nil]; exact hX, .old hp hi (by omega), by simp⟩
 (try simp only [go_sem, ↓reduceIte, reduceAdd, reduceLeDiff])
 have h1p := of_ndecide h1
 have h0 : p.getD i default = -1 := (hp.2 i hi).resolve_right fun h => by omega
 obtain ⟨q, o, hq⟩ := hX.split
 refine ⟨by omega, set_own e (Owns.pull2 q o) rfl hi fun H o => ?_⟩
 (try simp only [go_sem])
 have hX := LsO.mk (Owns.push2 q o) hq
 clear o hq
 refine rd_get hX.obj (by simp) ?_
 (try simp only [go_sem, reduceAdd])
 refine hX.app (i : Int) rfl (by simp only [maxL]; omega) fun idn H o => ?_
 (try simp only [go_sem])
 refine st_cells o.swap (by simp) (by (try simp only [go_sem]); (try simp)) (by first | (simp only [go_sem]; done) | ((try simp only [go_sem]); simp [AV.one, one_mL])) fun H o => ?_
 simp only [wr_cons, wr_nil, List.set_cons_zero, List.set_cons_succ] at o
 have hX : LsO iI H0 H ((idN, .cells 1 [.buf idn (note ++ [(i : Int)]).length] 0) :: (idL, .cells 1 ((p.set i e).map iI) 0) :: l) (.buf idn (note ++ [(i : Int)]).length) (note ++ [(i : Int)]) := .inr ⟨idn, rfl, o.swap⟩
 clear o
 have hgM := hX.get (x := (idM, .map ks vs)) (by simp [hm])
 (try simp only [go_sem, ↓reduceIte, reduceAdd, reduceLeDiff])
 rw [hgM]
 (try simp only [go_sem])
 refine ⟨hM.1 i, ?_⟩
 have hV := hM.2 i
 generalize hVv : (mget (iI i) ks vs).getD .nilsl = V at *
 generalize hrs : (ls.filter fun l => decide (l.i = (i : Int))) = rs at *
 have hlen : lenE (some V) = some (True, .int .i64 rs.length) := by
  rcases hV with rfl | ⟨rfl, rfl⟩
  ·exact lenE_mL rs
  ·rfl
 (try simp only [go_sem, hlen])
 have hrl : rs.length ≤ 1000000 := by rw [← hrs]; exact Nat.le_trans (List.length_filter_le _ _) hll
 have hrm : ∀ j, j < rs.length → rs.getD j default ∈ ls ∧ (rs.getD j default).i = i := by
  intro j hj
  have : rs.getD j default ∈ (ls.filter fun l => decide (l.i = (i : Int))) := by rw [hrs]; exact mem_getD.mpr ⟨j, hj, rfl⟩
  rw [List.mem_filter, decide_eq_true_eq] at this
  exact this
 have hun : unset (p.set i e) < unset p := unset_set hi h0 he.1
 refine awp_for [0, 2, 3, 48, 49] (G := List Int × List Int × AV) (fun k _ => [(50, some (.int .i64 (k : Int)))])
  (fun k g H => LsO iI H0 H ((idN, .cells 1 [g.2.2] 0) :: (idL, .cells 1 (g.1.map iI) 0) :: l) g.2.2 (note ++ g.2.1) ∧ SetL sizes ls p i e rs k g.1 g.2.1 ∧ g.2.1.length + unset g.1 ≤ unset p ∧ 0 < g.2.1.length) rs.length (p.set i e, [(i : Int)], .buf idn (note ++ [(i : Int)]).length)
  ⟨hX, .zero hp hi h0 he, by simp only [List.length_singleton]; omega, by simp⟩ rfl ?_
 rintro k ⟨p', N, X'⟩ H hk ⟨hX, hL, hNu, hN0⟩
 replace hX : LsO iI H0 H ((idN, .cells 1 [X'] 0) :: (idL, .cells 1 (p'.map iI) 0) :: l) X' (note ++ N) := hX
 replace hL : SetL sizes ls p i e rs k p' N := hL
 replace hNu : N.length + unset p' ≤ unset p := hNu
 replace hN0 : 0 < N.length := hN0
 (try simp only [go_sem])
 refine ⟨fun h2 => At.mk ?_, fun h2 => At.mk ?_⟩
 ·have h2p := of_decide h2
  have w2 := wsucc (k := k) (by omega)
  have hVr : V = mL rlE rs := hV.resolve_right fun h => by rw [h.2] at h2p; simp at h2p
  rw [hVr]
  have hmem := hrm k h2p
  generalize hr : rs.getD k default = r at *
  have bj := hls.ok.j r hmem.1
  have bl := hls.ok.left r hmem.1
  rw [hmem.2, ix_nat] at bl
  have hlf := hls.lf r hmem.1 _ (ix_mem (i := e) (l := r.left) (by omega))
  obtain ⟨q, o, hq⟩ := hX.split
  (try simp only [go_sem, reduceAdd])
  refine ⟨h2p, by simp [maxL], newRef_own o fun id10 H o => ?_⟩
  rw [hr]
  (try simp only [go_sem])
  refine st_cells o (by simp) (by (try simp only [go_sem]); (try simp)) (by first | (simp only [go_sem]; done) | ((try simp only [go_sem]); simp [AV.one, one_mL])) fun H o => ?_
  simp only [wr_cons, wr_nil, List.set_cons_zero, List.set_cons_succ] at o
  (try simp only [go_sem, reduceAdd])
  refine rd_cells o (by simp) ?_
  (try simp only [go_sem, reduceAdd])
  refine rd_cells o (by simp) ?_
  (try simp only [go_sem])
  refine ⟨⟨he.1, by omega⟩, ?_⟩
  have hX := LsO.mk o.tl hq
  clear o hq
  have hp' : PartN sizes p' := hL.partN hp
  have hsl' : p'.length = p.length := hL.len
  have hj' : r.j = ((r.j.toNat : Nat) : Int) := (Int.toNat_of_nonneg bj.1).symm
  rw [hj']
  refine (ih (unset p') (by omega) p' rfl hp' H0 H l X' (note ++ N) r.j.toNat (ix r.left e) hX hm (by omega) ⟨hlf.1, hlf.2⟩ (by rw [List.length_append]; omega)).mono ?_
  rintro v H' ⟨ok, p2, N2, X2, rfl, hX2, hQ, hNu2⟩
  rw [List.append_assoc] at hX2
  (try simp only [go_sem])
  cases ok with
  | true =>
   (try simp only [go_sem])
   (try simp only [go_sem, w2])
   have hstep := hL.step hp hi h2p (by rw [hr]; omega) (by omega) (by rw [hr]; exact bj.1) (by rw [hr]; exact hQ) (fun j hj => ?_) hrm hls
   ·exact for_next (p2, N ++ N2, X2) (by omega) ⟨hX2, hstep, by simp only [List.length_append]; omega, by simp only [List.length_append]; omega⟩ rfl
   ·have hmj := hrm j hj
    have bj := hls.ok.j _ hmj.1
    have bl := hls.ok.left _ hmj.1
    rw [hmj.2, ix_nat] at bl
    have hlf := hls.lf _ hmj.1 _ (ix_mem (i := e) (l := (rs.getD j default).left) (by omega))
    exact ⟨bj.1, by omega, hlf.1⟩
  | false =>
   (try simp only [go_sem])
   refine ⟨H', .refl _, false, p2, N ++ N2, X2, rfl, hX2, hL.fail hp hi h0 h2p (by rw [hr]; exact hQ) (by omega) hrm hls, by simp only [List.length_append]; omega⟩
 ·have h2p := of_ndecide h2
  (try simp only [go_sem])
  refine ⟨H, .refl _, true, p', N, X', rfl, hX, hL.done (by omega) fun l hl e2 => ?_, hNu⟩
  rw [← hrs, List.mem_filter]
  exact ⟨hl, decide_eq_true e2⟩
end Go.Proofs.Shf
namespace Go.AW
open Go.Proofs Go.Proofs.Shf
theorem Owns.ext {H0 H H' : Heap} {l : List (Nat × MObj)} (h : Owns H0 H l) (k : H.sub H') : Owns H0 H' l :=
 ⟨h.sub.trans k, fun x hx => k _ _ (h.get x hx), h.nd, h.out⟩
theorem LsO.ext {α : Type} {f : α → AV} {H0 H H' : Heap} {l : List (Nat × MObj)} {X : AV} {A : List α} (h : LsO f H0 H l X A) (k : H.sub H') : LsO f H0 H' l X A := by
 rcases h with ⟨h1, h2, h⟩ | ⟨id, h1, h⟩
 ·exact .inl ⟨h1, h2, h.ext k⟩
 ·exact .inr ⟨id, h1, h.ext k⟩
theorem lent_get {α : Type} [Inhabited α] {f : α → AV} [One f] {B : Nat} {H : Heap} {id n fr : Nat} {A : List α} (h0 : H.get id = some (.cells 1 (A.map f) fr)) (hn : n = A.length) :
  ∀ g w v, WRel g B H w → VRel g (.buf id n) v → VRel (g.lend H w) (mL f A) v := by
 subst hn
 have := Tr.buf (H := H) id fr (A.map f) (A.map f) h0 rfl (fun i hi => by rw [List.length_map] at hi; rw [getD_map A hi]; exact one_cells _) (fun i _ => .val _)
 rw [List.length_map] at this
 exact this.arg
theorem Owns.subl {H0 H : Heap} {l l' : List (Nat × MObj)} (h : Owns H0 H l) (k : l'.Sublist l) : Owns H0 H l' :=
 ⟨h.sub, fun x hx => h.get x (k.subset hx), h.nd.sublist (k.map _), fun x hx => h.out x (k.subset hx)⟩
theorem LsO.subl {α : Type} {f : α → AV} {H0 H : Heap} {l l' : List (Nat × MObj)} {X : AV} {A : List α} (h : LsO f H0 H l X A) (k : l'.Sublist l) : LsO f H0 H l' X A := by
 rcases h with ⟨h1, h2, h⟩ | ⟨id, h1, h⟩
 ·exact .inl ⟨h1, h2, h.subl k⟩
 ·exact .inr ⟨id, h1, h.subl (k.cons_cons _)⟩
theorem LsP.lenE {α : Type} {f : α → AV} {p : List (Nat × MObj)} {X : AV} {A : List α} (h : LsP f p X A) : lenE (some X) = some (True, .int .i64 A.length) := by
 rcases h with ⟨_, rfl, rfl⟩ | ⟨id, _, rfl⟩ <;> rfl
theorem LsP.sub {α : Type} {f : α → AV} {p : List (Nat × MObj)} {X : AV} {A : List α} (h : LsP f p X A) {i : Nat} (hi : i < A.length) : ∃ id, p = [(id, .cells 1 (A.map f) 0)] ∧ X = .buf id A.length := by
 rcases h with ⟨_, _, rfl⟩ | h
 ·simp at hi
 ·exact h
theorem perm_cba {α : Type} (A B C l : List α) : (A ++ (B ++ (C ++ l))).Perm (C ++ (B ++ (A ++ l))) := by
 have : (A ++ (B ++ C)).Perm (C ++ (B ++ A)) := by
  refine (List.perm_append_comm).trans ?_
  rw [← List.append_assoc]
  exact List.Perm.append_right A List.perm_append_comm
 simpa using List.Perm.append_right l this
theorem CallH.gave {α : Type} [Inhabited α] {f : α → AV} [One f] {P : Program} {B : Nat} {fn : FuncId} {args : List AV} {H : Heap} {Q : List α → Prop} {K : Kont} (h : CallH P B fn args H (OwnK f H [] Q))
  (hk : ∀ A H', H.sub H' → Q A → K (mL f A) H') : CallH P B fn args H K := by
 refine ⟨h.1, fun g w vs hW hv => (h.2 g w vs hW hv).mono fun e w' ⟨v, he, g', r, H', a, ⟨id, A, e1, o, q⟩, c, d, k⟩ => ?_⟩
 subst e1
 obtain ⟨g2, q1, q2, q3⟩ := d.gaveV o.h0
 exact ⟨v, he, g2, mL f A, _, a.trans q1, hk A _ (Go.AW.sub_set o.sub (o.out _ (by simp))) q, q3 g2 v (.refl _) (c.mono q1), q2, k⟩
end Go.AW
namespace Go.Proofs.Shf
open Go.AW Go.Proofs Go.Shf
theorem found_ok (B : Nat) (most : Nat) (hmost : most ≤ 1048576) (p : List Int) (H0 H : Heap) (l : List (Nat × MObj)) (idL idO n : Nat) (X : AV) (out : List (List Int)) (hn : n = p.length)
  (hX : LsO iL H0 H ((idO, .cells 1 [X] 0) :: l) X out) (hm : (idL, .cells 1 (p.map iI) 0) ∈ l) (ho : out.length ≤ most) :
  CallH Tryz.prog B 171 [.buf idL n, .ref idO 0, .ptr [.int .i64 most]] H (fun r H' => ∃ X', r = .bool (decide (out.length + 1 ≤ most)) ∧ LsO iL H0 H' ((idO, .cells 1 [X'] 0) :: l) X' (out ++ [p])) := by
 refine c171p (by simp) fun _ => ?_
 unfold s171p
 (try simp only [go_sem, reduceAdd])
 refine rd_get hX.obj (by simp) ?_
 (try simp only [go_sem, reduceAdd])
 have hc : CallH Tryz.prog B 141 [.buf idL n] H (OwnK iI H [] (· = p)) :=
  CallH.lentOwn (f := iI) (Q := (· = p)) (es := [iL p]) (Owns.nil H) (fun _ => .int _ _) rfl (fun i hi => by
   obtain rfl : i = 0 := by simp only [List.length_cons, List.length_nil] at hi; omega
   exact lent_get (hX.get (x := (idL, .cells 1 (p.map iI) 0)) (by simp [hm])) hn) (clone_own B p H.frz H.frz [] (.nil _)) fun id A H' o q => ⟨id, A, rfl, o, q⟩
 refine hc.gave fun A H1 hs hA => ⟨hs, ?_⟩
 subst hA
 have hX := hX.ext hs
 (try simp only [go_sem, reduceAdd])
 refine hX.app A rfl (by simp only [maxL]; omega) fun idn H o => ?_
 (try simp only [go_sem])
 refine st_cells o.swap (by simp) (by (try simp only [go_sem]); (try simp)) (by first | (simp only [go_sem]; done) | ((try simp only [go_sem]); simp [AV.one, one_mL])) fun H o => ?_
 simp only [wr_cons, wr_nil, List.set_cons_zero, List.set_cons_succ] at o
 (try simp only [go_sem])
 have hX : LsO iL H0 H ((idO, .cells 1 [.buf idn (out ++ [A]).length] 0) :: l) (.buf idn (out ++ [A]).length) (out ++ [A]) := .inr ⟨idn, rfl, o.swap⟩
 refine rd_get hX.obj (by simp) ?_
 (try simp only [go_sem])
 exact ⟨H, .refl _, _, by simp, hX⟩
end Go.Proofs.Shf
namespace Go.AW
open Go.Proofs Go.Shf Go.Proofs.Shf
theorem indexOf_first {l : List Int} {a : Int} (h : 0 ≤ indexOf l a) : (indexOf l a).toNat < l.length ∧ l.getD (indexOf l a).toNat default = a ∧ ∀ m, m < (indexOf l a).toNat → l.getD m default ≠ a := by
 have hm := (indexOf_mem l a).mp h
 have hi := indexOf_in hm
 refine ⟨hi.2.1, hi.2.2, fun m hml e => ?_⟩
 unfold indexOf at hml
 split at hml
 ·rename_i i hs
  rw [List.idxOf?_eq_some_iff] at hs
  obtain ⟨h1, h2, h3⟩ := hs
  have hm2 : m < i := by simpa using hml
  have h4 : m < l.length := by omega
  have := h3 m hm2
  exact this (by simpa [List.getD_eq_getElem?_getD, h4] using e)
 ·simp at hml
end Go.AW
namespace Go.Proofs.Shf
open Go.AW Go.Proofs Go.Shf
theorem solver_run (B : Nat) (sizes : List Int) (ls : List Lk) (hls : LksId sizes ls) (hsl : sizes.length ≤ 1000) (hbd : ∀ i, i < sizes.length → sizes.getD i default ≤ 1000000) (hll : ls.length ≤ 1000000) (ks vs : List AV) (hM : RulesAt ls ks vs) (most : Nat) (hmost : most ≤ 1048576) (idL idM idS idO : Nat) :
  ∀ (n : Nat) (p : List Int), unset p = n → PartN sizes p → Closed ls p → ∀ (H0 H : Heap) (l : List (Nat × MObj)) (X : AV) (out : List (List Int)),
   LsO iL H0 H ((idO, .cells 1 [X] 0) :: (idL, .cells 1 (p.map iI) 0) :: l) X out → (idM, .map ks vs) ∈ l → out.length ≤ most →
   CallH Tryz.prog B 172 [.dual [iL sizes, .mref idM, .buf idL sizes.length, .fn (.func 171) [.ref idO 0, .ptr [.int .i64 most]]] idS] H
    (fun r H' => ∃ X', r = .bool (decide (out.length + (exS sizes ls p).length ≤ most)) ∧ LsO iL H0 H' ((idO, .cells 1 [X'] 0) :: (idL, .cells 1 (p.map iI) 0) :: l) X' (out ++ (exS sizes ls p).take (most + 1 - out.length))) := by
 intro n
 induction n using Nat.strongRecOn with
 | _ n ih =>
 intro p hn hp hc H0 H l X out hX hm ho
 refine c172p (by simp) fun _ => ?_
 have hpl := hp.1
 unfold s172p
 (try simp only [go_sem, ↓reduceIte, reduceAdd, reduceLeDiff])
 refine CallH.lentPure (es := [iL p, .int .i64 (-1)]) (.int _ _) rfl (fun i hi => ?_) (index_ok B p (-1)).run ?_
 ·obtain rfl | rfl : i = 0 ∨ i = 1 := by simp only [List.length_cons, List.length_nil] at hi; omega
  ·exact lent_get (hX.get (x := (idL, .cells 1 (p.map iI) 0)) (by simp)) hpl.symm
  ·exact val_arg _
 have hib := indexOf_bd p (-1)
 (try simp only [go_sem])
 refine ⟨fun h1 => At.mk ?_, fun h1 => At.mk ?_⟩
 ·(try simp only [go_sem, ↓reduceIte, reduceAdd, reduceLeDiff])
  have h1p := of_decide h1
  have hall : ∀ m, m < p.length → p.getD m default ≠ -1 := fun m hm e => by
   have := (indexOf_mem p (-1)).mpr (mem_getD.mpr ⟨m, hm, e⟩)
   omega
  have hex : exS sizes ls p = [p] := exS_eq (lex_full (hc.cons hls hp) hall)
  rw [hex]
  refine (found_ok B most hmost p H0 H ((idL, .cells 1 (p.map iI) 0) :: l) idL idO sizes.length X out hpl.symm hX (by simp) ho).mono ?_
  rintro r H' ⟨X', rfl, hX⟩
  (try simp only [go_sem, reduceAdd])
  refine ⟨H', .refl _, X', rfl, ?_⟩
  rw [List.take_of_length_le (by simp; omega)]
  exact hX
 have h1p := of_ndecide h1
 obtain ⟨f1, f2, f3⟩ := indexOf_first (l := p) (a := -1) (by omega)
 generalize hix : indexOf p (-1) = ii at *
 obtain ⟨i, rfl⟩ : ∃ i : Nat, ii = (i : Int) := ⟨ii.toNat, by omega⟩
 rw [Int.toNat_natCast] at f1 f2 f3
 have hexS := exS_all hls hp hc f1 f2 f3
 replace hexS : exS sizes ls p = flatTo sizes ls p i (sizes.getD i default).toNat := hexS
 have hbi := hbd i (by omega)
 (try simp only [go_sem, ↓reduceIte, reduceAdd, reduceLeDiff])
 refine ⟨by omega, ?_⟩
 generalize hsz : sizes.getD i default = sz at *
 refine awp_for [0, 3, 32] (G := AV) (fun k _ => [(33, some (.int .i64 (k : Int)))])
  (fun k X H => LsO iL H0 H ((idO, .cells 1 [X] 0) :: (idL, .cells 1 (p.map iI) 0) :: l) X (out ++ flatTo sizes ls p i k) ∧ out.length + (flatTo sizes ls p i k).length ≤ most) sz.toNat X
  ⟨by rw [flatTo_zero, List.append_nil]; exact hX, by rw [flatTo_zero]; exact ho⟩ rfl ?_
 rintro k X H hk ⟨hX, hfm⟩
 replace hX : LsO iL H0 H ((idO, .cells 1 [X] 0) :: (idL, .cells 1 (p.map iI) 0) :: l) X (out ++ flatTo sizes ls p i k) := hX
 replace hfm : out.length + (flatTo sizes ls p i k).length ≤ most := hfm
 (try simp only [go_sem])
 refine ⟨fun h2 => At.mk ?_, fun h2 => At.mk ?_⟩
 rotate_left
 ·have h2p := of_ndecide h2
  (try simp only [go_sem])
  have hke : k = sz.toNat := by omega
  refine ⟨H, .refl _, X, ?_, ?_⟩
  ·rw [hexS, ← hke, decide_eq_true hfm]
  ·rw [hexS, ← hke, List.take_of_length_le (by omega)]; exact hX
 have h2p := of_decide h2
 have w2 := wsucc (k := k) (by omega)
 obtain ⟨pp, o, hpp⟩ := hX.split
 clear hX
 (try simp only [go_sem])
 refine newBuf_own o fun idE H o => ?_
 (try simp only [go_sem, reduceAdd])
 refine newRef_own o fun id5 H o => ?_
 (try simp only [go_sem])
 refine st_cells o (by simp) (by (try simp only [go_sem]); (try simp)) (by first | (simp only [go_sem]; done) | ((try simp only [go_sem]); simp [AV.one, one_mL])) fun H o => ?_
 simp only [wr_cons, wr_nil, List.set_cons_zero, List.set_cons_succ] at o
 (try simp only [go_sem])
 have hX : LsO iI H0 H ((id5, .cells 1 [.buf idE 0] 0) :: (idL, .cells 1 (p.map iI) 0) :: (pp ++ (idO, .cells 1 [X] 0) :: l)) (.buf idE 0) [] :=
  .inr ⟨idE, rfl, o.swap.perm (.cons _ (.cons _ (by
   refine (List.Perm.append_left pp (List.Perm.swap _ _ _)).trans List.perm_middle)))⟩
 clear o
 refine (set_solver B sizes ls hls hsl hll ks vs hM idL id5 idM idS (.fn (.func 171) [.ref idO 0, .ptr [.int .i64 most]]) _ p rfl hp H0 H (pp ++ (idO, .cells 1 [X] 0) :: l) (.buf idE 0) [] i k hX (by simp [hm]) f1 ⟨by omega, by omega⟩ (by
  have : unset p ≤ p.length := List.countP_le_length
  simp only [List.length_nil]; omega)).mono ?_
 rintro v H ⟨ok, p', N, X', rfl, hX, hQ, hNu⟩
 rw [List.nil_append] at hX
 obtain ⟨q, o, hq⟩ := hX.split
 have hY : LsO iL H0 H ((idO, .cells 1 [X] 0) :: (idL, .cells 1 (p'.map iI) 0) :: (q ++ (id5, .cells 1 [X'] 0) :: l)) X (out ++ flatTo sizes ls p i k) := by
  refine LsO.mk (p := pp) (o.perm ?_) hpp
  have := perm_cba (q ++ [(id5, MObj.cells 1 [X'] 0)]) [(idL, .cells 1 (p'.map iI) 0)] (pp ++ [(idO, .cells 1 [X] 0)]) l
  simpa using this
 clear o hX
 have hUn := hQ.undo
 have hfs := flatTo_succ sizes ls p i k
 have hpre := flatTo_pre sizes ls p i (k := k + 1) (m := sz.toNat) (by omega)
 have hp' : p'.length = p.length := hQ.len
 have hNb : ∀ j, j < N.length → 0 ≤ N.getD j default ∧ (N.getD j default).toNat < p'.length := fun j hj => by
  have := (hQ.new (N.getD j default)).mp (mem_getD.mpr ⟨j, hj, rfl⟩)
  exact ⟨this.1, by omega⟩
 have hNl : N.length ≤ 1000 := by
  have : unset p ≤ p.length := List.countP_le_length
  omega
 cases ok
 case' true =>
  have hee := exS_congr (ls := ls) (sizes := sizes) (hQ.ext_iff f1 f2 ⟨by omega, by omega⟩)
  (try simp only [go_sem])
  refine (ih (unset p') (by rw [← hn]; exact unset_lt hQ f1 f2 (by omega) hNu) p' rfl ⟨by omega, fun r hr => hQ.part r (by omega)⟩ (hc.set hls hp hQ) H0 H (q ++ (id5, .cells 1 [X'] 0) :: l) X (out ++ flatTo sizes ls p i k) hY (by simp [hm]) (by simp; exact hfm)).mono ?_
  clear hY
  rintro v H ⟨X2, rfl, hY⟩
  rw [← hee] at hY ⊢
  generalize hb : decide ((out ++ flatTo sizes ls p i k).length + (exS sizes ls (p.set i k)).length ≤ most) = b
  replace hb : b = decide (out.length + (flatTo sizes ls p i (k + 1)).length ≤ most) := by
   rw [← hb, hfs]; simp only [List.length_append]; congr 1; rw [Nat.add_assoc]
  (try simp only [go_sem])
 case' false =>
  have hee := hQ.none f1 f2 ⟨by omega, by omega⟩
  (try simp only [go_sem])
  generalize hX2 : X = X2 at hY
  generalize hb : true = b
  replace hb : b = decide (out.length + (flatTo sizes ls p i (k + 1)).length ≤ most) := by
   rw [← hb, hfs, hee, List.append_nil, decide_eq_true hfm]
  replace hY : LsO iL H0 H ((idO, .cells 1 [X2] 0) :: (idL, .cells 1 (p'.map iI) 0) :: (q ++ (id5, .cells 1 [X'] 0) :: l)) X2 ((out ++ flatTo sizes ls p i k) ++ (exS sizes ls (p.set i k)).take (most + 1 - (out ++ flatTo sizes ls p i k).length)) := by
   rw [hee]; simpa using hY
 all_goals
  generalize hA : (out ++ flatTo sizes ls p i k) ++ (exS sizes ls (p.set i k)).take (most + 1 - (out ++ flatTo sizes ls p i k).length) = A at hY
  have hlN := hq.lenE
  refine rd_get (hY.get (x := (id5, .cells 1 [X'] 0)) (by simp)) (by simp) ?_
  (try simp only [go_sem, hlN])
  refine awp_for [0, 3, 7, 32, 33, 47, 48] (G := Unit) (fun j _ => [(49, some (.int .i64 (j : Int)))])
   (fun j _ H => LsO iL H0 H ((idO, .cells 1 [X2] 0) :: (idL, .cells 1 ((undoL p' N j).map iI) 0) :: (q ++ (id5, .cells 1 [X'] 0) :: l)) X2 A) N.length ()
   (by rw [undo_zero]; exact hY) rfl ?_
  clear hY
  rintro j _ H hj hY
  replace hY : LsO iL H0 H ((idO, .cells 1 [X2] 0) :: (idL, .cells 1 ((undoL p' N j).map iI) 0) :: (q ++ (id5, .cells 1 [X'] 0) :: l)) X2 A := hY
  (try simp only [go_sem])
  refine ⟨fun h3 => At.mk ?_, fun h3 => At.mk ?_⟩
  ·have h3p := of_decide h3
   have wj := wsucc (k := j) (by omega)
   obtain ⟨idn, rfl, rfl⟩ := hq.sub h3p
   have hb := hNb j h3p
   (try simp only [go_sem])
   refine ⟨h3p, rd_inner (f := iI) (hY.get (x := (idn, .cells 1 (N.map iI) 0)) (by simp)) h3p ?_⟩
   (try simp only [go_sem, ↓reduceIte, reduceAdd, reduceLeDiff])
   obtain ⟨qq, o, hqq⟩ := hY.split
   refine ⟨⟨hb.1, by omega⟩, set_own (-1) (Owns.pull2 qq o) rfl (by rw [undo_len]; exact hb.2) fun H o => ?_⟩
   have hY := LsO.mk (Owns.push2 qq o) hqq
   rw [← undo_succ p' N h3p hb.1] at hY
   (try simp only [go_sem, wj])
   exact for_next () h3p hY rfl
  ·have h3p := of_ndecide h3
   have hje : j = N.length := by omega
   rw [hje, hUn] at hY
   have hY := hY.subl (l' := (idO, .cells 1 [X2] 0) :: (idL, .cells 1 (p.map iI) 0) :: l) (.cons_cons _ (.cons_cons _ ((List.sublist_cons_self _ _).trans (List.sublist_append_right _ _))))
   obtain ⟨r, hr⟩ := hpre
   cases b
   ·(try simp only [go_sem])
    have hbb := of_decide_eq_false hb.symm
    refine ⟨H, .refl _, X2, ?_, ?_⟩
    ·rw [hexS, hr, decide_eq_false]
     simp only [List.length_append]; omega
    ·rw [hexS, hr, hfs]
     rw [hfs, List.length_append] at hbb
     have e : (flatTo sizes ls p i k ++ exS sizes ls (p.set i k) ++ r).take (most + 1 - out.length) = flatTo sizes ls p i k ++ (exS sizes ls (p.set i k)).take (most + 1 - (out ++ flatTo sizes ls p i k).length) := by
      rw [List.append_assoc, List.take_append, List.take_of_length_le (by omega), List.take_append, List.length_append]
      rw [show most + 1 - out.length - (flatTo sizes ls p i k).length = most + 1 - (out.length + (flatTo sizes ls p i k).length) by omega]
      rw [show most + 1 - (out.length + (flatTo sizes ls p i k).length) - (exS sizes ls (p.set i k)).length = 0 by omega]
      simp
     rw [e, ← List.append_assoc, hA]; exact hY
   ·(try simp only [go_sem, w2])
    have hbb := of_decide_eq_true hb.symm
    refine for_next X2 (by omega) ⟨?_, hbb⟩ rfl
    rw [hfs, List.length_append] at hbb
    rw [List.take_of_length_le (by rw [List.length_append]; omega)] at hA
    rw [hfs, ← List.append_assoc, hA]; exact hY
end Go.Proofs.Shf
namespace Go.AW
theorem wk_dual2 {F : Env → Heap → Prop} {σ : Env} {H0 H : Heap} {l : List (Nat × MObj)} {id sz : Nat} {cs : List AV} {fr : Nat} {cs0 : List AV} (t k : Nat) (hf : fr ≤ k) (hk : k ≤ cs.length) (o : Owns H0 H ((id, .cells sz cs fr) :: l)) (ht : σ.get t = some (.dual cs0 id))
  (hF : ∀ H', Owns H0 H' ((id, .cells sz cs k) :: l) → wkW F ((t, some (.dual (cs.take k) id)) :: σ) H') : wkW F σ H := by
 have h1 := o.h0
 simp only at h1
 refine wkW_step (σ1 := (t, some (.dual (cs.take k) id)) :: σ) ?_ (hF _ (o.put (.cells sz cs k)))
 intro g B w tm hW hE
 obtain ⟨q1, q2⟩ := hE t _ ht
 generalize hu : tm.getD t undef = u at q2
 cases q2 with
 | dual _ _ b cap _ hio _ _ =>
  have hW1 := hW.setF h1 hio hf hk
  obtain ⟨p, hp, hr⟩ := hW.ob _ _ h1
  rw [hio] at hp; cases hp
  simp only [ObjRel] at hr
  obtain ⟨r1, r2, r3, r4, c, el, r5, r6, r7, r8⟩ := hr
  obtain ⟨g1, g2⟩ := hW1.addF b k c el (0, 0) r5 fun i p o e hp hpb => by
   by_cases hid : i = id
   ·subst hid
    rw [hio] at hp; cases hp
    simp at e
    exact ⟨_, _, _, e.symm, Nat.le_refl _⟩
   ·exfalso
    cases p with
    | nil => cases hpb
    | blk b' cap' =>
     cases hpb
     exact hW1.inj i id b cap' cap hid (by simp [e]) (by simp) hp hio
    | mp b' =>
     cases hpb
     obtain ⟨q, hq, hr⟩ := hW1.ob _ _ e
     rw [hp] at hq; cases hq
     cases o with
     | cells sz' cs' f' => simp [ObjRel] at hr
     | map ks vs =>
      simp only [ObjRel] at hr
      obtain ⟨_, _, es, clk, h5, _⟩ := hr
      rw [r5] at h5; cases h5
  refine ⟨_, g1, g2, fun s x e => ?_⟩
  simp only [Env.get] at e
  split at e
  ·rename_i hs; cases e; subst hs
   refine ⟨q1, ?_⟩
   rw [hu]
   have hlt : (cs.take k).length = k := by rw [List.length_take]; omega
   refine .dual _ id b cap (fun i => c.getD i undef) (g1.io _ _ hio) (fun i hi => ?_) (fun i hi => ?_)
   ·rw [hlt] at hi
    simp only [Gh.addF]
    have : i < c.size := by omega
    simp [hi, Array.getD, this]
   ·rw [hlt] at hi
    have e2 : (cs.take k).getD i nv = cs.getD i nv := by simp [List.getD_eq_getElem?_getD, hi]
    rw [e2]; exact (r8 i (by omega)).mono g1
  ·obtain ⟨z1, z2⟩ := hE s x e; exact ⟨z1, z2.mono g1⟩
theorem st_cells2 {H0 H : Heap} {l : List (Nat × MObj)} {K : Kont} {id sz off n fr : Nat} {cs vs : List AV} (o : Owns H0 H ((id, .cells sz cs fr) :: l)) (h0 : fr ≤ off) (h1 : off + n ≤ cs.length) (h2 : vs.length = n) (h3 : ∀ c, c ∈ vs → c.one = true)
  (hk : ∀ H', Owns H0 H' ((id, .cells sz (wr cs off vs) fr) :: l) → K nv H') : st1 (H.get id) id off n vs K H := by
 have e := o.h0
 simp only at e
 rw [e, st1_c]
 exact ⟨⟨h0, h1, h2, h3⟩, hk _ (o.put _)⟩
end Go.AW
namespace Go.Proofs.Shf
open Go.AW Go.Proofs Go.Shf
theorem repeated_own (B : Nat) (x : Int) (n : Nat) (hn : n ≤ 1048576) (H0 H : Heap) (l : List (Nat × MObj)) (o : Owns H0 H l) : CallH Tryz.prog B 170 [.int .i64 x, .int .i64 n] H (OwnK iI H0 l (· = List.replicate n x)) := by
 refine c170p (by simp) fun _ => ?_
 unfold s170p
 (try simp only [go_sem, reduceAdd])
 refine ⟨by simp [maxL]; omega, mks_list iI 0 rfl o fun id H o => ?_⟩
 (try simp only [go_sem])
 refine awp_for [0, 5, 10] (G := Unit) (fun k _ => [(11, some (.int .i64 (k : Int)))]) (fun k _ H => Owns H0 H ((id, .cells 1 ((List.replicate k x ++ List.replicate (n - k) 0).map iI) 0) :: l)) n () (by simpa using o) rfl ?_
 clear o
 rintro k _ H hk o
 replace o : Owns H0 H ((id, .cells 1 ((List.replicate k x ++ List.replicate (n - k) 0).map iI) 0) :: l) := o
 (try simp only [go_sem])
 refine ⟨fun h1 => At.mk ?_, fun h1 => At.mk ?_⟩
 ·have h1p := of_decide h1
  have w := wsucc (k := k) (by omega)
  (try simp only [go_sem])
  refine ⟨by omega, set_own x o rfl (by simp; omega) fun H o => ?_⟩
  have e : (List.replicate k x ++ List.replicate (n - k) 0).set k x = List.replicate (k + 1) x ++ List.replicate (n - (k + 1)) 0 := by
   rw [List.set_append_right _ _ (by simp), List.length_replicate, Nat.sub_self, show n - k = (n - (k + 1)) + 1 by omega, List.replicate_succ (n := n - (k + 1)), List.set_cons_zero, List.replicate_succ' (n := k), List.append_assoc]
   rfl
  rw [e] at o
  (try simp only [go_sem, w])
  exact for_next () (by omega) o rfl
 ·have h1p := of_ndecide h1
  (try simp only [go_sem])
  obtain rfl : k = n := by omega
  exact own_ret o (by simp) (by simp)
theorem take_succ_getD {α : Type} [Inhabited α] (l : List α) {k : Nat} (hk : k < l.length) : l.take (k + 1) = l.take k ++ [l.getD k default] := by
 have hN : l[k] = l.getD k default := by simp [List.getD_eq_getElem?_getD, hk]
 rw [← hN]; exact (List.take_append_getElem hk).symm
def rulesOf (ls : List Lk) (k : Nat) (ks : List Int) : List (List Lk) := ks.map fun i => (ls.take k).filter fun l => decide (l.i = i)
theorem take_filter_succ (ls : List Lk) {k : Nat} (hk : k < ls.length) (i : Int) : ((ls.take (k + 1)).filter fun l => decide (l.i = i)) = ((ls.take k).filter fun l => decide (l.i = i)) ++ if (ls.getD k default).i = i then [ls.getD k default] else [] := by
 have hN : ls[k] = ls.getD k default := by simp [List.getD_eq_getElem?_getD, hk]
 have ht : ls.take (k + 1) = ls.take k ++ [ls.getD k default] := by rw [← hN]; exact (List.take_append_getElem hk).symm
 rw [ht, List.filter_append]
 congr 1
 simp only [List.filter_cons, List.filter_nil, decide_eq_true_eq]
theorem rulesOf_in {ls : List Lk} {ks : List Int} {k : Nat} (hk : k < ls.length) (hin : (ls.getD k default).i ∈ ks) (hnd : ks.Nodup) :
  rulesOf ls (k + 1) ks = (rulesOf ls k ks).set (ks.idxOf (ls.getD k default).i) ((rulesOf ls k ks).getD (ks.idxOf (ls.getD k default).i) [] ++ [ls.getD k default]) := by
 generalize hr : ls.getD k default = r at *
 have hlt : ks.idxOf r.i < ks.length := List.idxOf_lt_length_iff.mpr hin
 apply List.ext_getElem (by simp [rulesOf])
 intro m h1 h2
 have hm : m < ks.length := by simpa [rulesOf] using h1
 have hge : ks[ks.idxOf r.i] = r.i := List.getElem_idxOf hlt
 simp only [rulesOf, List.getElem_map, List.getElem_set, take_filter_succ ls hk, hr]
 by_cases e : ks.idxOf r.i = m
 ·subst e
  rw [if_pos rfl, hge, if_pos rfl]
  simp [List.getD_eq_getElem?_getD, hlt, hge]
 ·rw [if_neg e, if_neg, List.append_nil]
  intro e2
  exact e ((List.getElem_inj hnd (h₀ := hlt) (h₁ := hm)).mp (by rw [hge, e2]))
theorem rulesOf_out {ls : List Lk} {ks : List Int} {k : Nat} (hk : k < ls.length) (hin : ¬ (ls.getD k default).i ∈ ks) (hall : ∀ l, l ∈ ls.take k → l.i ∈ ks) :
  rulesOf ls (k + 1) (ks ++ [(ls.getD k default).i]) = rulesOf ls k ks ++ [[ls.getD k default]] := by
 generalize hr : ls.getD k default = r at *
 simp only [rulesOf, List.map_append, List.map_cons, List.map_nil, take_filter_succ ls hk, hr]
 congr 1
 ·apply List.map_congr_left
  intro i hi
  rw [if_neg (show ¬ r.i = i from fun e => hin (by rw [e]; exact hi)), List.append_nil]
 ·have : ((ls.take k).filter fun l => decide (l.i = r.i)) = [] := by
   rw [List.filter_eq_nil_iff]
   intro l hl e
   have := hall l hl; rw [of_decide_eq_true e] at this; exact hin this
  rw [this]; simp
theorem rulesOf_at {ls : List Lk} {ks : List Int} (hall : ∀ l, l ∈ ls → l.i ∈ ks) : RulesAt ls (ks.map iI) ((rulesOf ls ls.length ks).map (mL rlE)) := by
 refine ⟨fun i => okKey_iI i ks, fun i => ?_⟩
 rw [mget_iI (by simp [rulesOf])]
 by_cases hi : i ∈ ks
 ·left
  have hlt : ks.idxOf i < ks.length := List.idxOf_lt_length_iff.mpr hi
  have hge : ks[ks.idxOf i] = i := List.getElem_idxOf hlt
  simp [rulesOf, hlt, hge]
 ·right
  have hlt : ks.idxOf i = ks.length := List.idxOf_eq_length hi
  refine ⟨by simp [rulesOf, hlt], ?_⟩
  rw [List.filter_eq_nil_iff]
  intro l hl e
  have := hall l hl; rw [of_decide_eq_true e] at this; exact hi this
theorem solve_ok (B : Nat) (sizes : List Int) (ls : List Lk) (hls : LksId sizes ls) (hsl : sizes.length ≤ 1000) (hbd : ∀ i, i < sizes.length → sizes.getD i default ≤ 1000000) (hll : ls.length ≤ 1000000) (most : Nat) (hmost : most ≤ 1048576) :
  Pur Tryz.prog B 134 [iL sizes, mL rlE ls, .int .i64 most] (.tup [iLL ((solS sizes ls).take (most + 1)), .bool (decide ((solS sizes ls).length ≤ most))]) := by
 refine ⟨fun H0 => c134p (by simp) fun _ => ?_⟩
 unfold s134p
 (try simp only [go_sem, reduceAdd])
 refine newBuf_own (.nil _) fun idE H o => ?_
 (try simp only [go_sem, reduceAdd])
 refine newRef_own o fun idO H o => ?_
 (try simp only [go_sem])
 refine st_cells o (by simp) (by (try simp only [go_sem]); (try simp)) (by first | (simp only [go_sem]; done) | ((try simp only [go_sem]); simp [AV.one, one_mL])) fun H o => ?_
 simp only [wr_cons, wr_nil, List.set_cons_zero, List.set_cons_succ] at o
 (try simp only [go_sem])
 refine newMap_own o fun idM H o => ?_
 (try simp only [go_sem])
 refine (repeated_own B (-1) sizes.length (by omega) H0 H _ o).own fun idL A H o hA => ?_
 rw [hA] at o
 have hAl : A.length = sizes.length := by rw [hA]; simp
 rw [hAl]
 clear hA hAl
 have hmc : (AV.mref idM).cells = [.mref idM] := rfl
 (try simp only [go_sem, reduceAdd, reduceLeDiff, hmc, wr_cons, wr_nil, List.set_cons_zero, List.set_cons_succ])
 refine ⟨by simp [maxL], newRef_own o fun idS H o => ?_⟩
 (try simp only [go_sem])
 refine wk_dual 9 3 (by simp) o rfl fun H o => wkW_done ?_
 simp only [List.take_succ_cons, List.take_zero]
 (try simp only [go_sem])
 refine awp_for [5, 8, 9, 21, 22] (G := List Int × List AV × List (Nat × MObj)) (fun k _ => [(23, some (.int .i64 (k : Int)))])
  (fun k g H => LsRn 3 rlE g.2.1 (rulesOf ls k g.1) g.2.2 ∧ g.1.Nodup ∧ (∀ l, l ∈ ls.take k → l.i ∈ g.1) ∧
   Owns H0 H ((idM, .map (g.1.map iI) g.2.1) :: (g.2.2 ++ [(idS, .cells 4 [iL sizes, AV.mref idM, AV.buf idL sizes.length, AV.nilf] 3), (idL, .cells 1 ((List.replicate sizes.length (-1)).map iI) 0), (idO, .cells 1 [AV.buf idE 0] 0), (idE, .cells 1 [] 0)])))
  ls.length ([], [], []) ⟨.nil, .nil, by simp, o.perm (by
   refine List.Perm.trans ?_ (List.Perm.swap _ _ _)
   exact .cons _ (.swap _ _ _))⟩ rfl ?_
 clear o
 rintro k ⟨ks, Xs, ob⟩ H hk ⟨hR, hnd, hin, o⟩
 replace hR : LsRn 3 rlE Xs (rulesOf ls k ks) ob := hR
 replace hnd : ks.Nodup := hnd
 replace hin : ∀ l, l ∈ ls.take k → l.i ∈ ks := hin
 replace o : Owns H0 H ((idM, .map (ks.map iI) Xs) :: (ob ++ [(idS, .cells 4 [iL sizes, AV.mref idM, AV.buf idL sizes.length, AV.nilf] 3), (idL, .cells 1 ((List.replicate sizes.length (-1)).map iI) 0), (idO, .cells 1 [AV.buf idE 0] 0), (idE, .cells 1 [] 0)])) := o
 (try simp only [go_sem])
 have hXl : Xs.length = ks.length := by have := hR.len; simpa [rulesOf] using this
 refine ⟨fun h1 => At.mk ?_, fun h1 => At.mk ?_⟩
 ·have h1p := of_decide h1
  have w := wsucc (k := k) (by omega)
  (try simp only [go_sem, reduceAdd])
  refine ⟨h1p, ?_⟩
  refine ⟨by simp [maxL], newRef_own o fun id11 H o => ?_⟩
  generalize hr : ls.getD k default = r at *
  (try simp only [go_sem])
  refine st_cells o (by simp) (by (try simp only [go_sem]); (try simp)) (by first | (simp only [go_sem]; done) | ((try simp only [go_sem]); simp [AV.one, one_mL])) fun H o => ?_
  simp only [wr_cons, wr_nil, List.set_cons_zero, List.set_cons_succ] at o
  (try simp only [go_sem])
  refine wk_ref 11 o rfl fun H o => wkW_done ?_
  have hg : H.get idM = some (.map (ks.map iI) Xs) := o.h0
  (try simp only [go_sem, ↓reduceIte, reduceAdd, reduceLeDiff])
  rw [hg]
  (try simp only [go_sem, reduceAdd])
  refine ⟨okKey_iI _ _, ?_⟩
  rw [mget_iI hXl]
  by_cases hi : r.i ∈ ks
  ·have hlt : ks.idxOf r.i < ks.length := List.idxOf_lt_length_iff.mpr hi
   obtain ⟨p, rest, h2, h3, h4⟩ := hR.split (ks.idxOf r.i) (by omega)
   have e1 : (Xs[ks.idxOf r.i]?).getD .nilsl = Xs.getD (ks.idxOf r.i) nv := by simp [List.getD_eq_getElem?_getD, hXl, hlt]
   rw [e1]
   have o := o.perm (List.Perm.cons _ (List.Perm.append_right _ h2)) |>.perm (l := _) (r := p ++ ((idM, .map (ks.map iI) Xs) :: (rest ++ _))) (by
    rw [List.append_assoc]; exact List.perm_middle.symm)
   have hAl : ((rulesOf ls k ks).getD (ks.idxOf r.i) []).length ≤ ls.length := by
    simp [rulesOf, List.getD_eq_getElem?_getD, hlt]
    exact Nat.le_trans (List.length_filter_le _ _) (by rw [List.length_take]; omega)
   refine h3.app (f := rlE) o r rfl (by simp only [maxL]; omega) fun idn H o => ?_
   generalize hA : (rulesOf ls k ks).getD (ks.idxOf r.i) [] = A at *
   have hg : H.get idM = some (.map (ks.map iI) Xs) := o.tl.h0
   (try simp only [go_sem])
   rw [hg]
   (try simp only [go_sem])
   rw [mput_iI _ _ hXl, if_pos hi]
   (try simp only [go_sem, w])
   obtain ⟨ob', q1, q2⟩ := h4 (.buf idn (A ++ [r]).length) (A ++ [r]) [(idn, .cells 3 (flat ((A ++ [r]).map rlE)) 0)] (.inr ⟨idn, rfl, rfl⟩)
   refine ⟨okKey_iI _ _, for_next (ks, Xs.set (ks.idxOf r.i) (.buf idn (A ++ [r]).length), ob') h1p ⟨?_, hnd, ?_, ?_⟩ rfl⟩
   ·have := rulesOf_in h1p (by rw [hr]; exact hi) hnd
    rw [hr, hA] at this
    show LsRn 3 rlE _ (rulesOf ls (k + 1) ks) ob'
    rw [this]; exact q1
   ·intro l hl
    rw [take_succ_getD ls h1p, List.mem_append, List.mem_singleton, hr] at hl
    rcases hl with hl | rfl
    ·exact hin l hl
    ·exact hi
   ·exact (o.swap.put _).perm (.cons _ (by
     rw [← List.cons_append]
     exact List.Perm.append_right _ q2.symm))
  ·have hlt : ks.idxOf r.i = ks.length := List.idxOf_eq_length hi
   have e1 : (Xs[ks.idxOf r.i]?).getD .nilsl = .nilsl := by simp [hXl, hlt]
   rw [e1]
   have hN : LsPn 3 rlE [] .nilsl ([] : List Lk) := .inl ⟨rfl, rfl, rfl⟩
   refine hN.app (f := rlE) (by exact o) r rfl (by simp [maxL]) fun idn H o => ?_
   have hg : H.get idM = some (.map (ks.map iI) Xs) := o.tl.h0
   (try simp only [go_sem])
   rw [hg]
   (try simp only [go_sem])
   rw [mput_iI _ _ hXl, if_neg hi]
   (try simp only [go_sem, w])
   refine ⟨okKey_iI _ _, for_next (ks ++ [r.i], Xs ++ [.buf idn ([] ++ [r]).length], ob ++ [(idn, .cells 3 (flat (([] ++ [r]).map rlE)) 0)]) h1p ⟨?_, ?_, ?_, ?_⟩ rfl⟩
   ·have := rulesOf_out h1p (by rw [hr]; exact hi) hin
    rw [hr] at this
    show LsRn 3 rlE _ (rulesOf ls (k + 1) (ks ++ [r.i])) _
    rw [this]; exact hR.snoc (.inr ⟨idn, rfl, rfl⟩)
   ·rw [List.nodup_append]
    refine ⟨hnd, by simp, fun a ha b hb => ?_⟩
    rw [List.mem_singleton] at hb
    subst hb
    rintro rfl
    exact hi ha
   ·intro l hl
    rw [take_succ_getD ls h1p, List.mem_append, List.mem_singleton, hr] at hl
    show l.i ∈ ks ++ [r.i]
    rw [List.mem_append, List.mem_singleton]
    rcases hl with hl | rfl
    ·exact .inl (hin l hl)
    ·exact .inr rfl
   ·refine (o.swap.put _).perm (.cons _ ?_)
    rw [List.append_assoc]
    exact List.perm_middle.symm
 ·have h1p := of_ndecide h1
  (try simp only [go_sem])
  obtain rfl : k = ls.length := by omega
  refine wk_map hR [] H (by exact o) fun H o => wkW_done ?_
  clear hR
  have hfc : (AV.fn (.func 171) [.ref idO 0, .ptr [.int .i64 most]]).cells = [.fn (.func 171) [.ref idO 0, .ptr [.int .i64 most]]] := rfl
  have o := Owns.pull [_] o
  (try simp only [go_sem, ↓reduceIte, reduceAdd, reduceLeDiff, hfc])
  refine st_cells2 o (by simp) (by simp) rfl (by simp only [memcons, memnil]; exact ⟨rfl, trivial⟩) fun H o => ?_
  simp only [wr_cons, wr_nil, List.set_cons_zero, List.set_cons_succ] at o
  rw [List.nil_append] at o
  refine wk_dual2 9 4 (by simp) (by simp) o rfl fun H o => wkW_done ?_
  simp only [List.take_succ_cons, List.take_zero]
  have hM := rulesOf_at (ls := ls) (ks := ks) (by simpa using hin)
  have hX : LsO iL H0 H ((idO, .cells 1 [.buf idE 0] 0) :: (idL, .cells 1 ((List.replicate sizes.length (-1)).map iI) 0) :: [(idM, .map (ks.map iI) ((rulesOf ls ls.length ks).map (mL rlE))), (idS, .cells 4 [iL sizes, AV.mref idM, AV.buf idL sizes.length, .fn (.func 171) [.ref idO 0, .ptr [.int .i64 most]]] 4)]) (.buf idE 0) [] :=
   .inr ⟨idE, rfl, o.perm (List.reverse_perm _).symm⟩
  clear o
  have hneg : ∀ i : Int, 0 ≤ i → i.toNat < sizes.length → ix (List.replicate sizes.length (-1)) i = -1 := fun i h0 h1 => by
   simp [ix, List.getD_eq_getElem?_getD, h1]
  (try simp only [go_sem])
  refine (solver_run B sizes ls hls hsl hbd hll _ _ hM most hmost idL idM idS idO _ (List.replicate sizes.length (-1)) rfl ⟨by simp, fun q hq => .inl (by
   rw [List.length_replicate] at hq
   simp [List.getD_eq_getElem?_getD, hq])⟩ (fun l hl h0 => by
    have a := hls.ok.i l hl
    rw [hneg _ a.1 a.2] at h0; omega) H0 H _ (.buf idE 0) [] hX (by simp) (by simp)).mono ?_
  clear hX
  rintro r H ⟨X, rfl, hX⟩
  rw [List.nil_append, List.length_nil, Nat.sub_zero] at hX
  rw [List.length_nil, Nat.zero_add]
  have hso : exS sizes ls (List.replicate sizes.length (-1)) = solS sizes ls := rfl
  rw [hso] at hX ⊢
  (try simp only [go_sem])
  refine rd_get hX.obj (by simp) ?_
  (try simp only [go_sem])
  rcases hX with ⟨rfl, e, o⟩ | ⟨id, rfl, o⟩
  ·(try simp only [go_sem])
   exact pure_ret (by rw [e]; rfl) o.sub
  ·(try simp only [go_sem])
   refine fz_own o rfl fun H o => ?_
   (try simp only [go_sem])
   exact pure_ret rfl o.sub
end Go.Proofs.Shf
namespace Go.Shf
open Go.AW
def lkAt (f : SF) (s : List Int) (i : Nat) (b : Int) : Lk := ⟨(i : Int), indexOf s (ix (ix f.shape.comp (s.getD i default)) b), ix f.acts b, natsL (ix (famSizes f s) (indexOf s (ix (ix f.shape.comp (s.getD i default)) b)))⟩
theorem lks_at (f : SF) (s : List Int) (i : Nat) : ((rowsAt f.shape s i f.shape.frm.length).map (lkOf f s)) = (outs f.shape (ix f.shape.to (s.getD i default))).map (lkAt f s i) := by
 rw [rowsAt, outs, List.map_map, List.map_map]
 rfl
theorem lksTo_succ (f : SF) (s : List Int) (k : Nat) : (rowsTo f.shape s (k + 1)).map (lkOf f s) = (rowsTo f.shape s k).map (lkOf f s) ++ (outs f.shape (ix f.shape.to (s.getD k default))).map (lkAt f s k) := by
 rw [rowsTo_succ, List.map_append, lks_at]
theorem lksId {f : SF} {x : Int} {s : List Int} (h : f.Shape) (hs : f.shape.Sieve x s) : LksId (famSizes f s) (famLinks f s) := by
 refine ⟨lksOk h hs, fun l hl => ?_, fun l hl y hy => ?_⟩
 ·obtain ⟨r, hr, rfl⟩ := List.mem_map.mp hl
  rfl
 ·obtain ⟨r, hr, rfl⟩ := List.mem_map.mp hl
  obtain ⟨i, hi, b, hb, e, rfl⟩ := mem_rowsOf.mp hr
  have hx := sieve_idx h hs hi hb e
  have ha := h.act b (by rw [h.al]; exact hb)
  simp only [lkOf, lkRow, List.getD_cons_zero, List.getD_cons_succ, ix_nat] at hy ⊢
  have h1 := ha.2 y hy
  have h3 := (fam_size h hs hx.1.2).1
  have e2 : ix (famSizes f s) (indexOf s (ix (ix f.shape.comp (s.getD i default)) b)) = ix f.sizes (f.shape.to.getD b default) := by
   have h4 := hx.2.1
   simp only [ix] at h3 h4 ⊢
   rw [h3, h4]
   have h5 := hx.2.2
   simp only [ix, Int.toNat_natCast] at h5
   simp only [Int.toNat_natCast]
   rw [h5]
  simp only [ix, Int.toNat_natCast] at e2 h1 ⊢
  rw [e2]; exact h1
end Go.Shf
namespace Go.Proofs.Shf
open Go.AW Go.Proofs Go.Shf
theorem rules_ok (B : Nat) (f : SF) (h : f.Shape) (x : Int) (s : List Int) (hs : f.shape.Sieve x s) : Pur Tryz.prog B 133 [.ptr f.cells, iL s] (.tup [iL (famSizes f s), mL rlE (famLinks f s)]) := by
 refine ⟨fun H0 => c133 (by simp) fun hfi => ?_⟩
 have hm := h.is.1.m
 have hob := h.is.1.o
 have htl := h.is.1.tol
 have hsl := h.sl
 have hal := h.al
 have hsn := hs.len
 unfold s133
 (try simp only [go_sem, reduceAdd, reduceLeDiff])
 refine newBuf_own (.nil _) fun id7 H o => ?_
 (try simp only [go_sem])
 refine newBuf_own o fun id8 H o => ?_
 (try simp only [go_sem])
 refine awp_for [0, 1, 6, 18, 19] (G := Nat × Nat) (fun k g => [(7, some (.buf g.1 k)), (8, some (.buf g.2 ((rowsTo f.shape s k).map (lkOf f s)).length)), (20, some (.int .i64 (k : Int)))])
  (fun k g H => Owns H0 H [(g.2, .cells 3 (flat (((rowsTo f.shape s k).map (lkOf f s)).map rlE)) 0), (g.1, .cells 1 (((famSizes f s).take k).map iI) 0)]) s.length (id7, id8) o rfl ?_
 clear o
 rintro k ⟨id7, id8⟩ H hk o
 replace o : Owns H0 H [(id8, .cells 3 (flat (((rowsTo f.shape s k).map (lkOf f s)).map rlE)) 0), (id7, .cells 1 (((famSizes f s).take k).map iI) 0)] := o
 (try simp only [go_sem])
 refine ⟨fun h1 => At.mk ?_, fun h1 => At.mk ?_⟩
 ·have h1p := of_decide h1
  have w := wsucc (k := k) (by omega)
  have hsm := hs.arr (mem_getD.mpr ⟨k, h1p, rfl⟩)
  have hto := h.is.1.toObj hsm.1.2
  have hsk : ix f.sizes (ix f.shape.to (s.getD k default)) = (famSizes f s).getD k default := (fam_size h hs h1p).1.symm
  have hfl : (famSizes f s).length = s.length := by simp [famSizes]
  (try simp only [go_sem, reduceAdd, reduceLeDiff])
  refine ⟨h1p, ⟨hsm.1.1, by omega⟩, ⟨hto.1, by omega⟩, ?_⟩
  rw [hsk]
  refine app_own (f := iI) ((famSizes f s).getD k default) o.swap rfl (by rw [List.length_take]; omega) (by rw [List.length_take]; simp only [maxL]; omega) fun id7 H o => ?_
  rw [← take_succ_getD _ (by omega)] at o ⊢
  (try simp only [go_sem, reduceAdd, reduceLeDiff])
  refine ⟨⟨hsm.1.1, by omega⟩, ?_⟩
  refine (outOf_ok B f.shape _).go fun _ => ?_
  generalize hL : outs f.shape (ix f.shape.to (s.getD k default)) = L at *
  (try simp only [go_sem])
  have hLl : L.length ≤ 40 := by
   rw [← hL, outs, List.length_map]
   refine Nat.le_trans (List.length_filter_le _ _) ?_
   rw [List.length_range]; omega
  have hMl := rowsTo_len f.shape s k
  have hMl2 : ((rowsTo f.shape s k).map (lkOf f s)).length ≤ 1600 := by
   rw [List.length_map]
   refine Nat.le_trans hMl (Nat.le_trans (Nat.mul_le_mul (show k ≤ 40 by omega) hm) (by omega))
  generalize hM : (rowsTo f.shape s k).map (lkOf f s) = M at *
  have w2 : ((famSizes f s).take (k + 1)).length = k + 1 := by rw [List.length_take]; omega
  rw [w2]
  refine awp_for [0, 1, 6, 7, 9, 10, 18, 19, 20, 49, 50] (G := Nat) (fun j g => [(8, some (.buf g (M ++ (L.take j).map (lkAt f s k)).length)), (51, some (.int .i64 (j : Int)))])
   (fun j g H => Owns H0 H [(g, .cells 3 (flat ((M ++ (L.take j).map (lkAt f s k)).map rlE)) 0), (id7, .cells 1 (((famSizes f s).take (k + 1)).map iI) 0)]) L.length id8 (by simpa using o.swap) (by simp only [List.take_zero, List.map_nil, List.append_nil]; rfl) ?_
  clear o
  rintro j id8 H hj o
  replace o : Owns H0 H [(id8, .cells 3 (flat ((M ++ (L.take j).map (lkAt f s k)).map rlE)) 0), (id7, .cells 1 (((famSizes f s).take (k + 1)).map iI) 0)] := o
  (try simp only [go_sem])
  refine ⟨fun h2 => At.mk ?_, fun h2 => At.mk ?_⟩
  ·have h2p := of_decide h2
   have w3 := wsucc (k := j) (by omega)
   have hLj : L.getD j default ∈ L := mem_getD.mpr ⟨j, h2p, rfl⟩
   rw [← hL] at hLj
   have hb := mem_outs.mp hLj
   rw [hL] at hb
   generalize hbv : L.getD j default = b at *
   (try simp only [go_sem, reduceAdd, reduceLeDiff])
   refine ⟨h2p, ?_⟩
   rw [hbv]
   have hcl := h.is.1.cl
   have hrw := h.is.1.row (s.getD k default).toNat hsm.1.2
   refine ⟨_, (catThen_ok B f.shape (s.getD k default) b ⟨hsm.1.1, by omega⟩ ⟨hb.1, by simp only [ix]; omega⟩).run, ?_⟩
   refine ⟨_, (index_ok B s _).run, ⟨hb.1, by omega⟩, ?_⟩
   have hcc : ∀ z : Int, (AV.int .i64 z).cells = [.int .i64 z] := fun _ => rfl
   simp only [hcc, wr_cons, wr_nil, List.set_cons_zero, List.set_cons_succ]
   refine ⟨by simp, ⟨rfl, by simp only [memcons, memnil]; exact ⟨rfl, rfl, rfl, trivial⟩⟩, ?_⟩
   refine app_ownN (f := rlE) (lkAt f s k b) o rfl rfl (by simp only [List.length_append, List.length_map, List.length_take, maxL]; omega) fun id9 H o => ?_
   have e : (M ++ (L.take j).map (lkAt f s k)) ++ [lkAt f s k b] = M ++ (L.take (j + 1)).map (lkAt f s k) := by
    rw [take_succ_getD L h2p, hbv, List.map_append, ← List.append_assoc]; rfl
   rw [e] at o ⊢
   (try simp only [go_sem, w3])
   exact for_next id9 h2p o rfl
  ·have h2p := of_ndecide h2
   obtain rfl : j = L.length := by omega
   have e := lksTo_succ f s k
   rw [hM, hL] at e
   rw [List.take_length, ← e] at o ⊢
   (try simp only [go_sem, w])
   exact for_next (id7, id8) h1p o rfl
 ·have h1p := of_ndecide h1
  obtain rfl : k = s.length := by omega
  (try simp only [go_sem])
  refine fz_own o.swap ?_ fun H o => ?_
  ·simp [famSizes]
  refine fz_ownN o rfl fun H o => ?_
  (try simp only [go_sem])
  exact pure_ret (by rw [List.take_of_length_le (by simp [famSizes])]; rfl) o.sub
theorem families_ok (B : Nat) (f : SF) (h : f.Shape) (x : Int) (s : List Int) (hs : f.shape.Sieve x s) (most : Nat) (hmost : most ≤ 1048576) :
  Pur Tryz.prog B 89 [.ptr f.cells, iL s, .int .i64 most] (.tup [iLL ((famS f s).take (most + 1)), .bool (decide ((famS f s).length ≤ most))]) := by
 refine ⟨fun H0 => c89 (by simp) fun hfi => ?_⟩
 have hm := h.is.1.m
 have hsn := hs.len
 have hfl : (famSizes f s).length = s.length := by simp [famSizes]
 unfold s89
 (try simp only [go_sem, reduceAdd])
 refine (rules_ok B f h x s hs).go fun _ => ?_
 (try simp only [go_sem, reduceAdd, reduceLT])
 refine (solve_ok B (famSizes f s) (famLinks f s) (lksId h hs) (by omega) (fun i hi => ?_) ?_ most hmost).go fun _ => ?_
 ·have := (fam_size h hs (i := i) (by omega)).2.2
  omega
 ·rw [famLinks, List.length_map]
  refine Nat.le_trans (rowsTo_len f.shape s s.length) (Nat.le_trans (Nat.mul_le_mul (show s.length ≤ 40 by omega) hm) (by omega))
 (try simp only [go_sem, reduceAdd, reduceLT])
 exact pure_ret rfl (.refl _)
end Go.Proofs.Shf
namespace Go.Shf
open Go.AW Go.Proofs.Shf
abbrev iB : Int → AV := AV.int .u8
instance : One iB := ⟨fun _ => rfl, fun _ => rfl⟩
def keyB (L : List (List Int)) : List Int := L.flatMap fun l => l.map IntKind.u8.wrap ++ [255]
def keyS (L : List (List Int)) : List UInt8 := (keyB L).map fun n => UInt8.ofNat n.toNat
def plS (L : List (List Int)) : Nat → List AV × List AV
 | 0 => ([], [])
 | k + 1 => mput (.str (keyS [L.getD k default])) (iI k) (plS L k).1 (plS L k).2
end Go.Shf
namespace Go.Proofs.Shf
open Go.AW Go.Proofs Go.Shf
end Go.Proofs.Shf
namespace Go.Shf
open Go.AW
end Go.Shf
namespace Go.Shf
open Go.AW
structure Cov where
 shape : Cat
 sizes : List Int
 pulls : List (List Int)
 sieves : List (List (List Int))
 marks : List (List Bool)
@[go_sem] def Cov.cls (v : Cov) : List AV := [iI v.shape.objs, iL v.shape.frm, iL v.shape.to, iL v.shape.idn, iLL v.shape.comp, iL v.sizes, iLL v.pulls, iLLL v.sieves]
@[go_sem] def Cov.cells (v : Cov) (cnt : AV) : List AV := [.ptr v.cls, .ptr v.shape.cells, mL (mL AV.bool) v.marks, cnt]
end Go.Shf
namespace Go.Proofs.Shf
open Go.AW Go.Proofs Go.Shf
end Go.Proofs.Shf
