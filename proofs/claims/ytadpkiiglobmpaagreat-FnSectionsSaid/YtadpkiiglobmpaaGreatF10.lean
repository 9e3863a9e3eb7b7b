/- A part of a proof. -/
import Derived.Test.YtadpkiiglobmpaaGreatF9
set_option linter.unusedVariables false
set_option linter.unusedSimpArgs false
set_option linter.unusedSectionVars false
open Nat (reduceEqDiff reduceAdd reduceMul reduceLeDiff reduceLT)
namespace Go.AW
end Go.AW
namespace Go.Shf
open Go.AW Go.Proofs.Shf
end Go.Shf
namespace Go.Proofs.Shf
open Go.AW Go.Proofs Go.Shf
end Go.Proofs.Shf
namespace Go.AW
end Go.AW
namespace Go.Proofs.Shf
open Go.AW Go.Proofs Go.Shf
end Go.Proofs.Shf
namespace Go.Proofs.Shf
open Go.AW Go.Proofs Go.Shf
end Go.Proofs.Shf
namespace Go.AW
theorem set_selfT {l : List AV} {i : Nat} (h : i < l.length) : l.set i (l.getD i nv) = l := by
 apply List.ext_getElem?
 intro j
 by_cases e : j = i
 ·subst e; simp [List.getD_eq_getElem?_getD, h]
 ·rw [List.getElem?_set_ne (by omega)]
theorem LsG.lenT {α : Type} {O : Ob → AV → α → Prop} {p : Ob} {X : AV} {A : List α} (h : LsG O p X A) : lenE (some X) = some (True, .int .i64 A.length) := by
 rcases h with ⟨_, rfl, rfl⟩ | ⟨id, Xs, o, _, rfl, hr⟩
 ·rfl
 ·simp [Go.AW.lenE, hr.len]
theorem LsG.posT {α : Type} {O : Ob → AV → α → Prop} {p : Ob} {X : AV} {A : List α} (h : LsG O p X A) {i : Nat} (hi : i < A.length) : ∃ id Xs o, p = (id, .cells 1 Xs 0) :: o ∧ X = .buf id Xs.length ∧ RowsG O Xs A o := by
 rcases h with ⟨_, _, rfl⟩ | h
 ·simp at hi
 ·exact h
theorem Owns.rowT {α : Type} [Inhabited α] {O : Ob → AV → α → Prop} {H0 H : Heap} {l q : Ob} {id : Nat} {Xs : List AV} {A : List α} (o : Owns H0 H (((id, .cells 1 Xs 0) :: q) ++ l)) (hr : RowsG O Xs A q) {i : Nat} (hi : i < Xs.length) :
  ∃ p r, Owns H0 H (p ++ ((id, .cells 1 Xs 0) :: (r ++ l))) ∧ O p (Xs.getD i nv) (A.getD i default) ∧
   ∀ a' p' H', O p' (Xs.getD i nv) a' → Owns H0 H' (p' ++ ((id, .cells 1 Xs 0) :: (r ++ l))) → ∃ q', RowsG O Xs (A.set i a') q' ∧ Owns H0 H' (((id, .cells 1 Xs 0) :: q') ++ l) := by
 obtain ⟨p, r, h1, h2, h3⟩ := hr.split i hi
 refine ⟨p, r, o.perm ?_, h2, fun a' p' H' hO o' => ?_⟩
 ·refine List.Perm.trans ?_ (List.perm_middle (a := (id, MObj.cells 1 Xs 0)) (l₁ := p) (l₂ := r ++ l)).symm
  refine List.Perm.cons _ ?_
  rw [← List.append_assoc]
  exact List.Perm.append_right l h1
 ·obtain ⟨q', k1, k2⟩ := h3 _ _ _ hO
  rw [set_selfT hi] at k1
  refine ⟨q', k1, o'.perm ?_⟩
  refine List.Perm.trans (List.perm_middle (a := (id, MObj.cells 1 Xs 0)) (l₁ := p') (l₂ := r ++ l)) ?_
  refine List.Perm.cons _ ?_
  rw [← List.append_assoc]
  exact List.Perm.append_right l k2.symm
theorem RowsG.intsT {Xs : List AV} {l : List Int} {o : Ob} (h : RowsG OI Xs l o) : o = [] ∧ Xs = l.map iI := by
 induction h with
 | nil => exact ⟨rfl, rfl⟩
 | cons h _ ih => exact ⟨by rw [h.1, ih.1]; rfl, by rw [h.2, ih.2]; rfl⟩
theorem rowsIT : ∀ (l : List Int), RowsG OI (l.map iI) l []
 | [] => .nil
 | a :: r => .cons (p := []) ⟨rfl, rfl⟩ (rowsIT r)
theorem LsG.appT {α : Type} {O : Ob → AV → α → Prop} {p q l : Ob} {X Y : AV} {A : List α} {a : α} {H0 H : Heap} {K : Kont} (h : LsG O q X A) (hy : O p Y a) (h1 : Y.cells = [Y] ∧ Y.one = true) (o : Owns H0 H (p ++ (q ++ l))) (hm : A.length + 1 ≤ maxL)
  (hk : ∀ X' q' H', X'.one = true → LsG O q' X' (A ++ [a]) → Owns H0 H' (q' ++ l) → K X' H') : appW 1 (some X) (some (.sl [Y])) K H := by
 have hok : okEls 1 [Y] := by
  intro e he
  rw [List.mem_singleton] at he; subst he
  rw [h1.1]
  exact ⟨rfl, fun c hc => by rw [List.mem_singleton] at hc; subst hc; exact h1.2⟩
 have hfl : flat [Y] = [Y] := by simp [flat, h1.1]
 rcases h with ⟨rfl, rfl, rfl⟩ | ⟨id, Xs, r, rfl, rfl, hr⟩
 ·simp only [appW, srcOf, app1]
  refine ⟨⟨by simp [maxL], by simp [maxL], hok⟩, fun id hn => ?_⟩
  rw [hfl]
  refine hk (.buf id 1) ((id, .cells 1 [Y] 0) :: p) _ rfl (.inr ⟨id, [Y], p, rfl, rfl, ?_⟩) ?_
  ·have := RowsG.cons hy RowsG.nil
   rw [List.append_nil] at this; exact this
  ·have := o.new hn (.cells 1 [Y] 0)
   simpa using this
 ·have o2 : Owns H0 H ((id, .cells 1 Xs 0) :: (p ++ (r ++ l))) := by
   refine o.perm ?_
   simp
  have h0 := o2.h0
  simp only at h0
  have hl := hr.len
  simp only [appW, h0, srcOf, app2]
  refine ⟨⟨trivial, by simp, by simp; omega, by simp; omega, hok⟩, fun id' hn => ?_⟩
  rw [hfl]
  refine hk (.buf id' (Xs.length + 1)) ((id', .cells 1 (Xs ++ [Y]) 0) :: (r ++ p)) _ rfl (.inr ⟨id', Xs ++ [Y], r ++ p, rfl, by simp, ?_⟩) ?_
  ·refine hr.app ?_
   have := RowsG.cons hy RowsG.nil
   rw [List.append_nil] at this; exact this
  ·have := o2.mv hn (.cells 1 (Xs ++ [Y]) 0)
   refine this.perm (List.Perm.cons _ ?_)
   rw [← List.append_assoc]
   exact List.Perm.append_right l List.perm_append_comm
theorem tab_row {H0 H : Heap} {q l : Ob} {X : AV} {p : List (List Int)} (hX : OLL q X p) (o : Owns H0 H (q ++ l)) {y : Nat} (hy : y < p.length) :
  ∃ idX Xs, X = .buf idX Xs.length ∧ Xs.length = p.length ∧ H.get idX = some (.cells 1 Xs 0) ∧ ∃ pr, OL pr (Xs.getD y nv) (p.getD y default) ∧ ∀ x, x ∈ pr → H.get x.1 = some x.2 := by
 obtain ⟨idX, Xs, r, rfl, rfl, hr⟩ := hX.posT hy
 have hl := hr.len
 obtain ⟨pr, r2, o2, hO, _⟩ := o.rowT hr (i := y) (by omega)
 exact ⟨idX, Xs, rfl, hl, o.h0, pr, hO, fun x hx => o2.get x (List.mem_append_left _ hx)⟩
theorem tab_cell {H0 H : Heap} {q l : Ob} {X : AV} {p : List (List Int)} (hX : OLL q X p) (o : Owns H0 H (q ++ l)) {y i : Nat} (hy : y < p.length) (hi : i < (p.getD y default).length) :
  ∃ idX Xs idR, X = .buf idX Xs.length ∧ Xs.length = p.length ∧ H.get idX = some (.cells 1 Xs 0) ∧ Xs.getD y nv = .buf idR (p.getD y default).length ∧ H.get idR = some (.cells 1 ((p.getD y default).map iI) 0) ∧
   ∀ (k : Int) (K : Kont), (∀ q' H', OLL q' X (p.set y ((p.getD y default).set i k)) → Owns H0 H' (q' ++ l) → K nv H') → st1 (H.get idR) idR i 1 [iI k] K H := by
 obtain ⟨idX, Xs, r, rfl, rfl, hr⟩ := hX.posT hy
 have hl := hr.len
 obtain ⟨pr, r2, o2, hO, back⟩ := o.rowT hr (i := y) (by omega)
 obtain ⟨idR, Ys, rr, rfl, hY, hrr⟩ := hO.posT hi
 obtain ⟨rfl, rfl⟩ := hrr.intsT
 rw [List.length_map] at hY
 refine ⟨idX, Xs, idR, rfl, hl, o.h0, hY, o2.h0, fun k K hk => ?_⟩
 refine set_own (f := iI) k o2 rfl hi fun H' o3 => ?_
 obtain ⟨q', hr', o4⟩ := back ((p.getD y default).set i k) [(idR, .cells 1 (((p.getD y default).set i k).map iI) 0)] H' (by rw [hY]; exact .inr ⟨idR, _, [], rfl, by simp, rowsIT _⟩) o3
 exact hk _ H' (.inr ⟨idX, Xs, q', rfl, rfl, hr'⟩) o4
theorem New.lentQ {α : Type} {O : Ob → AV → α → Prop} {f : α → AV} {a : α} {P : Program} {B : Nat} {fn : FuncId} {args es : List AV} {H : Heap} {K : Kont} (hO : Ow O f) (h : New P B fn es fun p X => O p X a) (hl : es.length = args.length)
  (ht : ∀ i, i < args.length → ∀ g w v, WRel g B H w → VRel g (args.getD i nv) v → VRel (g.lend H w) (es.getD i nv) v)
  (hk : ∀ H', H.sub H' → K (f a) H') : CallH P B fn args H K := by
 have h1 : CallH P B fn args H fun r H' => ∃ p, O p r a ∧ Owns H H' (p ++ []) := New.lent hO h (Owns.nil H) hl ht fun r p H' q o => ⟨p, q, o⟩
 refine ⟨h1.1, fun g w vs hW hv => ?_⟩
 refine (h1.2 g w vs hW hv).mono fun e w' ⟨v, he, g', r, H', q1, ⟨p, q2, q3⟩, q4, q5, q6⟩ => ?_
 obtain ⟨g2, H2, r1, r2, r3, r4⟩ := hO.fz p r a q2 g' B H H' [] w' q5 q3
 exact ⟨v, he, g2, f a, H2, q1.trans r1, hk H2 r3.sub, r4 v q4, r2, q6⟩
end Go.AW
namespace Go.AW
@[go_sem] def prE (q : Int × Int) : AV := .agg [iI q.1, iI q.2]
instance : AggN 2 prE := ⟨by omega, fun _ => rfl, fun _ => rfl, fun a c hc => by
 simp only [prE, AV.cells, List.mem_cons, List.not_mem_nil, or_false] at hc
 rcases hc with rfl | rfl <;> rfl⟩
end Go.AW
namespace Go.Proofs.Shf
open Go.AW Go.Proofs Go.Shf
@[go_sem] def srO (f g : SF) (X fv : AV) : MObj := .cells 5 [.ptr f.cells, .ptr g.cells, .bool false, X, fv] 0
theorem set_ok (B : Nat) {f g : SF} {x e d : Int} (w : At3 f g x e d) {p : List (List Int)} (hP : PT f g p) {idS idN idB : Nat} {fv X : AV} {q l : Ob} {H0 H : Heap} (hX : OLL q X p)
  (o : Owns H0 H ((idS, srO f g X fv) :: (idN, .cells 1 [.buf idB 0] 0) :: (idB, .cells 2 [] 0) :: (q ++ l))) :
  CallH Tryz.prog B 312 [.ref idS 0, iI x, iI e, iI d, .ref idN 0] H fun r H' => ∃ (ok : Bool) (k : Nat) (p' : List (List Int)) (N : List (Int × Int)) (q' : Ob) (idB' : Nat), r = .bool ok ∧ OLL q' X p' ∧
   Owns H0 H' ((idS, srO f g X fv) :: (idN, .cells 1 [.buf idB' N.length] 0) :: (idB', .cells 2 (flat (N.map prE)) 0) :: (q' ++ l)) ∧ SetM f g p x e d k p' N ∧ k ≤ (outs f.shape x).length ∧
   (ok = true → k = (outs f.shape x).length) ∧ (ok = false → ∀ t, ExtT f g p t → ix (ix t x) e ≠ d) := by
 refine c312p (by simp) fun _ => ?_
 have hm := w.hf.1.is.1.m
 have hob := w.hf.1.is.1.o
 have htl := w.hf.1.is.1.tol
 have hol : (outs f.shape x).length ≤ 40 := by
  rw [outs, List.length_map]
  refine Nat.le_trans (List.length_filter_le _ _) ?_
  rw [List.length_range]; omega
 have hgal : g.acts.length = f.shape.frm.length := by have := w.hg.1.al; rw [← w.sh] at this; exact this
 unfold s312p
 try simp only [go_sem, reduceAdd]
 refine rd_cells o (by simp) ?_
 try simp only [go_sem, reduceAdd, reduceLeDiff]
 refine (outOf_ok B f.shape x).go fun _ => ?_
 try simp only [go_sem]
 refine awp_for [0, 2, 3, 4, 11, 25, 26] (G := List (List Int) × List (Int × Int) × Ob × Nat) (fun k _ => [(27, some (.int .i64 (k : Int)))])
  (fun k G H => OLL G.2.2.1 X G.1 ∧ SetM f g p x e d k G.1 G.2.1 ∧ Owns H0 H ((idS, srO f g X fv) :: (idN, MObj.cells 1 [.buf G.2.2.2 G.2.1.length] 0) :: (G.2.2.2, MObj.cells 2 (flat (G.2.1.map prE)) 0) :: (G.2.2.1 ++ l))) (outs f.shape x).length (p, [], q, idB) ⟨hX, .zero f g p x e d, o⟩ rfl ?_
 clear o hX
 rintro k ⟨p', N, q, idB⟩ H hk ⟨hX, hS, o⟩
 replace hX : OLL q X p' := hX
 replace hS : SetM f g p x e d k p' N := hS
 replace o : Owns H0 H ((idS, srO f g X fv) :: (idN, .cells 1 [.buf idB N.length] 0) :: (idB, .cells 2 (flat (N.map prE)) 0) :: (q ++ l)) := o
 try simp only [go_sem]
 refine ⟨fun h1 => At.mk ?_, fun h1 => At.mk ?_⟩
 ·have h1p := of_decide h1
  have w1 := wsucc (k := k) (by omega)
  obtain ⟨a, ea⟩ : ∃ a, (outs f.shape x).getD k default = a := ⟨_, rfl⟩
  have hA := w.arr (b := a) (mem_getD.mpr ⟨k, h1p, ea⟩)
  have hin := hP.inT w.hf.1 hA.2.2.1 hA.2.2.2.1
  have hfin := w.hf.1.inAct hA.1 (e := e) (by rw [hA.2.1]; exact w.he)
  have hgin := w.hg.1.inAct (a := a) (e := d) (by rw [← w.sh]; exact hA.1) (by rw [← w.sh, hA.2.1]; exact w.hd)
  have hal := w.hf.1.al
  have hp1 : (ix f.shape.to a).toNat < p'.length := by rw [hS.len]; exact hin.1.2
  have hp2 : (ix (ix f.acts a) e).toNat < (p'.getD (ix f.shape.to a).toNat default).length := by rw [hS.row]; exact hin.2.2
  have o1 : Owns H0 H (q ++ ((idS, srO f g X fv) :: (idN, .cells 1 [.buf idB N.length] 0) :: (idB, .cells 2 (flat (N.map prE)) 0) :: l)) := o.perm (permC fun x => by (try dsimp only); simp only [List.append_eq, List.count_append, List.count_cons, List.count_nil, List.map_nil, List.length_nil, List.length_append, List.length_cons, List.length_set, Nat.zero_add, List.nil_append, iI, iL]; omega)
  obtain ⟨idX, Xs, idR, rfl, hXl, hgX, hXr, hgR, hset⟩ := tab_cell hX o1 hp1 hp2
  have hgS : H.get idS = some (srO f g (.buf idX Xs.length) fv) := o.h0
  try simp only [go_sem, reduceAdd, reduceLeDiff]
  refine ⟨h1p, ?_⟩
  rw [ea]
  refine ⟨⟨hA.1.1, by omega⟩, ?_⟩
  refine rd_get hgS (by simp) ?_
  try simp only [go_sem, reduceAdd, reduceLeDiff]
  refine ⟨⟨hA.1.1, by omega⟩, hfin, rd_get hgS (by simp) ?_⟩
  try simp only [go_sem, reduceAdd, reduceLeDiff]
  refine ⟨⟨hA.1.1, by omega⟩, hgin, ?_⟩
  refine rd_get hgS (by simp) ?_
  try simp only [go_sem]
  refine ⟨⟨hA.2.2.1.1, by omega⟩, rd_get hgX (by omega) ?_⟩
  rw [hXr]
  try simp only [go_sem]
  refine ⟨⟨hA.2.2.2.1.1, hp2⟩, rd_inner (f := iI) hgR hp2 ?_⟩
  have eV : (p'.getD (ix f.shape.to a).toNat default).getD (ix (ix f.acts a) e).toNat default = ix (ix p' (ix f.shape.to a)) (ix (ix f.acts a) e) := rfl
  rw [eV]
  try simp only [go_sem]
  refine ⟨fun h2 => At.mk ?_, fun h2 => At.mk ?_⟩
  ·have h2p : 0 ≤ ix (ix p' (ix f.shape.to a)) (ix (ix f.acts a) e) := of_decide h2
   try simp only [go_sem, reduceAdd]
   refine rd_get hgS (by simp) ?_
   try simp only [go_sem]
   refine ⟨⟨hA.2.2.1.1, by omega⟩, rd_get hgX (by omega) ?_⟩
   rw [hXr]
   try simp only [go_sem]
   refine ⟨⟨hA.2.2.2.1.1, hp2⟩, rd_inner (f := iI) hgR hp2 ?_⟩
   rw [eV]
   try simp only [go_sem]
   refine ⟨fun h3 => At.mk ?_, fun h3 => At.mk ?_⟩
   ·have h3p := h3; simp only [bnt, decide_eq_false_iff_not] at h3p
    try simp only [go_sem]
    exact ⟨H, .refl H, false, k, p', N, q, idB, rfl, hX, o, hS, hk, (fun h => by cases h), fun _ t ht => hS.bad w h1p ea h2p h3p t ht⟩
   ·have h3p := h3; simp only [bnf, decide_eq_true_eq] at h3p
    try simp only [go_sem, w1]
    exact for_next (p', N, q, idB) (by omega) ⟨hX, hS.same h1p ea h3p, o⟩ rfl
  ·have h2p : ¬ 0 ≤ ix (ix p' (ix f.shape.to a)) (ix (ix f.acts a) e) := of_ndecide h2
   have hNl := hS.nl
   have hfr := hS.fresh w hP h1p ea h2p
   try simp only [go_sem, reduceAdd]
   refine rd_get hgS (by simp) ?_
   try simp only [go_sem, reduceAdd]
   refine rd_get hgS (by simp) ?_
   try simp only [go_sem]
   refine ⟨⟨hA.2.2.1.1, by omega⟩, rd_get hgX (by omega) ?_⟩
   rw [hXr]
   try simp only [go_sem]
   refine ⟨⟨hA.2.2.2.1.1, hp2⟩, ?_⟩
   refine hset _ _ fun q' H hX' o => ?_
   try simp only [go_sem]
   have o : Owns H0 H ((idB, .cells 2 (flat (N.map prE)) 0) :: (idN, .cells 1 [.buf idB N.length] 0) :: (idS, srO f g (.buf idX Xs.length) fv) :: (q' ++ l)) := o.perm (permC fun x => by (try dsimp only); simp only [List.append_eq, List.count_append, List.count_cons, List.count_nil, List.map_nil, List.length_nil, List.length_append, List.length_cons, List.length_set, Nat.zero_add, List.nil_append, iI, iL]; omega)
   have hgN : H.get idN = some (.cells 1 [.buf idB N.length] 0) := o.tl.h0
   refine rd_get hgN (by simp) ?_
   try simp only [go_sem, reduceAdd, reduceLeDiff]
   refine app_ownN (f := prE) (ix f.shape.to a, ix (ix f.acts a) e) o rfl rfl (by simp only [maxL]; omega) fun idB H o => ?_
   try simp only [go_sem]
   refine stc o.swap fun H o => ?_
   simp only [wr_cons, wr_nil, List.set_cons_zero, List.set_cons_succ] at o
   try simp only [go_sem, w1]
   exact for_next (_, N ++ [(ix f.shape.to a, ix (ix f.acts a) e)], q', idB) (by omega) ⟨hX', hfr, (by simp only [srO, SF.cells] at o ⊢; exact o.perm (permC fun x => by (try dsimp only); simp only [List.append_eq, List.count_append, List.count_cons, List.count_nil, List.map_nil, List.length_nil, List.length_append, List.length_cons, List.length_set, Nat.zero_add, List.nil_append, iI, iL]; omega))⟩ rfl
 ·have h1p := of_ndecide h1
  obtain rfl : k = (outs f.shape x).length := by omega
  try simp only [go_sem]
  exact ⟨H, .refl H, true, _, p', N, q, idB, rfl, hX, o, hS, Nat.le_refl _, fun _ => rfl, fun h => by cases h⟩
end Go.Proofs.Shf
namespace Go.Proofs.Shf
open Go.AW Go.Proofs Go.Shf
theorem noneLeft {p : List Int} (h : indexOf p (-1) < 0) {i : Int} (hi : 0 ≤ i ∧ i.toNat < p.length) : ix p i ≠ -1 := fun e => by
 have := (indexOf_mem p (-1)).mpr (by rw [← e]; exact ix_mem hi.2)
 omega
end Go.Proofs.Shf
namespace Go.Shf
open Go.AW
def pairsE (x e : Nat) : List Int := [(x : Int), (e : Int)]
def pairsX (x n : Nat) : List (List Int) := (List.range n).map (pairsE x)
theorem pairsX_succ (x n : Nat) : pairsX x (n + 1) = pairsX x n ++ [pairsE x n] := by simp [pairsX, List.range_succ]
def pairsN (f : SF) : Nat → List (List Int)
 | 0 => []
 | x + 1 => pairsN f x ++ pairsX x (f.sizes.getD x default).toNat
def pairsF (f : SF) : List (List Int) := pairsN f f.sizes.length
theorem pairsN_len {f : SF} (hz : ∀ y, y ∈ f.sizes → 0 ≤ y ∧ y < 17) : ∀ {n : Nat}, n ≤ f.sizes.length → (pairsN f n).length ≤ 16 * n
 | 0, _ => by simp [pairsN]
 | n + 1, h => by
  have := pairsN_len hz (n := n) (by omega)
  have := hz _ (mem_getD.mpr ⟨n, by omega, rfl⟩)
  simp only [pairsN, pairsX, List.length_append, List.length_map, List.length_range]
  omega
end Go.Shf
namespace Go.Proofs.Shf
open Go.AW Go.Proofs Go.Shf
theorem pairs_ok (B : Nat) (f : SF) (hl : f.sizes.length ≤ 8) (hz : ∀ y, y ∈ f.sizes → 0 ≤ y ∧ y < 17) : Pur Tryz.prog B 190 [.ptr f.cells] (iLL (pairsF f)) := by
 refine ⟨fun H0 => c190p (by simp) fun _ => ?_⟩
 unfold s190p
 have o : Owns H0 H0 [] := .nil _
 try simp only [go_sem, reduceAdd]
 refine new_list iL o fun id3 H o => ?_
 try simp only [go_sem, reduceAdd, reduceLeDiff]
 refine awp_for [11, 12] (G := Nat × List (List Int)) (fun k g => [(3, some (.buf g.1 g.2.length)), (13, some (.int .i64 (k : Int)))]) (fun k g H => g.2 = pairsN f k ∧ Owns H0 H [(g.1, .cells 1 (g.2.map iL) 0)]) f.sizes.length (id3, []) ⟨rfl, o⟩ rfl ?_
 clear o
 rintro k ⟨id3, out⟩ H hk ⟨hout, o⟩
 replace hout : out = pairsN f k := hout
 replace o : Owns H0 H [(id3, .cells 1 (out.map iL) 0)] := o
 try simp only [go_sem]
 refine ⟨fun h1 => At.mk ?_, fun h1 => At.mk ?_⟩
 ·have h1 := of_decide h1
  have w1 := wsucc (k := k) (by omega)
  have hsz := hz _ (mem_getD.mpr ⟨k, h1, rfl⟩)
  obtain ⟨n, hn⟩ : ∃ n : Nat, f.sizes.getD k default = n := ⟨_, (Int.toNat_of_nonneg hsz.1).symm⟩
  rw [hn] at hsz
  have hlN := pairsN_len hz hk
  try simp only [go_sem]
  refine ⟨h1, ?_⟩
  rw [hn]
  refine awp_for [4, 5, 11, 12, 13] (G := Nat × List (List Int)) (fun e g => [(3, some (.buf g.1 g.2.length)), (6, some (.int .i64 (e : Int)))]) (fun e g H => g.2 = pairsN f k ++ pairsX k e ∧ Owns H0 H [(g.1, .cells 1 (g.2.map iL) 0)]) n (id3, out) ⟨by simp [hout, pairsX], o⟩ rfl ?_
  clear o hout
  rintro e ⟨id3, out⟩ H he ⟨hout, o⟩
  replace hout : out = pairsN f k ++ pairsX k e := hout
  replace o : Owns H0 H [(id3, .cells 1 (out.map iL) 0)] := o
  have hol : out.length ≤ 16 * k + e := by rw [hout, List.length_append, pairsX, List.length_map, List.length_range]; omega
  try simp only [go_sem]
  refine ⟨fun h2 => At.mk ?_, fun h2 => At.mk ?_⟩
  ·have h2 := of_decide h2
   have w2 := wsucc (k := e) (by omega)
   try simp only [go_sem, reduceAdd]
   refine app_own (pairsE k e) o rfl rfl (by simp only [maxL]; omega) fun id3 H o => ?_
   try simp only [go_sem, w2]
   exact for_next (_, _) (by omega) ⟨by rw [hout, pairsX_succ, List.append_assoc], o⟩ rfl
  ·have h2 := of_ndecide h2
   obtain rfl : e = n := by omega
   try simp only [go_sem, w1]
   exact for_next (_, _) (by omega) ⟨by rw [hout, pairsN, hn]; rfl, o⟩ rfl
 ·have h1 := of_ndecide h1
  obtain rfl : k = f.sizes.length := by omega
  try simp only [go_sem]
  refine fz_own o rfl fun H o => ?_
  try simp only [go_sem]
  exact pure_ret (by rw [hout]; rfl) o.sub
end Go.Proofs.Shf
namespace Go.Proofs.Shf
open Go.AW Go.Proofs Go.Shf
theorem cloneN (B : Nat) (l : List Int) : New Tryz.prog B 189 [iL l] fun p X => OL p X l :=
 ⟨fun H => (clone_own B l H H [] (.nil H)).mono fun r H' ⟨id, A, e, o, q⟩ => by
  subst e q
  exact ⟨_, .inr ⟨id, _, [], rfl, by simp, rowsIT _⟩, o⟩⟩
theorem clonesN (B : Nat) (l : List (List Int)) : New Tryz.prog B 170 [iLL l] fun p X => OLL p X l := by
 refine ⟨fun H0 => c170p (by simp) fun ⟨hf, _⟩ => ?_⟩
 have hl := fine_mL_le hf
 simp only [maxL] at hl
 unfold s170p
 try simp only [go_sem, reduceAdd]
 refine ⟨by simp only [maxL]; omega, newBuf_own (.nil _) fun id H o => ?_⟩
 try simp only [go_sem]
 refine awp_for [9, 10] (G := AV × Ob) (fun k g => [(3, some g.1), (11, some (.int .i64 (k : Int)))])
  (fun k g H => OLL g.2 g.1 (l.take k) ∧ Owns H0 H (g.2 ++ [])) l.length (.buf id 0, [(id, .cells 1 [] 0)]) ⟨.inr ⟨id, [], [], rfl, rfl, .nil⟩, o⟩ rfl ?_
 clear o
 rintro k ⟨X, q⟩ H hk ⟨hX, o⟩
 replace hX : OLL q X (l.take k) := hX
 replace o : Owns H0 H (q ++ []) := o
 try simp only [go_sem]
 refine ⟨fun h1 => At.mk ?_, fun h1 => At.mk ?_⟩
 ·have h1p := of_decide h1
  have w := wsucc (k := k) (by omega)
  try simp only [go_sem]
  refine ⟨h1p, ?_⟩
  refine (cloneN B (l.getD k default)).call o fun Y p H hY o => ?_
  have hY1 := hY.one
  try simp only [go_sem, reduceAdd]
  refine ⟨by simp [okEls, AV.cells_one hY1, hY1], ?_⟩
  refine hX.appT hY ⟨AV.cells_one hY1, hY1⟩ o (by rw [List.length_take]; simp only [maxL]; omega) fun X' q' H hX1 hX' o => ?_
  try simp only [go_sem, w]
  refine for_next (X', q') h1p ⟨?_, o⟩ rfl
  simp only
  rw [take_succ_getD l h1p]; exact hX'
 ·have h1p := of_ndecide h1
  obtain rfl : k = l.length := by omega
  rw [List.take_length] at hX
  rw [List.append_nil] at o
  try simp only [go_sem]
  exact ⟨H, .refl H, q, hX, o⟩
def OutG (idO : Nat) (A : List (List (List Int))) (w : Ob) : Prop := ∃ (Y : AV) (p : Ob), w = (idO, .cells 1 [Y] 0) :: p ∧ LsP iLL p Y A
def OutF (most idO : Nat) (A : List (List (List Int))) (w : Ob) : Prop := OutG idO A w ∧ A.length ≤ most
theorem blank_take (f : SF) {k : Nat} (hk : k < f.sizes.length) {n : Nat} (hn : f.sizes.getD k default = n) : (blankT f).take (k + 1) = (blankT f).take k ++ [List.replicate n (-1)] := by
 rw [take_one _ (by simpa [blankT] using hk)]
 congr 2
 rw [blankT, map_getD _ hk, hn, Int.toNat_natCast]
theorem setsCode_ok (B : Nat) {f g : SF} (hf : f.Is) (hg : g.Is) (sh : f.shape = g.shape) : Pur Tryz.prog B 72 [.ptr f.cells, .ptr g.cells] (iI 0) := by
 refine ⟨fun H0 => c72 (by simp) fun _ => ?_⟩
 unfold s72
 try simp only [go_sem, reduceAdd]
 refine (show Pur Tryz.prog B _ [.sl [.ptr f.cells, .ptr g.cells]] _ from areSetFunctors_ok B [f, g]).go fun _ => ?_
 rw [dec_t (by simp [hf, hg])]
 try simp only [go_sem, reduceAdd, reduceLeDiff]
 refine ⟨_, (sameCategory_ok B f.shape g.shape).run, ?_⟩
 rw [dec_t sh]
 try simp only [go_sem]
 exact pure_ret rfl (.refl _)
end Go.Proofs.Shf
namespace Go.Proofs.Shf
open Go.AW Go.Proofs Go.Shf
end Go.Proofs.Shf
