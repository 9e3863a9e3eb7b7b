/- A part of a proof. -/
import Derived.Test.YtadpkiiglobmpaaGreatF9
set_option linter.unusedVariables false
set_option linter.unusedSimpArgs false
set_option linter.unusedSectionVars false
open Nat (reduceEqDiff reduceAdd reduceMul reduceLeDiff reduceLT)
namespace Go.AW
def nilTo : AV → AV
 | .nilsl => .sl []
 | a => a
theorem wk_nils {F : Env → Heap → Prop} {σ : Env} {H0 : Heap} {l : Ob} {id sz fr : Nat} : ∀ (r dn : List AV) (H : Heap), Owns H0 H ((id, .cells sz (dn ++ r) fr) :: l) →
  (∀ H', Owns H0 H' ((id, .cells sz (dn ++ r.map nilTo) fr) :: l) → wkW F σ H') → wkW F σ H
 | [], dn, H, o, hk => hk H (by simpa using o)
 | a :: r, dn, H, o, hk => by
  have hstep : ∀ H', Owns H0 H' ((id, .cells sz ((dn ++ [nilTo a]) ++ r) fr) :: l) → wkW F σ H' := fun H' o' =>
   wk_nils r (dn ++ [nilTo a]) H' o' fun H2 o2 => hk H2 (by simpa using o2)
  by_cases h : a = .nilsl
  ·subst h
   refine wk_nil dn.length o (by simp) fun H' o' => hstep H' ?_
   have e : (dn ++ AV.nilsl :: r).set dn.length (.sl []) = (dn ++ [nilTo .nilsl]) ++ r := by rw [List.set_append_right _ _ (Nat.le_refl _)]; simp [nilTo]
   rw [e] at o'; exact o'
  ·refine hstep H ?_
   have e : nilTo a = a := by unfold nilTo; split <;> simp_all
   rw [e]; simpa using o
end Go.AW
namespace Go.Shf
open Go.AW Go.Proofs.Shf
end Go.Shf
namespace Go.Proofs.Shf
open Go.AW Go.Proofs Go.Shf
end Go.Proofs.Shf
namespace Go.AW
end Go.AW
namespace Go.Proofs.Shf
open Go.AW Go.Proofs Go.Shf
end Go.Proofs.Shf
namespace Go.Proofs.Shf
open Go.AW Go.Proofs Go.Shf
end Go.Proofs.Shf
namespace Go.AW
theorem set_selfT {l : List AV} {i : Nat} (h : i < l.length) : l.set i (l.getD i nv) = l := by
 apply List.ext_getElem?
 intro j
 by_cases e : j = i
 ·subst e; simp [List.getD_eq_getElem?_getD, h]
 ·rw [List.getElem?_set_ne (by omega)]
theorem LsG.lenT {α : Type} {O : Ob → AV → α → Prop} {p : Ob} {X : AV} {A : List α} (h : LsG O p X A) : lenE (some X) = some (True, .int .i64 A.length) := by
 rcases h with ⟨_, rfl, rfl⟩ | ⟨id, Xs, o, _, rfl, hr⟩
 ·rfl
 ·simp [Go.AW.lenE, hr.len]
theorem LsG.posT {α : Type} {O : Ob → AV → α → Prop} {p : Ob} {X : AV} {A : List α} (h : LsG O p X A) {i : Nat} (hi : i < A.length) : ∃ id Xs o, p = (id, .cells 1 Xs 0) :: o ∧ X = .buf id Xs.length ∧ RowsG O Xs A o := by
 rcases h with ⟨_, _, rfl⟩ | h
 ·simp at hi
 ·exact h
theorem Owns.rowT {α : Type} [Inhabited α] {O : Ob → AV → α → Prop} {H0 H : Heap} {l q : Ob} {id : Nat} {Xs : List AV} {A : List α} (o : Owns H0 H (((id, .cells 1 Xs 0) :: q) ++ l)) (hr : RowsG O Xs A q) {i : Nat} (hi : i < Xs.length) :
  ∃ p r, Owns H0 H (p ++ ((id, .cells 1 Xs 0) :: (r ++ l))) ∧ O p (Xs.getD i nv) (A.getD i default) ∧
   ∀ a' p' H', O p' (Xs.getD i nv) a' → Owns H0 H' (p' ++ ((id, .cells 1 Xs 0) :: (r ++ l))) → ∃ q', RowsG O Xs (A.set i a') q' ∧ Owns H0 H' (((id, .cells 1 Xs 0) :: q') ++ l) := by
 obtain ⟨p, r, h1, h2, h3⟩ := hr.split i hi
 refine ⟨p, r, o.perm ?_, h2, fun a' p' H' hO o' => ?_⟩
 ·refine List.Perm.trans ?_ (List.perm_middle (a := (id, MObj.cells 1 Xs 0)) (l₁ := p) (l₂ := r ++ l)).symm
  refine List.Perm.cons _ ?_
  rw [← List.append_assoc]
  exact List.Perm.append_right l h1
 ·obtain ⟨q', k1, k2⟩ := h3 _ _ _ hO
  rw [set_selfT hi] at k1
  refine ⟨q', k1, o'.perm ?_⟩
  refine List.Perm.trans (List.perm_middle (a := (id, MObj.cells 1 Xs 0)) (l₁ := p') (l₂ := r ++ l)) ?_
  refine List.Perm.cons _ ?_
  rw [← List.append_assoc]
  exact List.Perm.append_right l k2.symm
theorem RowsG.intsT {Xs : List AV} {l : List Int} {o : Ob} (h : RowsG OI Xs l o) : o = [] ∧ Xs = l.map iI := by
 induction h with
 | nil => exact ⟨rfl, rfl⟩
 | cons h _ ih => exact ⟨by rw [h.1, ih.1]; rfl, by rw [h.2, ih.2]; rfl⟩
theorem rowsIT : ∀ (l : List Int), RowsG OI (l.map iI) l []
 | [] => .nil
 | a :: r => .cons (p := []) ⟨rfl, rfl⟩ (rowsIT r)
theorem LsG.appT {α : Type} {O : Ob → AV → α → Prop} {p q l : Ob} {X Y : AV} {A : List α} {a : α} {H0 H : Heap} {K : Kont} (h : LsG O q X A) (hy : O p Y a) (h1 : Y.cells = [Y] ∧ Y.one = true) (o : Owns H0 H (p ++ (q ++ l))) (hm : A.length + 1 ≤ maxL)
  (hk : ∀ X' q' H', X'.one = true → LsG O q' X' (A ++ [a]) → Owns H0 H' (q' ++ l) → K X' H') : appW 1 (some X) (some (.sl [Y])) K H := by
 have hok : okEls 1 [Y] := by
  intro e he
  rw [List.mem_singleton] at he; subst he
  rw [h1.1]
  exact ⟨rfl, fun c hc => by rw [List.mem_singleton] at hc; subst hc; exact h1.2⟩
 have hfl : flat [Y] = [Y] := by simp [flat, h1.1]
 rcases h with ⟨rfl, rfl, rfl⟩ | ⟨id, Xs, r, rfl, rfl, hr⟩
 ·simp only [appW, srcOf, app1]
  refine ⟨⟨by simp [maxL], by simp [maxL], hok⟩, fun id hn => ?_⟩
  rw [hfl]
  refine hk (.buf id 1) ((id, .cells 1 [Y] 0) :: p) _ rfl (.inr ⟨id, [Y], p, rfl, rfl, ?_⟩) ?_
  ·have := RowsG.cons hy RowsG.nil
   rw [List.append_nil] at this; exact this
  ·have := o.new hn (.cells 1 [Y] 0)
   simpa using this
 ·have o2 : Owns H0 H ((id, .cells 1 Xs 0) :: (p ++ (r ++ l))) := by
   refine o.perm ?_
   simp
  have h0 := o2.h0
  simp only at h0
  have hl := hr.len
  simp only [appW, h0, srcOf, app2]
  refine ⟨⟨trivial, by simp, by simp; omega, by simp; omega, hok⟩, fun id' hn => ?_⟩
  rw [hfl]
  refine hk (.buf id' (Xs.length + 1)) ((id', .cells 1 (Xs ++ [Y]) 0) :: (r ++ p)) _ rfl (.inr ⟨id', Xs ++ [Y], r ++ p, rfl, by simp, ?_⟩) ?_
  ·refine hr.app ?_
   have := RowsG.cons hy RowsG.nil
   rw [List.append_nil] at this; exact this
  ·have := o2.mv hn (.cells 1 (Xs ++ [Y]) 0)
   refine this.perm (List.Perm.cons _ ?_)
   rw [← List.append_assoc]
   exact List.Perm.append_right l List.perm_append_comm
theorem tab_row {H0 H : Heap} {q l : Ob} {X : AV} {p : List (List Int)} (hX : OLL q X p) (o : Owns H0 H (q ++ l)) {y : Nat} (hy : y < p.length) :
  ∃ idX Xs, X = .buf idX Xs.length ∧ Xs.length = p.length ∧ H.get idX = some (.cells 1 Xs 0) ∧ ∃ pr, OL pr (Xs.getD y nv) (p.getD y default) ∧ ∀ x, x ∈ pr → H.get x.1 = some x.2 := by
 obtain ⟨idX, Xs, r, rfl, rfl, hr⟩ := hX.posT hy
 have hl := hr.len
 obtain ⟨pr, r2, o2, hO, _⟩ := o.rowT hr (i := y) (by omega)
 exact ⟨idX, Xs, rfl, hl, o.h0, pr, hO, fun x hx => o2.get x (List.mem_append_left _ hx)⟩
theorem tab_cell {H0 H : Heap} {q l : Ob} {X : AV} {p : List (List Int)} (hX : OLL q X p) (o : Owns H0 H (q ++ l)) {y i : Nat} (hy : y < p.length) (hi : i < (p.getD y default).length) :
  ∃ idX Xs idR, X = .buf idX Xs.length ∧ Xs.length = p.length ∧ H.get idX = some (.cells 1 Xs 0) ∧ Xs.getD y nv = .buf idR (p.getD y default).length ∧ H.get idR = some (.cells 1 ((p.getD y default).map iI) 0) ∧
   ∀ (k : Int) (K : Kont), (∀ q' H', OLL q' X (p.set y ((p.getD y default).set i k)) → Owns H0 H' (q' ++ l) → K nv H') → st1 (H.get idR) idR i 1 [iI k] K H := by
 obtain ⟨idX, Xs, r, rfl, rfl, hr⟩ := hX.posT hy
 have hl := hr.len
 obtain ⟨pr, r2, o2, hO, back⟩ := o.rowT hr (i := y) (by omega)
 obtain ⟨idR, Ys, rr, rfl, hY, hrr⟩ := hO.posT hi
 obtain ⟨rfl, rfl⟩ := hrr.intsT
 rw [List.length_map] at hY
 refine ⟨idX, Xs, idR, rfl, hl, o.h0, hY, o2.h0, fun k K hk => ?_⟩
 refine set_own (f := iI) k o2 rfl hi fun H' o3 => ?_
 obtain ⟨q', hr', o4⟩ := back ((p.getD y default).set i k) [(idR, .cells 1 (((p.getD y default).set i k).map iI) 0)] H' (by rw [hY]; exact .inr ⟨idR, _, [], rfl, by simp, rowsIT _⟩) o3
 exact hk _ H' (.inr ⟨idX, Xs, q', rfl, rfl, hr'⟩) o4
theorem New.lentQ {α : Type} {O : Ob → AV → α → Prop} {f : α → AV} {a : α} {P : Program} {B : Nat} {fn : FuncId} {args es : List AV} {H : Heap} {K : Kont} (hO : Ow O f) (h : New P B fn es fun p X => O p X a) (hl : es.length = args.length)
  (ht : ∀ i, i < args.length → ∀ g w v, WRel g B H w → VRel g (args.getD i nv) v → VRel (g.lend H w) (es.getD i nv) v)
  (hk : ∀ H', H.sub H' → K (f a) H') : CallH P B fn args H K := by
 have h1 : CallH P B fn args H fun r H' => ∃ p, O p r a ∧ Owns H H' (p ++ []) := New.lent hO h (Owns.nil H) hl ht fun r p H' q o => ⟨p, q, o⟩
 refine ⟨h1.1, fun g w vs hW hv => ?_⟩
 refine (h1.2 g w vs hW hv).mono fun e w' ⟨v, he, g', r, H', q1, ⟨p, q2, q3⟩, q4, q5, q6⟩ => ?_
 obtain ⟨g2, H2, r1, r2, r3, r4⟩ := hO.fz p r a q2 g' B H H' [] w' q5 q3
 exact ⟨v, he, g2, f a, H2, q1.trans r1, hk H2 r3.sub, r4 v q4, r2, q6⟩
end Go.AW
namespace Go.AW
@[go_sem] def prE (q : Int × Int) : AV := .agg [iI q.1, iI q.2]
instance : AggN 2 prE := ⟨by omega, fun _ => rfl, fun _ => rfl, fun a c hc => by
 simp only [prE, AV.cells, List.mem_cons, List.not_mem_nil, or_false] at hc
 rcases hc with rfl | rfl <;> rfl⟩
end Go.AW
namespace Go.Proofs.Shf
open Go.AW Go.Proofs Go.Shf
@[go_sem] def srO (f g : SF) (X fv : AV) : MObj := .cells 5 [.ptr f.cells, .ptr g.cells, .bool false, X, fv] 0
theorem set_ok (B : Nat) {f g : SF} {x e d : Int} (w : At3 f g x e d) {p : List (List Int)} (hP : PT f g p) {idS idN idB : Nat} {fv X : AV} {q l : Ob} {H0 H : Heap} (hX : OLL q X p)
  (o : Owns H0 H ((idS, srO f g X fv) :: (idN, .cells 1 [.buf idB 0] 0) :: (idB, .cells 2 [] 0) :: (q ++ l))) :
  CallH Tryz.prog B 312 [.ref idS 0, iI x, iI e, iI d, .ref idN 0] H fun r H' => ∃ (ok : Bool) (k : Nat) (p' : List (List Int)) (N : List (Int × Int)) (q' : Ob) (idB' : Nat), r = .bool ok ∧ OLL q' X p' ∧
   Owns H0 H' ((idS, srO f g X fv) :: (idN, .cells 1 [.buf idB' N.length] 0) :: (idB', .cells 2 (flat (N.map prE)) 0) :: (q' ++ l)) ∧ SetM f g p x e d k p' N ∧ k ≤ (outs f.shape x).length ∧
   (ok = true → k = (outs f.shape x).length) ∧ (ok = false → ∀ t, ExtT f g p t → ix (ix t x) e ≠ d) := by
 refine c312p (by simp) fun _ => ?_
 have hm := w.hf.1.is.1.m
 have hob := w.hf.1.is.1.o
 have htl := w.hf.1.is.1.tol
 have hol : (outs f.shape x).length ≤ 40 := by
  rw [outs, List.length_map]
  refine Nat.le_trans (List.length_filter_le _ _) ?_
  rw [List.length_range]; omega
 have hgal : g.acts.length = f.shape.frm.length := by have := w.hg.1.al; rw [← w.sh] at this; exact this
 unfold s312p
 try simp only [go_sem, reduceAdd]
 refine rd_cells o (by simp) ?_
 try simp only [go_sem, reduceAdd, reduceLeDiff]
 refine (outOf_ok B f.shape x).go fun _ => ?_
 try simp only [go_sem]
 refine awp_for [0, 2, 3, 4, 11, 25, 26] (G := List (List Int) × List (Int × Int) × Ob × Nat) (fun k _ => [(27, some (.int .i64 (k : Int)))])
  (fun k G H => OLL G.2.2.1 X G.1 ∧ SetM f g p x e d k G.1 G.2.1 ∧ Owns H0 H ((idS, srO f g X fv) :: (idN, MObj.cells 1 [.buf G.2.2.2 G.2.1.length] 0) :: (G.2.2.2, MObj.cells 2 (flat (G.2.1.map prE)) 0) :: (G.2.2.1 ++ l))) (outs f.shape x).length (p, [], q, idB) ⟨hX, .zero f g p x e d, o⟩ rfl ?_
 clear o hX
 rintro k ⟨p', N, q, idB⟩ H hk ⟨hX, hS, o⟩
 replace hX : OLL q X p' := hX
 replace hS : SetM f g p x e d k p' N := hS
 replace o : Owns H0 H ((idS, srO f g X fv) :: (idN, .cells 1 [.buf idB N.length] 0) :: (idB, .cells 2 (flat (N.map prE)) 0) :: (q ++ l)) := o
 try simp only [go_sem]
 refine ⟨fun h1 => At.mk ?_, fun h1 => At.mk ?_⟩
 ·have h1p := of_decide h1
  have w1 := wsucc (k := k) (by omega)
  obtain ⟨a, ea⟩ : ∃ a, (outs f.shape x).getD k default = a := ⟨_, rfl⟩
  have hA := w.arr (b := a) (mem_getD.mpr ⟨k, h1p, ea⟩)
  have hin := hP.inT w.hf.1 hA.2.2.1 hA.2.2.2.1
  have hfin := w.hf.1.inAct hA.1 (e := e) (by rw [hA.2.1]; exact w.he)
  have hgin := w.hg.1.inAct (a := a) (e := d) (by rw [← w.sh]; exact hA.1) (by rw [← w.sh, hA.2.1]; exact w.hd)
  have hal := w.hf.1.al
  have hp1 : (ix f.shape.to a).toNat < p'.length := by rw [hS.len]; exact hin.1.2
  have hp2 : (ix (ix f.acts a) e).toNat < (p'.getD (ix f.shape.to a).toNat default).length := by rw [hS.row]; exact hin.2.2
  have o1 : Owns H0 H (q ++ ((idS, srO f g X fv) :: (idN, .cells 1 [.buf idB N.length] 0) :: (idB, .cells 2 (flat (N.map prE)) 0) :: l)) := o.perm (permC fun x => by (try dsimp only); simp only [List.append_eq, List.count_append, List.count_cons, List.count_nil, List.map_nil, List.length_nil, List.length_append, List.length_cons, List.length_set, Nat.zero_add, List.nil_append, iI, iL]; omega)
  obtain ⟨idX, Xs, idR, rfl, hXl, hgX, hXr, hgR, hset⟩ := tab_cell hX o1 hp1 hp2
  have hgS : H.get idS = some (srO f g (.buf idX Xs.length) fv) := o.h0
  try simp only [go_sem, reduceAdd, reduceLeDiff]
  refine ⟨h1p, ?_⟩
  rw [ea]
  refine ⟨⟨hA.1.1, by omega⟩, ?_⟩
  refine rd_get hgS (by simp) ?_
  try simp only [go_sem, reduceAdd, reduceLeDiff]
  refine ⟨⟨hA.1.1, by omega⟩, hfin, rd_get hgS (by simp) ?_⟩
  try simp only [go_sem, reduceAdd, reduceLeDiff]
  refine ⟨⟨hA.1.1, by omega⟩, hgin, ?_⟩
  refine rd_get hgS (by simp) ?_
  try simp only [go_sem]
  refine ⟨⟨hA.2.2.1.1, by omega⟩, rd_get hgX (by omega) ?_⟩
  rw [hXr]
  try simp only [go_sem]
  refine ⟨⟨hA.2.2.2.1.1, hp2⟩, rd_inner (f := iI) hgR hp2 ?_⟩
  have eV : (p'.getD (ix f.shape.to a).toNat default).getD (ix (ix f.acts a) e).toNat default = ix (ix p' (ix f.shape.to a)) (ix (ix f.acts a) e) := rfl
  rw [eV]
  try simp only [go_sem]
  refine ⟨fun h2 => At.mk ?_, fun h2 => At.mk ?_⟩
  ·have h2p : 0 ≤ ix (ix p' (ix f.shape.to a)) (ix (ix f.acts a) e) := of_decide h2
   try simp only [go_sem, reduceAdd]
   refine rd_get hgS (by simp) ?_
   try simp only [go_sem]
   refine ⟨⟨hA.2.2.1.1, by omega⟩, rd_get hgX (by omega) ?_⟩
   rw [hXr]
   try simp only [go_sem]
   refine ⟨⟨hA.2.2.2.1.1, hp2⟩, rd_inner (f := iI) hgR hp2 ?_⟩
   rw [eV]
   try simp only [go_sem]
   refine ⟨fun h3 => At.mk ?_, fun h3 => At.mk ?_⟩
   ·have h3p := h3; simp only [bnt, decide_eq_false_iff_not] at h3p
    try simp only [go_sem]
    exact ⟨H, .refl H, false, k, p', N, q, idB, rfl, hX, o, hS, hk, (fun h => by cases h), fun _ t ht => hS.bad w h1p ea h2p h3p t ht⟩
   ·have h3p := h3; simp only [bnf, decide_eq_true_eq] at h3p
    try simp only [go_sem, w1]
    exact for_next (p', N, q, idB) (by omega) ⟨hX, hS.same h1p ea h3p, o⟩ rfl
  ·have h2p : ¬ 0 ≤ ix (ix p' (ix f.shape.to a)) (ix (ix f.acts a) e) := of_ndecide h2
   have hNl := hS.nl
   have hfr := hS.fresh w hP h1p ea h2p
   try simp only [go_sem, reduceAdd]
   refine rd_get hgS (by simp) ?_
   try simp only [go_sem, reduceAdd]
   refine rd_get hgS (by simp) ?_
   try simp only [go_sem]
   refine ⟨⟨hA.2.2.1.1, by omega⟩, rd_get hgX (by omega) ?_⟩
   rw [hXr]
   try simp only [go_sem]
   refine ⟨⟨hA.2.2.2.1.1, hp2⟩, ?_⟩
   refine hset _ _ fun q' H hX' o => ?_
   try simp only [go_sem]
   have o : Owns H0 H ((idB, .cells 2 (flat (N.map prE)) 0) :: (idN, .cells 1 [.buf idB N.length] 0) :: (idS, srO f g (.buf idX Xs.length) fv) :: (q' ++ l)) := o.perm (permC fun x => by (try dsimp only); simp only [List.append_eq, List.count_append, List.count_cons, List.count_nil, List.map_nil, List.length_nil, List.length_append, List.length_cons, List.length_set, Nat.zero_add, List.nil_append, iI, iL]; omega)
   have hgN : H.get idN = some (.cells 1 [.buf idB N.length] 0) := o.tl.h0
   refine rd_get hgN (by simp) ?_
   try simp only [go_sem, reduceAdd, reduceLeDiff]
   refine app_ownN (f := prE) (ix f.shape.to a, ix (ix f.acts a) e) o rfl rfl (by simp only [maxL]; omega) fun idB H o => ?_
   try simp only [go_sem]
   refine stc o.swap fun H o => ?_
   simp only [wr_cons, wr_nil, List.set_cons_zero, List.set_cons_succ] at o
   try simp only [go_sem, w1]
   exact for_next (_, N ++ [(ix f.shape.to a, ix (ix f.acts a) e)], q', idB) (by omega) ⟨hX', hfr, (by simp only [srO, SF.cells] at o ⊢; exact o.perm (permC fun x => by (try dsimp only); simp only [List.append_eq, List.count_append, List.count_cons, List.count_nil, List.map_nil, List.length_nil, List.length_append, List.length_cons, List.length_set, Nat.zero_add, List.nil_append, iI, iL]; omega))⟩ rfl
 ·have h1p := of_ndecide h1
  obtain rfl : k = (outs f.shape x).length := by omega
  try simp only [go_sem]
  exact ⟨H, .refl H, true, _, p', N, q, idB, rfl, hX, o, hS, Nat.le_refl _, fun _ => rfl, fun h => by cases h⟩
end Go.Proofs.Shf
namespace Go.Proofs.Shf
open Go.AW Go.Proofs Go.Shf
def FoundOk (B : Nat) (F : FuncId) (ca : List AV) (Fs Gs : List (List (List Int)) → Ob → Prop) : Prop :=
 (∀ A w, Fs A w → Gs A w) ∧ ∀ (p : List (List Int)) (A : List (List (List Int))) (X : AV) (q w l : Ob) (H0 H : Heap), OLL q X p → Fs A w → Owns H0 H (q ++ (w ++ l)) →
  CallH Tryz.prog B F ([X] ++ ca) H fun r H' => ∃ (b : Bool) (w' : Ob), r = .bool b ∧ Gs (A ++ [p]) w' ∧ (b = true → Fs (A ++ [p]) w') ∧ Owns H0 H' (q ++ (w' ++ l))
theorem noneLeft {p : List Int} (h : indexOf p (-1) < 0) {i : Int} (hi : 0 ≤ i ∧ i.toNat < p.length) : ix p i ≠ -1 := fun e => by
 have := (indexOf_mem p (-1)).mpr (by rw [← e]; exact ix_mem hi.2)
 omega
theorem run_ok (B : Nat) {f g : SF} (hf : f.Is) (hg : g.Is) (sh : f.shape = g.shape) {F : FuncId} {ca : List AV} {Fs Gs : List (List (List Int)) → Ob → Prop} (hF : FoundOk B F ca Fs Gs) (idS : Nat) (X : AV) :
  ∀ (n : Nat) (p : List (List Int)), unsetT f p = n → PT f g p → ∀ (A : List (List (List Int))) (q w l : Ob) (H0 H : Heap), OLL q X p → Fs A w → Owns H0 H ((idS, srO f g X (.fn (.func F) ca)) :: (q ++ (w ++ l))) →
   CallH Tryz.prog B 272 [.ref idS 0] H fun r H' => ∃ (b : Bool) (q' w' : Ob) (A' : List (List (List Int))), r = .bool b ∧ OLL q' X p ∧ Gs A' w' ∧ Owns H0 H' ((idS, srO f g X (.fn (.func F) ca)) :: (q' ++ (w' ++ l))) ∧
    (b = true → Fs A' w' ∧ ∃ M, ListsT f g p M ∧ A' = A ++ M) := by
 intro n
 induction n using Nat.strongRecOn with
 | _ n ih =>
 intro p hn hP A q w l H0 H hX hFs o
 refine c272p (by simp) fun _ => ?_
 have hm := hf.1.is.1.m
 have hob := hf.1.is.1.o
 have hsl := hf.1.sl
 have hpl := hP.len
 have hz0 : ∀ x, x < f.sizes.length → 0 ≤ f.sizes.getD x default ∧ f.sizes.getD x default < 17 := fun x hx => hf.1.sz _ (mem_getD.mpr ⟨x, hx, rfl⟩)
 have hlenX := hX.lenT
 unfold s272p
 try simp only [go_sem, reduceAdd]
 refine rd_cells o (by simp) ?_
 try simp only [go_sem, hlenX]
 refine awp_for [0, 15] (G := Unit) (fun k _ => [(16, some (.int .i64 (k : Int)))])
  (fun k _ H => (∀ y : Nat, y < k → indexOf (p.getD y default) (-1) < 0) ∧ Owns H0 H ((idS, srO f g X (.fn (.func F) ca)) :: (q ++ (w ++ l)))) p.length () ⟨by simp, o⟩ rfl ?_
 clear o
 rintro k _ H hk ⟨hno, o⟩
 have hgS : H.get idS = some (srO f g X (.fn (.func F) ca)) := o.h0
 try simp only [go_sem]
 refine ⟨fun h1 => At.mk ?_, fun h1 => At.mk ?_⟩
 rotate_left 1
 ·have h1p := of_ndecide h1
  obtain rfl : k = p.length := by omega
  try simp only [go_sem, reduceAdd]
  refine rd_get hgS (by simp) ?_
  try simp only [go_sem, reduceAdd]
  refine rd_get hgS (by simp) ?_
  try simp only [go_sem]
  have o2 : Owns H0 H (q ++ (w ++ ((idS, srO f g X (.fn (.func F) ca)) :: l))) := o.perm (permC fun x => by (try dsimp only); simp only [List.append_eq, List.count_append, List.count_cons, List.count_nil, List.map_nil, List.length_nil, List.length_append, List.length_cons, List.length_set, Nat.zero_add, List.nil_append, iI, iL]; omega)
  refine (hF.2 p A X q w _ H0 H hX hFs o2).mono ?_
  rintro r H' ⟨b, w', rfl, hGs', hFs', o⟩
  try simp only [go_sem]
  have hfull := lists_full hf hP fun y i hy hi => noneLeft (hno y.toNat (by omega)) (hP.inT hf.1 hy hi).2
  exact ⟨H', .refl _, b, q, w', A ++ [p], rfl, hX, hGs', (by simp only [srO, SF.cells] at o ⊢; exact o.perm (permC fun x => by (try dsimp only); simp only [List.append_eq, List.count_append, List.count_cons, List.count_nil, List.map_nil, List.length_nil, List.length_append, List.length_cons, List.length_set, Nat.zero_add, List.nil_append, iI, iL]; omega)), fun h => ⟨hFs' h, [p], hfull, rfl⟩⟩
 have h1p := of_decide h1
 have w1 := wsucc (k := k) (by omega)
 have hkl : k < f.sizes.length := by omega
 obtain ⟨idX, Xs, rfl, hXl, hgX, pr, hpr, hprg⟩ := tab_row hX (show Owns H0 H (q ++ ((idS, srO f g X (.fn (.func F) ca)) :: (w ++ l))) from o.perm (permC fun x => by (try dsimp only); simp only [List.append_eq, List.count_append, List.count_cons, List.count_nil, List.map_nil, List.length_nil, List.length_append, List.length_cons, List.length_set, Nat.zero_add, List.nil_append, iI, iL]; omega)) h1p
 try simp only [go_sem, reduceAdd]
 refine rd_get hgS (by simp) ?_
 try simp only [go_sem]
 refine ⟨by omega, rd_get hgX (by omega) ?_⟩
 try simp only [go_sem]
 refine CallH.lentPure (es := [iL (p.getD k default), .int .i64 (-1)]) (.int _ _) rfl (fun i hi => ?_) (index_ok B (p.getD k default) (-1)).run ?_
 ·obtain rfl | rfl : i = 0 ∨ i = 1 := by simp only [List.length_cons, List.length_nil] at hi; omega
  ·intro gg ww v hW hv
   exact owL.ln pr _ _ hpr gg B H ww v hW hprg hv
  ·exact val_arg _
 have hib := indexOf_bd (p.getD k default) (-1)
 try simp only [go_sem]
 refine ⟨fun h2 => At.mk ?_, fun h2 => At.mk ?_⟩
 ·have h2p := of_decide h2
  try simp only [go_sem, w1]
  exact for_next () (by omega) ⟨lt_succ_all hno h2p, o⟩ rfl
 have h2p := of_ndecide h2
 obtain ⟨f1, f2, f3⟩ := indexOf_first (l := p.getD k default) (a := -1) (by omega)
 generalize hix : indexOf (p.getD k default) (-1) = e at *
 have hrow := hP.row k hkl
 have hzk := hz0 k hkl
 have hx : 0 ≤ (k : Int) ∧ (k : Int) < f.shape.objs := by omega
 have he : 0 ≤ e ∧ e < ix f.sizes (k : Int) := by rw [ix_nat]; omega
 have hpe : ix (ix p (k : Int)) e = -1 := by rw [ix_nat]; exact f2
 have hv : ∀ y i : Int, 0 ≤ y ∧ y < f.shape.objs → 0 ≤ i ∧ i < ix f.sizes y → ix (ix p y) i = -1 ∨ 0 ≤ ix (ix p y) i := fun y i hy hi => (hP.val y i hy hi).imp id fun h => h.1
 have hfst : ∀ y i : Int, 0 ≤ y ∧ y < f.shape.objs → 0 ≤ i ∧ i < ix f.sizes y → (y < (k : Int) ∨ (y = (k : Int) ∧ i < e)) → ix (ix p y) i ≠ -1 := by
  intro y i hy hi h
  rcases h with h | ⟨rfl, h⟩
  ·exact noneLeft (hno y.toNat (by omega)) (hP.inT hf.1 hy hi).2
  ·rw [ix_nat]; exact f3 i.toNat (by omega)
 have hgsl := hg.1.sl
 rw [← sh] at hgsl
 have hgz : 0 ≤ ix g.sizes (k : Int) ∧ ix g.sizes (k : Int) < 17 := by rw [ix_nat]; exact hg.1.sz _ (mem_getD.mpr ⟨k, by omega, rfl⟩)
 have hgz2 := hgz
 rw [ix_nat] at hgz2
 try simp only [go_sem]
 refine awp_for [0, 3, 4] (G := List (List (List Int)) × Ob × Ob) (fun d _ => [(5, some (.int .i64 (d : Int)))])
  (fun d G H => AccT f g p k e d G.1 ∧ OLL G.2.1 (.buf idX Xs.length) p ∧ Fs (A ++ G.1) G.2.2 ∧ Owns H0 H ((idS, srO f g (.buf idX Xs.length) (.fn (.func F) ca)) :: (G.2.1 ++ (G.2.2 ++ l)))) (g.sizes.getD k default).toNat ([], q, w) ⟨.zero hx he, hX, by rw [List.append_nil]; exact hFs, o⟩ rfl ?_
 clear o hX hFs hgS hgX hpr hprg hXl
 rintro d ⟨M, q, w⟩ H hd ⟨hM, hX, hFs, o⟩
 replace hM : AccT f g p k e d M := hM
 replace hX : OLL q (.buf idX Xs.length) p := hX
 replace hFs : Fs (A ++ M) w := hFs
 replace o : Owns H0 H ((idS, srO f g (.buf idX Xs.length) (.fn (.func F) ca)) :: (q ++ (w ++ l))) := o
 try simp only [go_sem, reduceAdd]
 refine rd_cells o (by simp) ?_
 try simp only [go_sem, reduceAdd, reduceLeDiff]
 refine ⟨by omega, ?_⟩
 refine ⟨fun h3 => At.mk ?_, fun h3 => At.mk ?_⟩
 rotate_left 1
 ·have h3p := of_ndecide h3
  try simp only [go_sem]
  have hdd : (d : Int) = ix g.sizes (k : Int) := by rw [ix_nat]; omega
  rw [hdd] at hM
  exact ⟨H, .refl _, true, q, w, A ++ M, rfl, hX, hF.1 _ _ hFs, o, fun _ => ⟨hFs, M, hM.done hx he, rfl⟩⟩
 have h3p := of_decide h3
 have w2 := wsucc (k := d) (by omega)
 have hat : At3 f g k e d := ⟨hf, hg, sh, hx, he, by rw [ix_nat]; omega⟩
 try simp only [go_sem]
 refine newBuf_own o fun idB H o => ?_
 try simp only [go_sem, reduceAdd]
 refine newRef_own o fun idN H o => ?_
 try simp only [go_sem]
 refine stc o fun H o => ?_
 simp only [wr_cons, wr_nil, List.set_cons_zero, List.set_cons_succ] at o
 try simp only [go_sem]
 have o2 : Owns H0 H ((idS, srO f g (.buf idX Xs.length) (.fn (.func F) ca)) :: (idN, .cells 1 [.buf idB 0] 0) :: (idB, .cells 2 [] 0) :: (q ++ (w ++ l))) := o.perm (permC fun x => by (try dsimp only); simp only [List.append_eq, List.count_append, List.count_cons, List.count_nil, List.map_nil, List.length_nil, List.length_append, List.length_cons, List.length_set, Nat.zero_add, List.nil_append, iI, iL]; omega)
 refine (set_ok B hat hP hX o2).mono ?_
 clear o o2 hX
 rintro r H ⟨ok, kk, p', N, q, idB, rfl, hX, o, hS, hkk, hok, hbad⟩
 try simp only [go_sem]
 have o : Owns H0 H ((idS, srO f g (.buf idX Xs.length) (.fn (.func F) ca)) :: (q ++ (w ++ ((idN, .cells 1 [.buf idB N.length] 0) :: (idB, .cells 2 (flat (N.map prE)) 0) :: l)))) := o.perm (permC fun x => by (try dsimp only); simp only [List.append_eq, List.count_append, List.count_cons, List.count_nil, List.map_nil, List.length_nil, List.length_append, List.length_cons, List.length_set, Nat.zero_add, List.nil_append, iI, iL]; omega)
 have hun := hS.undo
 have hNr : ∀ j, j < N.length → (0 ≤ (N.getD j default).1 ∧ (N.getD j default).1.toNat < p.length) ∧ (0 ≤ (N.getD j default).2 ∧ (N.getD j default).2.toNat < (ix p (N.getD j default).1).length) := fun j hj => by
  have := hS.old (N.getD j default).1 (N.getD j default).2 (mem_getD.mpr ⟨j, hj, rfl⟩)
  exact ⟨this.1, this.2.1⟩
 have hNl : N.length ≤ 40 := by
  have h1 := hS.nl
  have h2 : (outs f.shape (k : Int)).length ≤ 40 := by
   rw [outs, List.length_map]
   refine Nat.le_trans (List.length_filter_le _ _) ?_
   rw [List.length_range]; omega
  omega
 have hpl' := hS.len
 have hrow' := hS.row
 cases ok
 case' true =>
  obtain rfl := hok rfl
  try simp only [go_sem]
  refine (ih (unsetT f p') (by rw [← hn]; exact hS.less hat hP hpe) p' rfl (hS.pt hat hP) (A ++ M) q w _ H0 H hX hFs o).mono ?_
  clear o hX hFs
  rintro r H ⟨b, q, w, A', rfl, hX, hGs, o, hb⟩
  have hres : b = true → Fs A' w ∧ ∃ M', AccT f g p k e ((d : Int) + 1) M' ∧ A' = A ++ M' := fun h => by
   obtain ⟨h1, M2, h2, h3⟩ := hb h
   exact ⟨h1, M ++ M2, hM.more hx he h2 hsl hv (fun t => hS.ext hat hP t) hfst, by rw [h3, List.append_assoc]⟩
  clear hb
  try simp only [go_sem]
 case' false =>
  have hres0 : true = true → Fs (A ++ M) w ∧ ∃ M', AccT f g p k e ((d : Int) + 1) M' ∧ A ++ M = A ++ M' := fun _ => ⟨hFs, M, hM.none (hbad rfl), rfl⟩
  have hGs := hF.1 _ _ hFs
  clear hFs
  obtain ⟨A', hA'⟩ : ∃ A', A' = A ++ M := ⟨_, rfl⟩
  rw [← hA'] at hGs hres0
  try simp only [go_sem]
  obtain ⟨b, hb1, hb2⟩ : ∃ b : Bool, AV.bool true = AV.bool b ∧ b = true := ⟨true, rfl, rfl⟩
  have hres : b = true → Fs A' w ∧ ∃ M', AccT f g p k e ((d : Int) + 1) M' ∧ A' = A ++ M' := fun _ => hres0 rfl
  rw [hb1]
  clear hb1 hb2 hres0 hA'
 all_goals
  have hgN : H.get idN = some (.cells 1 [.buf idB N.length] 0) := o.get (idN, .cells 1 [.buf idB N.length] 0) (by simp)
  refine rd_get hgN (by simp) ?_
  try simp only [go_sem]
  refine awp_for [0, 3, 4, 5, 8, 55, 56] (G := Ob) (fun j _ => [(57, some (.int .i64 (j : Int)))])
   (fun j q H => OLL q (.buf idX Xs.length) (undoT p' (N.take j)) ∧ Owns H0 H ((idS, srO f g (.buf idX Xs.length) (.fn (.func F) ca)) :: (q ++ (w ++ ((idN, MObj.cells 1 [.buf idB N.length] 0) :: (idB, MObj.cells 2 (flat (N.map prE)) 0) :: l))))) N.length q ⟨hX, o⟩ rfl ?_
  clear o hX hgN
  rintro j q H hj ⟨hX, o⟩
  replace hX : OLL q (.buf idX Xs.length) (undoT p' (N.take j)) := hX
  replace o : Owns H0 H ((idS, srO f g (.buf idX Xs.length) (.fn (.func F) ca)) :: (q ++ (w ++ ((idN, .cells 1 [.buf idB N.length] 0) :: (idB, .cells 2 (flat (N.map prE)) 0) :: l)))) := o
  try simp only [go_sem]
  refine ⟨fun h4 => At.mk ?_, fun h4 => At.mk ?_⟩
  ·have h4p := of_decide h4
   have wj := wsucc (k := j) (by omega)
   have hr := hNr j h4p
   have hus := undoT_succ p' h4p
   have oB : Owns H0 H ((idB, .cells 2 (flat (N.map prE)) 0) :: ((idS, srO f g (.buf idX Xs.length) (.fn (.func F) ca)) :: (idN, .cells 1 [.buf idB N.length] 0) :: (q ++ (w ++ l)))) := o.perm (permC fun x => by (try dsimp only); simp only [List.append_eq, List.count_append, List.count_cons, List.count_nil, List.map_nil, List.length_nil, List.length_append, List.length_cons, List.length_set, Nat.zero_add, List.nil_append, iI, iL]; omega)
   try simp only [go_sem]
   refine ⟨h4p, rd_elA (f := prE) oB h4p ?_⟩
   generalize N.getD j default = yy at *
   obtain ⟨y, i⟩ := yy
   try simp only [go_sem, reduceAdd]
   refine newRef_own o fun id10 H o => ?_
   try simp only [go_sem]
   refine stc o fun H o => ?_
   simp only [wr_cons, wr_nil, List.set_cons_zero, List.set_cons_succ] at o
   have hpl2 : (undoT p' (N.take j)).length = p.length := by rw [undoT_len, hpl']
   have hrw : ((undoT p' (N.take j)).getD y.toNat default).length = (p.getD y.toNat default).length := by rw [undoT_row, hrow']
   have oc : Owns H0 H (q ++ ((id10, .cells 2 [iI y, iI i] 0) :: (idB, .cells 2 (flat (N.map prE)) 0) :: (idS, srO f g (.buf idX Xs.length) (.fn (.func F) ca)) :: (idN, .cells 1 [.buf idB N.length] 0) :: (w ++ l))) := o.perm (permC fun x => by (try dsimp only); simp only [List.append_eq, List.count_append, List.count_cons, List.count_nil, List.map_nil, List.length_nil, List.length_append, List.length_cons, List.length_set, Nat.zero_add, List.nil_append, iI, iL]; omega)
   obtain ⟨idX', Xs', idR, hXe, hXl, hgX, hXr, hgR, hset⟩ := tab_cell hX oc (y := y.toNat) (i := i.toNat) (by have := hr.1.2; omega) (by rw [hrw]; exact hr.2.2)
   obtain ⟨rfl, hXX⟩ := AV.buf.inj hXe
   have hgS : H.get idS = some (srO f g (.buf idX Xs.length) (.fn (.func F) ca)) := oc.get (idS, srO f g (.buf idX Xs.length) (.fn (.func F) ca)) (by simp)
   have hy2 := hr.1.2
   try simp only [go_sem, reduceAdd]
   refine rd_get hgS (by simp) ?_
   try simp only [go_sem, reduceAdd]
   refine rd_cells o (by simp) ?_
   try simp only [go_sem]
   refine ⟨⟨hr.1.1, by omega⟩, rd_get hgX (by omega) ?_⟩
   rw [hXr]
   try simp only [go_sem, reduceAdd]
   refine rd_cells o (by simp) ?_
   try simp only [go_sem]
   refine ⟨⟨hr.2.1, by rw [hrw]; exact hr.2.2⟩, hset _ _ fun q' H hX' o => ?_⟩
   try simp only [go_sem, wj]
   refine for_next q' (by omega) ⟨by rw [hus]; exact hX', ?_⟩ rfl
   have o := o.perm (show _ from List.perm_middle)
   have o3 := o.tl
   simp only [srO, SF.cells] at o3 ⊢
   exact o3.perm (permC fun x => by (try dsimp only); simp only [List.append_eq, List.count_append, List.count_cons, List.count_nil, List.map_nil, List.length_nil, List.length_append, List.length_cons, List.length_set, Nat.zero_add, List.nil_append, iI, iL]; omega)
  ·have h4p := of_ndecide h4
   obtain rfl : j = N.length := by omega
   rw [List.take_length, hun] at hX
   have o := o.subl (l' := (idS, srO f g (.buf idX Xs.length) (.fn (.func F) ca)) :: (q ++ (w ++ l))) (.cons_cons _ (List.Sublist.append_left (List.Sublist.append_left ((List.sublist_cons_self _ _).trans (List.sublist_cons_self _ _)) _) _))
   try simp only [go_sem]
   cases b
   ·try simp only [go_sem]
    exact ⟨H, .refl _, false, q, w, A', rfl, hX, hGs, o, fun h => by cases h⟩
   ·obtain ⟨hFs, M', hM', rfl⟩ := hres rfl
    try simp only [go_sem, w2]
    exact for_next (M', q, w) (by omega) ⟨by rw [Int.natCast_succ]; exact hM', hX, hFs, o⟩ rfl
end Go.Proofs.Shf
namespace Go.Shf
open Go.AW
end Go.Shf
namespace Go.Proofs.Shf
open Go.AW Go.Proofs Go.Shf
theorem elements_ok (B : Nat) (f : SF) (hl : f.sizes.length ≤ 8) (hz : ∀ y, y ∈ f.sizes → 0 ≤ y ∧ y < 17) : ∃ n : Int, Pur Tryz.prog B 73 [.ptr f.cells] (iI n) := by
 refine ⟨f.sizes.sum, ⟨fun H0 => c73p (by simp) fun _ => ?_⟩⟩
 unfold s73p
 try simp only [go_sem, reduceAdd, reduceLeDiff]
 refine awp_for [9, 10] (G := Unit) (fun k _ => [(3, some (.int .i64 (f.sizes.take k).sum)), (11, some (.int .i64 (k : Int)))]) (fun k _ H => H = H0 ∧ 0 ≤ (f.sizes.take k).sum ∧ (f.sizes.take k).sum ≤ 17 * k) f.sizes.length () ⟨rfl, by simp, by simp⟩ rfl ?_
 rintro k _ H hk ⟨rfl, hs⟩
 try simp only [go_sem]
 refine ⟨fun h1 => At.mk ?_, fun h1 => At.mk ?_⟩
 ·have h1 := of_decide h1
  have w1 := wsucc (k := k) (by omega)
  have hsz := hz _ (mem_getD.mpr ⟨k, h1, rfl⟩)
  have e : (f.sizes.take (k + 1)).sum = (f.sizes.take k).sum + f.sizes.getD k default := by rw [take_succ' _ h1]; simp
  have w2 : IntKind.i64.wrap ((f.sizes.take k).sum + f.sizes.getD k default) = (f.sizes.take (k + 1)).sum := by rw [wrap_i64 (by omega) (by omega), e]
  try simp only [go_sem]
  refine ⟨h1, ?_⟩
  try simp only [go_sem, w1, w2]
  exact for_next () (by omega) ⟨rfl, by omega, by omega⟩ rfl
 ·have h1 := of_ndecide h1
  obtain rfl : k = f.sizes.length := by omega
  try simp only [go_sem]
  exact pure_ret (by rw [List.take_length]) (.refl _)
def idxR : Option Nat → Int
 | some i => i
 | none => -1
end Go.Proofs.Shf
namespace Go.Proofs.Shf
open Go.AW Go.Proofs Go.Shf
theorem cloneN (B : Nat) (l : List Int) : New Tryz.prog B 189 [iL l] fun p X => OL p X l :=
 ⟨fun H => (clone_own B l H H [] (.nil H)).mono fun r H' ⟨id, A, e, o, q⟩ => by
  subst e q
  exact ⟨_, .inr ⟨id, _, [], rfl, by simp, rowsIT _⟩, o⟩⟩
theorem clonesN (B : Nat) (l : List (List Int)) : New Tryz.prog B 170 [iLL l] fun p X => OLL p X l := by
 refine ⟨fun H0 => c170p (by simp) fun ⟨hf, _⟩ => ?_⟩
 have hl := fine_mL_le hf
 simp only [maxL] at hl
 unfold s170p
 try simp only [go_sem, reduceAdd]
 refine ⟨by simp only [maxL]; omega, newBuf_own (.nil _) fun id H o => ?_⟩
 try simp only [go_sem]
 refine awp_for [9, 10] (G := AV × Ob) (fun k g => [(3, some g.1), (11, some (.int .i64 (k : Int)))])
  (fun k g H => OLL g.2 g.1 (l.take k) ∧ Owns H0 H (g.2 ++ [])) l.length (.buf id 0, [(id, .cells 1 [] 0)]) ⟨.inr ⟨id, [], [], rfl, rfl, .nil⟩, o⟩ rfl ?_
 clear o
 rintro k ⟨X, q⟩ H hk ⟨hX, o⟩
 replace hX : OLL q X (l.take k) := hX
 replace o : Owns H0 H (q ++ []) := o
 try simp only [go_sem]
 refine ⟨fun h1 => At.mk ?_, fun h1 => At.mk ?_⟩
 ·have h1p := of_decide h1
  have w := wsucc (k := k) (by omega)
  try simp only [go_sem]
  refine ⟨h1p, ?_⟩
  refine (cloneN B (l.getD k default)).call o fun Y p H hY o => ?_
  have hY1 := hY.one
  try simp only [go_sem, reduceAdd]
  refine ⟨by simp [okEls, AV.cells_one hY1, hY1], ?_⟩
  refine hX.appT hY ⟨AV.cells_one hY1, hY1⟩ o (by rw [List.length_take]; simp only [maxL]; omega) fun X' q' H hX1 hX' o => ?_
  try simp only [go_sem, w]
  refine for_next (X', q') h1p ⟨?_, o⟩ rfl
  simp only
  rw [take_succ_getD l h1p]; exact hX'
 ·have h1p := of_ndecide h1
  obtain rfl : k = l.length := by omega
  rw [List.take_length] at hX
  rw [List.append_nil] at o
  try simp only [go_sem]
  exact ⟨H, .refl H, q, hX, o⟩
def OutG (idO : Nat) (A : List (List (List Int))) (w : Ob) : Prop := ∃ (Y : AV) (p : Ob), w = (idO, .cells 1 [Y] 0) :: p ∧ LsP iLL p Y A
def OutF (most idO : Nat) (A : List (List (List Int))) (w : Ob) : Prop := OutG idO A w ∧ A.length ≤ most
theorem foundAll_ok (B : Nat) (most : Nat) (hmost : most ≤ 1048576) (idO : Nat) : FoundOk B 169 [.ref idO 0, .ptr [.int .i64 most]] (OutF most idO) (OutG idO) := by
 refine ⟨fun A w h => h.1, fun p A X q w l H0 H hX hFs o => ?_⟩
 obtain ⟨⟨Y, pw, rfl, hY⟩, hA⟩ := hFs
 refine c169p (by simp) fun _ => ?_
 unfold s169p
 try simp only [go_sem, reduceAdd]
 have hgO : H.get idO = some (.cells 1 [Y] 0) := o.get (idO, .cells 1 [Y] 0) (by simp)
 refine rd_get hgO (by simp) ?_
 try simp only [go_sem, reduceAdd]
 refine New.lentQ owLL (clonesN B p) rfl (fun i hi => ?_) fun H' hs => ⟨hs, ?_⟩
 ·obtain rfl : i = 0 := by simp only [List.length_cons, List.length_nil] at hi; omega
  exact owLL.arg hX o fun x hx => List.mem_append_left _ hx
 have o := o.ext hs
 have oY : Owns H0 H' (pw ++ ((idO, .cells 1 [Y] 0) :: (q ++ l))) := o.perm (permC fun x => by (try dsimp only); simp only [List.append_eq, List.count_append, List.count_cons, List.count_nil, List.map_nil, List.length_nil, List.length_append, List.length_cons, List.length_set, Nat.zero_add, List.nil_append, iI, iL]; omega)
 try simp only [go_sem, reduceAdd]
 refine (LsO.mk oY hY).app p rfl (by simp only [maxL]; omega) fun idn H o => ?_
 try simp only [go_sem]
 refine stc o.swap fun H o => ?_
 simp only [wr_cons, wr_nil, List.set_cons_zero, List.set_cons_succ] at o
 try simp only [go_sem]
 refine rd_cells o (by simp) ?_
 try simp only [go_sem]
 refine ⟨H, .refl H, _, (idO, .cells 1 [.buf idn (A ++ [p]).length] 0) :: [(idn, .cells 1 ((A ++ [p]).map iLL) 0)], rfl, ⟨_, _, rfl, .inr ⟨idn, rfl, rfl⟩⟩, fun hb => ⟨⟨_, _, rfl, .inr ⟨idn, rfl, rfl⟩⟩, ?_⟩, ?_⟩
 ·exact of_decide_eq_true hb
 ·exact o.perm (permC fun x => by (try dsimp only); simp only [List.append_eq, List.count_append, List.count_cons, List.count_nil, List.map_nil, List.length_nil, List.length_append, List.length_cons, List.length_set, Nat.zero_add, List.nil_append, iI, iL]; omega)
theorem blank_take (f : SF) {k : Nat} (hk : k < f.sizes.length) {n : Nat} (hn : f.sizes.getD k default = n) : (blankT f).take (k + 1) = (blankT f).take k ++ [List.replicate n (-1)] := by
 rw [take_one _ (by simpa [blankT] using hk)]
 congr 2
 rw [blankT, map_getD _ hk, hn, Int.toNat_natCast]
theorem setMaps_ok (B : Nat) {f g : SF} (hf : f.Is) (hg : g.Is) (sh : f.shape = g.shape) {F : FuncId} {ca : List AV} {Fs Gs : List (List (List Int)) → Ob → Prop} (hF : FoundOk B F ca Fs Gs) (A : List (List (List Int))) (w l : Ob) (H0 H : Heap) (hFs : Fs A w) (o : Owns H0 H (w ++ l)) :
  CallH Tryz.prog B 168 [.ptr f.cells, .ptr g.cells, .bool false, .fn (.func F) ca] H fun r H' => ∃ (b : Bool) (w' : Ob) (A' : List (List (List Int))), r = .bool b ∧ Gs A' w' ∧ Owns H0 H' (w' ++ l) ∧
   (b = true → Fs A' w' ∧ ∃ M, ListsT f g (blankT f) M ∧ A' = A ++ M) := by
 refine c168p (by simp) fun _ => ?_
 have hob := hf.1.is.1.o
 have hsl := hf.1.sl
 have hz0 : ∀ x, x < f.sizes.length → 0 ≤ f.sizes.getD x default ∧ f.sizes.getD x default < 17 := fun x hx => hf.1.sz _ (mem_getD.mpr ⟨x, hx, rfl⟩)
 unfold s168p
 have hfc : (AV.fn (.func F) ca).cells = [.fn (.func F) ca] := rfl
 try simp only [go_sem, reduceAdd, reduceLeDiff, hfc, wr_cons, wr_nil, List.set_cons_zero, List.set_cons_succ]
 refine newRef_own o fun idS H o => ?_
 try simp only [go_sem, reduceAdd, reduceLeDiff]
 refine awp_for [9, 21, 22] (G := AV × Ob) (fun k _ => [(23, some (.int .i64 (k : Int)))])
  (fun k G H => OLL G.2 G.1 ((blankT f).take k) ∧ Owns H0 H ((idS, srO f g G.1 (.fn (.func F) ca)) :: (G.2 ++ (w ++ l)))) f.sizes.length (.nilsl, []) ⟨.inl ⟨rfl, rfl, rfl⟩, o⟩ rfl ?_
 clear o
 rintro k ⟨X, q⟩ H hk ⟨hX, o⟩
 replace hX : OLL q X ((blankT f).take k) := hX
 replace o : Owns H0 H ((idS, srO f g X (.fn (.func F) ca)) :: (q ++ (w ++ l))) := o
 try simp only [go_sem]
 refine ⟨fun h1 => At.mk ?_, fun h1 => At.mk ?_⟩
 ·have h1p := of_decide h1
  have w1 := wsucc (k := k) (by omega)
  have hzk := hz0 k h1p
  obtain ⟨n, hn⟩ : ∃ n : Nat, f.sizes.getD k default = n := ⟨_, (Int.toNat_of_nonneg hzk.1).symm⟩
  rw [hn] at hzk
  try simp only [go_sem, reduceAdd]
  refine ⟨h1p, ?_⟩
  refine rd_cells o (by simp) ?_
  rw [hn]
  try simp only [go_sem, reduceAdd]
  refine (repeated_own B (-1) n (by omega) H H [] (.nil H)).mono ?_
  rintro r H2 ⟨idr, R, rfl, or, rfl⟩
  refine ⟨or.sub, ?_⟩
  have o := o.trans or
  have o2 : Owns H0 H2 ([(idr, .cells 1 ((List.replicate n (-1 : Int)).map iI) 0)] ++ (q ++ ((idS, srO f g X (.fn (.func F) ca)) :: (w ++ l)))) := o.perm (permC fun x => by (try dsimp only); simp only [List.append_eq, List.count_append, List.count_cons, List.count_nil, List.map_nil, List.length_nil, List.length_append, List.length_cons, List.length_set, Nat.zero_add, List.nil_append, iI, iL]; omega)
  try simp only [go_sem, reduceAdd]
  refine hX.appT (O := OL) (p := [(idr, .cells 1 ((List.replicate n (-1 : Int)).map iI) 0)]) (a := List.replicate n (-1)) (.inr ⟨idr, _, [], rfl, by simp, rowsIT _⟩) ⟨rfl, rfl⟩ o2 (by rw [List.length_take]; simp only [maxL]; omega) fun X' q' H hX1 hX' o => ?_
  have o3 : Owns H0 H ((idS, srO f g X (.fn (.func F) ca)) :: (q' ++ (w ++ l))) := o.perm (permC fun x => by (try dsimp only); simp only [List.append_eq, List.count_append, List.count_cons, List.count_nil, List.map_nil, List.length_nil, List.length_append, List.length_cons, List.length_set, Nat.zero_add, List.nil_append, iI, iL]; omega)
  rw [← blank_take f h1p hn] at hX'
  try simp only [go_sem, reduceAdd, AV.cells_one hX1]
  refine st_cells o3 (by simp) rfl (by simp only [memcons, memnil]; exact ⟨hX1, trivial⟩) fun H o => ?_
  simp only [wr_cons, wr_nil, List.set_cons_zero, List.set_cons_succ] at o
  try simp only [go_sem, w1]
  exact for_next (X', q') (by omega) ⟨hX', o⟩ rfl
 ·have h1p := of_ndecide h1
  have hkk : k = f.sizes.length := by omega
  rw [hkk, List.take_of_length_le (by simp [blankT])] at hX
  try simp only [go_sem]
  refine (run_ok B hf hg sh hF idS X _ (blankT f) rfl (blank_pt hf.1) A q w l H0 H hX hFs o).mono ?_
  rintro r H' ⟨b, q', w', A', rfl, hX', hGs, o, hb⟩
  try simp only [go_sem]
  exact ⟨H', .refl _, b, w', A', rfl, hGs, o.subl ((List.sublist_append_right _ _).trans (List.sublist_cons_self _ _)), hb⟩
def MapsQ (f g : SF) (r : AV) : Prop := ∃ (L : List (List (List Int))) (b : Bool), r = .tup [iLLL L, .bool b] ∧ (b = true → ListsT f g (blankT f) L)
theorem allSetMapsP_ok (B : Nat) {f g : SF} (hf : f.Is) (hg : g.Is) (sh : f.shape = g.shape) (most : Nat) (hmost : most ≤ 1048576) : Rets B 74 [.ptr f.cells, .ptr g.cells, .int .i64 most] (MapsQ f g) := by
 intro H0
 refine c74p (by simp) fun _ => ?_
 unfold s74p
 have o : Owns H0 H0 [] := .nil _
 try simp only [go_sem, reduceAdd]
 refine newBuf_own o fun idE H o => ?_
 try simp only [go_sem, reduceAdd]
 refine newRef_own o fun idO H o => ?_
 try simp only [go_sem]
 refine stc o fun H o => ?_
 simp only [wr_cons, wr_nil, List.set_cons_zero, List.set_cons_succ] at o
 try simp only [go_sem]
 have hFs : OutF most idO [] [(idO, .cells 1 [.buf idE 0] 0), (idE, .cells 1 [] 0)] := ⟨⟨.buf idE 0, [(idE, .cells 1 [] 0)], rfl, .inr ⟨idE, rfl, rfl⟩⟩, Nat.zero_le _⟩
 refine (setMaps_ok B hf hg sh (foundAll_ok B most hmost idO) [] _ [] H0 H hFs o).mono ?_
 clear o hFs
 rintro r H ⟨b, w, L, rfl, ⟨Y, p, rfl, hY⟩, o, hb⟩
 have hq : b = true → ListsT f g (blankT f) L := fun h => by
  obtain ⟨_, M, h1, h2⟩ := hb h
  rw [h2]; exact h1
 clear hb
 try simp only [go_sem]
 refine rd_cells (show Owns H0 H ((idO, .cells 1 [Y] 0) :: (p ++ [])) from o) (by simp) ?_
 try simp only [go_sem]
 have ob := o.sub
 rcases hY with ⟨rfl, rfl, rfl⟩ | ⟨idn, rfl, rfl⟩
 ·try simp only [go_sem]
  exact rets_ret ⟨[], b, rfl, hq⟩ ob
 ·refine fz_own (f := iLL) (show Owns H0 H ((idn, .cells 1 (L.map iLL) 0) :: [(idO, .cells 1 [.buf idn L.length] 0)]) from o.swap) rfl fun H o => ?_
  try simp only [go_sem]
  exact rets_ret ⟨L, b, rfl, hq⟩ o.sub
theorem setsCode_ok (B : Nat) {f g : SF} (hf : f.Is) (hg : g.Is) (sh : f.shape = g.shape) : Pur Tryz.prog B 72 [.ptr f.cells, .ptr g.cells] (iI 0) := by
 refine ⟨fun H0 => c72 (by simp) fun _ => ?_⟩
 unfold s72
 try simp only [go_sem, reduceAdd]
 refine (show Pur Tryz.prog B _ [.sl [.ptr f.cells, .ptr g.cells]] _ from areSetFunctors_ok B [f, g]).go fun _ => ?_
 rw [dec_t (by simp [hf, hg])]
 try simp only [go_sem, reduceAdd, reduceLeDiff]
 refine ⟨_, (sameCategory_ok B f.shape g.shape).run, ?_⟩
 rw [dec_t sh]
 try simp only [go_sem]
 exact pure_ret rfl (.refl _)
def AllMQ (f g : SF) (r : AV) : Prop := ∃ (L : List (List (List Int))) (k : Int), r = .tup [iLLL L, iI k] ∧ (k = 0 ∨ k = 3) ∧ (k = 0 → ListsT f g (blankT f) L)
theorem allSetMapsI_ok (B : Nat) {f g : SF} (hf : f.Is) (hg : g.Is) (sh : f.shape = g.shape) : Rets B 17 [.agg f.cells, .agg g.cells] (AllMQ f g) := by
 intro H0
 refine c17 (by simp) fun _ => ?_
 have hob := hf.1.is.1.o
 have hsl := hf.1.sl
 obtain ⟨n, hn⟩ := elements_ok B f (by omega) fun y hy => hf.1.sz y hy
 unfold s17
 try simp only [go_sem, reduceAdd]
 refine (setsCode_ok B hf hg sh).go fun _ => ?_
 try simp only [go_sem, dTrue]
 refine hn.go fun _ => ?_
 try simp only [go_sem]
 refine ⟨fun h1 => At.mk ?_, fun h1 => At.mk ?_⟩
 ·try simp only [go_sem]
  exact rets_ret ⟨[], 3, rfl, .inr rfl, fun h => by simp at h⟩ (.refl _)
 try simp only [go_sem]
 refine (allSetMapsP_ok B hf hg sh 200 (by omega)).go fun r _ ⟨L, b, e, hb⟩ => ?_
 subst e
 try simp only [go_sem, reduceAdd, reduceLT]
 cases b
 ·try simp only [go_sem]
  exact rets_ret ⟨[], 3, rfl, .inr rfl, fun h => by simp at h⟩ (.refl _)
 ·try simp only [go_sem]
  exact rets_ret ⟨L, 0, rfl, .inl rfl, fun _ => hb rfl⟩ (.refl _)
end Go.Proofs.Shf
namespace Go.Proofs.Shf
open Go.AW Go.Proofs Go.Shf
theorem isSize_ok (B : Nat) (n : Int) : Pur Tryz.prog B 338 [iI n] (.bool (dec (0 ≤ n ∧ n ≤ 256))) := by
 refine ⟨fun H0 => c338 (by simp) fun _ => ?_⟩
 unfold s338
 try simp only [go_sem, reduceAdd]
 refine (inRange_ok ..).go fun _ => ?_
 try simp only [go_sem]
 exact pure_ret rfl (.refl _)
theorem areSizes_ok (B : Nat) (s : List Int) : Pur Tryz.prog B 299 [iL s] (.bool (dec (∀ y, y ∈ s → 0 ≤ y ∧ y ≤ 256))) := by
 refine ⟨fun H0 => c299 (by simp) fun ⟨hf, _⟩ => ?_⟩
 have hl := fine_mL_le hf
 simp only [maxL] at hl
 unfold s299
 try simp only [go_sem, reduceAdd]
 refine awp_for [5, 6] (fun k _ => [(7, some (.int .i64 (k : Int)))]) (fun k _ H => H = H0 ∧ ∀ i, i < k → 0 ≤ s.getD i default ∧ s.getD i default ≤ 256) s.length () ⟨rfl, by simp⟩ rfl ?_
 rintro k _ H hk ⟨rfl, hall⟩
 try simp only [go_sem]
 refine ⟨fun h1 => At.mk ?_, fun h1 => At.mk ?_⟩
 ·have h1p := of_decide h1
  have w1 := wsucc (k := k) (by omega)
  try simp only [go_sem]
  refine ⟨h1p, ?_⟩
  refine (isSize_ok ..).go fun _ => ?_
  try simp only [go_sem]
  refine ⟨fun h2 => At.mk ?_, fun h2 => At.mk ?_⟩
  ·try simp only [go_sem]
   have h2p := h2; simp only [bnt, decf] at h2p
   refine pure_ret ?_ (.refl _)
   rw [dec_f]; intro h
   exact h2p (h _ (mem_getD.mpr ⟨k, h1p, rfl⟩))
  ·try simp only [go_sem, w1]
   have h2p := h2; simp only [bnf, dect] at h2p
   exact for_next () (by omega) ⟨rfl, lt_succ_all hall (by omega)⟩ rfl
 ·have h1p := of_ndecide h1
  try simp only [go_sem]
  exact pure_ret (by rw [dec_t]; exact all_getD.mpr fun i hi => hall i (by omega)) (.refl _)
theorem prodT_take {s : List Int} {k : Nat} (hk : k < s.length) : prodT (s.take (k + 1)) = prodT (s.take k) * s.getD k default := by
 rw [take_one _ hk, prodT_append, prodT, prodT, Int.mul_one]
theorem prodT_drop {s : List Int} {k : Nat} (hk : k < s.length) : prodT (s.drop k) = s.getD k default * prodT (s.drop (k + 1)) := by
 have : s.drop k = s.getD k default :: s.drop (k + 1) := by
  rw [List.drop_eq_getElem_cons hk]; simp [List.getD_eq_getElem?_getD, hk]
 rw [this, prodT]
def Sm (s : List Int) : Prop := s.length ≤ 4 ∧ ∀ a, a ∈ s → 0 ≤ a ∧ a ≤ 16
theorem Sm.take {s : List Int} (h : Sm s) (k : Nat) : 0 ≤ prodT (s.take k) ∧ prodT (s.take k) ≤ 65536 := by
 have h2 : ∀ a, a ∈ s.take k → 0 ≤ a ∧ a ≤ 16 := fun a ha => h.2 a (List.mem_of_mem_take ha)
 refine ⟨prodT_nonneg fun a ha => (h2 a ha).1, Int.le_trans (prodT_le (by omega) h2) ?_⟩
 have h3 : (s.take k).length ≤ 4 := by rw [List.length_take]; have := h.1; omega
 have : ∀ j : Nat, j ≤ 4 → (16 : Int) ^ j ≤ 65536 := by decide
 exact this _ h3
theorem Sm.prod {s : List Int} (h : Sm s) : 0 ≤ prodT s ∧ prodT s ≤ 65536 := by
 have := h.take s.length
 rwa [List.take_length] at this
theorem tupleCount_ok (B : Nat) (s : List Int) (hs : Sm s) : Pur Tryz.prog B 232 [iL s] (iI (prodT s)) := by
 refine ⟨fun H0 => c232 (by simp) fun _ => ?_⟩
 have hl := hs.1
 unfold s232
 try simp only [go_sem, reduceAdd]
 refine awp_for [6, 7] (fun k _ => [(3, some (iI (prodT (s.take k)))), (8, some (.int .i64 (k : Int)))]) (fun k _ H => H = H0) s.length () rfl rfl ?_
 rintro k _ H hk rfl
 have ht := hs.take k
 try simp only [go_sem]
 refine ⟨fun h1 => At.mk ?_, fun h1 => At.mk ?_⟩
 ·have h1p := of_decide h1
  have w1 := wsucc (k := k) (by omega)
  have hb := hs.2 _ (mem_getD.mpr ⟨k, h1p, rfl⟩)
  have ht2 := hs.take (k + 1)
  rw [prodT_take h1p] at ht2
  try simp only [go_sem]
  refine ⟨h1p, ?_⟩
  refine ⟨fun h2 => At.mk ?_, fun h2 => At.mk ?_⟩
  ·have h2p := h2; simp only [decide_eq_true_eq] at h2p
   try simp only [go_sem]
   refine pure_ret ?_ (.refl _)
   rw [prodT_zero (mem_getD.mpr ⟨k, h1p, h2p⟩)]
  ·have h2p := h2; simp only [decide_eq_false_iff_not] at h2p
   have w2 : IntKind.i64.wrap (prodT (s.take k) * s.getD k default) = prodT (s.take k) * s.getD k default := wrap_i64 (by omega) (by omega)
   try simp only [go_sem]
   rw [decide_eq_true (show prodT (s.take k) ≤ 1000000000000 by omega)]
   try simp only [go_sem, w1, w2]
   exact for_next () (by omega) rfl (by rw [prodT_take h1p])
 ·have h1p := of_ndecide h1
  obtain rfl : k = s.length := by omega
  rw [List.take_length] at ht ⊢
  try simp only [go_sem]
  refine pure_ret ?_ (.refl _)
  rw [if_neg (show ¬ (1000000000001 : Int) < prodT s by omega)]
  rfl
theorem l01Total_ok (B : Nat) (s : List Int) (hs : Sm s) : Pur Tryz.prog B 154 [iL s] (iI (prodT s)) := by
 refine ⟨fun H0 => c154 (by simp) fun _ => ?_⟩
 have hl := hs.1
 unfold s154
 try simp only [go_sem, reduceAdd]
 refine awp_for [0] (fun k _ => [(3, some (.int .i64 (k : Int)))]) (fun k _ H => H = H0 ∧ ∀ i, i < k → s.getD i default ≠ 0) s.length () ⟨rfl, by simp⟩ rfl ?_
 rintro k _ H hk ⟨rfl, hall⟩
 try simp only [go_sem]
 refine ⟨fun h1 => At.mk ?_, fun h1 => At.mk ?_⟩
 ·have h1p := of_decide h1
  have w1 := wsucc (k := k) (by omega)
  try simp only [go_sem]
  refine ⟨h1p, ?_⟩
  refine ⟨fun h2 => At.mk ?_, fun h2 => At.mk ?_⟩
  ·have h2p := h2; simp only [decide_eq_true_eq] at h2p
   try simp only [go_sem]
   exact pure_ret (by rw [prodT_zero (mem_getD.mpr ⟨k, h1p, h2p⟩)]) (.refl _)
  ·have h2p := h2; simp only [decide_eq_false_iff_not] at h2p
   try simp only [go_sem, w1]
   exact for_next () (by omega) ⟨rfl, lt_succ_all hall h2p⟩ rfl
 ·have h1p := of_ndecide h1
  obtain rfl : k = s.length := by omega
  try simp only [go_sem]
  refine awp_for [0] (fun k _ => [(4, some (iI (prodT (s.take k)))), (5, some (.int .i64 (k : Int)))]) (fun k _ H' => H' = H) s.length () rfl rfl ?_
  clear h1 h1p hk
  rintro k _ H' hk rfl
  have ht := hs.take k
  try simp only [go_sem]
  refine ⟨fun h1 => At.mk ?_, fun h1 => At.mk ?_⟩
  ·have h1p := of_decide h1
   have w1 := wsucc (k := k) (by omega)
   have hb := hs.2 _ (mem_getD.mpr ⟨k, h1p, rfl⟩)
   have hne := hall k h1p
   have ht2 := hs.take (k + 1)
   rw [prodT_take h1p] at ht2
   have w2 : IntKind.i64.wrap (prodT (s.take k) * s.getD k default) = prodT (s.take k) * s.getD k default := wrap_i64 (by omega) (by omega)
   have hq : 62500000000 ≤ (1000000000000 : Int).tdiv (s.getD k default) ∧ (1000000000000 : Int).tdiv (s.getD k default) ≤ 1000000000000 := by
    rw [Int.tdiv_eq_ediv_of_nonneg (by omega)]
    refine ⟨(Int.le_ediv_iff_mul_le (by omega)).mpr (by omega), Int.ediv_le_self _ (by omega)⟩
   have w3 : IntKind.i64.wrap ((1000000000000 : Int).tdiv (s.getD k default)) = (1000000000000 : Int).tdiv (s.getD k default) := wrap_i64 (by omega) (by omega)
   try simp only [go_sem]
   refine ⟨h1p, hne, ?_⟩
   try simp only [go_sem, w3]
   rw [decide_eq_false (show ¬ (1000000000000 : Int).tdiv (s.getD k default) < prodT (s.take k) by omega)]
   try simp only [go_sem]
   refine ⟨h1p, ?_⟩
   try simp only [go_sem, w1, w2]
   exact for_next () (by omega) rfl (by rw [prodT_take h1p])
  ·have h1p := of_ndecide h1
   obtain rfl : k = s.length := by omega
   rw [List.take_length]
   try simp only [go_sem]
   exact pure_ret rfl (.refl _)
def atK (s : List Int) (n : Int) (k : Nat) : List Int := (List.range s.length).map fun j => if s.length ≤ j + k then digT s n j else 0
theorem atK_zero (s : List Int) (n : Int) : atK s n 0 = List.replicate s.length 0 := by
 refine List.ext_getElem (by simp [atK]) fun i h1 h2 => ?_
 have : i < s.length := by simpa [atK] using h1
 simp [atK]; omega
theorem atK_full (s : List Int) (n : Int) : atK s n s.length = atT s n := by
 refine List.ext_getElem (by simp [atK, atT]) fun i h1 h2 => ?_
 simp [atK, atT]
theorem atK_succ (s : List Int) (n : Int) {k : Nat} (hk : k < s.length) : (atK s n k).set (s.length - 1 - k) (digT s n (s.length - 1 - k)) = atK s n (k + 1) := by
 refine List.ext_getElem (by simp [atK]) fun i h1 h2 => ?_
 have hi : i < s.length := by simpa [atK] using h2
 simp only [atK, List.getElem_set, List.getElem_map, List.getElem_range]
 by_cases e : s.length - 1 - k = i
 ·rw [if_pos e, if_pos (by omega), e]
 ·rw [if_neg e]
  by_cases e2 : s.length ≤ i + k
  ·rw [if_pos e2, if_pos (by omega)]
  ·rw [if_neg e2, if_neg (by omega)]
theorem atK_len (s : List Int) (n : Int) (k : Nat) : (atK s n k).length = s.length := by simp [atK]
theorem at_step {s : List Int} (hp : ∀ a, a ∈ s → 0 < a) {n : Int} (hn : 0 ≤ n) {k j : Nat} (hk : k < s.length) (hj : j = s.length - 1 - k) :
  (n / prodT (s.drop (s.length - k))).tmod (s.getD j default) = digT s n j ∧ (n / prodT (s.drop (s.length - k))).tdiv (s.getD j default) = n / prodT (s.drop (s.length - (k + 1))) ∧
  0 < s.getD j default ∧ 0 ≤ n / prodT (s.drop (s.length - (k + 1))) ∧ n / prodT (s.drop (s.length - (k + 1))) ≤ n ∧ 0 ≤ digT s n j ∧ s.length - k = j + 1 ∧ s.length - (k + 1) = j ∧ j < s.length := by
 have hjl : j < s.length := by omega
 have e1 : s.length - k = j + 1 := by omega
 have e2 : s.length - (k + 1) = j := by omega
 have hb := hp _ (mem_getD.mpr ⟨j, hjl, rfl⟩)
 have hP : 0 < prodT (s.drop (j + 1)) := prodT_pos fun a ha => hp a (List.mem_of_mem_drop ha)
 have hq : 0 ≤ n / prodT (s.drop (j + 1)) := Int.ediv_nonneg hn (by omega)
 rw [e1, e2, Int.tmod_eq_emod_of_nonneg hq, Int.tdiv_eq_ediv_of_nonneg hq, prodT_drop hjl, Int.mul_comm, ← Int.ediv_ediv_of_nonneg (by omega)]
 refine ⟨rfl, rfl, hb, Int.ediv_nonneg hq (by omega), Int.le_trans (Int.ediv_le_self _ hq) (Int.ediv_le_self _ hn), Int.emod_nonneg _ (by omega), by omega, by omega, hjl⟩
theorem l01At_ok (B : Nat) (s : List Int) (hs : Sm s) (hp : ∀ a, a ∈ s → 0 < a) (n : Int) (hn : 0 ≤ n ∧ n < 9223372036854775807) : Pur Tryz.prog B 155 [iL s, iI n] (iL (atT s n)) := by
 refine ⟨fun H0 => c155 (by simp) fun _ => ?_⟩
 have hl := hs.1
 have w0 : IntKind.i64.wrap ((s.length : Int) - 1) = (s.length : Int) - 1 := wrap_i64 (by omega) (by omega)
 unfold s155
 have o : Owns H0 H0 [] := .nil _
 try simp only [go_sem, reduceAdd]
 refine ⟨⟨by omega, by simp only [maxL]; omega⟩, mks_list iI 0 rfl o fun id H o => ?_⟩
 try simp only [go_sem, w0]
 refine awp_for [0, 5] (G := List Int) (fun k _ => [(1, some (iI (n / prodT (s.drop (s.length - k))))), (6, some (iI ((s.length : Int) - 1 - k)))])
  (fun k A H => A = atK s n k ∧ Owns H0 H [(id, .cells 1 (A.map iI) 0)]) s.length (List.replicate s.length 0) ⟨(atK_zero s n).symm, o⟩ (by simp [prodT]; rfl) ?_
 clear o
 rintro k A H hk ⟨hA, o⟩
 try simp only [go_sem]
 refine ⟨fun h1 => At.mk ?_, fun h1 => At.mk ?_⟩
 ·have h1p : k < s.length := by simp at h1; omega
  obtain ⟨j, hj⟩ : ∃ j, j = s.length - 1 - k := ⟨_, rfl⟩
  obtain ⟨m1, m2, m3, m4, m5, m6, m7, m8, m9⟩ := at_step hp hn.1 h1p hj
  have ej : (s.length : Int) - 1 - k = (j : Int) := by omega
  have w1 : IntKind.i64.wrap ((j : Int) - 1) = (j : Int) - 1 := wrap_i64 (by omega) (by omega)
  have w2 : IntKind.i64.wrap (n / prodT (s.drop (s.length - (k + 1)))) = n / prodT (s.drop (s.length - (k + 1))) := wrap_i64 (by omega) (by omega)
  rw [ej]
  try simp only [go_sem]
  refine ⟨m9, by omega, m9, ?_⟩
  rw [m1]
  refine set_own (f := iI) _ o rfl (by rw [hA, atK_len]; exact m9) fun H o => ?_
  try simp only [go_sem]
  refine ⟨m9, by omega, ?_⟩
  rw [m2]
  try simp only [go_sem, w2, w1]
  exact for_next (A.set j (digT s n j)) h1p ⟨by rw [hA, hj, atK_succ s n h1p], o⟩ (by rw [show (s.length : Int) - 1 - ((k + 1 : Nat) : Int) = (j : Int) - 1 by omega])
 ·have h1p : k = s.length := by simp at h1; omega
  subst h1p
  try simp only [go_sem]
  refine fz_own o (by rw [hA, atK_len]) fun H o => ?_
  try simp only [go_sem]
  rw [hA, atK_full]
  exact pure_ret rfl o.sub
theorem atT_smT {s : List Int} (hs : Sm s) {n : Int} (hn : 0 ≤ n ∧ n < prodT s) : ∀ a, a ∈ s → 0 < a := fun a ha => by
 have h1 := hs.2 a ha
 by_cases e : a = 0
 ·subst e; rw [prodT_zero ha] at hn; omega
 ·omega
theorem tupleAt_ok (B : Nat) (s : List Int) (hs : Sm s) (n : Int) (hn : 0 ≤ n ∧ n < prodT s) : Pur Tryz.prog B 234 [iL s, iI n] (.tup [iL (atT s n), iI 0]) := by
 refine ⟨fun H0 => c234 (by simp) fun _ => ?_⟩
 have hl := hs.1
 have hp := atT_smT hs hn
 have hP := hs.prod
 have w0 : IntKind.i64.wrap ((s.length : Int) - 1) = (s.length : Int) - 1 := wrap_i64 (by omega) (by omega)
 have wP : IntKind.i64.wrap (prodT s - 1) = prodT s - 1 := wrap_i64 (by omega) (by omega)
 unfold s234
 have o : Owns H0 H0 [] := .nil _
 try simp only [go_sem, reduceAdd]
 refine (areSizes_ok B s).go fun _ => ?_
 rw [dec_t fun y hy => by have := hs.2 y hy; omega]
 try simp only [go_sem]
 refine (tupleCount_ok B s hs).go fun _ => ?_
 try simp only [go_sem]
 rw [decide_eq_false (show ¬ (1000000000000 : Int) < prodT s by omega)]
 try simp only [go_sem, wP]
 refine (inRange_ok ..).go fun _ => ?_
 rw [dec_t (by omega)]
 try simp only [go_sem]
 refine ⟨⟨by omega, by simp only [maxL]; omega⟩, mks_list iI 0 rfl o fun id H o => ?_⟩
 try simp only [go_sem, w0]
 refine awp_for [0, 7] (G := List Int) (fun k A => [(1, some (iI (n / prodT (s.drop (s.length - k))))), (8, some (iI ((s.length : Int) - 1 - k)))])
  (fun k A H => A = atK s n k ∧ Owns H0 H [(id, .cells 1 (A.map iI) 0)]) s.length (List.replicate s.length 0) ⟨(atK_zero s n).symm, o⟩ (by simp [prodT]; rfl) ?_
 clear o
 rintro k A H hk ⟨hA, o⟩
 try simp only [go_sem]
 refine ⟨fun h1 => At.mk ?_, fun h1 => At.mk ?_⟩
 ·have h1p : k < s.length := by simp at h1; omega
  obtain ⟨j, hj⟩ : ∃ j, j = s.length - 1 - k := ⟨_, rfl⟩
  obtain ⟨m1, m2, m3, m4, m5, m6, m7, m8, m9⟩ := at_step hp hn.1 h1p hj
  have ej : (s.length : Int) - 1 - k = (j : Int) := by omega
  have w1 : IntKind.i64.wrap ((j : Int) - 1) = (j : Int) - 1 := wrap_i64 (by omega) (by omega)
  have w2 : IntKind.i64.wrap (n / prodT (s.drop (s.length - (k + 1)))) = n / prodT (s.drop (s.length - (k + 1))) := wrap_i64 (by omega) (by omega)
  rw [ej]
  try simp only [go_sem]
  refine ⟨m9, by omega, m9, ?_⟩
  rw [m1]
  refine set_own (f := iI) _ o rfl (by rw [hA, atK_len]; exact m9) fun H o => ?_
  try simp only [go_sem]
  refine ⟨m9, by omega, ?_⟩
  rw [m2]
  try simp only [go_sem, w2, w1]
  exact for_next (A.set j (digT s n j)) h1p ⟨by rw [hA, hj, atK_succ s n h1p], o⟩ (by rw [show (s.length : Int) - 1 - ((k + 1 : Nat) : Int) = (j : Int) - 1 by omega])
 ·have h1p : k = s.length := by simp at h1; omega
  subst h1p
  try simp only [go_sem]
  refine fz_own o (by rw [hA, atK_len]) fun H o => ?_
  try simp only [go_sem]
  rw [hA, atK_full]
  exact pure_ret rfl o.sub
end Go.Proofs.Shf
