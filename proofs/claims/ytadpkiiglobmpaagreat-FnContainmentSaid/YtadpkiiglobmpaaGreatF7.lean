/- A part of a proof. -/
import Derived.Test.YtadpkiiglobmpaaGreatF6
set_option linter.unusedVariables false
set_option linter.unusedSimpArgs false
set_option linter.unusedSectionVars false
open Nat (reduceEqDiff reduceAdd reduceMul reduceLeDiff reduceLT)
namespace Go.AW
open Go.Shf
@[go_sem] theorem opE_slc {P : Program} {B : Nat} {d : Option Nat} {F : Env → Heap → Prop} {σ : Env} {H : Heap} (n : Nat) (x : X) (lo hi : Option X) : opE P B d (.slc n x lo hi) F σ H = pE d F σ H (slcE n (val σ x) (lo.map (val σ)) (hi.map (val σ))) := rfl
theorem wk_cat' {F : Env → Heap → Prop} {σ : Env} {H0 H : Heap} {l : Ob} {id fr : Nat} {x : Int} {a b i d : Nat} {A C I : List Int} {D : List (List Int)}
  (o : Owns H0 H ((id, .cells 5 [iI x, .buf a A.length, .buf b C.length, .buf i I.length, .buf d D.length] fr) :: (a, .cells 1 (A.map iI) 0) :: (b, .cells 1 (C.map iI) 0) :: (i, .cells 1 (I.map iI) 0) :: (d, .cells 1 (D.map iL) 0) :: l))
  (hk : ∀ H', Owns H0 H' ((id, .cells 5 (Cat.cells ⟨x, A, C, I, D⟩) fr) :: l) → wkW F σ H') : wkW F σ H := by
 refine wk_cell 1 o rfl rfl fun H o => ?_
 simp only [List.set_cons_zero, List.set_cons_succ] at o
 refine wk_cell 2 o rfl rfl fun H o => ?_
 simp only [List.set_cons_zero, List.set_cons_succ] at o
 refine wk_cell 3 o rfl rfl fun H o => ?_
 simp only [List.set_cons_zero, List.set_cons_succ] at o
 refine wk_cell 4 o rfl rfl fun H o => ?_
 simp only [List.set_cons_zero, List.set_cons_succ] at o
 exact hk H o
theorem wk_cat {F : Env → Heap → Prop} {σ : Env} {H0 H : Heap} {l : Ob} {id fr : Nat} {x : Int} {a b i d : Nat} {A C I : List Int} {Xs : List AV} {As : List (List Int)} {ob : Ob} (h : LsR iI Xs As ob)
  (o : Owns H0 H ((id, .cells 5 [iI x, .buf a A.length, .buf b C.length, .buf i I.length, .buf d Xs.length] fr) :: (a, .cells 1 (A.map iI) 0) :: (b, .cells 1 (C.map iI) 0) :: (i, .cells 1 (I.map iI) 0) :: (d, .cells 1 Xs 0) :: (ob ++ l)))
  (hk : ∀ H', Owns H0 H' ((id, .cells 5 (Cat.cells ⟨x, A, C, I, As⟩) fr) :: l) → wkW F σ H') : wkW F σ H := by
 have hl := h.len
 have od : Owns H0 H ((d, .cells 1 Xs 0) :: (ob ++ ((id, .cells 5 [iI x, .buf a A.length, .buf b C.length, .buf i I.length, .buf d Xs.length] fr) :: (a, .cells 1 (A.map iI) 0) :: (b, .cells 1 (C.map iI) 0) :: (i, .cells 1 (I.map iI) 0) :: l))) := o.perm (permC fun x => by (try dsimp only); simp only [List.append_eq, List.count_append, List.count_cons, List.count_nil, List.map_nil, List.length_nil, List.length_append, List.length_cons, List.length_set, Nat.zero_add, List.nil_append, iI, iL]; omega)
 refine wk_rows h [] H od fun H o => ?_
 simp only [List.nil_append] at o
 rw [hl] at o
 have o : Owns H0 H ((id, .cells 5 [iI x, .buf a A.length, .buf b C.length, .buf i I.length, .buf d As.length] fr) :: (a, .cells 1 (A.map iI) 0) :: (b, .cells 1 (C.map iI) 0) :: (i, .cells 1 (I.map iI) 0) :: (d, .cells 1 (As.map iL) 0) :: l) := o.perm (permC fun x => by (try dsimp only); simp only [List.append_eq, List.count_append, List.count_cons, List.count_nil, List.map_nil, List.length_nil, List.length_append, List.length_cons, List.length_set, Nat.zero_add, List.nil_append, iI, iL]; omega)
 exact wk_cat' o hk
theorem LsR.row {α : Type} [Inhabited α] {f : α → AV} [One f] {Xs : List AV} {As : List (List α)} {ob : Ob} (h : LsR f Xs As ob) {i : Nat} (hi : i < Xs.length) (hp : 0 < (As.getD i []).length) :
  ∃ idr, Xs.getD i nv = .buf idr (As.getD i []).length ∧ ∀ {H0 H : Heap} {l : Ob} {id : Nat} {K : Kont} (o : Owns H0 H ((id, .cells 1 Xs 0) :: (ob ++ l))) (y : Nat) (hy : y < (As.getD i []).length) (v : α) {c : AV} (hc : c = f v)
   (hk : ∀ H' ob', LsR f Xs (As.set i ((As.getD i []).set y v)) ob' → Owns H0 H' ((id, .cells 1 Xs 0) :: (ob' ++ l)) → K nv H'), st1 (H.get idr) idr y 1 [c] K H := by
 obtain ⟨p, r, h1, h2, h3⟩ := h.split i hi
 rcases h2 with ⟨_, _, e⟩ | ⟨idr, rfl, e⟩
 ·rw [e] at hp; simp at hp
 ·refine ⟨idr, e, fun {H0 H l id K} o y hy v {c} hc hk => ?_⟩
  have o1 : Owns H0 H ((idr, .cells 1 ((As.getD i []).map f) 0) :: (id, .cells 1 Xs 0) :: (r ++ l)) := by
   refine o.perm (((List.Perm.append_right l h1).cons _).trans ?_)
   simp only [List.cons_append, List.nil_append]
   exact .swap _ _ _
  refine set_own v o1 hc hy fun H' o2 => ?_
  obtain ⟨o', k1, k2⟩ := h3 (.buf idr ((As.getD i []).set y v).length) ((As.getD i []).set y v) [(idr, .cells 1 (((As.getD i []).set y v).map f) 0)] (.inr ⟨idr, rfl, rfl⟩)
  have e2 : Xs.set i (.buf idr ((As.getD i []).set y v).length) = Xs := by
   rw [List.length_set, ← e]
   apply List.ext_getElem?
   intro j
   by_cases hj : i = j
   ·subst hj; rw [List.getElem?_set_self hi]; simp [List.getD_eq_getElem?_getD, hi]
   ·rw [List.getElem?_set_ne hj]
  rw [e2] at k1
  refine hk H' o' k1 (o2.perm ((List.Perm.swap _ _ _).trans (.cons _ ?_)))
  have := List.Perm.append_right l k2.symm
  simpa using this
end Go.AW
namespace Go.Proofs.Shf
open Go.AW Go.Proofs Go.Shf
def AnyQ (r : AV) : Prop := ∃ c : Cat, r = .agg c.cells
theorem anyQ (x : Int) (A C I : List Int) (D : List (List Int)) : AnyQ (.agg [iI x, iL A, iL C, iL I, iLL D]) := ⟨⟨x, A, C, I, D⟩, rfl⟩
@[go_sem] def bendO (id3 : Nat) (x : Int) (a : Nat) (A : List Int) (b : Nat) (C : List Int) (i : Nat) (I : List Int) (d : Nat) (Xs : List AV) (l : Ob) : Ob :=
 (id3, .cells 5 [iI x, .buf a A.length, .buf b C.length, .buf i I.length, .buf d Xs.length] 0) :: (a, .cells 1 (A.map iI) 0) :: (b, .cells 1 (C.map iI) 0) :: (i, .cells 1 (I.map iI) 0) :: (d, .cells 1 Xs 0) :: l
theorem l02Bend_ok (B N : Nat) (hN : N ≤ 65536) (c : Cat) (hc : c.Sh N) : Rd B 274 [.agg c.cells] AnyQ := by
 intro id s H0 H hs o
 refine c274p (by simp) fun _ => ?_
 obtain ⟨cob, cil, cml, ctl, ccl, crow⟩ := hc
 unfold s274p
 try simp only [go_sem, reduceAdd]
 refine newRef_own o fun id3 H o => ?_
 try simp only [go_sem, reduceAdd]
 refine newRef_own o fun id4 H o => ?_
 try simp only [go_sem]
 refine rd_celln o.tl (by simp) ?_
 try simp only [go_sem]
 refine New.go' (l02Own_new B c) o fun X1 p1 H ⟨a, b, i, d, Xs, ob, e1, hX, e2⟩ o _ => ?_
 subst e1 e2
 have hXl := hX.len
 try simp only [go_sem]
 have o : Owns H0 H ((id3, MObj.cells 5 [iI c.objs, iL c.frm, iL c.to, iL c.idn, iLL c.comp] 0) :: (a, .cells 1 (c.frm.map iI) 0) :: (b, .cells 1 (c.to.map iI) 0) :: (i, .cells 1 (c.idn.map iI) 0) :: (d, .cells 1 Xs 0) :: (ob ++ [(id, s.obj), (id4, MObj.cells 5 [.int .i64 0, .nilsl, .nilsl, .nilsl, .nilsl] 0)])) := o.perm (permC fun x => by (try dsimp only); simp only [List.append_eq, List.count_append, List.count_cons, List.count_nil, List.map_nil, List.length_nil, List.length_append, List.length_cons, List.length_set, Nat.zero_add, List.nil_append, iI, iL]; omega)
 refine stc o fun H o => ?_
 simp only [wr_cons, wr_nil, List.set_cons_zero, List.set_cons_succ] at o
 try simp only [go_sem, reduceAdd]
 refine rd_cells o (by simp) ?_
 try simp only [go_sem]
 have hsrc : ∀ {H : Heap} {s : Src} {Xs : List AV} {ob : Ob} {a b i : Nat} {A C I : List Int} {x : Int}, Owns H0 H (bendO id3 x a A b C i I d Xs (ob ++ [(id, s.obj), (id4, MObj.cells 5 [.int .i64 0, .nilsl, .nilsl, .nilsl, .nilsl] 0)])) →
   Owns H0 H ((id, s.obj) :: bendO id3 x a A b C i I d Xs (ob ++ [(id4, MObj.cells 5 [.int .i64 0, .nilsl, .nilsl, .nilsl, .nilsl] 0)])) := by
  intro H s Xs ob a b i A C I x o
  unfold bendO at o ⊢
  exact o.perm (permC fun x => by (try dsimp only); simp only [List.append_eq, List.count_append, List.count_cons, List.count_nil, List.map_nil, List.length_nil, List.length_append, List.length_cons, List.length_set, Nat.zero_add, List.nil_append, iI, iL]; omega)
 have o := hsrc (by unfold bendO; exact o)
 unfold bendO at o
 refine (l01Next_ok B c.frm.length).go hs o fun r s H _ ⟨f, e, hf0, hf1, hf2⟩ hs o => ?_
 subst e
 obtain ⟨f, rfl⟩ := Int.eq_ofNat_of_zero_le hf0
 try simp only [go_sem]
 refine (l01Next_ok B 8).go hs o fun r s H _ ⟨v, e, _⟩ hs o => ?_
 subst e
 try simp only [go_sem]
 refine ⟨fun q0 => At.mk ?_, fun q0 => At.mk ?_⟩
 focus
  try simp only [go_sem, reduceAdd]
  refine rd_cells o.tl (by simp) ?_
  try simp only [go_sem, reduceAdd]
  refine (l01Pick_ok B [IntKind.i64.wrap (c.objs + 1), -1, 9] (by simp)).go hs o fun r s H _ ⟨v, e, _⟩ hs o => ?_
  subst e
  try simp only [go_sem, reduceAdd]
  refine stc o.swap fun H o => ?_
  simp only [wr_cons, wr_nil, List.set_cons_zero, List.set_cons_succ] at o
  try simp only [go_sem]
  have o : Owns H0 H ((id3, .cells 5 [iI (v), .buf a (c.frm).length, .buf b (c.to).length, .buf i (c.idn).length, .buf d (Xs).length] 0) :: (a, .cells 1 ((c.frm).map iI) 0) :: (b, .cells 1 ((c.to).map iI) 0) :: (i, .cells 1 ((c.idn).map iI) 0) :: (d, .cells 1 (Xs) 0) :: (ob ++ [(id, s.obj), (id4, MObj.cells 5 [.int .i64 0, .nilsl, .nilsl, .nilsl, .nilsl] 0)])) := o.perm (permC fun x => by (try dsimp only); simp only [List.append_eq, List.count_append, List.count_cons, List.count_nil, List.map_nil, List.length_nil, List.length_append, List.length_cons, List.length_set, Nat.zero_add, List.nil_append, iI, iL]; omega)
  refine wk_cat hX o fun H o => ?_
 rotate_left 1
 try simp only [go_sem]
 refine ⟨fun q1 => At.mk ?_, fun q1 => At.mk ?_⟩
 focus
  try simp only [go_sem, reduceAdd]
  refine rd_cells o.tl (by simp) ?_
  try simp only [go_sem, reduceAdd]
  refine app_own' _ (o.pull [_, _]) rfl rfl (by simp only [maxL]; omega) fun a H A2 _ hA2 o => ?_
  try simp only [go_sem, reduceAdd]
  refine stc (o.pull [_, _]) fun H o => ?_
  simp only [wr_cons, wr_nil, List.set_cons_zero, List.set_cons_succ] at o
  try simp only [go_sem]
  have o : Owns H0 H ((id3, .cells 5 [iI (c.objs), .buf a (A2).length, .buf b (c.to).length, .buf i (c.idn).length, .buf d (Xs).length] 0) :: (a, .cells 1 ((A2).map iI) 0) :: (b, .cells 1 ((c.to).map iI) 0) :: (i, .cells 1 ((c.idn).map iI) 0) :: (d, .cells 1 (Xs) 0) :: (ob ++ [(id, s.obj), (id4, MObj.cells 5 [.int .i64 0, .nilsl, .nilsl, .nilsl, .nilsl] 0)])) := o.perm (permC fun x => by (try dsimp only); simp only [List.append_eq, List.count_append, List.count_cons, List.count_nil, List.map_nil, List.length_nil, List.length_append, List.length_cons, List.length_set, Nat.zero_add, List.nil_append, iI, iL]; omega)
  refine wk_cat hX o fun H o => ?_
 rotate_left 1
 try simp only [go_sem]
 refine ⟨fun q2 => At.mk ?_, fun q2 => At.mk ?_⟩
 focus
  try simp only [go_sem, reduceAdd]
  refine rd_cells o.tl (by simp) ?_
  try simp only [go_sem]
  refine ⟨fun g1 => At.mk ?_, fun g1 => At.mk ?_⟩
  focus
   have g1p := of_decide g1
   try simp only [go_sem, reduceAdd]
   refine ⟨⟨_, _, o.tl.h0⟩, rd_cells o.tl (by simp) ?_⟩
   try simp only [go_sem]
   refine (l01Next_ok B _).goZ hs o fun r s H _ ⟨v, e, _⟩ hs o hz => ⟨hz, ?_⟩
   subst e
   try simp only [go_sem]
   refine ⟨by omega, ?_⟩
   refine set_own v (o.pull [_, _, _, _]) rfl (by omega) fun H o => ?_
   try simp only [go_sem]
   have o : Owns H0 H ((id3, .cells 5 [iI (c.objs), .buf a (c.frm).length, .buf b (c.to).length, .buf i (c.idn.set (Int.toNat 0) v).length, .buf d (Xs).length] 0) :: (a, .cells 1 ((c.frm).map iI) 0) :: (b, .cells 1 ((c.to).map iI) 0) :: (i, .cells 1 ((c.idn.set (Int.toNat 0) v).map iI) 0) :: (d, .cells 1 (Xs) 0) :: (ob ++ [(id, s.obj), (id4, MObj.cells 5 [.int .i64 0, .nilsl, .nilsl, .nilsl, .nilsl] 0)])) := o.perm (permC fun x => by (try dsimp only); simp only [List.append_eq, List.count_append, List.count_cons, List.count_nil, List.map_nil, List.length_nil, List.length_append, List.length_cons, List.length_set, Nat.zero_add, List.nil_append, iI, iL]; omega)
   refine wk_cat hX o fun H o => ?_
  rotate_left 1
  try simp only [go_sem]
  have o : Owns H0 H ((id3, .cells 5 [iI (c.objs), .buf a (c.frm).length, .buf b (c.to).length, .buf i (c.idn).length, .buf d (Xs).length] 0) :: (a, .cells 1 ((c.frm).map iI) 0) :: (b, .cells 1 ((c.to).map iI) 0) :: (i, .cells 1 ((c.idn).map iI) 0) :: (d, .cells 1 (Xs) 0) :: (ob ++ [(id, s.obj), (id4, MObj.cells 5 [.int .i64 0, .nilsl, .nilsl, .nilsl, .nilsl] 0)])) := o.perm (permC fun x => by (try dsimp only); simp only [List.append_eq, List.count_append, List.count_cons, List.count_nil, List.map_nil, List.length_nil, List.length_append, List.length_cons, List.length_set, Nat.zero_add, List.nil_append, iI, iL]; omega)
  refine wk_cat hX o fun H o => ?_
 rotate_left 2
 try simp only [go_sem]
 refine ⟨fun q3 => At.mk ?_, fun q3 => At.mk ?_⟩
 focus
  try simp only [go_sem, q3]
  refine ⟨fun g1 => At.mk ?_, fun g1 => At.mk ?_⟩
  focus
   have g1p := of_decide g1
   have hf1 := hf1 (by omega)
   have hrow := crow f (by omega)
   try simp only [go_sem, reduceAdd]
   refine ⟨⟨_, _, o.tl.h0⟩, rd_cells o.tl (by simp) ?_⟩
   try simp only [go_sem]
   refine ⟨by omega, ?_⟩
   have od := o.pull [_, _, _, _, _]
   simp only [List.cons_append, List.nil_append] at od
   refine ⟨⟨_, _, od.h0⟩, rd_cells od (by omega) ?_⟩
   obtain ⟨idr, hXr, hst⟩ := hX.row (i := f) (by omega) (by have : (c.comp.getD f []).length = c.frm.length := hrow; omega)
   rw [hXr]
   try simp only [go_sem]
   refine (l01Next_ok B _).goZ hs o fun r s H _ ⟨v, e, hv0, hv1, _⟩ hs o hz => ⟨hz, ?_⟩
   subst e
   have hv1 := hv1 (by omega)
   refine (l01Next_ok B _).goZ hs o fun r s H _ ⟨v2, e, _⟩ hs o hz => ⟨hz, ?_⟩
   subst e
   have hrl : (c.comp.getD f []).length = c.frm.length := hrow
   try simp only [go_sem]
   refine ⟨by omega, ?_⟩
   have od : Owns H0 H ((d, MObj.cells 1 Xs 0) :: (ob ++ ((id, s.obj) :: (id3, .cells 5 [iI c.objs, .buf a c.frm.length, .buf b c.to.length, .buf i c.idn.length, .buf d Xs.length] 0) :: (a, .cells 1 (c.frm.map iI) 0) :: (b, .cells 1 (c.to.map iI) 0) :: (i, .cells 1 (c.idn.map iI) 0) :: [(id4, MObj.cells 5 [.int .i64 0, .nilsl, .nilsl, .nilsl, .nilsl] 0)]))) := o.perm (permC fun x => by (try dsimp only); simp only [List.append_eq, List.count_append, List.count_cons, List.count_nil, List.map_nil, List.length_nil, List.length_append, List.length_cons, List.length_set, Nat.zero_add, List.nil_append, iI, iL]; omega)
   refine hst od v.toNat (by omega) _ rfl fun H ob2 hX2 o => ?_
   try simp only [go_sem]
   have o : Owns H0 H ((id3, .cells 5 [iI (c.objs), .buf a (c.frm).length, .buf b (c.to).length, .buf i (c.idn).length, .buf d (Xs).length] 0) :: (a, .cells 1 ((c.frm).map iI) 0) :: (b, .cells 1 ((c.to).map iI) 0) :: (i, .cells 1 ((c.idn).map iI) 0) :: (d, .cells 1 (Xs) 0) :: (ob2 ++ [(id, s.obj), (id4, MObj.cells 5 [.int .i64 0, .nilsl, .nilsl, .nilsl, .nilsl] 0)])) := o.perm (permC fun x => by (try dsimp only); simp only [List.append_eq, List.count_append, List.count_cons, List.count_nil, List.map_nil, List.length_nil, List.length_append, List.length_cons, List.length_set, Nat.zero_add, List.nil_append, iI, iL]; omega)
   refine wk_cat hX2 o fun H o => ?_
  rotate_left 1
  try simp only [go_sem]
  have o : Owns H0 H ((id3, .cells 5 [iI (c.objs), .buf a (c.frm).length, .buf b (c.to).length, .buf i (c.idn).length, .buf d (Xs).length] 0) :: (a, .cells 1 ((c.frm).map iI) 0) :: (b, .cells 1 ((c.to).map iI) 0) :: (i, .cells 1 ((c.idn).map iI) 0) :: (d, .cells 1 (Xs) 0) :: (ob ++ [(id, s.obj), (id4, MObj.cells 5 [.int .i64 0, .nilsl, .nilsl, .nilsl, .nilsl] 0)])) := o.perm (permC fun x => by (try dsimp only); simp only [List.append_eq, List.count_append, List.count_cons, List.count_nil, List.map_nil, List.length_nil, List.length_append, List.length_cons, List.length_set, Nat.zero_add, List.nil_append, iI, iL]; omega)
  refine wk_cat hX o fun H o => ?_
 rotate_left 2
 try simp only [go_sem]
 refine ⟨fun q4 => At.mk ?_, fun q4 => At.mk ?_⟩
 focus
  try simp only [go_sem, q4]
  refine ⟨fun g1 => At.mk ?_, fun g1 => At.mk ?_⟩
  focus
   have g1p := of_decide g1
   have hf1 := hf1 (by omega)
   have hrow := crow f (by omega)
   try simp only [go_sem, reduceAdd]
   refine ⟨⟨_, _, o.tl.h0⟩, rd_cells o.tl (by simp) ?_⟩
   try simp only [go_sem]
   refine ⟨by omega, ?_⟩
   have od := o.pull [_, _, _, _, _]
   simp only [List.cons_append, List.nil_append] at od
   refine ⟨⟨_, _, od.h0⟩, rd_cells od (by omega) ?_⟩
   obtain ⟨idr, hXr, hst⟩ := hX.row (i := f) (by omega) (by have : (c.comp.getD f []).length = c.frm.length := hrow; omega)
   rw [hXr]
   try simp only [go_sem]
   refine (l01Next_ok B _).goZ hs o fun r s H _ ⟨v, e, hv0, hv1, _⟩ hs o hz => ⟨hz, ?_⟩
   subst e
   have hv1 := hv1 (by omega)
   refine (l01Next_ok B _).goZ hs o fun r s H _ ⟨v2, e, _⟩ hs o hz => ⟨hz, ?_⟩
   subst e
   have hrl : (c.comp.getD f []).length = c.frm.length := hrow
   try simp only [go_sem]
   refine ⟨by omega, ?_⟩
   have od : Owns H0 H ((d, MObj.cells 1 Xs 0) :: (ob ++ ((id, s.obj) :: (id3, .cells 5 [iI c.objs, .buf a c.frm.length, .buf b c.to.length, .buf i c.idn.length, .buf d Xs.length] 0) :: (a, .cells 1 (c.frm.map iI) 0) :: (b, .cells 1 (c.to.map iI) 0) :: (i, .cells 1 (c.idn.map iI) 0) :: [(id4, MObj.cells 5 [.int .i64 0, .nilsl, .nilsl, .nilsl, .nilsl] 0)]))) := o.perm (permC fun x => by (try dsimp only); simp only [List.append_eq, List.count_append, List.count_cons, List.count_nil, List.map_nil, List.length_nil, List.length_append, List.length_cons, List.length_set, Nat.zero_add, List.nil_append, iI, iL]; omega)
   refine hst od v.toNat (by omega) _ rfl fun H ob2 hX2 o => ?_
   try simp only [go_sem]
   have o : Owns H0 H ((id3, .cells 5 [iI (c.objs), .buf a (c.frm).length, .buf b (c.to).length, .buf i (c.idn).length, .buf d (Xs).length] 0) :: (a, .cells 1 ((c.frm).map iI) 0) :: (b, .cells 1 ((c.to).map iI) 0) :: (i, .cells 1 ((c.idn).map iI) 0) :: (d, .cells 1 (Xs) 0) :: (ob2 ++ [(id, s.obj), (id4, MObj.cells 5 [.int .i64 0, .nilsl, .nilsl, .nilsl, .nilsl] 0)])) := o.perm (permC fun x => by (try dsimp only); simp only [List.append_eq, List.count_append, List.count_cons, List.count_nil, List.map_nil, List.length_nil, List.length_append, List.length_cons, List.length_set, Nat.zero_add, List.nil_append, iI, iL]; omega)
   refine wk_cat hX2 o fun H o => ?_
  rotate_left 1
  try simp only [go_sem]
  have o : Owns H0 H ((id3, .cells 5 [iI (c.objs), .buf a (c.frm).length, .buf b (c.to).length, .buf i (c.idn).length, .buf d (Xs).length] 0) :: (a, .cells 1 ((c.frm).map iI) 0) :: (b, .cells 1 ((c.to).map iI) 0) :: (i, .cells 1 ((c.idn).map iI) 0) :: (d, .cells 1 (Xs) 0) :: (ob ++ [(id, s.obj), (id4, MObj.cells 5 [.int .i64 0, .nilsl, .nilsl, .nilsl, .nilsl] 0)])) := o.perm (permC fun x => by (try dsimp only); simp only [List.append_eq, List.count_append, List.count_cons, List.count_nil, List.map_nil, List.length_nil, List.length_append, List.length_cons, List.length_set, Nat.zero_add, List.nil_append, iI, iL]; omega)
  refine wk_cat hX o fun H o => ?_
 rotate_left 2
 try simp only [go_sem]
 refine ⟨fun q5 => At.mk ?_, fun q5 => At.mk ?_⟩
 focus
  try simp only [go_sem, q5]
  refine ⟨fun g1 => At.mk ?_, fun g1 => At.mk ?_⟩
  focus
   have g1p := of_decide g1
   have hf1 := hf1 (by omega)
   have hrow := crow f (by omega)
   try simp only [go_sem, reduceAdd]
   refine ⟨⟨_, _, o.tl.h0⟩, rd_cells o.tl (by simp) ?_⟩
   try simp only [go_sem]
   refine ⟨by omega, ?_⟩
   have od := o.pull [_, _, _, _, _]
   simp only [List.cons_append, List.nil_append] at od
   refine ⟨⟨_, _, od.h0⟩, rd_cells od (by omega) ?_⟩
   obtain ⟨idr, hXr, hst⟩ := hX.row (i := f) (by omega) (by have : (c.comp.getD f []).length = c.frm.length := hrow; omega)
   rw [hXr]
   try simp only [go_sem]
   refine (l01Next_ok B _).goZ hs o fun r s H _ ⟨v, e, hv0, hv1, _⟩ hs o hz => ⟨hz, ?_⟩
   subst e
   have hv1 := hv1 (by omega)
   refine (l01Next_ok B _).goZ hs o fun r s H _ ⟨v2, e, _⟩ hs o hz => ⟨hz, ?_⟩
   subst e
   have hrl : (c.comp.getD f []).length = c.frm.length := hrow
   try simp only [go_sem]
   refine ⟨by omega, ?_⟩
   have od : Owns H0 H ((d, MObj.cells 1 Xs 0) :: (ob ++ ((id, s.obj) :: (id3, .cells 5 [iI c.objs, .buf a c.frm.length, .buf b c.to.length, .buf i c.idn.length, .buf d Xs.length] 0) :: (a, .cells 1 (c.frm.map iI) 0) :: (b, .cells 1 (c.to.map iI) 0) :: (i, .cells 1 (c.idn.map iI) 0) :: [(id4, MObj.cells 5 [.int .i64 0, .nilsl, .nilsl, .nilsl, .nilsl] 0)]))) := o.perm (permC fun x => by (try dsimp only); simp only [List.append_eq, List.count_append, List.count_cons, List.count_nil, List.map_nil, List.length_nil, List.length_append, List.length_cons, List.length_set, Nat.zero_add, List.nil_append, iI, iL]; omega)
   refine hst od v.toNat (by omega) _ rfl fun H ob2 hX2 o => ?_
   try simp only [go_sem]
   have o : Owns H0 H ((id3, .cells 5 [iI (c.objs), .buf a (c.frm).length, .buf b (c.to).length, .buf i (c.idn).length, .buf d (Xs).length] 0) :: (a, .cells 1 ((c.frm).map iI) 0) :: (b, .cells 1 ((c.to).map iI) 0) :: (i, .cells 1 ((c.idn).map iI) 0) :: (d, .cells 1 (Xs) 0) :: (ob2 ++ [(id, s.obj), (id4, MObj.cells 5 [.int .i64 0, .nilsl, .nilsl, .nilsl, .nilsl] 0)])) := o.perm (permC fun x => by (try dsimp only); simp only [List.append_eq, List.count_append, List.count_cons, List.count_nil, List.map_nil, List.length_nil, List.length_append, List.length_cons, List.length_set, Nat.zero_add, List.nil_append, iI, iL]; omega)
   refine wk_cat hX2 o fun H o => ?_
  rotate_left 1
  try simp only [go_sem]
  have o : Owns H0 H ((id3, .cells 5 [iI (c.objs), .buf a (c.frm).length, .buf b (c.to).length, .buf i (c.idn).length, .buf d (Xs).length] 0) :: (a, .cells 1 ((c.frm).map iI) 0) :: (b, .cells 1 ((c.to).map iI) 0) :: (i, .cells 1 ((c.idn).map iI) 0) :: (d, .cells 1 (Xs) 0) :: (ob ++ [(id, s.obj), (id4, MObj.cells 5 [.int .i64 0, .nilsl, .nilsl, .nilsl, .nilsl] 0)])) := o.perm (permC fun x => by (try dsimp only); simp only [List.append_eq, List.count_append, List.count_cons, List.count_nil, List.map_nil, List.length_nil, List.length_append, List.length_cons, List.length_set, Nat.zero_add, List.nil_append, iI, iL]; omega)
  refine wk_cat hX o fun H o => ?_
 rotate_left 2
 try simp only [go_sem, q5]
 refine ⟨fun q6 => At.mk ?_, fun q6 => At.mk ?_⟩
 focus
  try simp only [go_sem]
  refine ⟨fun g1 => At.mk ?_, fun g1 => At.mk ?_⟩
  focus
   have g1p := of_decide g1
   have hf1 := hf1 (by omega)
   try simp only [go_sem, reduceAdd]
   refine ⟨⟨_, _, o.tl.h0⟩, rd_cells o.tl (by simp) ?_⟩
   try simp only [go_sem, reduceAdd]
   refine ⟨⟨_, _, o.tl.h0⟩, rd_cells o.tl (by simp) ?_⟩
   try simp only [go_sem]
   refine (l01Next_ok B _).goZ hs o fun r s H _ ⟨v, e, _⟩ hs o hz => ⟨hz, ?_⟩
   subst e
   try simp only [go_sem]
   refine ⟨by omega, ?_⟩
   refine set_own v (o.pull [_, _, _]) rfl (by omega) fun H o => ?_
   try simp only [go_sem]
   have o : Owns H0 H ((id3, .cells 5 [iI (c.objs), .buf a (c.frm).length, .buf b (c.to.set f v).length, .buf i (c.idn).length, .buf d (Xs).length] 0) :: (a, .cells 1 ((c.frm).map iI) 0) :: (b, .cells 1 ((c.to.set f v).map iI) 0) :: (i, .cells 1 ((c.idn).map iI) 0) :: (d, .cells 1 (Xs) 0) :: (ob ++ [(id, s.obj), (id4, MObj.cells 5 [.int .i64 0, .nilsl, .nilsl, .nilsl, .nilsl] 0)])) := o.perm (permC fun x => by (try dsimp only); simp only [List.append_eq, List.count_append, List.count_cons, List.count_nil, List.map_nil, List.length_nil, List.length_append, List.length_cons, List.length_set, Nat.zero_add, List.nil_append, iI, iL]; omega)
   refine wk_cat hX o fun H o => ?_
  rotate_left 1
  try simp only [go_sem]
  have o : Owns H0 H ((id3, .cells 5 [iI (c.objs), .buf a (c.frm).length, .buf b (c.to).length, .buf i (c.idn).length, .buf d (Xs).length] 0) :: (a, .cells 1 ((c.frm).map iI) 0) :: (b, .cells 1 ((c.to).map iI) 0) :: (i, .cells 1 ((c.idn).map iI) 0) :: (d, .cells 1 (Xs) 0) :: (ob ++ [(id, s.obj), (id4, MObj.cells 5 [.int .i64 0, .nilsl, .nilsl, .nilsl, .nilsl] 0)])) := o.perm (permC fun x => by (try dsimp only); simp only [List.append_eq, List.count_append, List.count_cons, List.count_nil, List.map_nil, List.length_nil, List.length_append, List.length_cons, List.length_set, Nat.zero_add, List.nil_append, iI, iL]; omega)
  refine wk_cat hX o fun H o => ?_
 rotate_left 2
 try simp only [go_sem]
 have od : Owns H0 H ((d, MObj.cells 1 Xs 0) :: (ob ++ ((id, s.obj) :: (id3, .cells 5 [iI c.objs, .buf a c.frm.length, .buf b c.to.length, .buf i c.idn.length, .buf d Xs.length] 0) :: (a, .cells 1 (c.frm.map iI) 0) :: (b, .cells 1 (c.to.map iI) 0) :: (i, .cells 1 (c.idn.map iI) 0) :: [(id4, MObj.cells 5 [.int .i64 0, .nilsl, .nilsl, .nilsl, .nilsl] 0)]))) := o.perm (permC fun x => by (try dsimp only); simp only [List.append_eq, List.count_append, List.count_cons, List.count_nil, List.map_nil, List.length_nil, List.length_append, List.length_cons, List.length_set, Nat.zero_add, List.nil_append, iI, iL]; omega)
 refine wk_rows hX [] H od fun H o => wkW_done ?_
 simp only [List.nil_append] at o
 try simp only [go_sem]
 refine ⟨fun g1 => At.mk ?_, fun g1 => At.mk ?_⟩
 focus
  have g1p := of_decide g1
  have hf1 := hf1 (by omega)
  have hrow := crow f (by omega)
  try simp only [go_sem, reduceAdd]
  refine ⟨⟨_, _, o.tl.tl.h0⟩, rd_cells o.tl.tl (by simp) ?_⟩
  try simp only [go_sem, reduceAdd]
  refine ⟨⟨_, _, o.tl.tl.h0⟩, rd_cells o.tl.tl (by simp) ?_⟩
  try simp only [go_sem]
  refine ⟨by omega, ⟨_, _, o.h0⟩, rd_own (f := iL) o (by omega) ?_⟩
  try simp only [go_sem]
  refine ⟨⟨by omega, by omega⟩, by omega, ?_⟩
  refine set_own (f := iL) ((c.comp.getD f default).drop (Int.toNat 1)) o rfl (by omega) fun H o => ?_
  try simp only [go_sem]
  have o : Owns H0 H ((id3, .cells 5 [iI c.objs, .buf a c.frm.length, .buf b c.to.length, .buf i c.idn.length, .buf d (c.comp.set f ((c.comp.getD f default).drop (Int.toNat 1))).length] 0) :: (a, .cells 1 (c.frm.map iI) 0) :: (b, .cells 1 (c.to.map iI) 0) :: (i, .cells 1 (c.idn.map iI) 0) :: (d, .cells 1 ((c.comp.set f ((c.comp.getD f default).drop (Int.toNat 1))).map iL) 0) :: [(id, s.obj), (id4, MObj.cells 5 [.int .i64 0, .nilsl, .nilsl, .nilsl, .nilsl] 0)]) := by
   rw [show Xs.length = c.comp.length from hXl] at o
   exact o.perm (permC fun x => by (try dsimp only); simp only [List.append_eq, List.count_append, List.count_cons, List.count_nil, List.map_nil, List.length_nil, List.length_append, List.length_cons, List.length_set, Nat.zero_add, List.nil_append, iI, iL]; omega)
  refine wk_cat' o fun H o => ?_
 rotate_left 1
 try simp only [go_sem]
 have o : Owns H0 H ((id3, .cells 5 [iI c.objs, .buf a c.frm.length, .buf b c.to.length, .buf i c.idn.length, .buf d (c.comp).length] 0) :: (a, .cells 1 (c.frm.map iI) 0) :: (b, .cells 1 (c.to.map iI) 0) :: (i, .cells 1 (c.idn.map iI) 0) :: (d, .cells 1 ((c.comp).map iL) 0) :: [(id, s.obj), (id4, MObj.cells 5 [.int .i64 0, .nilsl, .nilsl, .nilsl, .nilsl] 0)]) := by
  have := hXl
  rw [show Xs.length = c.comp.length from hXl] at o
  exact o.perm (permC fun x => by (try dsimp only); simp only [List.append_eq, List.count_append, List.count_cons, List.count_nil, List.map_nil, List.length_nil, List.length_append, List.length_cons, List.length_set, Nat.zero_add, List.nil_append, iI, iL]; omega)
 refine wk_cat' o fun H o => ?_
 all_goals
  refine wkW_done ?_
  try simp only [go_sem]
  refine rd_celln o (by simp [Cat.cells]) ?_
  try simp only [go_sem, Cat.cells]
  refine stc (o.pull [_, _]) fun H o => ?_
  simp only [wr_cons, wr_nil, List.set_cons_zero, List.set_cons_succ] at o
  try simp only [go_sem]
  have hr2 := o.rc 5 0 (by simp)
  simp only [List.drop_zero] at hr2
  rw [hr2]
  try simp only [go_sem]
  exact src_ret (anyQ _ _ _ _ _) hs (o.pull [_, _])
end Go.Proofs.Shf
namespace Go.Proofs.Shf
open Go.AW Go.Proofs Go.Shf
theorem l02Draw_ok (B : Nat) (mo ma : Int) : Rd B 174 [iI mo, iI ma] AnyQ := by
 intro id s H0 H hs o
 refine c174 (by simp) fun _ => ?_
 unfold s174
 try simp only [go_sem, reduceAdd]
 refine newRef_own o fun id6 H o => ?_
 try simp only [go_sem]
 refine (l02Some_ok B mo ma).go hs o.swap fun r s H _ ⟨c, e, hc⟩ hs o => ?_
 subst e
 try simp only [go_sem, reduceAdd]
 refine newRef_own o fun id7 H o => ?_
 try simp only [go_sem]
 refine stc o fun H o => ?_
 simp only [wr_cons, wr_nil, List.set_cons_zero, List.set_cons_succ] at o
 try simp only [go_sem]
 refine (l01Next_ok B 24).go hs o.swap fun r s H _ ⟨v, e, _⟩ hs o => ?_
 subst e
 try simp only [go_sem]
 refine ⟨fun h1 => At.mk ?_, fun h1 => At.mk ?_⟩
 focus
  try simp only [go_sem]
  refine rd_celln o.tl (by simp) ?_
  try simp only [go_sem]
  refine (l02Bend_ok B 20000 (by omega) c hc).go hs o fun r s H _ ⟨c2, e⟩ hs o => ?_
  subst e
  try simp only [go_sem]
  refine stc (o.pull [_, _]) fun H o => ?_
  simp only [wr_cons, wr_nil, List.set_cons_zero, List.set_cons_succ] at o
 rotate_left 1
 focus
  try simp only [go_sem]
  refine rd_celln o.tl (by simp) ?_
  try simp only [go_sem]
  refine stc (o.pull [_, _]) fun H o => ?_
  simp only [wr_cons, wr_nil, List.set_cons_zero, List.set_cons_succ] at o
 all_goals
  try simp only [go_sem]
  have hr2 := o.rc 5 0 (by simp)
  simp only [List.drop_zero] at hr2
  rw [hr2]
  try simp only [go_sem]
  exact src_ret (anyQ _ _ _ _ _) hs o.swap
end Go.Proofs.Shf
namespace Go.Proofs.Shf
open Go.AW Go.Proofs Go.Shf
theorem l19Base_ok (B : Nat) : Rd B 79 [] AnyQ := by
 intro id s H0 H hs o
 refine c79p (by simp) fun _ => ?_
 unfold s79p
 try simp only [go_sem, reduceAdd]
 refine newRef_own o fun id2 H o => ?_
 try simp only [go_sem]
 refine (l01Next_ok B 3).go hs o.swap fun r s H _ ⟨v, e, _⟩ hs o => ?_
 subst e
 try simp only [go_sem]
 refine ⟨fun h1 => At.mk ?_, fun h1 => At.mk ?_⟩
 focus
  try simp only [go_sem]
  refine (l02Draw_ok B 2 6).go hs o fun r s H _ ⟨c, e⟩ hs o => ?_
 rotate_left 1
 focus
  try simp only [go_sem]
  refine (l02Draw_ok B 4 12).go hs o fun r s H _ ⟨c, e⟩ hs o => ?_
 all_goals
  subst e
  try simp only [go_sem]
  refine stc o.swap fun H o => ?_
  simp only [wr_cons, wr_nil, List.set_cons_zero, List.set_cons_succ] at o
  try simp only [go_sem]
  have hr2 := o.rc 5 0 (by simp)
  simp only [List.drop_zero] at hr2
  rw [hr2]
  exact src_ret (anyQ _ _ _ _ _) hs o.swap
end Go.Proofs.Shf
namespace Go.Shf
open Go.AW
end Go.Shf
namespace Go.Proofs.Shf
open Go.AW Go.Proofs Go.Shf
@[go_sem] def bendF (id3 : Nat) (c : Cat) (z : Nat) (S : List Int) (d : Nat) (Xs : List AV) (l : Ob) : Ob :=
 (id3, .cells 7 [iI c.objs, iL c.frm, iL c.to, iL c.idn, iLL c.comp, .buf z S.length, .buf d Xs.length] 0) :: (z, .cells 1 (S.map iI) 0) :: (d, .cells 1 Xs 0) :: l
end Go.Proofs.Shf
namespace Go.Proofs.Shf
open Go.AW Go.Proofs Go.Shf
end Go.Proofs.Shf
namespace Go.AW
end Go.AW
namespace Go.Proofs.Shf
open Go.AW Go.Proofs Go.Shf
end Go.Proofs.Shf
namespace Go.Proofs.Shf
open Go.AW Go.Proofs Go.Shf
end Go.Proofs.Shf
namespace Go.Shf
open Go.AW
end Go.Shf
namespace Go.Proofs.Shf
open Go.AW Go.Proofs Go.Shf
end Go.Proofs.Shf
namespace Go.Shf
open Go.AW
@[go_sem] def clsCells (c : Cat) (S : List (List (List Int))) (sz : AV) (pl : AV) : List AV := [iI c.objs, iL c.frm, iL c.to, iL c.idn, iLL c.comp, sz, pl, iLLL S]
end Go.Shf
namespace Go.Proofs.Shf
open Go.AW Go.Proofs Go.Shf
end Go.Proofs.Shf
