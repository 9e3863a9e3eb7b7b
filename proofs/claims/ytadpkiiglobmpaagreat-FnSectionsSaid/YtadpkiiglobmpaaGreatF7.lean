/- A part of a proof. -/
import Derived.Test.YtadpkiiglobmpaaGreatF6
set_option linter.unusedVariables false
set_option linter.unusedSimpArgs false
set_option linter.unusedSectionVars false
open Nat (reduceEqDiff reduceAdd reduceMul reduceLeDiff reduceLT)
namespace Go.AW
open Go.Shf
@[go_sem] theorem opE_slc {P : Program} {B : Nat} {d : Option Nat} {F : Env → Heap → Prop} {σ : Env} {H : Heap} (n : Nat) (x : X) (lo hi : Option X) : opE P B d (.slc n x lo hi) F σ H = pE d F σ H (slcE n (val σ x) (lo.map (val σ)) (hi.map (val σ))) := rfl
theorem wk_cat' {F : Env → Heap → Prop} {σ : Env} {H0 H : Heap} {l : Ob} {id fr : Nat} {x : Int} {a b i d : Nat} {A C I : List Int} {D : List (List Int)}
  (o : Owns H0 H ((id, .cells 5 [iI x, .buf a A.length, .buf b C.length, .buf i I.length, .buf d D.length] fr) :: (a, .cells 1 (A.map iI) 0) :: (b, .cells 1 (C.map iI) 0) :: (i, .cells 1 (I.map iI) 0) :: (d, .cells 1 (D.map iL) 0) :: l))
  (hk : ∀ H', Owns H0 H' ((id, .cells 5 (Cat.cells ⟨x, A, C, I, D⟩) fr) :: l) → wkW F σ H') : wkW F σ H := by
 refine wk_cell 1 o rfl rfl fun H o => ?_
 simp only [List.set_cons_zero, List.set_cons_succ] at o
 refine wk_cell 2 o rfl rfl fun H o => ?_
 simp only [List.set_cons_zero, List.set_cons_succ] at o
 refine wk_cell 3 o rfl rfl fun H o => ?_
 simp only [List.set_cons_zero, List.set_cons_succ] at o
 refine wk_cell 4 o rfl rfl fun H o => ?_
 simp only [List.set_cons_zero, List.set_cons_succ] at o
 exact hk H o
theorem wk_cat {F : Env → Heap → Prop} {σ : Env} {H0 H : Heap} {l : Ob} {id fr : Nat} {x : Int} {a b i d : Nat} {A C I : List Int} {Xs : List AV} {As : List (List Int)} {ob : Ob} (h : LsR iI Xs As ob)
  (o : Owns H0 H ((id, .cells 5 [iI x, .buf a A.length, .buf b C.length, .buf i I.length, .buf d Xs.length] fr) :: (a, .cells 1 (A.map iI) 0) :: (b, .cells 1 (C.map iI) 0) :: (i, .cells 1 (I.map iI) 0) :: (d, .cells 1 Xs 0) :: (ob ++ l)))
  (hk : ∀ H', Owns H0 H' ((id, .cells 5 (Cat.cells ⟨x, A, C, I, As⟩) fr) :: l) → wkW F σ H') : wkW F σ H := by
 have hl := h.len
 have od : Owns H0 H ((d, .cells 1 Xs 0) :: (ob ++ ((id, .cells 5 [iI x, .buf a A.length, .buf b C.length, .buf i I.length, .buf d Xs.length] fr) :: (a, .cells 1 (A.map iI) 0) :: (b, .cells 1 (C.map iI) 0) :: (i, .cells 1 (I.map iI) 0) :: l))) := o.perm (permC fun x => by (try dsimp only); simp only [List.append_eq, List.count_append, List.count_cons, List.count_nil, List.map_nil, List.length_nil, List.length_append, List.length_cons, List.length_set, Nat.zero_add, List.nil_append, iI, iL]; omega)
 refine wk_rows h [] H od fun H o => ?_
 simp only [List.nil_append] at o
 rw [hl] at o
 have o : Owns H0 H ((id, .cells 5 [iI x, .buf a A.length, .buf b C.length, .buf i I.length, .buf d As.length] fr) :: (a, .cells 1 (A.map iI) 0) :: (b, .cells 1 (C.map iI) 0) :: (i, .cells 1 (I.map iI) 0) :: (d, .cells 1 (As.map iL) 0) :: l) := o.perm (permC fun x => by (try dsimp only); simp only [List.append_eq, List.count_append, List.count_cons, List.count_nil, List.map_nil, List.length_nil, List.length_append, List.length_cons, List.length_set, Nat.zero_add, List.nil_append, iI, iL]; omega)
 exact wk_cat' o hk
theorem LsR.row {α : Type} [Inhabited α] {f : α → AV} [One f] {Xs : List AV} {As : List (List α)} {ob : Ob} (h : LsR f Xs As ob) {i : Nat} (hi : i < Xs.length) (hp : 0 < (As.getD i []).length) :
  ∃ idr, Xs.getD i nv = .buf idr (As.getD i []).length ∧ ∀ {H0 H : Heap} {l : Ob} {id : Nat} {K : Kont} (o : Owns H0 H ((id, .cells 1 Xs 0) :: (ob ++ l))) (y : Nat) (hy : y < (As.getD i []).length) (v : α) {c : AV} (hc : c = f v)
   (hk : ∀ H' ob', LsR f Xs (As.set i ((As.getD i []).set y v)) ob' → Owns H0 H' ((id, .cells 1 Xs 0) :: (ob' ++ l)) → K nv H'), st1 (H.get idr) idr y 1 [c] K H := by
 obtain ⟨p, r, h1, h2, h3⟩ := h.split i hi
 rcases h2 with ⟨_, _, e⟩ | ⟨idr, rfl, e⟩
 ·rw [e] at hp; simp at hp
 ·refine ⟨idr, e, fun {H0 H l id K} o y hy v {c} hc hk => ?_⟩
  have o1 : Owns H0 H ((idr, .cells 1 ((As.getD i []).map f) 0) :: (id, .cells 1 Xs 0) :: (r ++ l)) := by
   refine o.perm (((List.Perm.append_right l h1).cons _).trans ?_)
   simp only [List.cons_append, List.nil_append]
   exact .swap _ _ _
  refine set_own v o1 hc hy fun H' o2 => ?_
  obtain ⟨o', k1, k2⟩ := h3 (.buf idr ((As.getD i []).set y v).length) ((As.getD i []).set y v) [(idr, .cells 1 (((As.getD i []).set y v).map f) 0)] (.inr ⟨idr, rfl, rfl⟩)
  have e2 : Xs.set i (.buf idr ((As.getD i []).set y v).length) = Xs := by
   rw [List.length_set, ← e]
   apply List.ext_getElem?
   intro j
   by_cases hj : i = j
   ·subst hj; rw [List.getElem?_set_self hi]; simp [List.getD_eq_getElem?_getD, hi]
   ·rw [List.getElem?_set_ne hj]
  rw [e2] at k1
  refine hk H' o' k1 (o2.perm ((List.Perm.swap _ _ _).trans (.cons _ ?_)))
  have := List.Perm.append_right l k2.symm
  simpa using this
end Go.AW
namespace Go.Proofs.Shf
open Go.AW Go.Proofs Go.Shf
def AnyQ (r : AV) : Prop := ∃ c : Cat, r = .agg c.cells
theorem anyQ (x : Int) (A C I : List Int) (D : List (List Int)) : AnyQ (.agg [iI x, iL A, iL C, iL I, iLL D]) := ⟨⟨x, A, C, I, D⟩, rfl⟩
@[go_sem] def bendO (id3 : Nat) (x : Int) (a : Nat) (A : List Int) (b : Nat) (C : List Int) (i : Nat) (I : List Int) (d : Nat) (Xs : List AV) (l : Ob) : Ob :=
 (id3, .cells 5 [iI x, .buf a A.length, .buf b C.length, .buf i I.length, .buf d Xs.length] 0) :: (a, .cells 1 (A.map iI) 0) :: (b, .cells 1 (C.map iI) 0) :: (i, .cells 1 (I.map iI) 0) :: (d, .cells 1 Xs 0) :: l
theorem l02Bend_ok (B N : Nat) (hN : N ≤ 65536) (c : Cat) (hc : c.Sh N) : Rd B 274 [.agg c.cells] AnyQ := by
 intro id s H0 H hs o
 refine c274p (by simp) fun _ => ?_
 obtain ⟨cob, cil, cml, ctl, ccl, crow⟩ := hc
 unfold s274p
 try simp only [go_sem, reduceAdd]
 refine newRef_own o fun id3 H o => ?_
 try simp only [go_sem, reduceAdd]
 refine newRef_own o fun id4 H o => ?_
 try simp only [go_sem]
 refine rd_celln o.tl (by simp) ?_
 try simp only [go_sem]
 refine New.go' (l02Own_new B c) o fun X1 p1 H ⟨a, b, i, d, Xs, ob, e1, hX, e2⟩ o _ => ?_
 subst e1 e2
 have hXl := hX.len
 try simp only [go_sem]
 have o : Owns H0 H ((id3, MObj.cells 5 [iI c.objs, iL c.frm, iL c.to, iL c.idn, iLL c.comp] 0) :: (a, .cells 1 (c.frm.map iI) 0) :: (b, .cells 1 (c.to.map iI) 0) :: (i, .cells 1 (c.idn.map iI) 0) :: (d, .cells 1 Xs 0) :: (ob ++ [(id, s.obj), (id4, MObj.cells 5 [.int .i64 0, .nilsl, .nilsl, .nilsl, .nilsl] 0)])) := o.perm (permC fun x => by (try dsimp only); simp only [List.append_eq, List.count_append, List.count_cons, List.count_nil, List.map_nil, List.length_nil, List.length_append, List.length_cons, List.length_set, Nat.zero_add, List.nil_append, iI, iL]; omega)
 refine stc o fun H o => ?_
 simp only [wr_cons, wr_nil, List.set_cons_zero, List.set_cons_succ] at o
 try simp only [go_sem, reduceAdd]
 refine rd_cells o (by simp) ?_
 try simp only [go_sem]
 have hsrc : ∀ {H : Heap} {s : Src} {Xs : List AV} {ob : Ob} {a b i : Nat} {A C I : List Int} {x : Int}, Owns H0 H (bendO id3 x a A b C i I d Xs (ob ++ [(id, s.obj), (id4, MObj.cells 5 [.int .i64 0, .nilsl, .nilsl, .nilsl, .nilsl] 0)])) →
   Owns H0 H ((id, s.obj) :: bendO id3 x a A b C i I d Xs (ob ++ [(id4, MObj.cells 5 [.int .i64 0, .nilsl, .nilsl, .nilsl, .nilsl] 0)])) := by
  intro H s Xs ob a b i A C I x o
  unfold bendO at o ⊢
  exact o.perm (permC fun x => by (try dsimp only); simp only [List.append_eq, List.count_append, List.count_cons, List.count_nil, List.map_nil, List.length_nil, List.length_append, List.length_cons, List.length_set, Nat.zero_add, List.nil_append, iI, iL]; omega)
 have o := hsrc (by unfold bendO; exact o)
 unfold bendO at o
 refine (l01Next_ok B c.frm.length).go hs o fun r s H _ ⟨f, e, hf0, hf1, hf2⟩ hs o => ?_
 subst e
 obtain ⟨f, rfl⟩ := Int.eq_ofNat_of_zero_le hf0
 try simp only [go_sem]
 refine (l01Next_ok B 8).go hs o fun r s H _ ⟨v, e, _⟩ hs o => ?_
 subst e
 try simp only [go_sem]
 refine ⟨fun q0 => At.mk ?_, fun q0 => At.mk ?_⟩
 focus
  try simp only [go_sem, reduceAdd]
  refine rd_cells o.tl (by simp) ?_
  try simp only [go_sem, reduceAdd]
  refine (l01Pick_ok B [IntKind.i64.wrap (c.objs + 1), -1, 9] (by simp)).go hs o fun r s H _ ⟨v, e, _⟩ hs o => ?_
  subst e
  try simp only [go_sem, reduceAdd]
  refine stc o.swap fun H o => ?_
  simp only [wr_cons, wr_nil, List.set_cons_zero, List.set_cons_succ] at o
  try simp only [go_sem]
  have o : Owns H0 H ((id3, .cells 5 [iI (v), .buf a (c.frm).length, .buf b (c.to).length, .buf i (c.idn).length, .buf d (Xs).length] 0) :: (a, .cells 1 ((c.frm).map iI) 0) :: (b, .cells 1 ((c.to).map iI) 0) :: (i, .cells 1 ((c.idn).map iI) 0) :: (d, .cells 1 (Xs) 0) :: (ob ++ [(id, s.obj), (id4, MObj.cells 5 [.int .i64 0, .nilsl, .nilsl, .nilsl, .nilsl] 0)])) := o.perm (permC fun x => by (try dsimp only); simp only [List.append_eq, List.count_append, List.count_cons, List.count_nil, List.map_nil, List.length_nil, List.length_append, List.length_cons, List.length_set, Nat.zero_add, List.nil_append, iI, iL]; omega)
  refine wk_cat hX o fun H o => ?_
 rotate_left 1
 try simp only [go_sem]
 refine ⟨fun q1 => At.mk ?_, fun q1 => At.mk ?_⟩
 focus
  try simp only [go_sem, reduceAdd]
  refine rd_cells o.tl (by simp) ?_
  try simp only [go_sem, reduceAdd]
  refine app_own' _ (o.pull [_, _]) rfl rfl (by simp only [maxL]; omega) fun a H A2 _ hA2 o => ?_
  try simp only [go_sem, reduceAdd]
  refine stc (o.pull [_, _]) fun H o => ?_
  simp only [wr_cons, wr_nil, List.set_cons_zero, List.set_cons_succ] at o
  try simp only [go_sem]
  have o : Owns H0 H ((id3, .cells 5 [iI (c.objs), .buf a (A2).length, .buf b (c.to).length, .buf i (c.idn).length, .buf d (Xs).length] 0) :: (a, .cells 1 ((A2).map iI) 0) :: (b, .cells 1 ((c.to).map iI) 0) :: (i, .cells 1 ((c.idn).map iI) 0) :: (d, .cells 1 (Xs) 0) :: (ob ++ [(id, s.obj), (id4, MObj.cells 5 [.int .i64 0, .nilsl, .nilsl, .nilsl, .nilsl] 0)])) := o.perm (permC fun x => by (try dsimp only); simp only [List.append_eq, List.count_append, List.count_cons, List.count_nil, List.map_nil, List.length_nil, List.length_append, List.length_cons, List.length_set, Nat.zero_add, List.nil_append, iI, iL]; omega)
  refine wk_cat hX o fun H o => ?_
 rotate_left 1
 try simp only [go_sem]
 refine ⟨fun q2 => At.mk ?_, fun q2 => At.mk ?_⟩
 focus
  try simp only [go_sem, reduceAdd]
  refine rd_cells o.tl (by simp) ?_
  try simp only [go_sem]
  refine ⟨fun g1 => At.mk ?_, fun g1 => At.mk ?_⟩
  focus
   have g1p := of_decide g1
   try simp only [go_sem, reduceAdd]
   refine ⟨⟨_, _, o.tl.h0⟩, rd_cells o.tl (by simp) ?_⟩
   try simp only [go_sem]
   refine (l01Next_ok B _).goZ hs o fun r s H _ ⟨v, e, _⟩ hs o hz => ⟨hz, ?_⟩
   subst e
   try simp only [go_sem]
   refine ⟨by omega, ?_⟩
   refine set_own v (o.pull [_, _, _, _]) rfl (by omega) fun H o => ?_
   try simp only [go_sem]
   have o : Owns H0 H ((id3, .cells 5 [iI (c.objs), .buf a (c.frm).length, .buf b (c.to).length, .buf i (c.idn.set (Int.toNat 0) v).length, .buf d (Xs).length] 0) :: (a, .cells 1 ((c.frm).map iI) 0) :: (b, .cells 1 ((c.to).map iI) 0) :: (i, .cells 1 ((c.idn.set (Int.toNat 0) v).map iI) 0) :: (d, .cells 1 (Xs) 0) :: (ob ++ [(id, s.obj), (id4, MObj.cells 5 [.int .i64 0, .nilsl, .nilsl, .nilsl, .nilsl] 0)])) := o.perm (permC fun x => by (try dsimp only); simp only [List.append_eq, List.count_append, List.count_cons, List.count_nil, List.map_nil, List.length_nil, List.length_append, List.length_cons, List.length_set, Nat.zero_add, List.nil_append, iI, iL]; omega)
   refine wk_cat hX o fun H o => ?_
  rotate_left 1
  try simp only [go_sem]
  have o : Owns H0 H ((id3, .cells 5 [iI (c.objs), .buf a (c.frm).length, .buf b (c.to).length, .buf i (c.idn).length, .buf d (Xs).length] 0) :: (a, .cells 1 ((c.frm).map iI) 0) :: (b, .cells 1 ((c.to).map iI) 0) :: (i, .cells 1 ((c.idn).map iI) 0) :: (d, .cells 1 (Xs) 0) :: (ob ++ [(id, s.obj), (id4, MObj.cells 5 [.int .i64 0, .nilsl, .nilsl, .nilsl, .nilsl] 0)])) := o.perm (permC fun x => by (try dsimp only); simp only [List.append_eq, List.count_append, List.count_cons, List.count_nil, List.map_nil, List.length_nil, List.length_append, List.length_cons, List.length_set, Nat.zero_add, List.nil_append, iI, iL]; omega)
  refine wk_cat hX o fun H o => ?_
 rotate_left 2
 try simp only [go_sem]
 refine ⟨fun q3 => At.mk ?_, fun q3 => At.mk ?_⟩
 focus
  try simp only [go_sem, q3]
  refine ⟨fun g1 => At.mk ?_, fun g1 => At.mk ?_⟩
  focus
   have g1p := of_decide g1
   have hf1 := hf1 (by omega)
   have hrow := crow f (by omega)
   try simp only [go_sem, reduceAdd]
   refine ⟨⟨_, _, o.tl.h0⟩, rd_cells o.tl (by simp) ?_⟩
   try simp only [go_sem]
   refine ⟨by omega, ?_⟩
   have od := o.pull [_, _, _, _, _]
   simp only [List.cons_append, List.nil_append] at od
   refine ⟨⟨_, _, od.h0⟩, rd_cells od (by omega) ?_⟩
   obtain ⟨idr, hXr, hst⟩ := hX.row (i := f) (by omega) (by have : (c.comp.getD f []).length = c.frm.length := hrow; omega)
   rw [hXr]
   try simp only [go_sem]
   refine (l01Next_ok B _).goZ hs o fun r s H _ ⟨v, e, hv0, hv1, _⟩ hs o hz => ⟨hz, ?_⟩
   subst e
   have hv1 := hv1 (by omega)
   refine (l01Next_ok B _).goZ hs o fun r s H _ ⟨v2, e, _⟩ hs o hz => ⟨hz, ?_⟩
   subst e
   have hrl : (c.comp.getD f []).length = c.frm.length := hrow
   try simp only [go_sem]
   refine ⟨by omega, ?_⟩
   have od : Owns H0 H ((d, MObj.cells 1 Xs 0) :: (ob ++ ((id, s.obj) :: (id3, .cells 5 [iI c.objs, .buf a c.frm.length, .buf b c.to.length, .buf i c.idn.length, .buf d Xs.length] 0) :: (a, .cells 1 (c.frm.map iI) 0) :: (b, .cells 1 (c.to.map iI) 0) :: (i, .cells 1 (c.idn.map iI) 0) :: [(id4, MObj.cells 5 [.int .i64 0, .nilsl, .nilsl, .nilsl, .nilsl] 0)]))) := o.perm (permC fun x => by (try dsimp only); simp only [List.append_eq, List.count_append, List.count_cons, List.count_nil, List.map_nil, List.length_nil, List.length_append, List.length_cons, List.length_set, Nat.zero_add, List.nil_append, iI, iL]; omega)
   refine hst od v.toNat (by omega) _ rfl fun H ob2 hX2 o => ?_
   try simp only [go_sem]
   have o : Owns H0 H ((id3, .cells 5 [iI (c.objs), .buf a (c.frm).length, .buf b (c.to).length, .buf i (c.idn).length, .buf d (Xs).length] 0) :: (a, .cells 1 ((c.frm).map iI) 0) :: (b, .cells 1 ((c.to).map iI) 0) :: (i, .cells 1 ((c.idn).map iI) 0) :: (d, .cells 1 (Xs) 0) :: (ob2 ++ [(id, s.obj), (id4, MObj.cells 5 [.int .i64 0, .nilsl, .nilsl, .nilsl, .nilsl] 0)])) := o.perm (permC fun x => by (try dsimp only); simp only [List.append_eq, List.count_append, List.count_cons, List.count_nil, List.map_nil, List.length_nil, List.length_append, List.length_cons, List.length_set, Nat.zero_add, List.nil_append, iI, iL]; omega)
   refine wk_cat hX2 o fun H o => ?_
  rotate_left 1
  try simp only [go_sem]
  have o : Owns H0 H ((id3, .cells 5 [iI (c.objs), .buf a (c.frm).length, .buf b (c.to).length, .buf i (c.idn).length, .buf d (Xs).length] 0) :: (a, .cells 1 ((c.frm).map iI) 0) :: (b, .cells 1 ((c.to).map iI) 0) :: (i, .cells 1 ((c.idn).map iI) 0) :: (d, .cells 1 (Xs) 0) :: (ob ++ [(id, s.obj), (id4, MObj.cells 5 [.int .i64 0, .nilsl, .nilsl, .nilsl, .nilsl] 0)])) := o.perm (permC fun x => by (try dsimp only); simp only [List.append_eq, List.count_append, List.count_cons, List.count_nil, List.map_nil, List.length_nil, List.length_append, List.length_cons, List.length_set, Nat.zero_add, List.nil_append, iI, iL]; omega)
  refine wk_cat hX o fun H o => ?_
 rotate_left 2
 try simp only [go_sem]
 refine ⟨fun q4 => At.mk ?_, fun q4 => At.mk ?_⟩
 focus
  try simp only [go_sem, q4]
  refine ⟨fun g1 => At.mk ?_, fun g1 => At.mk ?_⟩
  focus
   have g1p := of_decide g1
   have hf1 := hf1 (by omega)
   have hrow := crow f (by omega)
   try simp only [go_sem, reduceAdd]
   refine ⟨⟨_, _, o.tl.h0⟩, rd_cells o.tl (by simp) ?_⟩
   try simp only [go_sem]
   refine ⟨by omega, ?_⟩
   have od := o.pull [_, _, _, _, _]
   simp only [List.cons_append, List.nil_append] at od
   refine ⟨⟨_, _, od.h0⟩, rd_cells od (by omega) ?_⟩
   obtain ⟨idr, hXr, hst⟩ := hX.row (i := f) (by omega) (by have : (c.comp.getD f []).length = c.frm.length := hrow; omega)
   rw [hXr]
   try simp only [go_sem]
   refine (l01Next_ok B _).goZ hs o fun r s H _ ⟨v, e, hv0, hv1, _⟩ hs o hz => ⟨hz, ?_⟩
   subst e
   have hv1 := hv1 (by omega)
   refine (l01Next_ok B _).goZ hs o fun r s H _ ⟨v2, e, _⟩ hs o hz => ⟨hz, ?_⟩
   subst e
   have hrl : (c.comp.getD f []).length = c.frm.length := hrow
   try simp only [go_sem]
   refine ⟨by omega, ?_⟩
   have od : Owns H0 H ((d, MObj.cells 1 Xs 0) :: (ob ++ ((id, s.obj) :: (id3, .cells 5 [iI c.objs, .buf a c.frm.length, .buf b c.to.length, .buf i c.idn.length, .buf d Xs.length] 0) :: (a, .cells 1 (c.frm.map iI) 0) :: (b, .cells 1 (c.to.map iI) 0) :: (i, .cells 1 (c.idn.map iI) 0) :: [(id4, MObj.cells 5 [.int .i64 0, .nilsl, .nilsl, .nilsl, .nilsl] 0)]))) := o.perm (permC fun x => by (try dsimp only); simp only [List.append_eq, List.count_append, List.count_cons, List.count_nil, List.map_nil, List.length_nil, List.length_append, List.length_cons, List.length_set, Nat.zero_add, List.nil_append, iI, iL]; omega)
   refine hst od v.toNat (by omega) _ rfl fun H ob2 hX2 o => ?_
   try simp only [go_sem]
   have o : Owns H0 H ((id3, .cells 5 [iI (c.objs), .buf a (c.frm).length, .buf b (c.to).length, .buf i (c.idn).length, .buf d (Xs).length] 0) :: (a, .cells 1 ((c.frm).map iI) 0) :: (b, .cells 1 ((c.to).map iI) 0) :: (i, .cells 1 ((c.idn).map iI) 0) :: (d, .cells 1 (Xs) 0) :: (ob2 ++ [(id, s.obj), (id4, MObj.cells 5 [.int .i64 0, .nilsl, .nilsl, .nilsl, .nilsl] 0)])) := o.perm (permC fun x => by (try dsimp only); simp only [List.append_eq, List.count_append, List.count_cons, List.count_nil, List.map_nil, List.length_nil, List.length_append, List.length_cons, List.length_set, Nat.zero_add, List.nil_append, iI, iL]; omega)
   refine wk_cat hX2 o fun H o => ?_
  rotate_left 1
  try simp only [go_sem]
  have o : Owns H0 H ((id3, .cells 5 [iI (c.objs), .buf a (c.frm).length, .buf b (c.to).length, .buf i (c.idn).length, .buf d (Xs).length] 0) :: (a, .cells 1 ((c.frm).map iI) 0) :: (b, .cells 1 ((c.to).map iI) 0) :: (i, .cells 1 ((c.idn).map iI) 0) :: (d, .cells 1 (Xs) 0) :: (ob ++ [(id, s.obj), (id4, MObj.cells 5 [.int .i64 0, .nilsl, .nilsl, .nilsl, .nilsl] 0)])) := o.perm (permC fun x => by (try dsimp only); simp only [List.append_eq, List.count_append, List.count_cons, List.count_nil, List.map_nil, List.length_nil, List.length_append, List.length_cons, List.length_set, Nat.zero_add, List.nil_append, iI, iL]; omega)
  refine wk_cat hX o fun H o => ?_
 rotate_left 2
 try simp only [go_sem]
 refine ⟨fun q5 => At.mk ?_, fun q5 => At.mk ?_⟩
 focus
  try simp only [go_sem, q5]
  refine ⟨fun g1 => At.mk ?_, fun g1 => At.mk ?_⟩
  focus
   have g1p := of_decide g1
   have hf1 := hf1 (by omega)
   have hrow := crow f (by omega)
   try simp only [go_sem, reduceAdd]
   refine ⟨⟨_, _, o.tl.h0⟩, rd_cells o.tl (by simp) ?_⟩
   try simp only [go_sem]
   refine ⟨by omega, ?_⟩
   have od := o.pull [_, _, _, _, _]
   simp only [List.cons_append, List.nil_append] at od
   refine ⟨⟨_, _, od.h0⟩, rd_cells od (by omega) ?_⟩
   obtain ⟨idr, hXr, hst⟩ := hX.row (i := f) (by omega) (by have : (c.comp.getD f []).length = c.frm.length := hrow; omega)
   rw [hXr]
   try simp only [go_sem]
   refine (l01Next_ok B _).goZ hs o fun r s H _ ⟨v, e, hv0, hv1, _⟩ hs o hz => ⟨hz, ?_⟩
   subst e
   have hv1 := hv1 (by omega)
   refine (l01Next_ok B _).goZ hs o fun r s H _ ⟨v2, e, _⟩ hs o hz => ⟨hz, ?_⟩
   subst e
   have hrl : (c.comp.getD f []).length = c.frm.length := hrow
   try simp only [go_sem]
   refine ⟨by omega, ?_⟩
   have od : Owns H0 H ((d, MObj.cells 1 Xs 0) :: (ob ++ ((id, s.obj) :: (id3, .cells 5 [iI c.objs, .buf a c.frm.length, .buf b c.to.length, .buf i c.idn.length, .buf d Xs.length] 0) :: (a, .cells 1 (c.frm.map iI) 0) :: (b, .cells 1 (c.to.map iI) 0) :: (i, .cells 1 (c.idn.map iI) 0) :: [(id4, MObj.cells 5 [.int .i64 0, .nilsl, .nilsl, .nilsl, .nilsl] 0)]))) := o.perm (permC fun x => by (try dsimp only); simp only [List.append_eq, List.count_append, List.count_cons, List.count_nil, List.map_nil, List.length_nil, List.length_append, List.length_cons, List.length_set, Nat.zero_add, List.nil_append, iI, iL]; omega)
   refine hst od v.toNat (by omega) _ rfl fun H ob2 hX2 o => ?_
   try simp only [go_sem]
   have o : Owns H0 H ((id3, .cells 5 [iI (c.objs), .buf a (c.frm).length, .buf b (c.to).length, .buf i (c.idn).length, .buf d (Xs).length] 0) :: (a, .cells 1 ((c.frm).map iI) 0) :: (b, .cells 1 ((c.to).map iI) 0) :: (i, .cells 1 ((c.idn).map iI) 0) :: (d, .cells 1 (Xs) 0) :: (ob2 ++ [(id, s.obj), (id4, MObj.cells 5 [.int .i64 0, .nilsl, .nilsl, .nilsl, .nilsl] 0)])) := o.perm (permC fun x => by (try dsimp only); simp only [List.append_eq, List.count_append, List.count_cons, List.count_nil, List.map_nil, List.length_nil, List.length_append, List.length_cons, List.length_set, Nat.zero_add, List.nil_append, iI, iL]; omega)
   refine wk_cat hX2 o fun H o => ?_
  rotate_left 1
  try simp only [go_sem]
  have o : Owns H0 H ((id3, .cells 5 [iI (c.objs), .buf a (c.frm).length, .buf b (c.to).length, .buf i (c.idn).length, .buf d (Xs).length] 0) :: (a, .cells 1 ((c.frm).map iI) 0) :: (b, .cells 1 ((c.to).map iI) 0) :: (i, .cells 1 ((c.idn).map iI) 0) :: (d, .cells 1 (Xs) 0) :: (ob ++ [(id, s.obj), (id4, MObj.cells 5 [.int .i64 0, .nilsl, .nilsl, .nilsl, .nilsl] 0)])) := o.perm (permC fun x => by (try dsimp only); simp only [List.append_eq, List.count_append, List.count_cons, List.count_nil, List.map_nil, List.length_nil, List.length_append, List.length_cons, List.length_set, Nat.zero_add, List.nil_append, iI, iL]; omega)
  refine wk_cat hX o fun H o => ?_
 rotate_left 2
 try simp only [go_sem, q5]
 refine ⟨fun q6 => At.mk ?_, fun q6 => At.mk ?_⟩
 focus
  try simp only [go_sem]
  refine ⟨fun g1 => At.mk ?_, fun g1 => At.mk ?_⟩
  focus
   have g1p := of_decide g1
   have hf1 := hf1 (by omega)
   try simp only [go_sem, reduceAdd]
   refine ⟨⟨_, _, o.tl.h0⟩, rd_cells o.tl (by simp) ?_⟩
   try simp only [go_sem, reduceAdd]
   refine ⟨⟨_, _, o.tl.h0⟩, rd_cells o.tl (by simp) ?_⟩
   try simp only [go_sem]
   refine (l01Next_ok B _).goZ hs o fun r s H _ ⟨v, e, _⟩ hs o hz => ⟨hz, ?_⟩
   subst e
   try simp only [go_sem]
   refine ⟨by omega, ?_⟩
   refine set_own v (o.pull [_, _, _]) rfl (by omega) fun H o => ?_
   try simp only [go_sem]
   have o : Owns H0 H ((id3, .cells 5 [iI (c.objs), .buf a (c.frm).length, .buf b (c.to.set f v).length, .buf i (c.idn).length, .buf d (Xs).length] 0) :: (a, .cells 1 ((c.frm).map iI) 0) :: (b, .cells 1 ((c.to.set f v).map iI) 0) :: (i, .cells 1 ((c.idn).map iI) 0) :: (d, .cells 1 (Xs) 0) :: (ob ++ [(id, s.obj), (id4, MObj.cells 5 [.int .i64 0, .nilsl, .nilsl, .nilsl, .nilsl] 0)])) := o.perm (permC fun x => by (try dsimp only); simp only [List.append_eq, List.count_append, List.count_cons, List.count_nil, List.map_nil, List.length_nil, List.length_append, List.length_cons, List.length_set, Nat.zero_add, List.nil_append, iI, iL]; omega)
   refine wk_cat hX o fun H o => ?_
  rotate_left 1
  try simp only [go_sem]
  have o : Owns H0 H ((id3, .cells 5 [iI (c.objs), .buf a (c.frm).length, .buf b (c.to).length, .buf i (c.idn).length, .buf d (Xs).length] 0) :: (a, .cells 1 ((c.frm).map iI) 0) :: (b, .cells 1 ((c.to).map iI) 0) :: (i, .cells 1 ((c.idn).map iI) 0) :: (d, .cells 1 (Xs) 0) :: (ob ++ [(id, s.obj), (id4, MObj.cells 5 [.int .i64 0, .nilsl, .nilsl, .nilsl, .nilsl] 0)])) := o.perm (permC fun x => by (try dsimp only); simp only [List.append_eq, List.count_append, List.count_cons, List.count_nil, List.map_nil, List.length_nil, List.length_append, List.length_cons, List.length_set, Nat.zero_add, List.nil_append, iI, iL]; omega)
  refine wk_cat hX o fun H o => ?_
 rotate_left 2
 try simp only [go_sem]
 have od : Owns H0 H ((d, MObj.cells 1 Xs 0) :: (ob ++ ((id, s.obj) :: (id3, .cells 5 [iI c.objs, .buf a c.frm.length, .buf b c.to.length, .buf i c.idn.length, .buf d Xs.length] 0) :: (a, .cells 1 (c.frm.map iI) 0) :: (b, .cells 1 (c.to.map iI) 0) :: (i, .cells 1 (c.idn.map iI) 0) :: [(id4, MObj.cells 5 [.int .i64 0, .nilsl, .nilsl, .nilsl, .nilsl] 0)]))) := o.perm (permC fun x => by (try dsimp only); simp only [List.append_eq, List.count_append, List.count_cons, List.count_nil, List.map_nil, List.length_nil, List.length_append, List.length_cons, List.length_set, Nat.zero_add, List.nil_append, iI, iL]; omega)
 refine wk_rows hX [] H od fun H o => wkW_done ?_
 simp only [List.nil_append] at o
 try simp only [go_sem]
 refine ⟨fun g1 => At.mk ?_, fun g1 => At.mk ?_⟩
 focus
  have g1p := of_decide g1
  have hf1 := hf1 (by omega)
  have hrow := crow f (by omega)
  try simp only [go_sem, reduceAdd]
  refine ⟨⟨_, _, o.tl.tl.h0⟩, rd_cells o.tl.tl (by simp) ?_⟩
  try simp only [go_sem, reduceAdd]
  refine ⟨⟨_, _, o.tl.tl.h0⟩, rd_cells o.tl.tl (by simp) ?_⟩
  try simp only [go_sem]
  refine ⟨by omega, ⟨_, _, o.h0⟩, rd_own (f := iL) o (by omega) ?_⟩
  try simp only [go_sem]
  refine ⟨⟨by omega, by omega⟩, by omega, ?_⟩
  refine set_own (f := iL) ((c.comp.getD f default).drop (Int.toNat 1)) o rfl (by omega) fun H o => ?_
  try simp only [go_sem]
  have o : Owns H0 H ((id3, .cells 5 [iI c.objs, .buf a c.frm.length, .buf b c.to.length, .buf i c.idn.length, .buf d (c.comp.set f ((c.comp.getD f default).drop (Int.toNat 1))).length] 0) :: (a, .cells 1 (c.frm.map iI) 0) :: (b, .cells 1 (c.to.map iI) 0) :: (i, .cells 1 (c.idn.map iI) 0) :: (d, .cells 1 ((c.comp.set f ((c.comp.getD f default).drop (Int.toNat 1))).map iL) 0) :: [(id, s.obj), (id4, MObj.cells 5 [.int .i64 0, .nilsl, .nilsl, .nilsl, .nilsl] 0)]) := by
   rw [show Xs.length = c.comp.length from hXl] at o
   exact o.perm (permC fun x => by (try dsimp only); simp only [List.append_eq, List.count_append, List.count_cons, List.count_nil, List.map_nil, List.length_nil, List.length_append, List.length_cons, List.length_set, Nat.zero_add, List.nil_append, iI, iL]; omega)
  refine wk_cat' o fun H o => ?_
 rotate_left 1
 try simp only [go_sem]
 have o : Owns H0 H ((id3, .cells 5 [iI c.objs, .buf a c.frm.length, .buf b c.to.length, .buf i c.idn.length, .buf d (c.comp).length] 0) :: (a, .cells 1 (c.frm.map iI) 0) :: (b, .cells 1 (c.to.map iI) 0) :: (i, .cells 1 (c.idn.map iI) 0) :: (d, .cells 1 ((c.comp).map iL) 0) :: [(id, s.obj), (id4, MObj.cells 5 [.int .i64 0, .nilsl, .nilsl, .nilsl, .nilsl] 0)]) := by
  have := hXl
  rw [show Xs.length = c.comp.length from hXl] at o
  exact o.perm (permC fun x => by (try dsimp only); simp only [List.append_eq, List.count_append, List.count_cons, List.count_nil, List.map_nil, List.length_nil, List.length_append, List.length_cons, List.length_set, Nat.zero_add, List.nil_append, iI, iL]; omega)
 refine wk_cat' o fun H o => ?_
 all_goals
  refine wkW_done ?_
  try simp only [go_sem]
  refine rd_celln o (by simp [Cat.cells]) ?_
  try simp only [go_sem, Cat.cells]
  refine stc (o.pull [_, _]) fun H o => ?_
  simp only [wr_cons, wr_nil, List.set_cons_zero, List.set_cons_succ] at o
  try simp only [go_sem]
  have hr2 := o.rc 5 0 (by simp)
  simp only [List.drop_zero] at hr2
  rw [hr2]
  try simp only [go_sem]
  exact src_ret (anyQ _ _ _ _ _) hs (o.pull [_, _])
end Go.Proofs.Shf
namespace Go.Proofs.Shf
open Go.AW Go.Proofs Go.Shf
theorem l02Draw_ok (B : Nat) (mo ma : Int) : Rd B 174 [iI mo, iI ma] AnyQ := by
 intro id s H0 H hs o
 refine c174 (by simp) fun _ => ?_
 unfold s174
 try simp only [go_sem, reduceAdd]
 refine newRef_own o fun id6 H o => ?_
 try simp only [go_sem]
 refine (l02Some_ok B mo ma).go hs o.swap fun r s H _ ⟨c, e, hc⟩ hs o => ?_
 subst e
 try simp only [go_sem, reduceAdd]
 refine newRef_own o fun id7 H o => ?_
 try simp only [go_sem]
 refine stc o fun H o => ?_
 simp only [wr_cons, wr_nil, List.set_cons_zero, List.set_cons_succ] at o
 try simp only [go_sem]
 refine (l01Next_ok B 24).go hs o.swap fun r s H _ ⟨v, e, _⟩ hs o => ?_
 subst e
 try simp only [go_sem]
 refine ⟨fun h1 => At.mk ?_, fun h1 => At.mk ?_⟩
 focus
  try simp only [go_sem]
  refine rd_celln o.tl (by simp) ?_
  try simp only [go_sem]
  refine (l02Bend_ok B 20000 (by omega) c hc).go hs o fun r s H _ ⟨c2, e⟩ hs o => ?_
  subst e
  try simp only [go_sem]
  refine stc (o.pull [_, _]) fun H o => ?_
  simp only [wr_cons, wr_nil, List.set_cons_zero, List.set_cons_succ] at o
 rotate_left 1
 focus
  try simp only [go_sem]
  refine rd_celln o.tl (by simp) ?_
  try simp only [go_sem]
  refine stc (o.pull [_, _]) fun H o => ?_
  simp only [wr_cons, wr_nil, List.set_cons_zero, List.set_cons_succ] at o
 all_goals
  try simp only [go_sem]
  have hr2 := o.rc 5 0 (by simp)
  simp only [List.drop_zero] at hr2
  rw [hr2]
  try simp only [go_sem]
  exact src_ret (anyQ _ _ _ _ _) hs o.swap
end Go.Proofs.Shf
namespace Go.Proofs.Shf
open Go.AW Go.Proofs Go.Shf
theorem l19Base_ok (B : Nat) : Rd B 79 [] AnyQ := by
 intro id s H0 H hs o
 refine c79p (by simp) fun _ => ?_
 unfold s79p
 try simp only [go_sem, reduceAdd]
 refine newRef_own o fun id2 H o => ?_
 try simp only [go_sem]
 refine (l01Next_ok B 3).go hs o.swap fun r s H _ ⟨v, e, _⟩ hs o => ?_
 subst e
 try simp only [go_sem]
 refine ⟨fun h1 => At.mk ?_, fun h1 => At.mk ?_⟩
 focus
  try simp only [go_sem]
  refine (l02Draw_ok B 2 6).go hs o fun r s H _ ⟨c, e⟩ hs o => ?_
 rotate_left 1
 focus
  try simp only [go_sem]
  refine (l02Draw_ok B 4 12).go hs o fun r s H _ ⟨c, e⟩ hs o => ?_
 all_goals
  subst e
  try simp only [go_sem]
  refine stc o.swap fun H o => ?_
  simp only [wr_cons, wr_nil, List.set_cons_zero, List.set_cons_succ] at o
  try simp only [go_sem]
  have hr2 := o.rc 5 0 (by simp)
  simp only [List.drop_zero] at hr2
  rw [hr2]
  exact src_ret (anyQ _ _ _ _ _) hs o.swap
theorem rep_nil {α : Type} (n x : Nat) : (List.replicate n ([] : List α)).getD x default = [] := by
 rw [List.getD_eq_getElem?_getD, List.getElem?_replicate]
 split <;> rfl
theorem PairsOk.add {sz : List Int} {PP : List (List (List Int))} (h : PairsOk sz PP) {x : Nat} (hx : x < sz.length) {a b : Int} (ha : 0 ≤ a ∧ a < sz.getD x default) (hb : 0 ≤ b ∧ b < sz.getD x default) :
  PairsOk sz (PP.set x (PP.getD x default ++ [[a, b]])) := by
 refine ⟨by rw [List.length_set]; exact h.1, fun y hy q hq => ?_⟩
 rw [getD_setD _ _ (by rw [h.1]; exact hx)] at hq
 by_cases e : y = x
 ·rw [if_pos e] at hq
  subst e
  rcases List.mem_append.mp hq with hq | hq
  ·exact h.2 y hy q hq
  ·rw [List.mem_singleton] at hq
   subst hq
   exact ⟨by simp, ha, hb⟩
 ·rw [if_neg e] at hq; exact h.2 y hy q hq
theorem l19Some_ok (B : Nat) (c : Cat) (hc : c.Is) (size : Int) (hsize : 0 ≤ size ∧ size ≤ 1000) : Rd B 172 [.agg c.cells, iI size] (AnyFc c) := by
 intro id s H0 H hs o
 refine c172p (by simp) fun _ => ?_
 have hm := hc.1.m
 have hob := hc.1.o
 unfold s172p
 try simp only [go_sem, reduceAdd]
 refine ⟨by simp [maxL], newRef_own o fun id6 H o => ?_⟩
 try simp only [go_sem]
 refine awp_for [0, 2, 4, 6] (G := Src) (fun k _ => [(7, some (.int .i64 (k : Int)))]) (fun k s H => s.Ok ∧ Owns H0 H [(id, s.obj), (id6, .cells 7 z7 0)]) 6 s ⟨hs, o.swap⟩ rfl ?_
 clear o hs
 rintro k s H hk ⟨hs, o⟩
 try simp only [go_sem]
 refine ⟨fun h1 => At.mk ?_, fun h1 => At.mk ?_⟩
 ·have h1p := of_decide h1
  have w1 := wsucc (k := k) (by omega)
  try simp only [go_sem]
  refine new_list iI o fun id8 H o => ?_
  try simp only [go_sem]
  refine (l01Next_ok B 4).go hs o.swap fun r s H _ ⟨v, e, v0, v1, _⟩ hs o => ?_
  subst e
  have hv := v1 (by omega)
  obtain ⟨n, rfl⟩ : ∃ n : Nat, v = n := ⟨_, (Int.toNat_of_nonneg v0).symm⟩
  clear v0 v1
  try simp only [go_sem]
  refine awp_while [0, 2, 4, 6, 7] (G := Src × (Nat × List Int) × Nat) (fun g => [(8, some (.buf g.2.1.1 g.2.1.2.length)), (9, some (.int .i64 (g.2.2 : Int)))])
   (fun m g H => m = g.2.2 ∧ g.1.Ok ∧ g.2.1.2.length + g.2.2 ≤ 3 ∧ Owns H0 H [(id, g.1.obj), (g.2.1.1, .cells 1 (g.2.1.2.map iI) 0), (id6, .cells 7 z7 0)]) n (s, (id8, []), n) ⟨rfl, hs, by simp; omega, o⟩ rfl ?_
  clear o hs
  rintro m ⟨s, ⟨id8, os⟩, n⟩ H ⟨hmn, hs, hos, o⟩
  replace hmn : m = n := hmn
  replace hs : s.Ok := hs
  replace hos : os.length + n ≤ 3 := hos
  replace o : Owns H0 H [(id, s.obj), (id8, .cells 1 (os.map iI) 0), (id6, .cells 7 z7 0)] := o
  try simp only [go_sem]
  refine ⟨fun h2 => At.mk ?_, fun h2 => At.mk ?_⟩
  focus
   try simp only [go_sem, reduceAdd, reduceLeDiff, h2]
   refine ⟨fun h3 => At.mk ?_, fun h3 => At.mk ?_⟩
   focus
    have h2p := of_decide h2
    have w2 : IntKind.i64.wrap ((n : Int) - 1) = ((n - 1 : Nat) : Int) := by rw [wrap_i64 (by omega) (by omega)]; omega
    try simp only [go_sem, reduceAdd, reduceLeDiff, h3]
    refine (l01Next_ok B c.objs).go hs o fun r s H _ ⟨v, e, _⟩ hs o => ?_
    subst e
    try simp only [go_sem, reduceAdd]
    refine app_own v o.swap rfl rfl (by simp only [maxL]; omega) fun id8 H o => ?_
    try simp only [go_sem, w2]
    exact while_next (n - 1) (s, (id8, os ++ [v]), n - 1) (by omega) ⟨rfl, hs, by simp; omega, o.swap⟩ rfl
   try simp only [go_sem, h3]
  rotate_left 1
  focus
   try simp only [go_sem, h2]
  all_goals
   refine fz_own o.swap rfl fun H o => ?_
   try simp only [go_sem, reduceAdd]
   refine (l19Free_ok B c hc os (by omega)).go fun r _ ⟨f, e, hf⟩ => ?_
   subst e
   try simp only [go_sem, reduceAdd]
   refine ⟨by simp [maxL], newRef_own o fun id10 H o => ?_⟩
   try simp only [go_sem]
   refine stc o fun H o => ?_
   simp only [wr_cons, wr_nil, List.set_cons_zero, List.set_cons_succ] at o
   try simp only [go_sem, reduceAdd, reduceLeDiff]
   refine ⟨⟨by omega, by simp only [maxL]; omega⟩, ?_⟩
   rw [rep_one]
   refine newBuf_own o fun id11 H o => ?_
   try simp only [go_sem]
   refine (l01Next_ok B 4).go hs (o.pull [_, _]) fun r s H _ ⟨v, e, v0, v1, _⟩ hs o => ?_
   subst e
   have hv := v1 (by omega)
   obtain ⟨n, rfl⟩ : ∃ n : Nat, v = n := ⟨_, (Int.toNat_of_nonneg v0).symm⟩
   clear v0 v1
   try simp only [go_sem]
   have hsl := hf.sl
   have hzf : ∀ x, x < f.sizes.length → 0 ≤ f.sizes.getD x default ∧ f.sizes.getD x default ≤ 120 := fun x hx => hf.sz _ (mem_getD.mpr ⟨x, hx, rfl⟩)
   refine awp_while [0, 2, 4, 6, 7, 10, 11] (G := Src × (List AV × List (List (List Int)) × Ob) × Nat) (fun g => [(12, some (.int .i64 (g.2.2 : Int)))])
    (fun m g H => m = g.2.2 ∧ g.1.Ok ∧ LsR iL g.2.1.1 g.2.1.2.1 g.2.1.2.2 ∧ PairsOk f.sizes g.2.1.2.1 ∧ (∀ x, (g.2.1.2.1.getD x default).length + g.2.2 ≤ 3) ∧
     Owns H0 H ((id, g.1.obj) :: (id11, .cells 1 g.2.1.1 0) :: (g.2.1.2.2 ++ [(id10, MObj.cells 7 f.cells 0), (id6, MObj.cells 7 z7 0)]))) n (s, (List.replicate c.objs.toNat .nilsl, List.replicate c.objs.toNat [], []), n)
    ⟨rfl, hs, LsR.rep iL _, ⟨by rw [List.length_replicate]; omega, fun x hx q hq => by rw [show (List.replicate c.objs.toNat ([] : List (List Int))).getD x default = [] from rep_nil _ _] at hq; simp at hq⟩, fun x => by
     rw [show (List.replicate c.objs.toNat ([] : List (List Int))).getD x default = [] from rep_nil _ _]; simp; omega, o⟩ rfl ?_
   clear o hs
   rintro m ⟨s, ⟨Xs, PP, ob⟩, n⟩ H ⟨hmn, hs, hR, hPP, hPl, o⟩
   replace hmn : m = n := hmn
   replace hs : s.Ok := hs
   replace hR : LsR iL Xs PP ob := hR
   replace hPP : PairsOk f.sizes PP := hPP
   replace hPl : ∀ x, (PP.getD x default).length + n ≤ 3 := hPl
   replace o : Owns H0 H ((id, s.obj) :: (id11, .cells 1 Xs 0) :: (ob ++ [(id10, .cells 7 f.cells 0), (id6, .cells 7 z7 0)])) := o
   have hXl := hR.len
   have hPPl := hPP.1
   have hn3 : n ≤ 3 := by have := hPl 0; omega
   try simp only [go_sem]
   refine ⟨fun k2 => At.mk ?_, fun k2 => At.mk ?_⟩
   focus
    try simp only [go_sem, reduceAdd, reduceLeDiff, k2]
    refine ⟨fun k3 => At.mk ?_, fun k3 => At.mk ?_⟩
    focus
     have k2p := of_decide k2
     have k3p := of_decide k3
     have w2 : IntKind.i64.wrap ((n : Int) - 1) = ((n - 1 : Nat) : Int) := by rw [wrap_i64 (by omega) (by omega)]; omega
     try simp only [go_sem, reduceAdd, reduceLeDiff, k3]
     refine (l01Next_ok B c.objs).go hs o fun r s H _ ⟨x, e, x0, x1, _⟩ hs o => ?_
     subst e
     have hx1 := x1 (by omega)
     obtain ⟨x, rfl⟩ : ∃ n : Nat, x = n := ⟨_, (Int.toNat_of_nonneg x0).symm⟩
     clear x0 x1
     have hxl : x < f.sizes.length := by omega
     have hzx := hzf x hxl
     have hg10 : H.get id10 = some (.cells 7 f.cells 0) := o.get (id10, _) (by simp)
     try simp only [go_sem, reduceAdd]
     refine rd_get hg10 (by simp [SF.cells]) ?_
     try simp only [go_sem]
     refine ⟨hxl, ?_⟩
     refine ⟨fun k4 => At.mk ?_, fun k4 => At.mk ?_⟩
     ·have k4p := of_decide k4
      try simp only [go_sem]
      refine ⟨by omega, ⟨_, _, o.tl.h0⟩, rd_get o.tl.h0 (by omega) ?_⟩
      try simp only [go_sem, reduceAdd]
      refine ⟨⟨_, _, hg10⟩, rd_get hg10 (by simp [SF.cells]) ?_⟩
      try simp only [go_sem, reduceAdd]
      refine ⟨hxl, ⟨_, _, hg10⟩, rd_get hg10 (by simp [SF.cells]) ?_⟩
      try simp only [go_sem, reduceAdd]
      refine ⟨hxl, ?_⟩
      refine (l01Next_ok B _).goZ hs o fun r s H _ ⟨a, e, a0, a1, _⟩ hs o hz => ⟨hz, ?_⟩
      subst e
      have ha1 := a1 (by omega)
      try simp only [go_sem, reduceAdd]
      refine (l01Next_ok B _).goZ hs o fun r s H _ ⟨b, e, b0, b1, _⟩ hs o hz => ⟨hz, ?_⟩
      subst e
      have hb1 := b1 (by omega)
      try simp only [go_sem, reduceAdd]
      have o : Owns H0 H ((id11, .cells 1 Xs 0) :: (ob ++ [(id, s.obj), (id10, .cells 7 f.cells 0), (id6, .cells 7 z7 0)])) := o.perm (permC fun x => by (try dsimp only); simp only [List.append_eq, List.count_append, List.count_cons, List.count_nil, List.map_nil, List.length_nil, List.length_append, List.length_cons, List.length_set, Nat.zero_add, List.nil_append, iI, iL]; omega)
      refine rows_app o hR (by omega) [a, b] rfl (by show (PP.getD _ default).length + 1 ≤ maxL; have := hPl x; simp only [maxL]; omega) fun X' o' H hX1 hR o => ?_
      try simp only [go_sem, AV.cells_one hX1]
      refine ⟨by omega, st_cells o (by omega) rfl (by simp only [memcons, memnil]; exact ⟨hX1, trivial⟩) fun H o => ?_⟩
      simp only [wr_cons, wr_nil] at o
      try simp only [go_sem, w2]
      refine while_next (n - 1) (s, (Xs.set x X', PP.set x (PP.getD x default ++ [[a, b]]), o'), n - 1) (by omega) ⟨rfl, hs, hR, hPP.add hxl ⟨a0, ha1⟩ ⟨b0, hb1⟩, fun y => ?_, (by simp only [SF.cells] at o; exact o.perm (permC fun x => by (try dsimp only); simp only [List.append_eq, List.count_append, List.count_cons, List.count_nil, List.map_nil, List.length_nil, List.length_append, List.length_cons, List.length_set, Nat.zero_add, List.nil_append, iI, iL]; omega))⟩ rfl
      show ((PP.set x (PP.getD x default ++ [[a, b]])).getD y default).length + (n - 1) ≤ 3
      rw [getD_setD _ _ (by omega)]
      have := hPl y
      split
      ·rename_i e; subst e; rw [List.length_append, List.length_singleton]; omega
      ·omega
     ·try simp only [go_sem, w2]
      exact while_next (n - 1) (s, (Xs, PP, ob), n - 1) (by omega) ⟨rfl, hs, hR, hPP, fun x => by have := hPl x; show (PP.getD x default).length + (n - 1) ≤ 3; omega, o⟩ rfl
    try simp only [go_sem, k3]
   rotate_left 1
   focus
    try simp only [go_sem, k2]
   all_goals
    have o : Owns H0 H ((id11, .cells 1 Xs 0) :: (ob ++ [(id, s.obj), (id10, .cells 7 f.cells 0), (id6, .cells 7 z7 0)])) := o.perm (permC fun x => by (try dsimp only); simp only [List.append_eq, List.count_append, List.count_cons, List.count_nil, List.map_nil, List.length_nil, List.length_append, List.length_cons, List.length_set, Nat.zero_add, List.nil_append, iI, iL]; omega)
    refine wk_rows hR [] H o fun H o => wkW_done ?_
    rw [List.nil_append] at o
    have o : Owns H0 H ((id11, .cells 1 (PP.map iLL) 0) :: [(id, s.obj), (id10, .cells 7 f.cells 0), (id6, .cells 7 z7 0)]) := o
    try simp only [go_sem]
    refine fz_own (f := iLL) o (by omega) fun H o => ?_
    try simp only [go_sem]
    refine rd_celln o.tl (by simp [SF.cells]) ?_
    try simp only [go_sem]
    refine (l19Glue_ok B f c hc hf PP hPP).go fun r hfn ⟨f2, e, hf2⟩ => ?_
    subst e
    have hfl := fine_mL_le (hfn.agg (c := iL f2.sizes) (by simp [SF.cells]))
    simp only [maxL] at hfl
    clear hfn
    try simp only [go_sem]
    refine st_cells o.swap (by simp [SF.cells]) (by (try simp only [go_sem]); (try simp)) (by first | (simp only [go_sem]; done) | ((try simp only [go_sem]); simp [AV.one, one_mL])) fun H o => ?_
    simp only [wr_cons, wr_nil, List.set_cons_zero, List.set_cons_succ] at o
    try simp only [go_sem]
    refine awp_for [0, 2, 4, 6, 7, 10] (G := Bool) (fun k b => [(14, some (.bool b)), (15, some (.int .i64 (k : Int)))]) (fun k _ H => Owns H0 H [(id10, MObj.cells 7 f2.cells 0), (id, s.obj), (id6, MObj.cells 7 z7 0)]) f2.sizes.length true o rfl ?_
    clear o
    rintro q sm H hq o
    replace o : Owns H0 H [(id10, .cells 7 f2.cells 0), (id, s.obj), (id6, .cells 7 z7 0)] := o
    try simp only [go_sem, reduceAdd]
    refine rd_cells o (by simp [SF.cells]) ?_
    try simp only [go_sem]
    refine ⟨fun j1 => At.mk ?_, fun j1 => At.mk ?_⟩
    ·have j1p := of_decide j1
     have w3 := wsucc (k := q) (by omega)
     try simp only [go_sem]
     cases sm
     ·try simp only [go_sem, w3]
      exact for_next false (by omega) o rfl
     ·try simp only [go_sem, reduceAdd]
      refine rd_cells o (by simp [SF.cells]) ?_
      try simp only [go_sem]
      refine ⟨j1p, ?_⟩
      try simp only [go_sem, w3]
      exact for_next _ (by omega) o rfl
    ·have j1p := of_ndecide j1
     try simp only [go_sem]
     cases sm
     ·try simp only [go_sem, w1]
      exact for_next s (by omega) ⟨hs, o.tl⟩ rfl
     ·try simp only [go_sem]
      refine rd_celln o (by simp [SF.cells]) ?_
      try simp only [go_sem]
      refine stc (o.pull [_, _]) fun H o => ?_
      simp only [wr_cons, wr_nil, List.set_cons_zero, List.set_cons_succ] at o
      try simp only [go_sem]
      have hr := o.rc 7 0 (by simp)
      simp only [List.drop_zero] at hr
      rw [hr]
      exact src_ret ⟨f2, rfl, hf2⟩ hs (o.pull [_, _])
 ·have h1p := of_ndecide h1
  try simp only [go_sem, reduceAdd]
  have hw : IntKind.i64.wrap ((if false = true then if 2 > size then 2 else size else if 2 < size then 2 else size) + 1) = min size 2 + 1 := by
   rw [if_neg (by decide)]
   split <;> rw [wrap_i64 (by omega) (by omega)] <;> omega
  rw [hw]
  refine (l01Next_ok B _).go hs o fun r s H _ ⟨v, e, v0, v1, _⟩ hs o => ?_
  subst e
  have hv := v1 (by omega)
  try simp only [go_sem]
  refine ⟨_, (l19Constant_ok B c hc.1 v ⟨v0, by omega⟩).run, ?_⟩
  try simp only [go_sem]
  refine stc o.swap fun H o => ?_
  simp only [wr_cons, wr_nil, List.set_cons_zero, List.set_cons_succ] at o
  try simp only [go_sem]
  have hr := o.rc 7 0 (by simp)
  simp only [List.drop_zero] at hr
  rw [hr]
  exact src_ret ⟨constF c v, rfl, rfl, by simp [constF]; omega⟩ hs o.swap
end Go.Proofs.Shf
namespace Go.Shf
open Go.AW
theorem Cat.Shape.sh {c : Cat} (h : c.Shape) : c.Sh 40 := ⟨by have := h.o; omega, h.il, h.m, h.tol, h.cl, h.row⟩
end Go.Shf
namespace Go.Proofs.Shf
open Go.AW Go.Proofs Go.Shf
theorem dTrue' (i : Decidable True) : @decide True i = true := decide_eq_true trivial
def OFb (f : SF) (p : Ob) (X : AV) : Prop := ∃ z d Xs ob, X = .agg [iI f.shape.objs, iL f.shape.frm, iL f.shape.to, iL f.shape.idn, iLL f.shape.comp, .buf z f.sizes.length, .buf d Xs.length] ∧ LsR iI Xs f.acts ob ∧
 p = (z, .cells 1 (f.sizes.map iI) 0) :: (d, .cells 1 Xs 0) :: ob
theorem l19Own_new (B : Nat) (f : SF) : New Tryz.prog B 249 [.agg f.cells] (OFb f) := by
 refine ⟨fun H0 => c249p (by simp) fun _ => ?_⟩
 unfold s249p
 have o : Owns H0 H0 [] := .nil _
 try simp only [go_sem, reduceAdd]
 refine ⟨by simp [maxL], newRef_own o fun id H o => ?_⟩
 try simp only [go_sem, reduceAdd, reduceLeDiff]
 refine ⟨_, (l02Own_ok B f.shape).run, ?_⟩
 try simp only [go_sem, reduceAdd, reduceLeDiff]
 refine New.go' (l01Own_new B f.sizes) o fun X1 p1 H ⟨z, e1, e2⟩ o hs => ⟨hs, ?_⟩
 subst e1 e2
 try simp only [go_sem, reduceAdd, reduceLeDiff]
 refine New.go' (l01Own2_new B f.acts) o fun X1 p1 H ⟨d, Xs, ob, e1, h, e2⟩ o hs => ⟨hs, ?_⟩
 subst e1 e2
 try simp only [go_sem, reduceAdd]
 have o : Owns H0 H ((id, MObj.cells 7 [.int .i64 0, .nilsl, .nilsl, .nilsl, .nilsl, .nilsl, .nilsl] 0) :: (z, MObj.cells 1 (f.sizes.map iI) 0) :: (d, MObj.cells 1 Xs 0) :: ob) := o.perm (permC fun x => by (try dsimp only); simp only [List.append_eq, List.count_append, List.count_cons, List.count_nil, List.map_nil, List.length_nil, List.length_append, List.length_cons, List.length_set, Nat.zero_add, List.nil_append, iI, iL]; omega)
 refine stc o fun H o => ?_
 simp only [wr_cons, wr_nil, List.set_cons_zero, List.set_cons_succ] at o
 try simp only [go_sem]
 have hr := o.rc 7 0 (by simp)
 simp only [List.drop_zero] at hr
 rw [hr]
 exact ⟨H, .refl H, _, ⟨z, d, Xs, ob, rfl, h, rfl⟩, o.tl⟩
theorem wk_sf {F : Env → Heap → Prop} {σ : Env} {H0 H : Heap} {l : Ob} {id fr : Nat} {c : Cat} {z d : Nat} {S : List Int} {Xs : List AV} {As : List (List Int)} {ob : Ob} (h : LsR iI Xs As ob)
  (o : Owns H0 H ((id, .cells 7 [iI c.objs, iL c.frm, iL c.to, iL c.idn, iLL c.comp, .buf z S.length, .buf d Xs.length] fr) :: (z, .cells 1 (S.map iI) 0) :: (d, .cells 1 Xs 0) :: (ob ++ l)))
  (hk : ∀ H', Owns H0 H' ((id, .cells 7 (SF.cells ⟨c, S, As⟩) fr) :: l) → wkW F σ H') : wkW F σ H := by
 have hl := h.len
 have od : Owns H0 H ((d, .cells 1 Xs 0) :: (ob ++ ((id, .cells 7 [iI c.objs, iL c.frm, iL c.to, iL c.idn, iLL c.comp, .buf z S.length, .buf d Xs.length] fr) :: (z, .cells 1 (S.map iI) 0) :: l))) := o.perm (permC fun x => by (try dsimp only); simp only [List.append_eq, List.count_append, List.count_cons, List.count_nil, List.map_nil, List.length_nil, List.length_append, List.length_cons, List.length_set, Nat.zero_add, List.nil_append, iI, iL]; omega)
 refine wk_rows h [] H od fun H o => ?_
 simp only [List.nil_append] at o
 rw [hl] at o
 have o : Owns H0 H ((id, .cells 7 [iI c.objs, iL c.frm, iL c.to, iL c.idn, iLL c.comp, .buf z S.length, .buf d As.length] fr) :: (z, .cells 1 (S.map iI) 0) :: (d, .cells 1 (As.map iL) 0) :: l) := o.perm (permC fun x => by (try dsimp only); simp only [List.append_eq, List.count_append, List.count_cons, List.count_nil, List.map_nil, List.length_nil, List.length_append, List.length_cons, List.length_set, Nat.zero_add, List.nil_append, iI, iL]; omega)
 refine wk_cell 5 o rfl rfl fun H o => ?_
 simp only [List.set_cons_zero, List.set_cons_succ] at o
 refine wk_cell 6 o rfl rfl fun H o => ?_
 simp only [List.set_cons_zero, List.set_cons_succ] at o
 exact hk H o
@[go_sem] def bendF (id3 : Nat) (c : Cat) (z : Nat) (S : List Int) (d : Nat) (Xs : List AV) (l : Ob) : Ob :=
 (id3, .cells 7 [iI c.objs, iL c.frm, iL c.to, iL c.idn, iLL c.comp, .buf z S.length, .buf d Xs.length] 0) :: (z, .cells 1 (S.map iI) 0) :: (d, .cells 1 Xs 0) :: l
theorem l19Bend_ok (B : Nat) (f : SF) (hc : f.shape.Shape) (hA40 : f.acts.length ≤ 40) : Rd B 173 [.agg f.cells] AnyF := by
 intro id s H0 H hs o
 obtain ⟨c, S, A⟩ := f
 replace hA40 : A.length ≤ 40 := hA40
 refine c173p (by simp) fun hfi => ?_
 have hfl := fine_mL_le (hfi.2.1.agg (c := iL S) (by simp [SF.cells]))
 have hfl2 := fine_mL_le (hfi.2.1.agg (c := iLL A) (by simp [SF.cells]))
 simp only [maxL] at hfl hfl2
 clear hfi
 unfold s173p
 try simp only [go_sem, reduceAdd]
 refine ⟨by simp [maxL], newRef_own o fun id3 H o => ?_⟩
 try simp only [go_sem, reduceAdd]
 refine ⟨by simp [maxL], newRef_own o fun id4 H o => ?_⟩
 try simp only [go_sem]
 refine rd_celln o.tl (by simp) ?_
 try simp only [go_sem]
 refine New.go' (l19Own_new B ⟨c, S, A⟩) o fun X1 p1 H ⟨z, d, Xs, ob, e1, hX, e2⟩ o _ => ?_
 subst e1 e2
 have hXl := hX.len
 simp only at hX hXl
 try simp only [go_sem]
 have o : Owns H0 H ((id3, MObj.cells 7 [iI c.objs, iL c.frm, iL c.to, iL c.idn, iLL c.comp, iL S, iLL A] 0) :: (z, .cells 1 (S.map iI) 0) :: (d, .cells 1 Xs 0) :: (ob ++ [(id, s.obj), (id4, MObj.cells 7 [.int .i64 0, .nilsl, .nilsl, .nilsl, .nilsl, .nilsl, .nilsl] 0)])) := o.perm (permC fun x => by (try dsimp only); simp only [List.append_eq, List.count_append, List.count_cons, List.count_nil, List.map_nil, List.length_nil, List.length_append, List.length_cons, List.length_set, Nat.zero_add, List.nil_append, iI, iL]; omega)
 refine stc o fun H o => ?_
 simp only [wr_cons, wr_nil, List.set_cons_zero, List.set_cons_succ] at o
 try simp only [go_sem]
 have hsrc : ∀ {H : Heap} {s : Src} {Xs : List AV} {ob : Ob} {c : Cat} {z d : Nat} {S : List Int}, Owns H0 H (bendF id3 c z S d Xs (ob ++ [(id, s.obj), (id4, MObj.cells 7 [.int .i64 0, .nilsl, .nilsl, .nilsl, .nilsl, .nilsl, .nilsl] 0)])) →
   Owns H0 H ((id, s.obj) :: bendF id3 c z S d Xs (ob ++ [(id4, MObj.cells 7 [.int .i64 0, .nilsl, .nilsl, .nilsl, .nilsl, .nilsl, .nilsl] 0)])) := by
  intro H s Xs ob c z d S o
  unfold bendF at o ⊢
  exact o.perm (permC fun x => by (try dsimp only); simp only [List.append_eq, List.count_append, List.count_cons, List.count_nil, List.map_nil, List.length_nil, List.length_append, List.length_cons, List.length_set, Nat.zero_add, List.nil_append, iI, iL]; omega)
 have o := hsrc (by unfold bendF; exact o)
 refine (l01Next_ok B 5).go hs o fun r s H _ ⟨v, e, v0, v1, _⟩ hs o => ?_
 subst e
 unfold bendF at o
 try simp only [go_sem]
 have htup : ∀ {c' : Cat} {z' d' : Nat} {S' : List Int} {Xs' : List AV} {A' : List (List Int)} {ob' : Ob} {F : Env → Heap → Prop} {σ : Env} {H : Heap} {s : Src}, LsR iI Xs' A' ob' →
   Owns H0 H ((id, s.obj) :: bendF id3 c' z' S' d' Xs' (ob' ++ [(id4, MObj.cells 7 [.int .i64 0, .nilsl, .nilsl, .nilsl, .nilsl, .nilsl, .nilsl] 0)])) →
   (∀ H', Owns H0 H' ((id3, .cells 7 (SF.cells ⟨c', S', A'⟩) 0) :: [(id, s.obj), (id4, MObj.cells 7 [.int .i64 0, .nilsl, .nilsl, .nilsl, .nilsl, .nilsl, .nilsl] 0)]) → F σ H') → wkW F σ H := by
  intro c' z' d' S' Xs' A' ob' F σ H s hR o hk
  unfold bendF at o
  have od : Owns H0 H ((id3, .cells 7 [iI c'.objs, iL c'.frm, iL c'.to, iL c'.idn, iLL c'.comp, .buf z' S'.length, .buf d' Xs'.length] 0) :: (z', .cells 1 (S'.map iI) 0) :: (d', .cells 1 Xs' 0) :: (ob' ++ [(id, s.obj), (id4, MObj.cells 7 [.int .i64 0, .nilsl, .nilsl, .nilsl, .nilsl, .nilsl, .nilsl] 0)])) := o.perm (permC fun x => by (try dsimp only); simp only [List.append_eq, List.count_append, List.count_cons, List.count_nil, List.map_nil, List.length_nil, List.length_append, List.length_cons, List.length_set, Nat.zero_add, List.nil_append, iI, iL]; omega)
  exact wk_sf hR od fun H o => wkW_done (hk H o)
 refine ⟨fun h0 => At.mk ?_, fun h0 => At.mk ?_⟩
 focus
  try simp only [go_sem, reduceAdd]
  refine rd_celln o.tl (by simp) ?_
  try simp only [go_sem]
  refine (l02Bend_ok B 40 (by omega) c (show c.Shape from hc).sh).go hs o fun r s H _ ⟨c2, e⟩ hs o => ?_
  subst e
  try simp only [go_sem, reduceAdd]
  refine stc o.swap fun H o => ?_
  simp only [wr_cons, wr_nil, List.set_cons_zero, List.set_cons_succ] at o
  have o : Owns H0 H ((id, s.obj) :: bendF id3 c2 z S d Xs (ob ++ [(id4, MObj.cells 7 [.int .i64 0, .nilsl, .nilsl, .nilsl, .nilsl, .nilsl, .nilsl] 0)])) := by unfold bendF; exact o.swap
  try simp only [go_sem]
  refine htup hX o fun H o => ?_
 rotate_left 1
 focus
  try simp only [go_sem]
  refine ⟨fun h1 => At.mk ?_, fun h1 => At.mk ?_⟩
  focus
   try simp only [go_sem, reduceAdd]
   refine rd_cells o.tl (by simp) ?_
   try simp only [go_sem]
   refine ⟨fun h2 => At.mk ?_, fun h2 => At.mk ?_⟩
   focus
    have h2p := of_decide h2
    try simp only [go_sem, reduceAdd]
    have hg3 := o.tl.h0
    simp only at hg3
    refine ⟨⟨_, _, hg3⟩, rd_get hg3 (by simp) ?_⟩
    try simp only [go_sem, reduceAdd]
    refine ⟨⟨_, _, hg3⟩, rd_get hg3 (by simp) ?_⟩
    try simp only [go_sem, reduceAdd]
    refine (l01Next_ok B _).goZ hs o fun r s H _ ⟨i, e, i0, i1, _⟩ hs o hz => ⟨hz, ?_⟩
    subst e
    have hi := i1 (by omega)
    try simp only [go_sem]
    refine (l01Pick_ok B [-1, 0, 1, 2, 17] (by simp)).goZ hs o fun r s H _ ⟨y, e, _⟩ hs o hz => ⟨hz, ?_⟩
    subst e
    try simp only [go_sem]
    refine ⟨⟨i0, by omega⟩, ?_⟩
    refine set_own (f := iI) y (o.pull [_, _]) rfl (by omega) fun H o => ?_
    have o : Owns H0 H ((id, s.obj) :: bendF id3 c z (S.set i.toNat y) d Xs (ob ++ [(id4, MObj.cells 7 [.int .i64 0, .nilsl, .nilsl, .nilsl, .nilsl, .nilsl, .nilsl] 0)])) := by unfold bendF; rw [List.length_set]; exact o.perm (permC fun x => by (try dsimp only); simp only [List.append_eq, List.count_append, List.count_cons, List.count_nil, List.map_nil, List.length_nil, List.length_append, List.length_cons, List.length_set, Nat.zero_add, List.nil_append, iI, iL]; omega)
    try simp only [go_sem]
    refine htup hX o fun H o => ?_
   rotate_left 1
   focus
    have o : Owns H0 H ((id, s.obj) :: bendF id3 c z S d Xs (ob ++ [(id4, MObj.cells 7 [.int .i64 0, .nilsl, .nilsl, .nilsl, .nilsl, .nilsl, .nilsl] 0)])) := by unfold bendF; exact o
    try simp only [go_sem]
    refine htup hX o fun H o => ?_
  rotate_left 2
  focus
   have h0p := of_ndecide h0
   have h1p := of_ndecide h1
   have v5 := v1 (by omega)
   have c32 : decide ((3 : Int) = 2) = false := rfl
   have c42 : decide ((4 : Int) = 2) = false := rfl
   have c43 : decide ((4 : Int) = 3) = false := rfl
   obtain rfl | rfl | rfl : v = 2 ∨ v = 3 ∨ v = 4 := by omega
   rotate_left 2
   focus
    try simp only [go_sem, reduceAdd, c42, c43, dTrue']
    refine rd_cells o.tl (by simp) ?_
    try simp only [go_sem]
    refine newBuf_own o fun ide H o => ?_
    try simp only [go_sem, reduceAdd]
    have o : Owns H0 H ((d, .cells 1 Xs 0) :: ((ide, .cells 1 [] 0) :: (id, s.obj) :: (id3, .cells 7 [iI c.objs, iL c.frm, iL c.to, iL c.idn, iLL c.comp, .buf z S.length, .buf d Xs.length] 0) :: (z, .cells 1 (S.map iI) 0) :: (ob ++ [(id4, MObj.cells 7 [.int .i64 0, .nilsl, .nilsl, .nilsl, .nilsl, .nilsl, .nilsl] 0)]))) := o.perm (permC fun x => by (try dsimp only); simp only [List.append_eq, List.count_append, List.count_cons, List.count_nil, List.map_nil, List.length_nil, List.length_append, List.length_cons, List.length_set, Nat.zero_add, List.nil_append, iI, iL]; omega)
    refine app_raw o rfl rfl rfl (by simp only [maxL]; omega) fun d H o => ?_
    try simp only [go_sem, reduceAdd]
    refine stc (o.pull [_, _, _]) fun H o => ?_
    simp only [wr_cons, wr_nil, List.set_cons_zero, List.set_cons_succ] at o
    have hX2 := hX.snoc' (p := [(ide, .cells 1 [] 0)]) (X := .buf ide 0) (A := []) (.inr ⟨ide, rfl, rfl⟩)
    have o : Owns H0 H ((id, s.obj) :: bendF id3 c z S d (Xs ++ [.buf ide 0]) ((ob ++ [(ide, .cells 1 [] 0)]) ++ [(id4, MObj.cells 7 [.int .i64 0, .nilsl, .nilsl, .nilsl, .nilsl, .nilsl, .nilsl] 0)])) := by
     unfold bendF
     rw [List.length_append, List.length_singleton]
     exact o.perm (permC fun x => by (try dsimp only); simp only [List.append_eq, List.count_append, List.count_cons, List.count_nil, List.map_nil, List.length_nil, List.length_append, List.length_cons, List.length_set, Nat.zero_add, List.nil_append, iI, iL]; omega)
    try simp only [go_sem]
    refine htup hX2 o fun H o => ?_
    try simp only [go_sem]
    refine rd_celln o (by simp [SF.cells]) ?_
    try simp only [go_sem]
    refine stc (o.pull [_, _]) fun H o => ?_
    simp only [wr_cons, wr_nil, List.set_cons_zero, List.set_cons_succ] at o
    try simp only [go_sem]
    have hr := o.rc 7 0 (by simp)
    simp only [List.drop_zero] at hr
    rw [hr]
    exact src_ret ⟨⟨_, _, _⟩, rfl⟩ hs (o.pull [_, _])
   all_goals
    try simp only [go_sem, reduceAdd, c32, dTrue']
    refine rd_cells o.tl (by simp) ?_
    try simp only [go_sem]
    refine (l01Next_ok B _).go hs o fun r s H _ ⟨a, e, a0, a1, a2⟩ hs o => ?_
    subst e
    obtain ⟨a, rfl⟩ : ∃ n : Nat, a = n := ⟨_, (Int.toNat_of_nonneg a0).symm⟩
    clear a0 a2
    have hg3 := o.tl.h0
    simp only at hg3
    have hgd : H.get d = some (.cells 1 Xs 0) := o.get (d, .cells 1 Xs 0) (by simp)
    try simp only [go_sem, reduceAdd]
    refine rd_get hg3 (by simp) ?_
    try simp only [go_sem]
    refine ⟨fun k1 => At.mk ?_, fun k1 => At.mk ?_⟩
    focus
     have k1p := of_decide k1
     have ha := a1 (by omega)
     have hi : a < Xs.length := by omega
     obtain ⟨pr, rr, _, hLs, _⟩ := hX.split a hi
     have hlr := hLs.lenE
     try simp only [go_sem, reduceAdd, k1]
     refine rd_get hg3 (by simp) ?_
     try simp only [go_sem]
     refine ⟨hi, rd_get hgd hi ?_⟩
     try simp only [go_sem, hlr]
     refine ⟨fun k2 => At.mk ?_, fun k2 => At.mk ?_⟩
     focus
      have k2p := of_decide k2
      obtain ⟨idr, er, hset⟩ := hX.row hi (by omega)
      try simp only [go_sem, reduceAdd, k2]
      refine ⟨⟨_, _, hg3⟩, rd_get hg3 (by simp) ?_⟩
      try simp only [go_sem]
      refine ⟨hi, ⟨_, _, hgd⟩, rd_get hgd hi ?_⟩
      try simp only [go_sem, reduceAdd]
      refine ⟨⟨_, _, hg3⟩, rd_get hg3 (by simp) ?_⟩
      try simp only [go_sem]
      refine ⟨hi, ⟨_, _, hgd⟩, rd_get hgd hi ?_⟩
      rw [er]
      try simp only [go_sem]
      refine (l01Next_ok B _).goZ hs o fun r s H _ ⟨i, e, i0, i1, _⟩ hs o hz => ⟨hz, ?_⟩
      subst e
      have hi1 := i1 (by omega)
      refine (l01Next_ok B _).goZ hs o fun r s H _ ⟨y1, e, _⟩ hs o hz => ⟨hz, ?_⟩
      subst e
      refine (l01Next_ok B _).goZ hs o fun r s H _ ⟨y2, e, _⟩ hs o hz => ⟨hz, ?_⟩
      subst e
      try simp only [go_sem]
      refine ⟨by omega, ?_⟩
      generalize IntKind.i64.wrap (y1 - _) = y3
      refine ⟨⟨i0, by omega⟩, ?_⟩
      have od : Owns H0 H ((d, .cells 1 Xs 0) :: (ob ++ [(id, s.obj), (id3, .cells 7 [iI c.objs, iL c.frm, iL c.to, iL c.idn, iLL c.comp, .buf z S.length, .buf d Xs.length] 0), (z, .cells 1 (S.map iI) 0), (id4, MObj.cells 7 [.int .i64 0, .nilsl, .nilsl, .nilsl, .nilsl, .nilsl, .nilsl] 0)])) := o.perm (permC fun x => by (try dsimp only); simp only [List.append_eq, List.count_append, List.count_cons, List.count_nil, List.map_nil, List.length_nil, List.length_append, List.length_cons, List.length_set, Nat.zero_add, List.nil_append, iI, iL]; omega)
      refine hset od i.toNat (by omega) y3 rfl fun H ob' hX' o => ?_
      have o : Owns H0 H ((id, s.obj) :: bendF id3 c z S d Xs (ob' ++ [(id4, MObj.cells 7 [.int .i64 0, .nilsl, .nilsl, .nilsl, .nilsl, .nilsl, .nilsl] 0)])) := by unfold bendF; exact o.perm (permC fun x => by (try dsimp only); simp only [List.append_eq, List.count_append, List.count_cons, List.count_nil, List.map_nil, List.length_nil, List.length_append, List.length_cons, List.length_set, Nat.zero_add, List.nil_append, iI, iL]; omega)
      try simp only [go_sem]
      refine htup hX' o fun H o => ?_
     rotate_left 1
     focus
      try simp only [go_sem, k2]
      have o : Owns H0 H ((id, s.obj) :: bendF id3 c z S d Xs (ob ++ [(id4, MObj.cells 7 [.int .i64 0, .nilsl, .nilsl, .nilsl, .nilsl, .nilsl, .nilsl] 0)])) := by unfold bendF; exact o
      refine htup hX o fun H o => ?_
    rotate_left 2
    focus
     try simp only [go_sem, k1]
     have o : Owns H0 H ((id, s.obj) :: bendF id3 c z S d Xs (ob ++ [(id4, MObj.cells 7 [.int .i64 0, .nilsl, .nilsl, .nilsl, .nilsl, .nilsl, .nilsl] 0)])) := by unfold bendF; exact o
     refine htup hX o fun H o => ?_
 all_goals
  try simp only [go_sem]
  refine rd_celln o (by simp [SF.cells]) ?_
  try simp only [go_sem]
  refine stc (o.pull [_, _]) fun H o => ?_
  simp only [wr_cons, wr_nil, List.set_cons_zero, List.set_cons_succ] at o
  try simp only [go_sem]
  have hr := o.rc 7 0 (by simp)
  simp only [List.drop_zero] at hr
  rw [hr]
  exact src_ret ⟨⟨_, _, _⟩, rfl⟩ hs (o.pull [_, _])
end Go.Proofs.Shf
namespace Go.Proofs.Shf
open Go.AW Go.Proofs Go.Shf
theorem l19Draw_ok (B : Nat) (c : Cat) (size : Int) (hsize : 0 ≤ size ∧ size ≤ 1000) : Rd B 78 [.agg c.cells, iI size] AnyF := by
 intro id s H0 H hs o
 refine c78p (by simp) fun _ => ?_
 unfold s78p
 try simp only [go_sem, reduceAdd]
 refine ⟨by simp [maxL], newRef_own o fun id6 H o => ?_⟩
 try simp only [go_sem, reduceAdd]
 refine (l02Is_ok B c).go fun _ => ?_
 try simp only [go_sem]
 by_cases hc : c.Is
 ·rw [dec_t hc]
  try simp only [go_sem, reduceAdd]
  refine (l19Some_ok B c hc size hsize).go hs o.swap fun r s H _ ⟨f, e, hfc, hfa⟩ hs o => ?_
  subst e
  try simp only [go_sem, reduceAdd]
  refine ⟨by simp [maxL], newRef_own o fun id7 H o => ?_⟩
  try simp only [go_sem]
  refine stc o fun H o => ?_
  simp only [wr_cons, wr_nil, List.set_cons_zero, List.set_cons_succ] at o
  try simp only [go_sem]
  refine (l01Next_ok B 40).go hs o.swap fun r s H _ ⟨v, e, _⟩ hs o => ?_
  subst e
  try simp only [go_sem]
  refine ⟨fun h1 => At.mk ?_, fun h1 => At.mk ?_⟩
  ·try simp only [go_sem]
   refine rd_celln o.tl (by simp) ?_
   try simp only [go_sem]
   refine (l19Bend_ok B f (by rw [hfc]; exact hc.1) hfa).go hs o fun r s H _ ⟨f2, e⟩ hs o => ?_
   subst e
   try simp only [go_sem]
   refine stc (o.pull [_, _]) fun H o => ?_
   simp only [wr_cons, wr_nil, List.set_cons_zero, List.set_cons_succ] at o
   try simp only [go_sem]
   refine wkW_done ?_
   have hr := o.rc 7 0 (by simp)
   simp only [List.drop_zero] at hr
   try simp only [go_sem]
   rw [hr]
   exact src_ret ⟨f2, rfl⟩ hs o.swap
  ·try simp only [go_sem]
   refine rd_celln o.tl (by simp) ?_
   try simp only [go_sem]
   refine stc (o.pull [_, _]) fun H o => ?_
   simp only [wr_cons, wr_nil, List.set_cons_zero, List.set_cons_succ] at o
   try simp only [go_sem]
   refine wkW_done ?_
   have hr := o.rc 7 0 (by simp)
   simp only [List.drop_zero] at hr
   try simp only [go_sem]
   rw [hr]
   exact src_ret ⟨f, rfl⟩ hs o.swap
 ·rw [dec_f hc]
  try simp only [go_sem, reduceAdd, reduceLeDiff]
  refine stc o fun H o => ?_
  simp only [wr_cons, wr_nil, List.set_cons_zero, List.set_cons_succ] at o
  try simp only [go_sem]
  refine wk_nil 5 o rfl fun H o => ?_
  simp only [List.set_cons_zero, List.set_cons_succ] at o
  refine wk_nil 6 o rfl fun H o => wkW_done ?_
  simp only [List.set_cons_zero, List.set_cons_succ] at o
  have hr := o.rc 7 0 (by simp)
  simp only [List.drop_zero] at hr
  try simp only [go_sem]
  rw [hr]
  exact src_ret ⟨⟨c, [], []⟩, rfl⟩ hs o.swap
end Go.Proofs.Shf
namespace Go.AW
theorem LsR.put {α : Type} {f : α → AV} {Xs : List AV} {As : List (List α)} {ob : Ob} (h : LsR f Xs As ob) {i : Nat} (hi : i < Xs.length) {p : Ob} {X : AV} {A : List α} (hX : LsP f p X A) {H0 H : Heap} {l : Ob} {id : Nat}
  (o : Owns H0 H ((id, .cells 1 (Xs.set i X) 0) :: (p ++ (ob ++ l)))) : ∃ ob', LsR f (Xs.set i X) (As.set i A) ob' ∧ Owns H0 H ((id, .cells 1 (Xs.set i X) 0) :: (ob' ++ l)) := by
 obtain ⟨q, r, h1, _, h3⟩ := h.split i hi
 obtain ⟨o', k1, k2⟩ := h3 X A p hX
 refine ⟨o', k1, ?_⟩
 have o2 : Owns H0 H (q ++ ((id, .cells 1 (Xs.set i X) 0) :: (p ++ (r ++ l)))) := by
  refine o.perm ?_
  refine List.Perm.trans (.cons _ ?_) List.perm_middle.symm
  have h2 : (p ++ ob).Perm (q ++ (p ++ r)) := (List.Perm.append_left p h1).trans (by
   rw [← List.append_assoc, ← List.append_assoc]
   exact List.Perm.append_right r List.perm_append_comm)
  simpa using List.Perm.append_right l h2
 have o3 := o2.subl (l' := (id, .cells 1 (Xs.set i X) 0) :: (p ++ (r ++ l))) (List.sublist_append_right _ _)
 refine o3.perm (.cons _ ?_)
 rw [← List.append_assoc]
 exact List.Perm.append_right l k2.symm
end Go.AW
namespace Go.Proofs.Shf
open Go.AW Go.Proofs Go.Shf
end Go.Proofs.Shf
namespace Go.Proofs.Shf
open Go.AW Go.Proofs Go.Shf
end Go.Proofs.Shf
namespace Go.Shf
open Go.AW
end Go.Shf
namespace Go.Proofs.Shf
open Go.AW Go.Proofs Go.Shf
end Go.Proofs.Shf
namespace Go.Shf
open Go.AW
@[go_sem] def clsCells (c : Cat) (S : List (List (List Int))) (sz : AV) (pl : AV) : List AV := [iI c.objs, iL c.frm, iL c.to, iL c.idn, iLL c.comp, sz, pl, iLLL S]
end Go.Shf
namespace Go.Proofs.Shf
open Go.AW Go.Proofs Go.Shf
end Go.Proofs.Shf
