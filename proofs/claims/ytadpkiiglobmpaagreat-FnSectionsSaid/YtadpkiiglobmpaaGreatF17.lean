/- A part of a proof. -/
import Derived.Test.YtadpkiiglobmpaaGreatF16
set_option linter.unusedVariables false
set_option linter.unusedSimpArgs false
set_option linter.unusedSectionVars false
open Nat (reduceEqDiff reduceAdd reduceMul reduceLeDiff reduceLT)
namespace Go.Proofs.Shf
open Go.AW Go.Proofs Go.Shf
def GrK (f : SF) (H0 : Heap) : Kont := fun r H' => ((8 < (pairsF f).length ∨ 40 < (arrF f).length) ∧ r = .tup [.nilp, .bool false] ∧ H' = H0) ∨
 (((pairsF f).length ≤ 8 ∧ (arrF f).length ≤ 40) ∧ ∃ idK idT Xs ob, r = .tup [.ref idK 0, .bool true] ∧ LsR iI Xs (catE f).comp ob ∧ Owns H0 H' ((idK, gkE f (.buf idT Xs.length)) :: (idT, .cells 1 Xs 0) :: ob))
theorem elemsCat_ok (B : Nat) {f : SF} (h : f.Is) (H0 : Heap) : CallH Tryz.prog B 89 [.ptr f.cells] H0 (GrK f H0) := by
 refine c89p (by simp) fun _ => ?_
 have hm := h.1.is.1.m
 have htl := h.1.is.1.tol
 have hob := h.1.is.1.o
 have hsl := h.1.sl
 have hal := h.1.al
 have htot := total_le (f := f) (by omega) h.1.sz
 have hsum := total_sum (f := f) h.1.sz
 obtain ⟨n, hn⟩ : ∃ n : Nat, (pairsF f).length = n := ⟨_, rfl⟩
 rw [hn] at hsum htot
 unfold s89p
 have o : Owns H0 H0 [] := .nil _
 try simp only [go_sem, reduceAdd]
 refine (elems_ok B f (by omega) h.1.sz).go fun _ => ?_
 rw [hsum]
 try simp only [go_sem]
 refine ⟨fun h1 => At.mk ?_, fun h1 => At.mk ?_⟩
 ·have h1p := of_decide h1
  try simp only [go_sem]
  exact ⟨H0, .refl H0, .inl ⟨.inl (by omega), rfl, rfl⟩⟩
 have h1p : n ≤ 8 := by have := of_ndecide h1; omega
 try simp only [go_sem, reduceAdd, reduceLeDiff]
 refine newRef_own o fun id4 H o => ?_
 try simp only [go_sem]
 refine stc o fun H o => ?_
 simp only [wr_cons, wr_nil, List.set_cons_zero, List.set_cons_succ] at o
 try simp only [go_sem]
 refine (pairs_ok B f (by omega) h.1.sz).go fun _ => ?_
 try simp only [go_sem, reduceAdd, reduceLeDiff]
 refine ⟨by simp [maxL], newRef_own o fun idK H o => ?_⟩
 try simp only [go_sem, reduceAdd]
 refine newRef_own o fun id5 H o => ?_
 try simp only [go_sem]
 refine stc o fun H o => ?_
 simp only [wr_cons, wr_nil, List.set_cons_zero, List.set_cons_succ] at o
 try simp only [go_sem]
 refine wk_ref 5 o rfl fun H o => ?_
 refine wk_ref 4 o.swap rfl fun H o => wkW_done ?_
 let st : AV → MObj := fun X => .cells 9 [.int .i64 0, .nilsl, .nilsl, .nilsl, .nilsl, iLL (pairsF f), X, .imap [] [], .imap [] []] 0
 have o : Owns H0 H [(idK, st .nilsl)] := o
 try simp only [go_sem, reduceAdd]
 refine rd_cells o (by simp [st]) ?_
 try simp only [go_sem]
 have hIl : ∀ i, i ≤ n → (arrI f i).length ≤ 2560 := fun i hi => by
  refine Nat.le_trans (arrI_len i) (Nat.le_trans (Nat.mul_le_mul (show i ≤ 8 by omega) (Nat.mul_le_mul (show (pairsF f).length ≤ 8 by omega) hm)) (by omega))
 have hJl : ∀ i j, j ≤ n → (arrJ f i j).length ≤ 320 := fun i j hj => Nat.le_trans (arrJ_len i j) (Nat.le_trans (Nat.mul_le_mul (show j ≤ 8 by omega) hm) (by omega))
 have hHl : ∀ i j, (arrH f i j).length ≤ 40 := fun i j => Nat.le_trans (homC_len _ _) hm
 have hP2 : ∀ i, i < n → ((pairsF f).getD i default).length = 2 := fun i hi => by
  obtain ⟨x, d, hx, hd, ei⟩ := plI_ex h.1 (i := (i : Int)) (by omega)
  have := plI_at h.1 hx hd
  rw [← ei, ix_nat] at this
  rw [this]; rfl
 refine awp_for [0, 4, 5, 27, 28] (G := AV) (fun i _ => [(29, some (.int .i64 (i : Int)))])
  (fun i X H => LsO iL H0 H [(idK, st X)] X (arrI f i)) n .nilsl (.inl ⟨rfl, rfl, o⟩) rfl ?_
 clear o
 rintro i X H hi hX
 replace hX : LsO iL H0 H [(idK, st X)] X (arrI f i) := hX
 try simp only [go_sem]
 refine ⟨fun h2 => At.mk ?_, fun h2 => At.mk ?_⟩
 ·have h2p : i < n := by have := of_decide h2; omega
  have w1 := wsucc (k := i) (by omega)
  try simp only [go_sem, reduceAdd]
  refine ⟨by omega, ?_⟩
  refine rd_get hX.obj (by simp [st]) ?_
  try simp only [go_sem]
  refine awp_for [0, 4, 5, 6, 7, 27, 28, 29, 37, 38] (G := AV) (fun j _ => [(39, some (.int .i64 (j : Int)))])
   (fun j X H => LsO iL H0 H [(idK, st X)] X (arrI f i ++ arrJ f i j)) n X (by rw [arrJ, List.append_nil]; exact hX) rfl ?_
  clear hX
  rintro j X H hj hX
  replace hX : LsO iL H0 H [(idK, st X)] X (arrI f i ++ arrJ f i j) := hX
  try simp only [go_sem]
  refine ⟨fun h3 => At.mk ?_, fun h3 => At.mk ?_⟩
  ·have h3p : j < n := by have := of_decide h3; omega
   have w2 := wsucc (k := j) (by omega)
   have p1 := hP2 i h2p
   have p2 := hP2 j h3p
   try simp only [go_sem]
   refine ⟨by omega, ?_⟩
   refine ⟨⟨by omega, by rw [p1]; decide⟩, ⟨by omega, by rw [p2]; decide⟩, ?_⟩
   refine ⟨_, (hom_ok B f.shape h.1.is.1 _ _).run, ?_⟩
   rw [hom_homC, show homC f.shape (ix ((pairsF f).getD i default) 0) (ix ((pairsF f).getD j default) 0) = arrH f i j from rfl]
   try simp only [go_sem]
   refine awp_for [0, 4, 5, 6, 7, 8, 9, 27, 28, 29, 37, 38, 39, 51, 52] (G := AV) (fun k _ => [(53, some (.int .i64 (k : Int)))])
    (fun k X H => LsO iL H0 H [(idK, st X)] X (arrI f i ++ (arrJ f i j ++ arrK f i j k))) (arrH f i j).length X (by simpa [arrK] using hX) rfl ?_
   clear hX
   rintro k X H hk hX
   replace hX : LsO iL H0 H [(idK, st X)] X (arrI f i ++ (arrJ f i j ++ arrK f i j k)) := hX
   have q1 := hIl i hi
   have q2 := hJl i j hj
   have q3 := hHl i j
   have q4 := arrK_len (f := f) i j k
   have hlen : (arrI f i ++ (arrJ f i j ++ arrK f i j k)).length ≤ 3000 := by simp only [List.length_append]; omega
   try simp only [go_sem]
   refine ⟨fun h4 => At.mk ?_, fun h4 => At.mk ?_⟩
   ·have h4p : k < (arrH f i j).length := by have := of_decide h4; omega
    have w3 := wsucc (k := k) (by omega)
    try simp only [go_sem, reduceAdd, reduceLeDiff]
    refine ⟨h4p, ?_⟩
    obtain ⟨a, ea⟩ : ∃ a, (arrH f i j).getD k default = a := ⟨_, rfl⟩
    have hmem : a ∈ arrH f i j := mem_getD.mpr ⟨k, h4p, ea⟩
    rw [arrH, ← hom_homC, mem_hom] at hmem
    obtain ⟨x, d, hx, hd, ei⟩ := plI_ex h.1 (i := (i : Int)) (by omega)
    have pat := plI_at h.1 hx hd
    rw [← ei, ix_nat] at pat
    have hin := h.1.inAct (e := d) hmem.1 (by rw [hmem.2.1, pat]; exact hd)
    have hin2 : 0 ≤ ((pairsF f).getD i default).getD 1 default ∧ (((pairsF f).getD i default).getD 1 default).toNat < (ix f.acts a).length := by rw [pat]; exact hin
    have eP : decide (ix (ix f.acts a) (((pairsF f).getD i default).getD 1 default) = ((pairsF f).getD j default).getD 1 default) = arrP f i j a := rfl
    rw [ea]
    refine ⟨⟨hmem.1.1, by have := hmem.1.2; omega⟩, ⟨by omega, by rw [p1]; decide⟩, hin2, ⟨by omega, by rw [p2]; decide⟩, ?_⟩
    rw [show decide (ix (ix f.acts a) (ix ((pairsF f).getD i default) 1) = ix ((pairsF f).getD j default) 1) = arrP f i j a from rfl]
    cases hb : arrP f i j a with
    | false =>
     try simp only [go_sem, w3]
     exact for_next X (by omega) (by rw [arrK_f h4p (by rw [ea]; exact hb)]; exact hX) rfl
    | true =>
     try simp only [go_sem, reduceAdd]
     refine rd_get hX.obj (by simp [st]) ?_
     try simp only [go_sem, reduceAdd]
     refine hX.app (arrE i j a) rfl (by simp only [maxL]; omega) fun idn H o => ?_
     try simp only [go_sem, reduceAdd]
     refine stc o.swap fun H o => ?_
     simp only [wr_cons, wr_nil, List.set_cons_zero, List.set_cons_succ] at o
     have hX : LsO iL H0 H [(idK, st (.buf idn ((arrI f i ++ (arrJ f i j ++ arrK f i j k)) ++ [arrE i j a]).length))] (.buf idn ((arrI f i ++ (arrJ f i j ++ arrK f i j k)) ++ [arrE i j a]).length) ((arrI f i ++ (arrJ f i j ++ arrK f i j k)) ++ [arrE i j a]) := .inr ⟨idn, rfl, o.swap⟩
     try simp only [go_sem, w3]
     refine for_next (.buf idn ((arrI f i ++ (arrJ f i j ++ arrK f i j k)) ++ [arrE i j a]).length) (by omega) ?_ rfl
     rw [arrK_t h4p (by rw [ea]; exact hb), ea]
     simpa only [List.append_assoc] using hX
   ·have h4p : k = (arrH f i j).length := by have := of_ndecide h4; omega
    try simp only [go_sem, w2]
    refine for_next X h3p ?_ rfl
    rw [h4p] at hX
    exact hX
  ·have h3p : j = n := by have := of_ndecide h3; omega
   try simp only [go_sem, w1]
   refine for_next X h2p ?_ rfl
   rw [h3p, ← hn] at hX
   exact hX
 have h2p : i = n := by have := of_ndecide h2; omega
 rw [h2p, ← hn] at hX
 replace hX : LsO iL H0 H [(idK, st X)] X (arrF f) := hX
 have hlX := hX.lenE
 try simp only [go_sem, reduceAdd]
 refine rd_get hX.obj (by simp [st]) ?_
 try simp only [go_sem, hlX]
 obtain ⟨m, hme⟩ : ∃ m : Nat, (arrF f).length = m := ⟨_, rfl⟩
 rw [hme]
 refine ⟨fun h3 => At.mk ?_, fun h3 => At.mk ?_⟩
 ·have h3p := of_decide h3
  obtain ⟨p, o, _⟩ := hX.split
  try simp only [go_sem]
  exact ⟨H0, o.sub, .inl ⟨.inr (by omega), rfl, rfl⟩⟩
 have h3p : m ≤ 40 := by have := of_ndecide h3; omega
 try simp only [go_sem]
 refine wk_ls 6 hX rfl fun H o => wkW_done ?_
 clear hX hlX
 simp only [List.set_cons_zero, List.set_cons_succ] at o
 have hsm := arrF_small h (by omega)
 have hal3 : ∀ l, l ∈ arrF f → l.length = 3 := fun l hl => by
  obtain ⟨_, _, _, _, _, _, _, rfl⟩ := mem_arrI.mp hl
  rfl
 have hpl2 : ∀ l, l ∈ pairsF f → l.length = 2 := fun l hl => by
  obtain ⟨i, hi, rfl⟩ := mem_getD.mp hl
  exact hP2 i (by omega)
 try simp only [go_sem, reduceAdd]
 refine rd_cells o (by simp) ?_
 try simp only [go_sem, reduceAdd]
 refine ⟨_, (places_ok B (pairsF f) (by omega) fun l hl => by rw [hpl2 l hl]; omega).run, ?_⟩
 refine rd_cells o (by simp) ?_
 try simp only [go_sem, reduceAdd]
 refine ⟨_, (places_ok B (arrF f) (by omega) fun l hl => by rw [hal3 l hl]; omega).run, ?_⟩
 have him : ∀ ks vs, (AV.imap ks vs).cells = [AV.imap ks vs] := fun _ _ => rfl
 try simp only [go_sem, him]
 refine stc o fun H o => ?_
 simp only [wr_cons, wr_nil, List.set_cons_zero, List.set_cons_succ] at o
 try simp only [go_sem, reduceAdd, him]
 refine stc o fun H o => ?_
 simp only [wr_cons, wr_nil, List.set_cons_zero, List.set_cons_succ] at o
 try simp only [go_sem, reduceAdd]
 refine rd_cells o (by simp) ?_
 try simp only [go_sem, reduceAdd]
 refine rd_cells o (by simp) ?_
 try simp only [go_sem, reduceAdd]
 refine ⟨_, (column_ok B (arrF f) 0 fun l hl => by rw [hal3 l hl]; omega).run, ?_⟩
 refine rd_cells o (by simp) ?_
 try simp only [go_sem, reduceAdd, reduceLeDiff]
 refine ⟨_, (column_ok B (arrF f) 1 fun l hl => by rw [hal3 l hl]; omega).run, ?_⟩
 try simp only [go_sem, reduceAdd]
 refine stc o fun H o => ?_
 simp only [wr_cons, wr_nil, List.set_cons_zero, List.set_cons_succ] at o
 let s2 : AV → MObj := fun X => .cells 9 [iI (pairsF f).length, iL (catE f).frm, iL (catE f).to, X, .nilsl, iLL (pairsF f), iLL (arrF f),
  .imap (plS (pairsF f) (pairsF f).length).1 (plS (pairsF f) (pairsF f).length).2, .imap (plS (arrF f) (arrF f).length).1 (plS (arrF f) (arrF f).length).2] 0
 have o : Owns H0 H [(idK, s2 .nilsl)] := o
 try simp only [go_sem, reduceAdd]
 refine rd_cells o (by simp [s2]) ?_
 try simp only [go_sem]
 have hil : (catE f).idn.length = n := by simp [catE, hn]
 clear hi
 refine awp_for [4, 5, 133, 134] (G := AV) (fun i _ => [(135, some (.int .i64 (i : Int)))])
  (fun i X H => LsO iI H0 H [(idK, s2 X)] X ((catE f).idn.take i)) n .nilsl (.inl ⟨rfl, rfl, o⟩) rfl ?_
 clear o
 rintro i X H hi hX
 replace hX : LsO iI H0 H [(idK, s2 X)] X ((catE f).idn.take i) := hX
 have htk : ((catE f).idn.take i).length ≤ i := by rw [List.length_take]; omega
 try simp only [go_sem]
 refine ⟨fun h4 => At.mk ?_, fun h4 => At.mk ?_⟩
 ·have h4p : i < n := by have := of_decide h4; omega
  have w1 := wsucc (k := i) (by omega)
  obtain ⟨x, d, hx, hd, ei⟩ := plI_ex h.1 (i := (i : Int)) (by omega)
  have pat := plI_at h.1 hx hd
  rw [← ei, ix_nat] at pat
  have hidn := catE_idn h hx hd
  have hone := ArrOk.one h hx hd
  have eidn : (catE f).idn.getD i default = indexOf (arrF f) [(i : Int), (i : Int), ix f.shape.idn x] := by
   have : (catE f).idn.getD i default = _ := getD_map_range _ _ (show i < (pairsF f).length by omega)
   rw [this, pat]; rfl
  rw [← ei] at hone
  have hil2 := h.1.is.1.il
  try simp only [go_sem, reduceAdd]
  refine ⟨by omega, ?_⟩
  rw [pat]
  refine rd_get hX.obj (by simp [s2]) ?_
  try simp only [go_sem, reduceAdd]
  refine rd_get hX.obj (by simp [s2]) ?_
  try simp only [go_sem, reduceAdd, reduceLeDiff]
  rw [show ix ([x, d] : List Int) 0 = x from rfl]
  refine ⟨by simp, ⟨hx.1, by omega⟩, ?_⟩
  refine ⟨_, (key_ok B [[(i : Int), (i : Int), ix f.shape.idn x]] (by simp [keyB])).run, okKey_plS _ _ _, ?_⟩
  rw [ei] at hone
  have hmem := hone.mem h.1
  rw [← ei] at hmem
  rw [plS_get arrF_nodup hsm hmem, ← eidn]
  try simp only [go_sem, reduceAdd, Option.getD_some]
  refine hX.app ((catE f).idn.getD i default) rfl (by simp only [maxL]; omega) fun idn H o => ?_
  rw [← take_succ' (catE f).idn (by omega)] at o ⊢
  try simp only [go_sem, reduceAdd]
  refine stc o.swap fun H o => ?_
  simp only [wr_cons, wr_nil, List.set_cons_zero, List.set_cons_succ] at o
  try simp only [go_sem, w1]
  exact for_next _ (by omega) (.inr ⟨idn, rfl, o.swap⟩) rfl
 have h4p : i = n := by have := of_ndecide h4; omega
 rw [h4p, ← hil, List.take_length] at hX
 try simp only [go_sem]
 refine wk_ls 3 hX rfl fun H o => wkW_done ?_
 simp only [List.set_cons_zero, List.set_cons_succ] at o
 try simp only [go_sem, reduceAdd]
 refine (tableE_ok B h (by omega) (by omega) o).mono ?_
 clear o hX
 rintro r H ⟨idT, Xs, ob, hR, hXl, o⟩
 rw [List.append_nil] at o
 try simp only [go_sem]
 exact ⟨H, .refl H, .inr ⟨⟨by omega, by omega⟩, idK, idT, Xs, ob, rfl, hR, o⟩⟩
end Go.Proofs.Shf
namespace Go.Proofs.Shf
open Go.AW Go.Proofs Go.Shf
def EcQ (f : SF) (r : AV) : Prop := ((8 < (pairsF f).length ∨ 40 < (arrF f).length) ∧ r = .tup [.agg [iI 0, .nilsl, .nilsl, .nilsl, .nilsl], iLL [], iLL [], iI 3]) ∨
 (((pairsF f).length ≤ 8 ∧ (arrF f).length ≤ 40) ∧ r = .tup [.agg (catE f).cells, iLL (pairsF f), iLL (arrF f), iI 0])
theorem elementsCat_ok (B : Nat) {f : SF} (h : f.Is) : Rets B 23 [.agg f.cells] (EcQ f) := by
 intro H0
 refine c23p (by simp) fun _ => ?_
 unfold s23p
 have o : Owns H0 H0 [] := .nil _
 try simp only [go_sem, reduceAdd]
 refine newRef_own o fun id2 H o => ?_
 try simp only [go_sem]
 refine (isSetFunctor_ok B f).go fun _ => ?_
 rw [dec_t h]
 try simp only [go_sem]
 refine (elemsCat_ok B h H).mono ?_
 rintro r H' (⟨hc, rfl, rfl⟩ | ⟨hc, idK, idT, Xs, ob, rfl, hR, o2⟩)
 ·refine ⟨trivial, ?_⟩
  try simp only [go_sem, reduceAdd, reduceLT]
  refine stc o fun H o => ?_
  simp only [wr_cons, wr_nil, List.set_cons_zero, List.set_cons_succ] at o
  try simp only [go_sem]
  have hr := o.rc 5 0 (by simp)
  simp only [List.drop_zero] at hr
  rw [hr]
  try simp only [go_sem]
  exact rets_ret (.inl ⟨hc, rfl⟩) o.sub
 ·refine ⟨trivial, ?_⟩
  have o : Owns H0 H' (((idK, gkE f (.buf idT Xs.length)) :: (idT, .cells 1 Xs 0) :: ob) ++ [(id2, MObj.cells 5 [.int .i64 0, .nilsl, .nilsl, .nilsl, .nilsl] 0)]) := o.trans o2
  simp only [gkE] at o
  have o : Owns H0 H' ((idT, .cells 1 Xs 0) :: (ob ++ [(idK, gkE f (.buf idT Xs.length)), (id2, MObj.cells 5 [.int .i64 0, .nilsl, .nilsl, .nilsl, .nilsl] 0)])) := by
   simp only [gkE] at o ⊢
   exact o.perm (permC fun x => by (try dsimp only); simp only [List.append_eq, List.count_append, List.count_cons, List.count_nil, List.map_nil, List.length_nil, List.length_append, List.length_cons, List.length_set, Nat.zero_add, List.nil_append, iI, iL]; omega)
  have hXl := hR.len
  try simp only [go_sem, reduceAdd, reduceLT]
  refine wk_rows hR [] H' o fun H o => ?_
  simp only [List.nil_append] at o
  have o : Owns H0 H [(idK, gkE f (.buf idT Xs.length)), (idT, .cells 1 ((catE f).comp.map iL) 0), (id2, MObj.cells 5 [.int .i64 0, .nilsl, .nilsl, .nilsl, .nilsl] 0)] := o.perm (permC fun x => by (try dsimp only); simp only [List.append_eq, List.count_append, List.count_cons, List.count_nil, List.map_nil, List.length_nil, List.length_append, List.length_cons, List.length_set, Nat.zero_add, List.nil_append, iI, iL]; omega)
  simp only [gkE] at o
  refine wk_cell 4 o rfl hXl fun H o => ?_
  simp only [List.set_cons_zero, List.set_cons_succ] at o
  refine wk_ref 6 o rfl fun H o => wkW_done ?_
  try simp only [go_sem, reduceAdd, reduceLeDiff]
  refine stc o fun H o => ?_
  simp only [wr_cons, wr_nil, List.set_cons_zero, List.set_cons_succ] at o
  try simp only [go_sem]
  have hr := o.rc 5 0 (by simp)
  simp only [List.drop_zero] at hr
  rw [hr]
  try simp only [go_sem]
  exact rets_ret (.inr ⟨hc, rfl⟩) o.sub
end Go.Proofs.Shf
namespace Go.Proofs.Shf
open Go.AW Go.Proofs Go.Shf
def LeQ (f : SF) (r : AV) : Prop := ((8 < (pairsF f).length ∨ 40 < (arrF f).length) ∧ ∃ cs, r = .tup [.agg cs, .bool false]) ∨
 (((pairsF f).length ≤ 8 ∧ (arrF f).length ≤ 40) ∧ r = .tup [.agg ((catE f).cells ++ [iLL (pairsF f), iLL (arrF f)]), .bool true])
theorem l20Elements_ok (B : Nat) {f : SF} (h : f.Is) : Rets B 91 [.agg f.cells] (LeQ f) := by
 intro H0
 refine c91p (by simp) fun _ => ?_
 have hm := h.1.is.1.m
 have htl := h.1.is.1.tol
 have hob := h.1.is.1.o
 have hsl := h.1.sl
 have hal := h.1.al
 have htot := total_le (f := f) (by omega) h.1.sz
 have hpl := fun n hn => pairsN_len (f := f) h.1.sz (n := n) hn
 obtain ⟨z, hz⟩ : ∃ z : Nat, f.shape.objs = z := ⟨_, (Int.toNat_of_nonneg hob.1).symm⟩
 unfold s91p
 have o : Owns H0 H0 [] := .nil _
 try simp only [go_sem, reduceAdd]
 refine ⟨by simp [maxL], newRef_own o fun id2 H o => ?_⟩
 try simp only [go_sem, reduceAdd]
 refine ⟨by simp [maxL], newRef_own o fun id4 H o => ?_⟩
 try simp only [go_sem]
 refine stc o fun H o => ?_
 simp only [wr_cons, wr_nil, List.set_cons_zero, List.set_cons_succ] at o
 let st : AV → MObj := fun X => .cells 7 [.int .i64 0, .nilsl, .nilsl, .nilsl, .nilsl, X, .nilsl] 0
 let z7 : MObj := .cells 7 [.int .i64 0, .nilsl, .nilsl, .nilsl, .nilsl, .nilsl, .nilsl] 0
 have o : Owns H0 H [(id4, st .nilsl), (id2, z7)] := o
 try simp only [go_sem]
 refine awp_for [1, 2, 4] (G := AV) (fun i _ => [(5, some (.int .i64 (i : Int)))])
  (fun i X H => LsO iL H0 H [(id4, st X), (id2, z7)] X (pairsN f i)) z .nilsl (.inl ⟨rfl, rfl, o⟩) rfl ?_
 clear o
 rintro x X H hx hX
 replace hX : LsO iL H0 H [(id4, st X), (id2, z7)] X (pairsN f x) := hX
 rw [hz]
 try simp only [go_sem, reduceAdd, reduceLeDiff]
 refine ⟨fun h1 => At.mk ?_, fun h1 => At.mk ?_⟩
 ·have h1p : x < z := by have := of_decide h1; omega
  have w1 := wsucc (k := x) (by omega)
  have hzx := h.1.sz _ (mem_getD.mpr ⟨x, by omega, rfl⟩)
  have hpx := hpl x (by omega)
  try simp only [go_sem]
  refine awp_for [1, 2, 4, 5] (G := AV) (fun e _ => [(6, some (.int .i64 (e : Int)))])
   (fun e X H => LsO iL H0 H [(id4, st X), (id2, z7)] X (pairsN f x ++ pairsX x e)) (f.sizes.getD x default).toNat X (by simpa [pairsX] using hX) rfl ?_
  clear hX
  rintro e X H he hX
  replace hX : LsO iL H0 H [(id4, st X), (id2, z7)] X (pairsN f x ++ pairsX x e) := hX
  try simp only [go_sem, reduceAdd, reduceLeDiff]
  refine ⟨by omega, ?_⟩
  refine ⟨fun h2 => At.mk ?_, fun h2 => At.mk ?_⟩
  ·have h2p : e < (f.sizes.getD x default).toNat := by have := of_decide h2; omega
   have w2 := wsucc (k := e) (by omega)
   try simp only [go_sem, reduceAdd]
   refine rd_get hX.obj (by simp [st]) ?_
   try simp only [go_sem, reduceAdd]
   refine hX.app (pairsE x e) rfl (by simp only [List.length_append, pairsX, List.length_map, List.length_range, maxL]; omega) fun idn H o => ?_
   try simp only [go_sem, reduceAdd]
   refine stc o.swap fun H o => ?_
   simp only [wr_cons, wr_nil, List.set_cons_zero, List.set_cons_succ] at o
   try simp only [go_sem, w2]
   refine for_next (.buf idn (pairsN f x ++ pairsX x e ++ [pairsE x e]).length) (by omega) (.inr ⟨idn, ?_, ?_⟩) rfl
   ·show AV.buf idn _ = .buf idn _
    rw [pairsX_succ, List.append_assoc]
   ·rw [pairsX_succ, ← List.append_assoc]; exact o.swap
  ·have h2p : e = (f.sizes.getD x default).toNat := by have := of_ndecide h2; omega
   try simp only [go_sem, w1]
   refine for_next X h1p ?_ rfl
   rw [h2p] at hX
   exact hX
 have h1p : x = z := by have := of_ndecide h1; omega
 have hzl : z = f.sizes.length := by omega
 rw [h1p, hzl] at hX
 replace hX : LsO iL H0 H [(id4, st X), (id2, z7)] X (pairsF f) := hX
 clear h1 h1p hx
 try simp only [go_sem]
 refine wk_ls 5 hX rfl fun H o => wkW_done ?_
 simp only [List.set_cons_zero, List.set_cons_succ] at o
 clear hX
 try simp only [go_sem, reduceAdd]
 refine rd_cells o (by simp) ?_
 obtain ⟨n, hn⟩ : ∃ n : Nat, (pairsF f).length = n := ⟨_, rfl⟩
 try simp only [go_sem]
 rw [hn]
 refine ⟨fun h1 => At.mk ?_, fun h1 => At.mk ?_⟩
 ·have h1p := of_decide h1
  try simp only [go_sem]
  refine stc o.swap fun H o => ?_
  simp only [wr_cons, wr_nil, List.set_cons_zero, List.set_cons_succ] at o
  try simp only [go_sem]
  have hr := o.rc 7 0 (by simp)
  simp only [List.drop_zero] at hr
  rw [hr]
  try simp only [go_sem]
  exact rets_ret (.inl ⟨.inl (by omega), _, rfl⟩) o.sub
 have h1p : n ≤ 8 := by have := of_ndecide h1; omega
 let st2 : AV → MObj := fun X => .cells 7 [.int .i64 0, .nilsl, .nilsl, .nilsl, .nilsl, iLL (pairsF f), X] 0
 have o : Owns H0 H [(id4, st2 .nilsl), (id2, z7)] := o
 rw [← hz]
 have hIl : ∀ i, i ≤ n → (arrI f i).length ≤ 2560 := fun i hi => by
  refine Nat.le_trans (arrI_len i) (Nat.le_trans (Nat.mul_le_mul (show i ≤ 8 by omega) (Nat.mul_le_mul (show (pairsF f).length ≤ 8 by omega) hm)) (by omega))
 have hJl : ∀ i j, j ≤ n → (arrJ f i j).length ≤ 320 := fun i j hj => Nat.le_trans (arrJ_len i j) (Nat.le_trans (Nat.mul_le_mul (show j ≤ 8 by omega) hm) (by omega))
 have hHl : ∀ i j, (arrH f i j).length ≤ 40 := fun i j => Nat.le_trans (homC_len _ _) hm
 have hP2 : ∀ i, i < n → ((pairsF f).getD i default).length = 2 := fun i hi => by
  obtain ⟨x, d, hx, hd, ei⟩ := plI_ex h.1 (i := (i : Int)) (by omega)
  have := plI_at h.1 hx hd
  rw [← ei, ix_nat] at this
  rw [this]; rfl
 try simp only [go_sem]
 refine awp_for [1, 2, 4] (G := AV) (fun i _ => [(7, some (.int .i64 (i : Int)))])
  (fun i X H => LsO iL H0 H [(id4, st2 X), (id2, z7)] X (arrI f i)) n .nilsl (.inl ⟨rfl, rfl, o⟩) rfl ?_
 clear o
 rintro i X H hi hX
 replace hX : LsO iL H0 H [(id4, st2 X), (id2, z7)] X (arrI f i) := hX
 try simp only [go_sem, reduceAdd]
 refine rd_get hX.obj (by simp [st2]) ?_
 try simp only [go_sem]
 rw [hn]
 refine ⟨fun h2 => At.mk ?_, fun h2 => At.mk ?_⟩
 ·have h2p : i < n := by have := of_decide h2; omega
  have w1 := wsucc (k := i) (by omega)
  try simp only [go_sem]
  refine awp_for [1, 2, 4, 7] (G := AV) (fun j _ => [(8, some (.int .i64 (j : Int)))])
   (fun j X H => LsO iL H0 H [(id4, st2 X), (id2, z7)] X (arrI f i ++ arrJ f i j)) n X (by rw [arrJ, List.append_nil]; exact hX) rfl ?_
  clear hX
  rintro j X H hj hX
  replace hX : LsO iL H0 H [(id4, st2 X), (id2, z7)] X (arrI f i ++ arrJ f i j) := hX
  try simp only [go_sem, reduceAdd]
  refine rd_get hX.obj (by simp [st2]) ?_
  try simp only [go_sem]
  rw [hn]
  refine ⟨fun h3 => At.mk ?_, fun h3 => At.mk ?_⟩
  ·have h3p : j < n := by have := of_decide h3; omega
   have w2 := wsucc (k := j) (by omega)
   have p1 := hP2 i h2p
   have p2 := hP2 j h3p
   try simp only [go_sem, reduceAdd]
   refine rd_get hX.obj (by simp [st2]) ?_
   try simp only [go_sem, reduceAdd]
   refine ⟨by omega, ?_⟩
   refine rd_get hX.obj (by simp [st2]) ?_
   try simp only [go_sem, reduceAdd, reduceLeDiff]
   refine ⟨by omega, ?_⟩
   refine ⟨⟨by omega, by rw [p1]; decide⟩, ⟨by omega, by rw [p2]; decide⟩, ?_⟩
   refine ⟨_, (l02Hom_ok B f.shape h.1.is.1 _ _).run, ?_⟩
   rw [show homC f.shape (ix ((pairsF f).getD i default) 0) (ix ((pairsF f).getD j default) 0) = arrH f i j from rfl]
   refine awp_for [1, 2, 4, 7, 8, 9, 10, 11] (G := AV) (fun k _ => [(12, some (.int .i64 (k : Int)))])
    (fun k X H => LsO iL H0 H [(id4, st2 X), (id2, z7)] X (arrI f i ++ (arrJ f i j ++ arrK f i j k))) (arrH f i j).length X (by simpa [arrK] using hX) rfl ?_
   clear hX
   rintro k X H hk hX
   replace hX : LsO iL H0 H [(id4, st2 X), (id2, z7)] X (arrI f i ++ (arrJ f i j ++ arrK f i j k)) := hX
   have q1 := hIl i hi
   have q2 := hJl i j hj
   have q3 := hHl i j
   have q4 := arrK_len (f := f) i j k
   have hlen : (arrI f i ++ (arrJ f i j ++ arrK f i j k)).length ≤ 3000 := by simp only [List.length_append]; omega
   try simp only [go_sem]
   refine ⟨fun h4 => At.mk ?_, fun h4 => At.mk ?_⟩
   ·have h4p : k < (arrH f i j).length := by have := of_decide h4; omega
    have w3 := wsucc (k := k) (by omega)
    try simp only [go_sem, reduceAdd, reduceLeDiff]
    refine ⟨h4p, ?_⟩
    obtain ⟨a, ea⟩ : ∃ a, (arrH f i j).getD k default = a := ⟨_, rfl⟩
    have hmem : a ∈ arrH f i j := mem_getD.mpr ⟨k, h4p, ea⟩
    rw [arrH, ← hom_homC, mem_hom] at hmem
    obtain ⟨x, d, hx, hd, ei⟩ := plI_ex h.1 (i := (i : Int)) (by omega)
    have pat := plI_at h.1 hx hd
    rw [← ei, ix_nat] at pat
    have hin := h.1.inAct (e := d) hmem.1 (by rw [hmem.2.1, pat]; exact hd)
    have hin2 : 0 ≤ ((pairsF f).getD i default).getD 1 default ∧ (((pairsF f).getD i default).getD 1 default).toNat < (ix f.acts a).length := by rw [pat]; exact hin
    rw [ea]
    refine ⟨⟨hmem.1.1, by have := hmem.1.2; omega⟩, ⟨by omega, by rw [p1]; decide⟩, hin2, ⟨by omega, by rw [p2]; decide⟩, ?_⟩
    rw [show decide (ix (ix f.acts a) (ix ((pairsF f).getD i default) 1) = ix ((pairsF f).getD j default) 1) = arrP f i j a from rfl]
    cases hb : arrP f i j a with
    | false =>
     try simp only [go_sem, w3]
     exact for_next X (by omega) (by rw [arrK_f h4p (by rw [ea]; exact hb)]; exact hX) rfl
    | true =>
     try simp only [go_sem, reduceAdd]
     refine rd_get hX.obj (by simp [st2]) ?_
     try simp only [go_sem, reduceAdd]
     refine ⟨h4p, ?_⟩
     rw [ea]
     refine hX.app (arrE i j a) rfl (by simp only [maxL]; omega) fun idn H o => ?_
     try simp only [go_sem, reduceAdd]
     refine stc o.swap fun H o => ?_
     simp only [wr_cons, wr_nil, List.set_cons_zero, List.set_cons_succ] at o
     have hX : LsO iL H0 H [(id4, st2 (.buf idn ((arrI f i ++ (arrJ f i j ++ arrK f i j k)) ++ [arrE i j a]).length)), (id2, z7)] (.buf idn ((arrI f i ++ (arrJ f i j ++ arrK f i j k)) ++ [arrE i j a]).length) ((arrI f i ++ (arrJ f i j ++ arrK f i j k)) ++ [arrE i j a]) := .inr ⟨idn, rfl, o.swap⟩
     try simp only [go_sem, w3]
     refine for_next (.buf idn ((arrI f i ++ (arrJ f i j ++ arrK f i j k)) ++ [arrE i j a]).length) (by omega) ?_ rfl
     rw [arrK_t h4p (by rw [ea]; exact hb), ea]
     simpa only [List.append_assoc] using hX
   ·have h4p : k = (arrH f i j).length := by have := of_ndecide h4; omega
    try simp only [go_sem, w2]
    refine for_next X h3p ?_ rfl
    rw [h4p] at hX
    exact hX
  ·have h3p : j = n := by have := of_ndecide h3; omega
   try simp only [go_sem, w1]
   refine for_next X h2p ?_ rfl
   rw [h3p, ← hn] at hX
   exact hX
 have h2p : i = n := by have := of_ndecide h2; omega
 rw [h2p, ← hn] at hX
 replace hX : LsO iL H0 H [(id4, st2 X), (id2, z7)] X (arrF f) := hX
 have hlX := hX.lenE
 clear hi h2 h2p
 try simp only [go_sem, reduceAdd]
 refine rd_get hX.obj (by simp [st2]) ?_
 try simp only [go_sem, hlX]
 obtain ⟨m, hme⟩ : ∃ m : Nat, (arrF f).length = m := ⟨_, rfl⟩
 rw [hme]
 refine ⟨fun h3 => At.mk ?_, fun h3 => At.mk ?_⟩
 ·have h3p := of_decide h3
  obtain ⟨p, o, _⟩ := hX.split
  have o : Owns H0 H ((id2, z7) :: (p ++ [(id4, st2 X)])) := o.perm (by
   refine List.perm_append_comm.trans ?_
   simp only [List.cons_append, List.nil_append]
   exact (List.Perm.swap _ _ _).trans (.cons _ (List.perm_append_comm (l₁ := [(id4, st2 X)]) (l₂ := p))))
  try simp only [go_sem]
  refine st_cells o (by simp [z7]) (by (try simp only [go_sem]); (try simp)) (by first | (simp only [go_sem]; done) | ((try simp only [go_sem]); simp [AV.one, one_mL])) fun H o => ?_
  simp only [wr_cons, wr_nil, List.set_cons_zero, List.set_cons_succ] at o
  try simp only [go_sem]
  have hr := o.rc 7 0 (by simp)
  simp only [List.drop_zero] at hr
  rw [hr]
  try simp only [go_sem]
  exact rets_ret (.inl ⟨.inr (by omega), _, rfl⟩) o.sub
 have h3p : m ≤ 40 := by have := of_ndecide h3; omega
 try simp only [go_sem]
 refine wk_ls 6 hX rfl fun H o => wkW_done ?_
 clear hX hlX
 simp only [List.set_cons_zero, List.set_cons_succ] at o
 try simp only [go_sem, reduceAdd]
 refine rd_cells o (by simp) ?_
 try simp only [go_sem, reduceAdd, reduceLeDiff]
 rw [hn]
 refine stc o fun H o => ?_
 simp only [wr_cons, wr_nil, List.set_cons_zero, List.set_cons_succ] at o
 let st3 : AV → MObj := fun X => .cells 7 [iI n, .nilsl, .nilsl, X, .nilsl, iLL (pairsF f), iLL (arrF f)] 0
 have o : Owns H0 H [(id4, st3 .nilsl), (id2, z7)] := o
 have hil : (catE f).idn.length = n := by simp [catE, hn]
 have hal3 : ∀ l, l ∈ arrF f → l.length = 3 := fun l hl => by
  obtain ⟨_, _, _, _, _, _, _, rfl⟩ := mem_arrI.mp hl
  rfl
 try simp only [go_sem]
 refine awp_for [1, 2, 4] (G := AV) (fun i _ => [(13, some (.int .i64 (i : Int)))])
  (fun i X H => LsO iI H0 H [(id4, st3 X), (id2, z7)] X ((catE f).idn.take i)) n .nilsl (.inl ⟨rfl, rfl, o⟩) rfl ?_
 clear o
 rintro i X H hi hX
 replace hX : LsO iI H0 H [(id4, st3 X), (id2, z7)] X ((catE f).idn.take i) := hX
 have htk : ((catE f).idn.take i).length ≤ i := by rw [List.length_take]; omega
 try simp only [go_sem, reduceAdd]
 refine rd_get hX.obj (by simp [st3]) ?_
 try simp only [go_sem]
 rw [hn]
 refine ⟨fun h4 => At.mk ?_, fun h4 => At.mk ?_⟩
 ·have h4p : i < n := by have := of_decide h4; omega
  have w1 := wsucc (k := i) (by omega)
  have p1 := hP2 i h4p
  obtain ⟨x, d, hx, hd, ei⟩ := plI_ex h.1 (i := (i : Int)) (by omega)
  have pat := plI_at h.1 hx hd
  rw [← ei, ix_nat] at pat
  have eidn : (catE f).idn.getD i default = indexOf (arrF f) [(i : Int), (i : Int), ix f.shape.idn x] := by
   have : (catE f).idn.getD i default = _ := getD_map_range _ _ (show i < (pairsF f).length by omega)
   rw [this, pat]; rfl
  have hil2 := h.1.is.1.il
  try simp only [go_sem, reduceAdd]
  refine rd_get hX.obj (by simp [st3]) ?_
  try simp only [go_sem, reduceAdd]
  refine rd_get hX.obj (by simp [st3]) ?_
  try simp only [go_sem, reduceAdd, reduceLeDiff]
  refine rd_get hX.obj (by simp [st3]) ?_
  try simp only [go_sem, reduceAdd]
  refine ⟨by omega, ?_⟩
  rw [pat]
  try simp only [go_sem, reduceAdd]
  rw [show ix ([x, d] : List Int) 0 = x from rfl]
  refine ⟨by simp, ⟨hx.1, by omega⟩, ?_⟩
  refine ⟨_, (l05Place_ok B (arrF f) [(i : Int), (i : Int), ix f.shape.idn x]).run, ?_⟩
  rw [← eidn]
  try simp only [go_sem, reduceAdd]
  refine hX.app ((catE f).idn.getD i default) rfl (by simp only [maxL]; omega) fun idn H o => ?_
  rw [← take_succ' (catE f).idn (by omega)] at o ⊢
  try simp only [go_sem, reduceAdd]
  refine stc o.swap fun H o => ?_
  simp only [wr_cons, wr_nil, List.set_cons_zero, List.set_cons_succ] at o
  try simp only [go_sem, w1]
  exact for_next _ (by omega) (.inr ⟨idn, rfl, o.swap⟩) rfl
 have h4p : i = n := by have := of_ndecide h4; omega
 rw [h4p, ← hil, List.take_length] at hX
 clear h4 h4p hi htk
 try simp only [go_sem]
 refine wk_ls 3 hX rfl fun H o => wkW_done ?_
 simp only [List.set_cons_zero, List.set_cons_succ] at o
 clear hX
 have hfl : (catE f).frm.length = m := by simp [catE, hme]
 have htl2 : (catE f).to.length = m := by simp [catE, hme]
 have hcl : (catE f).comp.length = m := by simp [catE, hme]
 let st4 : AV → AV → AV → MObj := fun X Y Z => .cells 7 [iI n, X, Y, iL (catE f).idn, Z, iLL (pairsF f), iLL (arrF f)] 0
 have o : Owns H0 H [(id4, st4 .nilsl .nilsl .nilsl), (id2, z7)] := o
 try simp only [go_sem]
 refine awp_for [1, 2, 4] (G := (AV × Ob) × (AV × Ob) × (AV × Ob)) (fun i _ => [(14, some (.int .i64 (i : Int)))])
  (fun i g H => LsP iI g.1.2 g.1.1 ((catE f).frm.take i) ∧ LsP iI g.2.1.2 g.2.1.1 ((catE f).to.take i) ∧ LsP iL g.2.2.2 g.2.2.1 ((catE f).comp.take i) ∧
   Owns H0 H (g.1.2 ++ (g.2.1.2 ++ (g.2.2.2 ++ [(id4, st4 g.1.1 g.2.1.1 g.2.2.1), (id2, z7)])))) m ((.nilsl, []), (.nilsl, []), (.nilsl, [])) ⟨.inl ⟨rfl, rfl, rfl⟩, .inl ⟨rfl, rfl, rfl⟩, .inl ⟨rfl, rfl, rfl⟩, o⟩ rfl ?_
 clear o
 rintro i ⟨⟨X, pa⟩, ⟨Y, pb⟩, ⟨Z, pd⟩⟩ H hi ⟨hX, hY, hZ, o⟩
 replace hX : LsP iI pa X ((catE f).frm.take i) := hX
 replace hY : LsP iI pb Y ((catE f).to.take i) := hY
 replace hZ : LsP iL pd Z ((catE f).comp.take i) := hZ
 replace o : Owns H0 H (pa ++ (pb ++ (pd ++ [(id4, st4 X Y Z), (id2, z7)]))) := o
 have g4 : H.get id4 = some (st4 X Y Z) := o.get (id4, st4 X Y Z) (by simp)
 try simp only [go_sem, reduceAdd]
 refine rd_get g4 (by simp [st4]) ?_
 try simp only [go_sem]
 rw [hme]
 refine ⟨fun h4 => At.mk ?_, fun h4 => At.mk ?_⟩
 ·have h4p : i < m := by have := of_decide h4; omega
  have w1 := wsucc (k := i) (by omega)
  have a3 := hal3 _ (mem_getD.mpr ⟨i, by omega, rfl⟩ : (arrF f).getD i default ∈ arrF f)
  try simp only [go_sem, reduceAdd]
  refine rd_get g4 (by simp [st4]) ?_
  try simp only [go_sem, reduceAdd]
  refine ⟨by omega, ?_⟩
  refine rd_get g4 (by simp [st4]) ?_
  try simp only [go_sem, reduceAdd]
  refine ⟨by rw [a3]; decide, ?_⟩
  refine (LsO.mk (l := pb ++ (pd ++ [(id4, st4 X Y Z), (id2, z7)])) o hX).app ((catE f).frm.getD i default) (by rw [show (catE f).frm.getD i default = _ from map_getD _ (by omega)]; rfl) (by simp only [maxL]; rw [List.length_take]; omega) fun ida H o => ?_
  rw [← take_succ' (catE f).frm (by omega)] at o ⊢
  have hX : LsP iI [(ida, .cells 1 (((catE f).frm.take (i + 1)).map iI) 0)] (.buf ida ((catE f).frm.take (i + 1)).length) ((catE f).frm.take (i + 1)) := .inr ⟨ida, rfl, rfl⟩
  have o : Owns H0 H ((id4, st4 X Y Z) :: ([(ida, .cells 1 (((catE f).frm.take (i + 1)).map iI) 0)] ++ (pb ++ (pd ++ [(id2, z7)])))) := o.perm (permC fun x => by (try dsimp only); simp only [List.append_eq, List.count_append, List.count_cons, List.count_nil, List.map_nil, List.length_nil, List.length_append, List.length_cons, List.length_set, Nat.zero_add, List.nil_append, iI, iL]; omega)
  obtain ⟨na, hna⟩ : ∃ na, ((catE f).frm.take (i + 1)).length = na := ⟨_, rfl⟩
  rw [hna] at hX
  rw [hna]
  generalize [(ida, MObj.cells 1 (((catE f).frm.take (i + 1)).map iI) 0)] = pa2 at hX o
  clear g4
  try simp only [go_sem, reduceAdd]
  refine st_cells o (by simp [st4]) (by (try simp only [go_sem]); (try simp)) (by first | (simp only [go_sem]; done) | ((try simp only [go_sem]); simp [AV.one, one_mL])) fun H o => ?_
  simp only [wr_cons, wr_nil, List.set_cons_zero, List.set_cons_succ] at o
  have o : Owns H0 H ((id4, st4 (.buf ida na) Y Z) :: (pa2 ++ (pb ++ (pd ++ [(id2, z7)])))) := o
  try simp only [go_sem, reduceAdd]
  refine rd_cells o (by simp [st4]) ?_
  try simp only [go_sem, reduceAdd]
  refine ⟨by rw [a3]; decide, ?_⟩
  refine (LsO.mk (l := (id4, st4 (.buf ida na) Y Z) :: (pa2 ++ (pd ++ [(id2, z7)]))) (o.perm (permC fun x => by (try dsimp only); simp only [List.append_eq, List.count_append, List.count_cons, List.count_nil, List.map_nil, List.length_nil, List.length_append, List.length_cons, List.length_set, Nat.zero_add, List.nil_append, iI, iL]; omega)) hY).app ((catE f).to.getD i default) (by rw [show (catE f).to.getD i default = _ from map_getD _ (by omega)]; rfl) (by simp only [maxL]; rw [List.length_take]; omega) fun idb H o => ?_
  rw [← take_succ' (catE f).to (by omega)] at o ⊢
  have hY : LsP iI [(idb, .cells 1 (((catE f).to.take (i + 1)).map iI) 0)] (.buf idb ((catE f).to.take (i + 1)).length) ((catE f).to.take (i + 1)) := .inr ⟨idb, rfl, rfl⟩
  have o : Owns H0 H ((id4, st4 (.buf ida na) Y Z) :: ([(idb, .cells 1 (((catE f).to.take (i + 1)).map iI) 0)] ++ (pa2 ++ (pd ++ [(id2, z7)])))) := o.perm (permC fun x => by (try dsimp only); simp only [List.append_eq, List.count_append, List.count_cons, List.count_nil, List.map_nil, List.length_nil, List.length_append, List.length_cons, List.length_set, Nat.zero_add, List.nil_append, iI, iL]; omega)
  obtain ⟨nb, hnb⟩ : ∃ nb, ((catE f).to.take (i + 1)).length = nb := ⟨_, rfl⟩
  rw [hnb] at hY
  rw [hnb]
  generalize [(idb, MObj.cells 1 (((catE f).to.take (i + 1)).map iI) 0)] = pb2 at hY o
  try simp only [go_sem, reduceAdd]
  refine st_cells o (by simp [st4]) (by (try simp only [go_sem]); (try simp)) (by first | (simp only [go_sem]; done) | ((try simp only [go_sem]); simp [AV.one, one_mL])) fun H o => ?_
  simp only [wr_cons, wr_nil, List.set_cons_zero, List.set_cons_succ] at o
  have o : Owns H0 H ((id4, st4 (.buf ida na) (.buf idb nb) Z) :: (pb2 ++ (pa2 ++ (pd ++ [(id2, z7)])))) := o
  try simp only [go_sem]
  refine newBuf_own o fun idr H o => ?_
  try simp only [go_sem]
  have crl : ((catE f).comp.getD i default).length = m := by
   rw [show (catE f).comp.getD i default = _ from getD_map_range _ _ (show i < (arrF f).length by omega)]; simp [hme]
  obtain ⟨x, d, y, e, a, ka⟩ := AtE.ex h.1 (k := (i : Int)) (by omega)
  have ek := ka.ok.eq
  rw [ix_nat] at ek
  refine awp_for [1, 2, 4, 14, 15] (G := Nat × List Int) (fun b g => [(16, some (.buf g.1 g.2.length)), (17, some (.int .i64 (b : Int)))])
   (fun b g H => g.2 = ((catE f).comp.getD i default).take b ∧ Owns H0 H ((g.1, .cells 1 (g.2.map iI) 0) :: (id4, st4 (.buf ida na) (.buf idb nb) Z) :: (pb2 ++ (pa2 ++ (pd ++ [(id2, z7)]))))) m (idr, []) ⟨rfl, o⟩ rfl ?_
  clear o
  rintro b ⟨idr, row⟩ H hb ⟨hr, o⟩
  replace hr : row = ((catE f).comp.getD i default).take b := hr
  replace o : Owns H0 H ((idr, .cells 1 (row.map iI) 0) :: (id4, st4 (.buf ida na) (.buf idb nb) Z) :: (pb2 ++ (pa2 ++ (pd ++ [(id2, z7)])))) := o
  have hrl : row.length ≤ b := by rw [hr, List.length_take]; omega
  try simp only [go_sem, reduceAdd]
  refine rd_cells o.tl (by simp [st4]) ?_
  try simp only [go_sem]
  rw [hme]
  refine ⟨fun h5 => At.mk ?_, fun h5 => At.mk ?_⟩
  ·have h5p : b < m := by have := of_decide h5; omega
   have w2 := wsucc (k := b) (by omega)
   have b3 := hal3 _ (mem_getD.mpr ⟨b, by omega, rfl⟩ : (arrF f).getD b default ∈ arrF f)
   obtain ⟨y', e', x2, d2, a2, kb⟩ := AtE.ex h.1 (k := (b : Int)) (by omega)
   have el := kb.ok.eq
   rw [ix_nat] at el
   have hE := catE_comp (f := f) (a := (i : Int)) (b := (b : Int)) (by omega) (by omega)
   simp only [ix_nat] at hE
   try simp only [go_sem, reduceAdd]
   refine rd_cells o.tl (by simp [st4]) ?_
   try simp only [go_sem]
   refine ⟨by omega, ?_⟩
   refine ⟨by rw [a3]; decide, by rw [b3]; decide, ?_⟩
   by_cases hm2 : ix ((arrF f).getD i default) 1 = ix ((arrF f).getD b default) 0
   ·rw [decide_eq_true hm2]
    rw [if_pos (show ((arrF f).getD i default).getD 1 default = ((arrF f).getD b default).getD 0 default from hm2)] at hE
    have hc := h.1.is.1
    have hcl2 := hc.cl
    have hrow := hc.row' (a := a) ka.ok.ha.2
    try simp only [go_sem, reduceAdd]
    refine rd_cells o.tl (by simp [st4]) ?_
    try simp only [go_sem, reduceAdd, reduceLeDiff]
    refine ⟨by rw [a3]; decide, by rw [b3]; decide, by rw [a3]; decide, by rw [b3]; decide, ?_⟩
    have e2 : ix ((arrF f).getD i default) 2 = a := by rw [ek]; rfl
    have e3 : ix ((arrF f).getD b default) 2 = a2 := by rw [el]; rfl
    rw [e2, e3]
    refine ⟨_, (l02Then_ok B f.shape a a2 (by have := ka.ok.ha; omega) (by have := kb.ok.ha; omega)).run, ?_⟩
    try simp only [go_sem, reduceAdd]
    refine ⟨_, (l05Place_ok B (arrF f) [ix ((arrF f).getD i default) 0, ix ((arrF f).getD b default) 1, ix (ix f.shape.comp a) a2]).run, ?_⟩
    have hE2 : indexOf (arrF f) [ix ((arrF f).getD i default) 0, ix ((arrF f).getD b default) 1, ix (ix f.shape.comp a) a2] = ((catE f).comp.getD i default).getD b default := by
     rw [hE, ← e2, ← e3]; rfl
    rw [hE2]
    try simp only [go_sem, reduceAdd]
    refine app_own (f := iI) (((catE f).comp.getD i default).getD b default) o rfl rfl (by simp only [maxL]; omega) fun idr H o => ?_
    try simp only [go_sem, w2]
    exact for_next (idr, row ++ [((catE f).comp.getD i default).getD b default]) h5p ⟨by rw [hr, take_succ' _ (by omega)], o⟩ rfl
   ·rw [decide_eq_false hm2]
    rw [if_neg (show ¬ ((arrF f).getD i default).getD 1 default = ((arrF f).getD b default).getD 0 default from hm2)] at hE
    try simp only [go_sem, reduceAdd]
    refine app_own (f := iI) (-1) o rfl rfl (by simp only [maxL]; omega) fun idr H o => ?_
    try simp only [go_sem, w2]
    exact for_next (idr, row ++ [-1]) h5p ⟨by rw [hr, take_succ' _ (by omega), hE], o⟩ rfl
  have h5p : b = m := by have := of_ndecide h5; omega
  have hrf : row = (catE f).comp.getD i default := by rw [hr, List.take_of_length_le (by omega)]
  try simp only [go_sem]
  refine fz_own (f := iI) o rfl fun H o => ?_
  rw [hrf]
  try simp only [go_sem, reduceAdd]
  refine rd_cells o (by simp [st4]) ?_
  try simp only [go_sem, reduceAdd]
  refine (LsO.mk (l := (id4, st4 (.buf ida na) (.buf idb nb) Z) :: (pb2 ++ (pa2 ++ [(id2, z7)]))) (o.perm (permC fun x => by (try dsimp only); simp only [List.append_eq, List.count_append, List.count_cons, List.count_nil, List.map_nil, List.length_nil, List.length_append, List.length_cons, List.length_set, Nat.zero_add, List.nil_append, iI, iL]; omega)) hZ).app ((catE f).comp.getD i default) rfl (by simp only [maxL]; rw [List.length_take]; omega) fun idd H o => ?_
  rw [← take_succ' (catE f).comp (by omega)] at o ⊢
  have hZ : LsP iL [(idd, .cells 1 (((catE f).comp.take (i + 1)).map iL) 0)] (.buf idd ((catE f).comp.take (i + 1)).length) ((catE f).comp.take (i + 1)) := .inr ⟨idd, rfl, rfl⟩
  have o : Owns H0 H ((id4, st4 (.buf ida na) (.buf idb nb) Z) :: ([(idd, .cells 1 (((catE f).comp.take (i + 1)).map iL) 0)] ++ (pb2 ++ (pa2 ++ [(id2, z7)])))) := o.perm (permC fun x => by (try dsimp only); simp only [List.append_eq, List.count_append, List.count_cons, List.count_nil, List.map_nil, List.length_nil, List.length_append, List.length_cons, List.length_set, Nat.zero_add, List.nil_append, iI, iL]; omega)
  generalize [(idd, MObj.cells 1 (((catE f).comp.take (i + 1)).map iL) 0)] = pd2 at hZ o
  obtain ⟨nd, hnd⟩ : ∃ nd, ((catE f).comp.take (i + 1)).length = nd := ⟨_, rfl⟩
  rw [hnd] at hZ
  rw [hnd]
  try simp only [go_sem, reduceAdd]
  refine st_cells o (by simp [st4]) (by (try simp only [go_sem]); (try simp)) (by first | (simp only [go_sem]; done) | ((try simp only [go_sem]); simp [AV.one, one_mL])) fun H o => ?_
  simp only [wr_cons, wr_nil, List.set_cons_zero, List.set_cons_succ] at o
  have o : Owns H0 H ((id4, st4 (.buf ida na) (.buf idb nb) (.buf idd nd)) :: (pd2 ++ (pb2 ++ (pa2 ++ [(id2, z7)])))) := o
  try simp only [go_sem, w1]
  exact for_next ((.buf ida na, pa2), (.buf idb nb, pb2), (.buf idd nd, pd2)) h4p ⟨hX, hY, hZ, o.perm (permC fun x => by (try dsimp only); simp only [List.append_eq, List.count_append, List.count_cons, List.count_nil, List.map_nil, List.length_nil, List.length_append, List.length_cons, List.length_set, Nat.zero_add, List.nil_append, iI, iL]; omega)⟩ rfl
 have h4p : i = m := by have := of_ndecide h4; omega
 rw [h4p, List.take_of_length_le (by omega)] at hX hY hZ
 clear h4 h4p hi
 try simp only [go_sem]
 refine wk_ls 4 (LsO.mk (l := (id4, st4 X Y Z) :: (id2, z7) :: (pa ++ pb)) (o.perm (permC fun x => by (try dsimp only); simp only [List.append_eq, List.count_append, List.count_cons, List.count_nil, List.map_nil, List.length_nil, List.length_append, List.length_cons, List.length_set, Nat.zero_add, List.nil_append, iI, iL]; omega)) hZ) rfl fun H o => ?_
 simp only [List.set_cons_zero, List.set_cons_succ] at o
 have o : Owns H0 H ((id4, st4 X Y (iLL (catE f).comp)) :: (id2, z7) :: (pa ++ pb)) := o
 refine wk_ls 2 (LsO.mk (l := (id4, st4 X Y (iLL (catE f).comp)) :: (id2, z7) :: pa) (o.perm (permC fun x => by (try dsimp only); simp only [List.append_eq, List.count_append, List.count_cons, List.count_nil, List.map_nil, List.length_nil, List.length_append, List.length_cons, List.length_set, Nat.zero_add, List.nil_append, iI, iL]; omega)) hY) rfl fun H o => ?_
 simp only [List.set_cons_zero, List.set_cons_succ] at o
 have o : Owns H0 H ((id4, st4 X (iL (catE f).to) (iLL (catE f).comp)) :: (id2, z7) :: pa) := o
 refine wk_ls 1 (LsO.mk (l := (id4, st4 X (iL (catE f).to) (iLL (catE f).comp)) :: [(id2, z7)]) (o.perm (permC fun x => by (try dsimp only); simp only [List.append_eq, List.count_append, List.count_cons, List.count_nil, List.map_nil, List.length_nil, List.length_append, List.length_cons, List.length_set, Nat.zero_add, List.nil_append, iI, iL]; omega)) hX) rfl fun H o => wkW_done ?_
 simp only [List.set_cons_zero, List.set_cons_succ] at o
 try simp only [go_sem]
 refine rd_celln o (by simp) ?_
 try simp only [go_sem]
 refine st_cells o.swap (by simp [z7]) (by (try simp only [go_sem]); (try simp)) (by first | (simp only [go_sem]; done) | ((try simp only [go_sem]); simp [AV.one, one_mL])) fun H o => ?_
 simp only [wr_cons, wr_nil, List.set_cons_zero, List.set_cons_succ] at o
 try simp only [go_sem]
 have hr := o.rc 7 0 (by simp)
 simp only [List.drop_zero] at hr
 rw [hr]
 try simp only [go_sem]
 refine rets_ret (.inr ⟨⟨by omega, by omega⟩, ?_⟩) o.sub
 rw [Cat.cells, show (catE f).objs = n from by rw [← hn]; rfl]; rfl
end Go.Proofs.Shf
namespace Go.Proofs.Shf
open Go.AW Go.Proofs Go.Shf
theorem refElements_ok (B : Nat) {f : SF} (h : f.Is) (hf : (pairsF f).length ≤ 8 ∧ (arrF f).length ≤ 40) : Pur Tryz.prog B 25 [.agg f.cells] (.tup [.agg (catE f).cells, iLL (pairsF f), iLL (arrF f), iI 0]) := by
 refine ⟨fun H0 => c25p (by simp) fun _ => ?_⟩
 unfold s25p
 have o : Owns H0 H0 [] := .nil _
 try simp only [go_sem, reduceAdd]
 refine newRef_own o fun id2 H o => ?_
 try simp only [go_sem, reduceAdd]
 refine (l19Is_ok B f).go fun _ => ?_
 rw [dec_t h]
 try simp only [go_sem, reduceAdd]
 refine (l20Elements_ok B h).go fun r _ hr => ?_
 rcases hr with ⟨hn, _⟩ | ⟨_, rfl⟩
 ·omega
 have e9 : ((catE f).cells ++ [iLL (pairsF f), iLL (arrF f)]) = [iI (catE f).objs, iL (catE f).frm, iL (catE f).to, iL (catE f).idn, iLL (catE f).comp, iLL (pairsF f), iLL (arrF f)] := rfl
 rw [e9]
 try simp only [go_sem, reduceAdd, reduceLT]
 refine ⟨by simp [maxL], newRef_own o fun id6 H o => ?_⟩
 try simp only [go_sem]
 refine stc o fun H o => ?_
 simp only [wr_cons, wr_nil, List.set_cons_zero, List.set_cons_succ] at o
 try simp only [go_sem]
 refine wk_ref 6 o rfl fun H o => wkW_done ?_
 try simp only [go_sem, reduceAdd, reduceLeDiff]
 refine stc o fun H o => ?_
 simp only [wr_cons, wr_nil, List.set_cons_zero, List.set_cons_succ] at o
 try simp only [go_sem]
 have hr := o.rc 5 0 (by simp)
 simp only [List.drop_zero] at hr
 rw [hr]
 try simp only [go_sem]
 exact pure_ret rfl o.sub
theorem drawGS_ok (B : Nat) (code : List UInt8) : Rets B 18 [mL Go.AW.iB code] AnyF := by
 intro H0
 refine c18p (by simp) fun _ => ?_
 unfold s18p
 have o : Owns H0 H0 [] := .nil _
 try simp only [go_sem, reduceAdd]
 refine ⟨by simp [maxL], newRef_own o fun id2 H o => ?_⟩
 try simp only [go_sem]
 refine (l01From_ok B code _).mono' fun r H _ ⟨id, s, e, hs, o2⟩ => ?_
 subst e
 have o : Owns H0 H [(id, s.obj), (id2, _)] := o.trans o2
 try simp only [go_sem]
 refine (l01Next_ok B 20).go hs o fun r s H _ ⟨k, e, _⟩ hs o => ?_
 subst e
 try simp only [go_sem]
 refine ⟨fun h1 => At.mk ?_, fun h1 => At.mk ?_⟩
 ·try simp only [go_sem, reduceAdd]
  refine (l03Poset_ok B [[1, 0], [0, 1]] ⟨by decide, by decide⟩).go fun r _ ⟨c, e, hc⟩ => ?_
  subst e
  try simp only [go_sem]
  refine (l19ConstG_ok B c (by have := hc.ob; omega) (by have := hc.ml; omega) 16 (by omega)).go fun _ => ?_
  try simp only [go_sem]
  refine stc o.swap fun H o => ?_
  simp only [wr_cons, wr_nil, List.set_cons_zero, List.set_cons_succ] at o
  try simp only [go_sem]
  have hr := o.rc 7 0 (by simp)
  simp only [List.drop_zero] at hr
  rw [hr]
  try simp only [go_sem]
  exact rets_ret ⟨constF c 16, rfl⟩ o.sub
 ·try simp only [go_sem]
  refine (l19Base_ok B).go hs o fun r s H _ ⟨c, e⟩ hs o => ?_
  subst e
  try simp only [go_sem]
  refine (l19Draw_ok B c 5 (by omega)).go hs o fun r s H _ ⟨f, e⟩ hs o => ?_
  subst e
  try simp only [go_sem]
  refine stc o.swap fun H o => ?_
  simp only [wr_cons, wr_nil, List.set_cons_zero, List.set_cons_succ] at o
  try simp only [go_sem]
  have hr := o.rc 7 0 (by simp)
  simp only [List.drop_zero] at hr
  rw [hr]
  try simp only [go_sem]
  exact rets_ret ⟨f, rfl⟩ o.sub
theorem implSections_no (B : Nat) {f : SF} (hf : ¬ f.Is) : Pur Tryz.prog B 19 [.agg f.cells] (.tup [iLL [], iI 1]) := by
 refine ⟨fun H0 => c19 (by simp) fun _ => ?_⟩
 unfold s19
 try simp only [go_sem, reduceAdd]
 refine (isSetFunctor_ok B f).go fun _ => ?_
 rw [dec_f hf]
 try simp only [go_sem]
 exact pure_ret rfl (.refl _)
theorem refSections_no (B : Nat) {f : SF} (hf : ¬ f.Is) : Pur Tryz.prog B 20 [.agg f.cells] (.tup [iLL [], iI 1]) := by
 refine ⟨fun H0 => c20 (by simp) fun _ => ?_⟩
 unfold s20
 try simp only [go_sem, reduceAdd]
 refine (l19Is_ok B f).go fun _ => ?_
 rw [dec_f hf]
 try simp only [go_sem]
 exact pure_ret rfl (.refl _)
end Go.Proofs.Shf
namespace Go.Proofs.Shf
open Go.AW Go.Proofs Go.Shf
theorem fnSections_ok (B : Nat) (code : List UInt8) : Pur Tryz.prog B 4 [mL Go.AW.iB code] (.bool true) := by
 refine ⟨fun H0 => c4p (by simp) fun _ => ?_⟩
 unfold s4p
 have o : Owns H0 H0 [] := .nil _
 have d30 : decide ((3 : Int) = 0) = false := rfl
 have d03 : decide ((0 : Int) = 3) = false := rfl
 have d10 : decide ((1 : Int) = 0) = false := rfl
 try simp only [go_sem, reduceAdd]
 refine (big_ok B code).go fun _ => ?_
 try simp only [go_sem]
 refine ⟨fun g0 => At.mk ?_, fun g0 => At.mk ?_⟩
 ·try simp only [go_sem]
  exact pure_ret rfl (.refl _)
 try simp only [go_sem]
 refine (drawGS_ok B code).go fun r _ ⟨f, e⟩ => ?_
 subst e
 try simp only [go_sem, reduceAdd]
 refine ⟨by simp [maxL], newRef_own o fun id3 H o => ?_⟩
 try simp only [go_sem]
 refine stc o fun H o => ?_
 simp only [wr_cons, wr_nil, List.set_cons_zero, List.set_cons_succ] at o
 try simp only [go_sem]
 refine wk_ref 3 o rfl fun H o => wkW_done ?_
 try simp only [go_sem, reduceAdd]
 by_cases hf : f.Is
 rotate_left 1
 ·refine (implSections_no B hf).go fun _ => ?_
  try simp only [go_sem, reduceAdd, reduceLT]
  refine (refSections_no B hf).go fun _ => ?_
  try simp only [go_sem, reduceAdd, reduceLT, dTrue, d10]
  refine (same29_ok B [] []).go fun _ => ?_
  rw [dec_t rfl]
  try simp only [go_sem, dTrue, d10]
  exact pure_ret rfl o.sub
 refine (implSections_ok B hf).go fun r _ hr1 => ?_
 rcases hr1 with ⟨hl, rfl⟩ | ⟨hl, rfl⟩
 rotate_left 1
 ·try simp only [go_sem, reduceAdd, reduceLT]
  refine (refSections_ok B hf).go fun r _ hr2 => ?_
  rcases hr2 with ⟨hl2, _⟩ | ⟨_, rfl⟩
  ·omega
  try simp only [go_sem, reduceAdd, reduceLT, dTrue, d30]
  refine (same29_ok B [] []).go fun _ => ?_
  rw [dec_t rfl]
  try simp only [go_sem, dTrue, d30]
  exact pure_ret rfl o.sub
 try simp only [go_sem, reduceAdd, reduceLT]
 refine (refSections_ok B hf).go fun r _ hr2 => ?_
 rcases hr2 with ⟨_, rfl⟩ | ⟨hl2, _⟩
 rotate_left 1
 ·omega
 try simp only [go_sem, reduceAdd, reduceLT, dTrue]
 refine (same29_ok B _ _).go fun _ => ?_
 rw [dec_t rfl]
 try simp only [go_sem, reduceAdd, reduceLeDiff, dTrue]
 have hc1 := hf.1.is
 refine (constantSets_ok B f.shape hc1 1 (by omega)).go fun _ => ?_
 try simp only [go_sem, reduceAdd, reduceLT]
 refine ⟨by simp [maxL], newRef_own o fun id8 H o => ?_⟩
 try simp only [go_sem]
 refine stc o fun H o => ?_
 simp only [wr_cons, wr_nil, List.set_cons_zero, List.set_cons_succ] at o
 try simp only [go_sem]
 refine wk_ref 8 o rfl fun H o => wkW_done ?_
 try simp only [go_sem, reduceAdd]
 have hcI := constF_is (n := 1) hc1 (by omega)
 refine (allSetMaps2_ok B hcI hf rfl).go fun r _ ⟨L, k, e, hk⟩ => ?_
 have hsum : (constF f.shape 1).sizes.sum ≤ 8 := by
  rw [show (constF f.shape 1).sizes = List.replicate f.shape.objs.toNat 1 from rfl, sum_repl]
  have := hc1.1.o; omega
 have hsl : allMp (constF f.shape ((1 : Nat) : Int)) f (blankT (constF f.shape ((1 : Nat) : Int))) = secL f := rfl
 rcases hk with ⟨rfl, rfl⟩ | ⟨rfl, hk⟩
 rotate_left 1
 ·have hk2 : 12 < (constF f.shape 1).sizes.sum ∨ 200 < (secL f).length := hk
  omega
 subst e
 rw [hsl]
 try simp only [go_sem, reduceAdd, reduceLT]
 refine (setComps_ok B hf).go fun _ => ?_
 obtain ⟨nl, hnl⟩ : ∃ nl, (secL f).length = nl := ⟨_, rfl⟩
 have hnl2 : ((secL f).map fun t => colL t 0).length = nl := by rw [List.length_map, hnl]
 have w00 : IntKind.i64.wrap ((0 : Int) + 0) = 0 := rfl
 have w0 : IntKind.i64.wrap (0 : Int) = 0 := rfl
 try simp only [go_sem, reduceAdd, reduceLT, dTrue, w00, w0, hnl, hnl2]
 refine (elementsCat_ok B hf).go fun r _ hr => ?_
 rcases hr with ⟨hbig, rfl⟩ | ⟨hfew, rfl⟩
 ·try simp only [go_sem, reduceAdd, reduceLT]
  refine newRef_own o fun id15 H o => ?_
  try simp only [go_sem]
  refine stc o fun H o => ?_
  simp only [wr_cons, wr_nil, List.set_cons_zero, List.set_cons_succ] at o
  try simp only [go_sem]
  refine wk_ref 15 o rfl fun H o => wkW_done ?_
  try simp only [go_sem, dTrue]
  exact pure_ret rfl o.sub
 try simp only [go_sem, reduceAdd, reduceLT]
 refine newRef_own o fun id15 H o => ?_
 try simp only [go_sem]
 refine stc o fun H o => ?_
 simp only [wr_cons, wr_nil, List.set_cons_zero, List.set_cons_succ] at o
 try simp only [go_sem]
 refine wk_ref 15 o rfl fun H o => wkW_done ?_
 try simp only [go_sem, reduceAdd, dTrue, d03]
 refine (refSetComps_ok B hf).go fun _ => ?_
 try simp only [go_sem, reduceAdd, reduceLT]
 refine (refElements_ok B hf hfew).go fun _ => ?_
 try simp only [go_sem, reduceAdd, reduceLT]
 refine newRef_own o fun id22 H o => ?_
 try simp only [go_sem]
 refine stc o fun H o => ?_
 simp only [wr_cons, wr_nil, List.set_cons_zero, List.set_cons_succ] at o
 try simp only [go_sem]
 refine (same29_ok B _ _).go fun _ => ?_
 rw [dec_t rfl]
 try simp only [go_sem, dTrue]
 refine (same29_ok B _ _).go fun _ => ?_
 rw [dec_t rfl]
 try simp only [go_sem, reduceAdd, dTrue]
 have hcat := catE_is hf hfew.1 hfew.2
 refine (connectedI_ok B (catE f) hcat).go fun _ => ?_
 have hcon : joinL (catE f).objs.toNat (conG (catE f)) = compN f := by
  rw [← con_comp hf, conF, conG, show (catE f).frm.length = (arrF f).length by simp [catE], show (catE f).objs.toNat = (pairsF f).length from rfl]
 rw [hcon]
 have hcl := compN_len (f := f)
 obtain ⟨n, hn⟩ : ∃ n, (pairsF f).length = n := ⟨_, rfl⟩
 rw [hn] at hcl
 try simp only [go_sem, reduceAdd, reduceLT, dTrue, w00, w0, hcl, hn]
 have o : H0.sub H := o.sub
 have hmx0 : mxL ((compN f).take 0) = 0 := rfl
 have hcr : ∀ v, v ∈ compN f → 0 ≤ v ∧ v < (n : Int) := fun v hv => by
  have := joinL_ran (n := (pairsF f).length) (ps := psF f) hv
  rw [hn] at this; exact this
 have htot := total_le (f := f) (by have := hf.1.sl; have := hc1.1.o; omega) hf.1.sz
 refine awp_for [12, 13, 16, 26] (fun i _ => [(28, some (.int .i64 (mxL ((compN f).take i)))), (29, some (.int .i64 (i : Int)))]) (fun i _ H => H0.sub H) n () o (by rw [hmx0]; rfl) ?_
 clear o
 rintro i _ H hi o
 try simp only [go_sem, hn]
 refine ⟨fun h1 => At.mk ?_, fun h1 => At.mk ?_⟩
 ·have h1p : i < n := by have := of_decide h1; omega
  have w1 := wsucc (k := i) (by omega)
  obtain ⟨x, e, hx, he, ei⟩ := plI_ex hf.1 (i := (i : Int)) (by omega)
  have pat := plI_at hf.1 hx he
  rw [← ei, ix_nat] at pat
  obtain ⟨⟨b1, b2⟩, b3⟩ := compF_at hf.1 hx he
  rw [← ei, ix_nat] at b3
  have hci := hcr ((compN f).getD i default) (mem_getD.mpr ⟨i, by omega, rfl⟩)
  try simp only [go_sem, hn, hcl]
  rw [pat]
  refine ⟨h1p, by simp, ⟨hx.1, b1⟩, h1p, by simp, ⟨he.1, b2⟩, h1p, ?_⟩
  rw [show ix (ix (compF f) (ix [x, e] 0)) (ix [x, e] 1) = (compN f).getD i default from b3]
  have hmb := (mxL_all (N := (n : Int)) (by omega) hcr i (by omega)).1
  have hms := mxL_succ (compN f) (k := i) (by omega)
  have wv : IntKind.i64.wrap ((compN f).getD i default + 1) = (compN f).getD i default + 1 := wrap_i64 (by omega) (by omega)
  try simp only [go_sem, ↓reduceIte, dTrue, wv]
  refine ⟨by omega, ?_⟩
  try simp only [go_sem, wv, w1]
  refine for_next () h1p o ?_
  rw [hms]
 have h1p : i = n := by have := of_ndecide h1; omega
 rw [h1p, List.take_of_length_le (by omega)]
 try simp only [go_sem, dTrue]
 exact pure_ret rfl o
end Go.Proofs.Shf
namespace Go.Proofs.Shf
open Go.AW Go.Proofs Go.Shf
theorem fnSections_all (B : Nat) (a : AV) (h : WB a) : Pur Tryz.prog B 4 [a] (.bool true) := by
 rcases h with ⟨l, rfl⟩ | ⟨n, hn, _, rfl⟩
 ·exact fnSections_ok B l
 ·refine ⟨fun H0 => c4p (by simp) fun _ => ?_⟩
  unfold s4p
  try simp only [go_sem, reduceAdd]
  refine (big_big B n hn).go fun _ => ?_
  try simp only [go_sem]
  exact pure_ret rfl (.refl _)
end Go.Proofs.Shf
