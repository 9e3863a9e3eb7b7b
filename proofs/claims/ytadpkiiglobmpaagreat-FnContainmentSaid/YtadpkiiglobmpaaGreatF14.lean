/- A part of a proof. -/
import Derived.Test.YtadpkiiglobmpaaGreatF13
set_option linter.unusedVariables false
set_option linter.unusedSimpArgs false
set_option linter.unusedSectionVars false
open Nat (reduceEqDiff reduceAdd reduceMul reduceLeDiff reduceLT)
namespace Go.Proofs.Shf
open Go.AW Go.Proofs Go.Shf
end Go.Proofs.Shf
namespace Go.Proofs.Shf
open Go.AW Go.Proofs Go.Shf
end Go.Proofs.Shf
namespace Go.Proofs.Shf
open Go.AW Go.Proofs Go.Shf
theorem rowsQ_len {f : SF} {q : QS} (hf : f.Is) (hq : q.Ok f.shape) : (rowsQ f q).length ≤ 65536 := by
 have h := (sm_szO hf hq).take (szO f q).length
 rw [List.take_length] at h
 have h2 : (rowsQ f q).length ≤ (prodT (szO f q)).toNat := by
  rw [rows_marks hf hq, List.length_map]
  exact Nat.le_trans (List.length_filter_le _ _) (by simp)
 omega
end Go.Proofs.Shf
namespace Go.Proofs.Shf
open Go.AW Go.Proofs Go.Shf
theorem l02Hom_ok (B : Nat) (c : Cat) (s : c.Shape) (x y : Int) : Pur Tryz.prog B 198 [.agg c.cells, iI x, iI y] (iL (homC c x y)) := by
 refine ⟨fun H0 => c198 (by simp) fun _ => ?_⟩
 unfold s198
 have o : Owns H0 H0 [] := .nil _
 have hm := s.m
 have htl := s.tol
 try simp only [go_sem, reduceAdd]
 refine new_list iI o fun id H o => ?_
 try simp only [go_sem]
 refine awp_for [1, 2, 3] (G := Nat × List Int) (fun k g => [(7, some (.buf g.1 g.2.length)), (8, some (.int .i64 (k : Int)))])
  (fun k g H => g.2 = homK c x y k ∧ Owns H0 H [(g.1, .cells 1 (g.2.map iI) 0)]) c.frm.length (id, []) ⟨rfl, o⟩ rfl ?_
 clear o
 rintro k ⟨id, out⟩ H hk ⟨hout, o⟩
 dsimp only at hout o
 have houl : out.length ≤ k := by rw [hout]; exact homK_len _ _ _
 try simp only [go_sem, reduceAdd, reduceLeDiff]
 refine ⟨fun h1 => At.mk ?_, fun h1 => At.mk ?_⟩
 ·have h1p : k < c.frm.length := of_decide h1
  have w1 := wsucc (k := k) (by omega)
  try simp only [go_sem, reduceAdd, reduceLeDiff]
  refine ⟨h1p, ?_⟩
  by_cases e1 : c.frm.getD k default = x
  ·rw [decide_eq_true e1]
   try simp only [go_sem, reduceAdd, reduceLeDiff]
   refine ⟨by omega, ?_⟩
   by_cases e2 : c.to.getD k default = y
   ·rw [decide_eq_true e2]
    try simp only [go_sem, reduceAdd]
    refine app_own (k : Int) o rfl rfl (by simp only [maxL]; omega) fun z H o => ?_
    try simp only [go_sem, w1]
    exact for_next (z, out ++ [(k : Int)]) h1p ⟨by rw [hout, homK_t e1 e2], o⟩ rfl
   ·rw [decide_eq_false e2]
    try simp only [go_sem, w1]
    exact for_next (id, out) h1p ⟨by rw [hout, homK_f fun h => e2 h.2], o⟩ rfl
  ·rw [decide_eq_false e1]
   try simp only [go_sem, w1]
   exact for_next (id, out) h1p ⟨by rw [hout, homK_f fun h => e1 h.1], o⟩ rfl
 ·have h1p := of_ndecide h1
  have ek : k = c.frm.length := by omega
  rw [ek, homK_full] at hout
  try simp only [go_sem]
  refine fz_own o rfl fun H o => ?_
  try simp only [go_sem]
  exact pure_ret (by rw [hout]) o.sub
theorem l38Pair_ok (B : Nat) (c : Cat) (h : c.Is) (q : QS) (hv : q.v.length ≤ 4) (p : Int × Int) (hp : TermOk c q.v p) : Pur Tryz.prog B 238 [.agg c.cells, .agg q.cells, prE p] (iI (posC c q.v p)) := by
 refine ⟨fun H0 => c238 (by simp) fun _ => ?_⟩
 unfold s238
 have hm := h.1.m
 have htl := h.1.tol
 obtain ⟨p1, p2⟩ := p
 have hp1 := hp.1
 have hp2 := hp.2.1
 simp only at hp1 hp2
 obtain ⟨n, rfl⟩ : ∃ n : Nat, p1 = n := ⟨p1.toNat, (Int.toNat_of_nonneg hp1.1).symm⟩
 have hnl : n < q.v.length := by simpa using hp1.2
 have hcnt : ∀ k, k ≤ 4 → (memN c q.v (ix c.to p2) k).length ≤ k * 40 := fun k => by
  induction k with
  | zero => intro _; simp [memN]
  | succ k ih =>
   intro hk
   rw [memN_len_succ]
   have := ih (by omega)
   have := homC_len (c := c) (q.v.getD k default) (ix c.to p2)
   omega
 try simp only [go_sem, reduceAdd, reduceLeDiff]
 refine ⟨⟨hp2.1, by omega⟩, ?_⟩
 refine awp_for [3, 4, 5, 7] (fun k _ => [(8, some (.int .i64 ((memN c q.v (ix c.to p2) k).length : Int))), (9, some (.int .i64 (k : Int)))]) (fun k _ H => H = H0) n () rfl rfl ?_
 rintro k _ H hk rfl
 have hc1 := hcnt k (by omega)
 try simp only [go_sem, reduceAdd, reduceLeDiff]
 refine ⟨fun h1 => At.mk ?_, fun h1 => At.mk ?_⟩
 ·have h1p : k < n := by have := of_decide h1; omega
  have w1 := wsucc (k := k) (by omega)
  have hc2 := hcnt (k + 1) (by omega)
  have w2 : IntKind.i64.wrap (((memN c q.v (ix c.to p2) k).length : Int) + ((homC c (q.v.getD k default) (ix c.to p2)).length : Int)) = ((memN c q.v (ix c.to p2) (k + 1)).length : Int) := by
   have := memN_len_succ (c := c) q.v (ix c.to p2) k
   rw [wrap_i64 (by omega) (by omega)]; omega
  try simp only [go_sem, reduceAdd, reduceLeDiff]
  refine ⟨by omega, ?_⟩
  refine ⟨_, (l02Hom_ok B c h.1 _ _).run, ?_⟩
  try simp only [go_sem, w2, w1]
  exact for_next () h1p rfl rfl
 ·have h1p : ¬ k < n := by have := of_ndecide h1; omega
  have ek : k = n := by omega
  have hn := posC_num hp
  simp only [Int.toNat_natCast, ix_nat] at hn
  have hin := indexOf_in (l := homC c (q.v.getD n default) (ix c.to p2)) (a := p2) (by
   rw [homC, List.mem_filter, decide_eq_true_eq, mem_outs]
   have := hp.2.2
   rw [ix_nat] at this
   exact ⟨⟨hp2.1, hp2.2, this⟩, rfl⟩)
  have hhl := homC_len (c := c) (q.v.getD n default) (ix c.to p2)
  have hc2 := hcnt n (by omega)
  have w2 : IntKind.i64.wrap (((memN c q.v (ix c.to p2) n).length : Int) + indexOf (homC c (q.v.getD n default) (ix c.to p2)) p2) = posC c q.v ((n : Int), p2) := by
   rw [wrap_i64 (by omega) (by omega), hn]
  rw [ek]
  try simp only [go_sem, reduceAdd, reduceLeDiff]
  refine ⟨hnl, ?_⟩
  refine ⟨_, (l02Hom_ok B c h.1 _ _).run, ?_⟩
  refine ⟨_, (l01Index_ok B _ _).run, ?_⟩
  try simp only [go_sem, w2]
  exact pure_ret rfl (.refl _)
end Go.Proofs.Shf
namespace Go.Proofs.Shf
open Go.AW Go.Proofs Go.Shf
theorem l19FreeX_ok (B : Nat) (c : Cat) (hc : c.Is) (os : List Int) (hos : os.length ≤ 4) : Pur Tryz.prog B 237 [.agg c.cells, iL os] (.agg [iI c.objs, iL c.frm, iL c.to, iL c.idn, iLL c.comp, iL (freeQ c os).sizes, iLL (freeQ c os).acts]) := by
 refine ⟨fun H0 => c237p (by simp) fun _ => ?_⟩
 have hm := hc.1.m
 have hob := hc.1.o
 have htl := hc.1.tol
 unfold s237p
 have o : Owns H0 H0 [] := .nil _
 try simp only [go_sem, reduceAdd]
 refine ⟨by simp [maxL], newRef_own o fun id4 H o => ?_⟩
 try simp only [go_sem, reduceAdd, reduceLeDiff]
 refine ⟨⟨by omega, by simp only [maxL]; omega⟩, ?_⟩
 rw [rep_one]
 refine newBuf_own o fun idL H o => ?_
 try simp only [go_sem]
 refine awp_for [1, 2, 4, 5] (G := List AV × List (List (List Int)) × List (Nat × MObj)) (fun k _ => [(6, some (.int .i64 (k : Int)))])
  (fun k g H => Owns H0 H ((idL, .cells 1 g.1 0) :: (g.2.2 ++ [(id4, .cells 7 z7 0)])) ∧ LsR iL g.1 g.2.1 g.2.2 ∧ FreeX c os k 0 g.2.1) os.length (List.replicate c.objs.toNat .nilsl, List.replicate c.objs.toNat [], []) ⟨o, LsR.rep iL _, .zero hob.1⟩ rfl ?_
 clear o
 rintro k ⟨Xs, LL, ob⟩ H hk ⟨o, hR, hI⟩
 replace o : Owns H0 H ((idL, .cells 1 Xs 0) :: (ob ++ [(id4, .cells 7 z7 0)])) := o
 replace hR : LsR iL Xs LL ob := hR
 replace hI : FreeX c os k 0 LL := hI
 try simp only [go_sem]
 refine ⟨fun h1 => At.mk ?_, fun h1 => At.mk ?_⟩
 ·have h1p := of_decide h1
  have w1 := wsucc (k := k) (by omega)
  try simp only [go_sem]
  refine awp_for [1, 2, 4, 5, 6] (G := List AV × List (List (List Int)) × List (Nat × MObj)) (fun h _ => [(7, some (.int .i64 (h : Int)))])
   (fun h g H => Owns H0 H ((idL, .cells 1 g.1 0) :: (g.2.2 ++ [(id4, .cells 7 z7 0)])) ∧ LsR iL g.1 g.2.1 g.2.2 ∧ FreeX c os k h g.2.1) c.frm.length (Xs, LL, ob) ⟨o, hR, hI⟩ rfl ?_
  clear o hR hI Xs LL ob
  rintro h ⟨Xs, LL, ob⟩ H hh ⟨o, hR, hI⟩
  replace o : Owns H0 H ((idL, .cells 1 Xs 0) :: (ob ++ [(id4, .cells 7 z7 0)])) := o
  replace hR : LsR iL Xs LL ob := hR
  replace hI : FreeX c os k h LL := hI
  try simp only [go_sem, reduceAdd, reduceLeDiff]
  refine ⟨fun h2 => At.mk ?_, fun h2 => At.mk ?_⟩
  ·have h2p := of_decide h2
   have w2 := wsucc (k := h) (by omega)
   have hto := hc.1.toObj (f := (h : Int)) (by simpa using h2p)
   rw [ix_nat] at hto
   have hXl := hR.len
   have hLl := hI.len
   have hbd := hI.bd (c.to.getD h default).toNat
   have hkm : k * c.frm.length ≤ 3 * 40 := Nat.mul_le_mul (by omega) hm
   try simp only [go_sem, reduceAdd, reduceLeDiff]
   refine ⟨h2p, h1p, ?_⟩
   refine ⟨fun h3 => At.mk ?_, fun h3 => At.mk ?_⟩
   ·have h3p : c.frm.getD h default = os.getD k default := of_decide h3
    try simp only [go_sem, reduceAdd, reduceLeDiff]
    refine ⟨by omega, by omega, ⟨hto.1, by omega⟩, rd_get o.h0 (by omega) ?_⟩
    try simp only [go_sem, reduceAdd]
    refine rows_app o hR (by omega) [(k : Int), (h : Int)] rfl (by show (LL.getD _ default).length + 1 ≤ maxL; simp only [maxL]; omega) fun X' o' H hX1 hR o => ?_
    try simp only [go_sem, AV.cells_one hX1]
    refine ⟨⟨hto.1, by omega⟩, st_cells o (by omega) rfl (by simp only [memcons, memnil]; exact ⟨hX1, trivial⟩) fun H o => ?_⟩
    simp only [wr_cons, wr_nil] at o
    try simp only [go_sem, w2]
    exact for_next (_, _, _) (by omega) ⟨o, hR, hI.hit hc.1 h1p h2p h3p⟩ rfl
   ·try simp only [go_sem, w2]
    exact for_next (_, _, _) (by omega) ⟨o, hR, hI.skip (of_ndecide h3)⟩ rfl
  ·have h2p := of_ndecide h2
   obtain rfl : h = c.frm.length := by omega
   try simp only [go_sem, w1]
   exact for_next (_, _, _) (by omega) ⟨o, hR, hI.next⟩ rfl
 ·have h1p := of_ndecide h1
  obtain rfl : k = os.length := by omega
  have hLl := hI.len
  try simp only [go_sem]
  refine wk_rows hR [] H o fun H o => wkW_done ?_
  rw [List.nil_append] at o
  clear hR
  try simp only [go_sem]
  refine fz_own (f := iLL) o (by omega) fun H o => ?_
  try simp only [go_sem, reduceAdd]
  refine (l02Own_ok B c).go fun _ => ?_
  try simp only [go_sem, reduceAdd, reduceLeDiff]
  refine ⟨by simp [maxL], newRef_own o fun id8 H o => ?_⟩
  try simp only [go_sem]
  refine stc o fun H o => ?_
  simp only [wr_cons, wr_nil, List.set_cons_zero, List.set_cons_succ] at o
  let st : AV → AV → MObj := fun x5 x6 => .cells 7 [iI c.objs, iL c.frm, iL c.to, iL c.idn, iLL c.comp, x5, x6] 0
  try simp only [go_sem]
  have hpre := free_pre hc hI.toFreeI (N := 160) (by have := Nat.mul_le_mul hos hm; omega)
  have hof := hI.of
  have hEx := hI.full
  clear hI
  refine awp_for [2, 4, 5, 8] (G := AV) (fun k X => [(9, some (.int .i64 (k : Int)))]) (fun k X H => LsO iI H0 H ((id8, st X .nilsl) :: [(id4, .cells 7 z7 0)]) X ((LL.take k).map fun l => (l.length : Int))) LL.length .nilsl (.inl ⟨rfl, rfl, o⟩) rfl ?_
  clear o
  rintro k X H hk hX
  try simp only [go_sem]
  refine ⟨fun h4 => At.mk ?_, fun h4 => At.mk ?_⟩
  ·have h4p := of_decide h4
   have w := wsucc (k := k) (by omega)
   try simp only [go_sem, reduceAdd]
   refine rd_get hX.obj (by simp [st]) ?_
   try simp only [go_sem, reduceAdd]
   refine ⟨h4p, ?_⟩
   refine hX.app ((LL.getD k default).length : Int) rfl (by simp only [List.length_map, List.length_take, maxL]; omega) fun idn H o => ?_
   have e5 : ((LL.take k).map fun l => (l.length : Int)) ++ [((LL.getD k default).length : Int)] = (LL.take (k + 1)).map fun l => (l.length : Int) := by rw [take_one LL h4p]; simp
   rw [e5] at o ⊢
   try simp only [go_sem, reduceAdd]
   refine stc o.swap fun H o => ?_
   simp only [wr_cons, wr_nil, List.set_cons_zero, List.set_cons_succ] at o
   try simp only [go_sem, w]
   exact for_next _ (by omega) (.inr ⟨idn, rfl, o.swap⟩) rfl
  ·have h4p := of_ndecide h4
   obtain rfl : k = LL.length := by omega
   rw [List.take_length] at hX
   obtain ⟨p5, o, hp5⟩ := hX.split
   have o : Owns H0 H ((id8, st X .nilsl) :: (p5 ++ [(id4, .cells 7 z7 0)])) := o.perm List.perm_middle
   clear hX
   try simp only [go_sem]
   refine awp_for [2, 4, 5, 8] (G := AV) (fun a Y => [(10, some (.int .i64 (a : Int)))]) (fun a Y H => LsO iL H0 H ((id8, st X Y) :: (p5 ++ [(id4, .cells 7 z7 0)])) Y ((List.range a).map (freeAct c LL))) c.frm.length .nilsl (.inl ⟨rfl, rfl, o⟩) rfl ?_
   clear o
   rintro a Y H ha hY
   replace hY : LsO iL H0 H ((id8, st X Y) :: (p5 ++ [(id4, .cells 7 z7 0)])) Y ((List.range a).map (freeAct c LL)) := hY
   try simp only [go_sem, reduceAdd, reduceLeDiff]
   refine ⟨fun h5 => At.mk ?_, fun h5 => At.mk ?_⟩
   ·have h5p := of_decide h5
    have w2 := wsucc (k := a) (by omega)
    have hfr := hc.1.frmObj (f := (a : Int)) (by simpa using h5p)
    have hto := hc.1.toObj (f := (a : Int)) (by simpa using h5p)
    rw [ix_nat] at hfr hto
    obtain ⟨q, o, hq⟩ := hY.split
    clear hY
    try simp only [go_sem]
    refine new_list iI o fun id11 H o => ?_
    try simp only [go_sem, reduceAdd, reduceLeDiff]
    refine ⟨h5p, ⟨hfr.1, by omega⟩, by omega, ⟨hto.1, by omega⟩, ?_⟩
    have eF : ix LL (c.frm.getD a default) = LL.getD (c.frm.getD a default).toNat default := rfl
    have eT : ix LL (c.to.getD a default) = LL.getD (c.to.getD a default).toNat default := rfl
    have hact : freeAct c LL a = (LL.getD (c.frm.getD a default).toNat default).map fun q => indexOf (LL.getD (c.to.getD a default).toNat default) [ix q 0, (ix c.comp (ix q 1)).getD a default] := rfl
    have hofF := hof (c.frm.getD a default).toNat (by omega)
    rw [eF, eT]
    generalize hF : LL.getD (c.frm.getD a default).toNat default = F at *
    generalize hT : LL.getD (c.to.getD a default).toNat default = T at *
    have hFl : F.length ≤ 200 := by
     have := hpre.sz (F.length : Int) (List.mem_map.mpr ⟨F, by rw [← hF]; exact mem_getD.mpr ⟨_, by omega, rfl⟩, rfl⟩)
     omega
    refine awp_for [2, 4, 5, 8, 10, 12, 13] (G := Nat × List Int) (fun e g => [(11, some (.buf g.1 g.2.length)), (14, some (.int .i64 (e : Int)))])
     (fun e g H => g.2 = (F.take e).map (fun q => indexOf T [ix q 0, (ix c.comp (ix q 1)).getD a default]) ∧ Owns H0 H ((g.1, .cells 1 (g.2.map iI) 0) :: (q ++ ((id8, st X Y) :: (p5 ++ [(id4, .cells 7 z7 0)]))))) F.length (id11, []) ⟨by simp, o⟩ rfl ?_
    clear o
    rintro e ⟨id11, row⟩ H he ⟨hrow, o⟩
    replace hrow : row = (F.take e).map (fun q => indexOf T [ix q 0, (ix c.comp (ix q 1)).getD a default]) := hrow
    replace o : Owns H0 H ((id11, .cells 1 (row.map iI) 0) :: (q ++ ((id8, st X Y) :: (p5 ++ [(id4, .cells 7 z7 0)])))) := o
    have hrl : row.length = e := by rw [hrow, List.length_map, List.length_take]; omega
    try simp only [go_sem]
    refine ⟨fun h6 => At.mk ?_, fun h6 => At.mk ?_⟩
    ·have h6p := of_decide h6
     have w3 := wsucc (k := e) (by omega)
     obtain ⟨i, j, eq, hi, hj, _, _⟩ := hofF (F.getD e default) (mem_getD.mpr ⟨e, h6p, rfl⟩)
     have e0 : ix (F.getD e default) 0 = (i : Int) := by rw [eq]; rfl
     have e1 : ix (F.getD e default) 1 = (j : Int) := by rw [eq]; rfl
     have el : (F.getD e default).length = 2 := by rw [eq]; rfl
     have hcl := hc.1.cl
     have hrw := hc.1.row' (a := (j : Int)) (by simpa using hj)
     try simp only [go_sem, reduceAdd]
     refine ⟨h6p, ⟨by omega, by rw [el]; decide⟩, h6p, ⟨by omega, by rw [el]; decide⟩, ?_⟩
     rw [e0, e1]
     refine ⟨_, (l02Then_ok B c (j : Int) (a : Int) ⟨by omega, by rw [Int.toNat_natCast, hcl]; exact hj⟩ ⟨by omega, by rw [hrw]; simpa using h5p⟩).run, ?_⟩
     try simp only [go_sem, reduceAdd]
     refine ⟨_, (l05Place_ok B T [(i : Int), (ix c.comp (j : Int)).getD a default]).run, ?_⟩
     try simp only [go_sem, reduceAdd]
     refine app_own (indexOf T [(i : Int), (ix c.comp (j : Int)).getD a default]) o rfl rfl (by simp only [maxL]; omega) fun id11 H o => ?_
     try simp only [go_sem, w3]
     refine for_next (_, _) (by omega) ⟨?_, o⟩ rfl
     rw [take_one F h6p, List.map_append, ← hrow, List.map_cons, List.map_nil, e0, e1]
    ·have h6p := of_ndecide h6
     obtain rfl : e = F.length := by omega
     rw [List.take_length, ← hact] at hrow
     try simp only [go_sem]
     refine fz_own o rfl fun H o => ?_
     have hY := LsO.mk o hq
     clear o
     try simp only [go_sem, reduceAdd]
     refine rd_get hY.obj (by simp [st]) ?_
     try simp only [go_sem, reduceAdd]
     have e7 : (List.range a).map (freeAct c LL) ++ [row] = (List.range (a + 1)).map (freeAct c LL) := by rw [map_range_succ, hrow]
     refine hY.app row rfl (by simp only [List.length_map, List.length_range, maxL]; omega) fun idn H o => ?_
     try simp only [go_sem, reduceAdd]
     refine stc o.swap fun H o => ?_
     simp only [wr_cons, wr_nil, List.set_cons_zero, List.set_cons_succ] at o
     have hY : LsO iL H0 H ((id8, st X (.buf idn ((List.range a).map (freeAct c LL) ++ [row]).length)) :: (p5 ++ [(id4, .cells 7 z7 0)])) (.buf idn ((List.range a).map (freeAct c LL) ++ [row]).length) ((List.range a).map (freeAct c LL) ++ [row]) := .inr ⟨idn, rfl, o.swap⟩
     generalize (AV.buf idn ((List.range a).map (freeAct c LL) ++ [row]).length) = Y' at hY
     rw [e7] at hY
     try simp only [go_sem, w2]
     exact for_next Y' (by omega) hY rfl
   ·have h5p := of_ndecide h5
    obtain rfl : a = c.frm.length := by omega
    try simp only [go_sem]
    refine wk_ls 6 hY rfl fun H o => ?_
    simp only [List.set_cons_zero, List.set_cons_succ] at o
    have hX := LsO.mk (o.perm List.perm_middle.symm) hp5
    clear o
    refine wk_ls 5 hX rfl fun H o => wkW_done ?_
    simp only [List.set_cons_zero, List.set_cons_succ] at o
    try simp only [go_sem]
    refine rd_celln o (by simp) ?_
    try simp only [go_sem]
    refine stc o.swap fun H o => ?_
    simp only [wr_cons, wr_nil, List.set_cons_zero, List.set_cons_succ] at o
    try simp only [go_sem]
    have hr := o.rc 7 0 (by simp)
    simp only [List.drop_zero] at hr
    rw [hr]
    exact pure_ret (by rw [freeQ, ← hEx]; rfl) o.sub
end Go.Proofs.Shf
namespace Go.Proofs.Shf
open Go.AW Go.Proofs Go.Shf
def QuotQ (c : Cat) (q : QS) (CC : List (List Int)) (r : AV) : Prop := ∃ A : List (List Int), r = .agg (SF.cells ⟨c, CC.map mxL, A⟩) ∧ A.length = c.frm.length ∧ (∀ a : Nat, a < c.frm.length → ((A.getD a default).length : Int) = mxL (ix CC (ix c.frm (a : Int)))) ∧
 ∀ a : Nat, a < c.frm.length → ∀ e : Nat, e < (memC c q.v (ix c.frm (a : Int))).length → ix (A.getD a default) ((ix CC (ix c.frm (a : Int))).getD e default) = ix (ix CC (ix c.to (a : Int))) (actP c q.v a e)
theorem l21Quot_ok (B : Nat) (c : Cat) (h : c.Is) (q : QS) (hq : q.Ok c) (CC : List (List Int)) (s : SpI c q CC) (hcl : ∀ a : Nat, a < c.frm.length → ClosedA c q CC a) : Rets B 241 [.agg [iI c.objs, iL c.frm, iL c.to, iL c.idn, iLL c.comp, iL (freeQ c q.v).sizes, iLL (freeQ c q.v).acts], iLL CC] (QuotQ c q CC) := by
 intro H0
 refine c241p (by simp) fun _ => ?_
 unfold s241p
 have o : Owns H0 H0 [] := .nil _
 have ho := h.1.o
 have hm := h.1.m
 have htl := h.1.tol
 have hCl := s.len
 have hb160 := pairsC_bound h hq
 have hml : ∀ y : Int, (memC c q.v y).length ≤ 160 := fun y => Nat.le_trans (List.length_filter_le _ _) hb160
 have hmx : ∀ y : Nat, y < c.objs.toNat → (0 ≤ mxL (CC.getD y default) ∧ mxL (CC.getD y default) ≤ ((memC c q.v y).length : Int)) ∧ ∀ v, v ∈ CC.getD y default → v < mxL (CC.getD y default) := fun y hy => mxL_bd (by omega) (s.ran hy)
 try simp only [go_sem, reduceAdd]
 refine ⟨by simp [maxL], newRef_own o fun id4 H o => ?_⟩
 try simp only [go_sem, reduceAdd, reduceLeDiff]
 refine (l02Own_ok B c).go fun _ => ?_
 try simp only [go_sem, reduceAdd, reduceLeDiff]
 refine ⟨by simp [maxL], newRef_own o fun id5 H o => ?_⟩
 try simp only [go_sem]
 refine stc o fun H o => ?_
 simp only [wr_cons, wr_nil, List.set_cons_zero, List.set_cons_succ] at o
 let st : AV → AV → MObj := fun x5 x6 => .cells 7 [iI c.objs, iL c.frm, iL c.to, iL c.idn, iLL c.comp, x5, x6] 0
 try simp only [go_sem]
 refine awp_for [1, 2, 4, 5] (G := AV) (fun i X => [(6, some (.int .i64 (i : Int)))]) (fun i X H => LsO iI H0 H ((id5, st X .nilsl) :: [(id4, .cells 7 z7 0)]) X ((CC.take i).map mxL)) CC.length .nilsl (.inl ⟨rfl, rfl, o⟩) rfl ?_
 clear o
 rintro i X H hi hX
 try simp only [go_sem]
 refine ⟨fun h1 => At.mk ?_, fun h1 => At.mk ?_⟩
 ·have h1p : i < CC.length := of_decide h1
  have w1 := wsucc (k := i) (by omega)
  have hrl := s.row (y := i) (by omega)
  have hran := s.ran (y := i) (by omega)
  have hmi := hml i
  try simp only [go_sem]
  refine awp_for [1, 2, 4, 5, 6] (fun d _ => [(7, some (iI (mxL ((CC.getD i default).take d)))), (8, some (.int .i64 (d : Int)))])
   (fun d _ H => LsO iI H0 H ((id5, st X .nilsl) :: [(id4, .cells 7 z7 0)]) X ((CC.take i).map mxL)) (CC.getD i default).length () hX rfl ?_
  clear hX
  rintro d _ H hd hX
  try simp only [go_sem]
  refine ⟨h1p, ?_⟩
  refine ⟨fun h2 => At.mk ?_, fun h2 => At.mk ?_⟩
  ·have h2p : d < (CC.getD i default).length := of_decide h2
   have w2 := wsucc (k := d) (by omega)
   have hv := hran _ (mem_getD.mpr ⟨d, h2p, rfl⟩)
   have w3 : IntKind.i64.wrap ((CC.getD i default).getD d default + 1) = (CC.getD i default).getD d default + 1 := wrap_i64 (by omega) (by omega)
   try simp only [go_sem, ↓reduceIte]
   refine ⟨h1p, ?_⟩
   refine ⟨h2p, ?_⟩
   try simp only [go_sem, w3, w2]
   exact for_next () h2p hX (by rw [mxL_succ _ h2p])
  ·have h2p := of_ndecide h2
   have ed : d = (CC.getD i default).length := by omega
   rw [ed, List.take_length]
   try simp only [go_sem, reduceAdd]
   refine rd_get hX.obj (by simp [st]) ?_
   try simp only [go_sem, reduceAdd]
   refine hX.app (mxL (CC.getD i default)) rfl (by simp only [List.length_map, List.length_take, maxL]; omega) fun idn H o => ?_
   have e5 : ((CC.take i).map mxL) ++ [mxL (CC.getD i default)] = (CC.take (i + 1)).map mxL := by rw [take_one CC h1p]; simp
   rw [e5] at o ⊢
   try simp only [go_sem, reduceAdd]
   refine stc o.swap fun H o => ?_
   simp only [wr_cons, wr_nil, List.set_cons_zero, List.set_cons_succ] at o
   try simp only [go_sem, w1]
   exact for_next _ h1p (.inr ⟨idn, rfl, o.swap⟩) rfl
 have h1p := of_ndecide h1
 have ei : i = CC.length := by omega
 rw [ei, List.take_length] at hX
 try simp only [go_sem]
 refine wk_ls 5 hX rfl fun H o => wkW_done ?_
 simp only [List.set_cons_zero, List.set_cons_succ] at o
 have hrow : ∀ x : Int, 0 ≤ x ∧ x < c.objs → (ix CC x).length = (memC c q.v x).length := fun x hx => by
  have := s.row (y := x.toNat) (by omega)
  rw [Int.toNat_of_nonneg hx.1] at this
  exact this
 have hfl : (freeQ c q.v).acts.length = c.frm.length := by simp [freeQ, freeF]
 try simp only [go_sem]
 refine awp_for [1, 2, 4, 5] (G := AV × List (List Int)) (fun a _ => [(9, some (.int .i64 (a : Int)))])
  (fun a g H => (g.2.length = a ∧ (∀ b : Nat, b < a → ((g.2.getD b default).length : Int) = mxL (ix CC (ix c.frm (b : Int)))) ∧
   ∀ b : Nat, b < a → ∀ e : Nat, e < (memC c q.v (ix c.frm (b : Int))).length → ix (g.2.getD b default) ((ix CC (ix c.frm (b : Int))).getD e default) = ix (ix CC (ix c.to (b : Int))) (actP c q.v b e)) ∧
   LsO iL H0 H ((id5, st (iL (CC.map mxL)) g.1) :: [(id4, .cells 7 z7 0)]) g.1 g.2) c.frm.length (.nilsl, []) ⟨⟨rfl, by intro b hb; omega, by intro b hb; omega⟩, .inl ⟨rfl, rfl, o⟩⟩ rfl ?_
 clear o
 rintro a ⟨Y, A⟩ H ha ⟨⟨hA1, hA2, hA3⟩, hY⟩
 dsimp only at hA1 hA2 hA3 hY
 try simp only [go_sem, reduceAdd, reduceLeDiff, hfl]
 refine ⟨fun h3 => At.mk ?_, fun h3 => At.mk ?_⟩
 ·have h3p : a < c.frm.length := of_decide h3
  have w3 := wsucc (k := a) (by omega)
  have haI : 0 ≤ (a : Int) ∧ ((a : Int)).toNat < c.frm.length := by omega
  have hfr := h.1.frmObj haI.2
  have hto := h.1.toObj haI.2
  have hrx := hrow _ hfr
  have hry := hrow _ hto
  have hax := freeQ_act (os := q.v) h h3p
  rw [ix_nat] at hfr hto hrx hry
  obtain ⟨x, hx⟩ : ∃ x : Nat, c.frm.getD a default = x := ⟨_, (Int.toNat_of_nonneg hfr.1).symm⟩
  obtain ⟨y, hy⟩ : ∃ y : Nat, c.to.getD a default = y := ⟨_, (Int.toNat_of_nonneg hto.1).symm⟩
  have hix : ix c.frm (a : Int) = (x : Int) := by rw [ix_nat, hx]
  have hiy : ix c.to (a : Int) = (y : Int) := by rw [ix_nat, hy]
  rw [hx] at hfr hrx
  rw [hy] at hto hry
  have hxl : x < CC.length := by omega
  have hyl : y < CC.length := by omega
  rw [ix_nat] at hrx hry
  have hmxx := hmx x (by omega)
  have hmlx := hml (x : Int)
  obtain ⟨n, hn⟩ : ∃ n : Nat, mxL (CC.getD x default) = n := ⟨_, (Int.toNat_of_nonneg hmxx.1.1).symm⟩
  have hszx : (CC.map mxL).getD x default = n := by rw [map_getD _ hxl, hn]
  try simp only [go_sem, reduceAdd, reduceLeDiff]
  refine ⟨h3p, by omega, ?_⟩
  rw [hx, hy]
  refine rd_get hY.obj (by simp [st]) ?_
  try simp only [go_sem]
  refine ⟨by simpa using hxl, ?_⟩
  rw [hszx]
  try simp only [go_sem]
  refine ⟨⟨by omega, by simp only [maxL]; omega⟩, ?_⟩
  obtain ⟨p, o, hp⟩ := hY.split
  refine mks_list iI 0 rfl o fun idr H o => ?_
  clear hY
  try simp only [go_sem]
  refine awp_for [1, 2, 4, 5, 9, 10, 11, 12] (G := List Int) (fun d _ => [(13, some (.int .i64 (d : Int)))])
   (fun d row H => (row.length = n ∧ ∀ e : Nat, e < d → ix row ((CC.getD x default).getD e default) = ix (CC.getD y default) (actP c q.v a e)) ∧
    Owns H0 H ((idr, .cells 1 (row.map iI) 0) :: (p ++ ((id5, st (iL (CC.map mxL)) Y) :: [(id4, .cells 7 z7 0)])))) (CC.getD x default).length (List.replicate n 0) ⟨⟨by simp, by intro e he; omega⟩, o⟩ rfl ?_
  clear o
  rintro d row H hd ⟨⟨hr1, hr2⟩, o⟩
  try simp only [go_sem]
  refine ⟨hxl, ?_⟩
  refine ⟨fun h4 => At.mk ?_, fun h4 => At.mk ?_⟩
  ·have h4p : d < (CC.getD x default).length := of_decide h4
   have w4 := wsucc (k := d) (by omega)
   have hdm : d < (memC c q.v (ix c.frm (a : Int))).length := by rw [hix]; omega
   have hv := s.ran (y := x) (by omega) _ (mem_getD.mpr ⟨d, h4p, rfl⟩)
   have hv2 := hmxx.2 _ (mem_getD.mpr ⟨d, h4p, rfl⟩)
   have hap := (actP_in h haI hdm).1
   rw [hiy] at hap
   have hact : ((freeQ c q.v).acts.getD a default).getD d default = actP c q.v a d := by rw [hax, getD_map_range _ _ hdm]
   have hacl : ((freeQ c q.v).acts.getD a default).length = (CC.getD x default).length := by rw [hax, List.length_map, List.length_range, hix]; omega
   try simp only [go_sem, reduceAdd, reduceLeDiff]
   refine ⟨hxl, ?_⟩
   refine ⟨h4p, ?_⟩
   refine ⟨hyl, ?_⟩
   refine ⟨by rw [hfl]; exact h3p, ?_⟩
   refine ⟨by rw [hacl]; exact h4p, ?_⟩
   rw [hact]
   refine ⟨⟨hap.1, by omega⟩, ?_⟩
   refine ⟨⟨hv.1, by omega⟩, ?_⟩
   refine set_own (f := iI) (ix (CC.getD y default) (actP c q.v a d)) o rfl (by omega) fun H o => ?_
   try simp only [go_sem, w4]
   refine for_next (row.set ((CC.getD x default).getD d default).toNat (ix (CC.getD y default) (actP c q.v a d))) h4p ⟨⟨by rw [List.length_set]; exact hr1, fun e he => ?_⟩, o⟩ rfl
   have hin : InR row.length ((CC.getD x default).getD d default) := ⟨hv.1, by omega⟩
   by_cases ec : (CC.getD x default).getD e default = (CC.getD x default).getD d default
   ·rw [ec, ix_set_same (j := row) hin]
    have := hcl a h3p d e hdm (by rw [hix]; omega) (by rw [hix, ix_nat]; exact ec.symm)
    rw [hiy, ix_nat] at this
    exact this
   ·have hve := s.ran (y := x) (by omega) _ (mem_getD.mpr ⟨e, by omega, rfl⟩)
    rw [ix_set_other hv.1 hve.1 ec]
    by_cases ed : e = d
    ·subst ed; exact absurd rfl ec
    ·exact hr2 e (by omega)
  ·have h4p := of_ndecide h4
   have ed : d = (CC.getD x default).length := by omega
   try simp only [go_sem]
   refine fz_own o hr1.symm fun H o => ?_
   have hY := LsO.mk o hp
   clear o
   try simp only [go_sem, reduceAdd]
   refine rd_get hY.obj (by simp [st]) ?_
   try simp only [go_sem, reduceAdd]
   refine hY.app row rfl (by simp only [maxL]; omega) fun idn H o => ?_
   try simp only [go_sem, reduceAdd]
   refine stc o.swap fun H o => ?_
   simp only [wr_cons, wr_nil, List.set_cons_zero, List.set_cons_succ] at o
   try simp only [go_sem, w3]
   have hL : ∀ b, b < a → (A ++ [row]).getD b default = A.getD b default := fun b hb => by
    rw [List.getD_eq_getElem?_getD, List.getElem?_append_left (by omega), ← List.getD_eq_getElem?_getD]
   have hR : (A ++ [row]).getD a default = row := by
    rw [List.getD_eq_getElem?_getD, List.getElem?_append_right (by omega), hA1, Nat.sub_self]; rfl
   have hN2 : ∀ b : Nat, b < a + 1 → (((A ++ [row]).getD b default).length : Int) = mxL (ix CC (ix c.frm (b : Int))) := fun b hb => by
    by_cases e : b < a
    ·rw [hL b e]; exact hA2 b e
    ·have eb : b = a := by omega
     rw [eb, hR, hix, ix_nat, hn]; omega
   have hN3 : ∀ b : Nat, b < a + 1 → ∀ e : Nat, e < (memC c q.v (ix c.frm (b : Int))).length → ix ((A ++ [row]).getD b default) ((ix CC (ix c.frm (b : Int))).getD e default) = ix (ix CC (ix c.to (b : Int))) (actP c q.v b e) := fun b hb e he => by
    by_cases eb : b < a
    ·rw [hL b eb]; exact hA3 b eb e he
    ·have eb : b = a := by omega
     rw [eb] at he ⊢
     rw [hix] at he
     rw [hR, hix, hiy, ix_nat, ix_nat]
     exact hr2 e (by omega)
   exact for_next (.buf idn (A ++ [row]).length, A ++ [row]) h3p ⟨⟨by simp [hA1], hN2, hN3⟩, .inr ⟨idn, rfl, o.swap⟩⟩ rfl
 have h3p := of_ndecide h3
 have ea : a = c.frm.length := by omega
 rw [ea] at hA1 hA2 hA3
 refine wk_ls 6 hY rfl fun H o => wkW_done ?_
 simp only [List.set_cons_zero, List.set_cons_succ] at o
 try simp only [go_sem]
 refine rd_celln o (by simp) ?_
 try simp only [go_sem]
 refine stc o.swap fun H o => ?_
 simp only [wr_cons, wr_nil, List.set_cons_zero, List.set_cons_succ] at o
 try simp only [go_sem]
 have hr := o.rc 7 0 (by simp)
 simp only [List.drop_zero] at hr
 rw [hr]
 exact rets_ret ⟨A, rfl, hA1, hA2, hA3⟩ o.sub
theorem l21Made_ok (B : Nat) (f : SF) : Pur Tryz.prog B 242 [.agg f.cells] (iI (if ∀ y, y ∈ f.sizes → y < 17 then 0 else 3)) := by
 refine ⟨fun H0 => c242 (by simp) fun ⟨hf, _⟩ => ?_⟩
 have hl := fine_mL_le (hf.agg (c := iL f.sizes) (by simp [SF.cells]))
 simp only [maxL] at hl
 unfold s242
 try simp only [go_sem, reduceAdd]
 refine awp_for [1] (fun k _ => [(3, some (.int .i64 (k : Int)))]) (fun k _ H => H = H0 ∧ ∀ i, i < k → f.sizes.getD i default < 17) f.sizes.length () ⟨rfl, by simp⟩ rfl ?_
 rintro k _ H hk ⟨rfl, hall⟩
 try simp only [go_sem, reduceAdd, reduceLeDiff]
 refine ⟨fun h1 => At.mk ?_, fun h1 => At.mk ?_⟩
 ·have h1p : k < f.sizes.length := of_decide h1
  have w1 := wsucc (k := k) (by omega)
  try simp only [go_sem, reduceAdd, reduceLeDiff]
  refine ⟨h1p, ?_⟩
  refine ⟨fun h2 => At.mk ?_, fun h2 => At.mk ?_⟩
  ·have h2p : 16 < f.sizes.getD k default := of_decide h2
   try simp only [go_sem]
   refine pure_ret ?_ (.refl _)
   rw [if_neg fun h => by have := h _ (mem_getD.mpr ⟨k, h1p, rfl⟩); omega]
  ·have h2p : ¬ 16 < f.sizes.getD k default := of_ndecide h2
   try simp only [go_sem, w1]
   exact for_next () h1p ⟨rfl, fun i hi => by
    by_cases e : i = k
    ·subst e; omega
    ·exact hall i (by omega)⟩ rfl
 ·have h1p := of_ndecide h1
  try simp only [go_sem]
  refine pure_ret ?_ (.refl _)
  rw [if_pos fun y hy => by obtain ⟨i, hi, rfl⟩ := mem_getD.mp hy; exact hall i (by omega)]
end Go.Proofs.Shf
namespace Go.Proofs.Shf
open Go.AW Go.Proofs Go.Shf
def SpCanQ (c : Cat) (q : QS) (r : AV) : Prop := ∃ G : SF, r = .tup [.agg G.cells, iL (genT c q (clsQ c q)), .bool (dec (FitQ c q))] ∧ (FitQ c q → CanonOk c q G (clsQ c q))
theorem moved_less {l m : List Int} {M : List (List Int)} (hl : m.length = l.length) (hg : Glued (pairsOf l ++ M) m) {r : List Int} (hr : r ∈ M) {u v : Int} (e : r = [u, v]) (hu : 0 ≤ u ∧ u.toNat < l.length) (hv : 0 ≤ v ∧ v.toNat < l.length) (h1 : ix l u ≠ ix l v) : uneq m < uneq l :=
 glued_less hl hu hv h1 fun p hp => hg p (by
  rcases List.mem_append.mp hp with hp | hp
  ·exact List.mem_append_left _ hp
  ·rw [List.mem_singleton] at hp
   subst hp; subst e
   exact List.mem_append_right _ hr)
theorem l38Canon_ok (B : Nat) (c : Cat) (h : c.Is) (q : QS) (hq : q.Ok c) : Rets B 119 [.agg c.cells, .agg q.cells] (SpCanQ c q) := by
 intro H0
 refine c119p (by simp) fun _ => ?_
 unfold s119p
 have o : Owns H0 H0 [] := .nil _
 have ho := h.1.o
 have hm := h.1.m
 have htl := h.1.tol
 have hl6 := hq.l6
 have hrl := hq.rl
 have hb160 := pairsC_bound h hq
 have hml : ∀ y : Int, (memC c q.v y).length ≤ 160 := fun y => Nat.le_trans (List.length_filter_le _ _) hb160
 have hfl : (freeQ c q.v).acts.length = c.frm.length := by simp [freeQ, freeF]
 have hfs : ∀ x : Nat, x < c.objs.toNat → (freeQ c q.v).sizes.getD x default = ((memC c q.v (x : Int)).length : Int) ∧ x < (freeQ c q.v).sizes.length := fun x hx => by
  have := freeQ_size (c := c) (os := q.v) (y := (x : Int)) (by omega)
  rw [ix_nat] at this
  exact ⟨this, by simp [freeQ, freeF, LLC]; omega⟩
 try simp only [go_sem, reduceAdd]
 refine ⟨by simp [maxL], newRef_own o fun id4 H o => ?_⟩
 try simp only [go_sem, reduceAdd, reduceLeDiff]
 refine (l19FreeX_ok B c h q.v hq.v4).go fun _ => ?_
 try simp only [go_sem, reduceAdd]
 refine ⟨by simp [maxL], newRef_own o fun id7 H o => ?_⟩
 try simp only [go_sem]
 refine stc o fun H o => ?_
 simp only [wr_cons, wr_nil, List.set_cons_zero, List.set_cons_succ] at o
 try simp only [go_sem]
 refine wk_ref 7 o rfl fun H o => wkW_done ?_
 try simp only [go_sem]
 refine new_list iL o fun id8 H o => ?_
 try simp only [go_sem]
 refine awp_for [2, 3, 4, 7] (G := Nat × List (List Int)) (fun x g => [(8, some (.buf g.1 g.2.length)), (9, some (.int .i64 (x : Int)))])
  (fun x g H => g.2 = (List.range x).map (fun y : Nat => joinL (memC c q.v y).length (cpN c q y q.l.length)) ∧ Owns H0 H [(g.1, .cells 1 (g.2.map iL) 0), (id4, .cells 7 z7 0)]) c.objs.toNat (id8, []) ⟨rfl, o⟩ rfl ?_
 clear o
 rintro x ⟨id8, CC⟩ H hx ⟨hCC, o⟩
 dsimp only at hCC o
 have hCl : CC.length = x := by rw [hCC]; simp
 try simp only [go_sem, reduceAdd, reduceLeDiff]
 refine ⟨fun h1 => At.mk ?_, fun h1 => At.mk ?_⟩
 ·have h1p : (x : Int) < c.objs := of_decide h1
  have hxo : x < c.objs.toNat := by omega
  have w1 := wsucc (k := x) (by omega)
  try simp only [go_sem]
  refine new_list iL o fun id10 H o => ?_
  try simp only [go_sem]
  refine awp_for [2, 3, 4, 7, 8, 9] (G := Nat × List (List Int)) (fun i g => [(10, some (.buf g.1 g.2.length)), (11, some (.int .i64 (i : Int)))])
   (fun i g H => g.2 = cpN c q x i ∧ Owns H0 H [(g.1, .cells 1 (g.2.map iL) 0), (id8, .cells 1 (CC.map iL) 0), (id4, .cells 7 z7 0)]) q.l.length (id10, []) ⟨rfl, o⟩ rfl ?_
  clear o
  rintro i ⟨id10, P⟩ H hi ⟨hPP, o⟩
  dsimp only at hPP o
  have hPl : P.length ≤ i := by rw [hPP]; exact cpN_len _ _
  try simp only [go_sem, reduceAdd, reduceLeDiff]
  refine ⟨fun h2 => At.mk ?_, fun h2 => At.mk ?_⟩
  ·have h2p : i < q.l.length := of_decide h2
   have w2 := wsucc (k := i) (by omega)
   obtain ⟨hta, htb, htab⟩ := hq.cond i h2p
   have hta2 := hta.2.1
   try simp only [go_sem, reduceAdd, reduceLeDiff]
   refine ⟨prE_at h2p, ?_⟩
   rw [prE_get h2p]
   try simp only [go_sem, reduceAdd, reduceLeDiff]
   refine ⟨⟨hta2.1, by omega⟩, ?_⟩
   by_cases e : ix c.to (q.l.getD i default).2 = x
   ·rw [decide_eq_true e]
    try simp only [go_sem, reduceAdd, reduceLeDiff]
    refine ⟨prE_at h2p, ?_⟩
    rw [prE_get h2p]
    try simp only [go_sem, reduceAdd, reduceLeDiff]
    refine ⟨_, (l38Pair_ok B c h q hq.v4 _ hta).run, ?_⟩
    refine ⟨prE_at (by omega), ?_⟩
    rw [prE_get (show i < q.r.length by omega)]
    try simp only [go_sem, reduceAdd]
    refine ⟨_, (l38Pair_ok B c h q hq.v4 _ htb).run, ?_⟩
    try simp only [go_sem, reduceAdd]
    refine app_own [posC c q.v (q.l.getD i default), posC c q.v (q.r.getD i default)] o rfl rfl (by simp only [maxL]; omega) fun z H o => ?_
    try simp only [go_sem, w2]
    exact for_next (z, P ++ [[posC c q.v (q.l.getD i default), posC c q.v (q.r.getD i default)]]) h2p ⟨by rw [hPP, cpN_t e], o⟩ rfl
   ·rw [decide_eq_false e]
    try simp only [go_sem, w2]
    exact for_next (id10, P) h2p ⟨by rw [hPP, cpN_f e], o⟩ rfl
  have h2p := of_ndecide h2
  have ei : i = q.l.length := by omega
  rw [ei] at hPP
  try simp only [go_sem]
  refine fz_own o rfl fun H o => ?_
  try simp only [go_sem, reduceAdd, reduceLeDiff]
  refine ⟨(hfs x hxo).2, ?_⟩
  rw [(hfs x hxo).1]
  refine (join_pok B (memC c q.v x).length (by have := hml x; omega) P fun r hr => ?_).go fun _ => ?_
  ·rw [hPP] at hr
   obtain ⟨i, hi, e1, e2, t1, t2, rfl⟩ := mem_cpN hq hr
   have p1 := (posC_in t1).1
   have p2 := (posC_in t2).1
   rw [e1] at p1
   rw [e2] at p2
   exact ⟨by simp, p1, p2⟩
  try simp only [go_sem, reduceAdd]
  refine app_own (joinL (memC c q.v x).length P) o rfl rfl (by simp only [maxL]; omega) fun z H o => ?_
  try simp only [go_sem, w1]
  exact for_next (z, CC ++ [joinL (memC c q.v x).length P]) hxo ⟨by rw [hCC, map_range_succ, hPP], o⟩ rfl
 have h1p : ¬ (x : Int) < c.objs := of_ndecide h1
 have ex : x = c.objs.toNat := by omega
 rw [ex] at hCC
 have hS : SpI c q CC := by rw [hCC]; exact SpI.start h hq
 clear hCC
 try simp only [go_sem]
 rw [hS.len]
 refine awp_while [2, 3, 4, 7, 8] (G := Bool × List (List Int)) (fun g => [(12, some (.bool g.1))])
  (fun m g H => (m = pot g.2 + (if g.1 = true then 1 else 0) ∧ SpI c q g.2 ∧ (g.1 = false → ∀ a : Nat, a < c.frm.length → ClosedA c q g.2 a)) ∧ Owns H0 H [(id8, .cells 1 (g.2.map iL) 0), (id4, .cells 7 z7 0)])
  (pot CC + 1) (true, CC) ⟨⟨by simp, hS, by simp⟩, o⟩ rfl ?_
 clear o hS hCl
 rintro m ⟨more, CC⟩ H ⟨⟨hmm, hS, hcl⟩, o⟩
 dsimp only at hmm hS hcl o
 have hCl := hS.len
 cases more
 rotate_left 1
 ·try simp only [go_sem]
  obtain ⟨P0, hP0⟩ : ∃ P0, P0 = pot CC := ⟨_, rfl⟩
  rw [← hP0] at hmm
  refine awp_for [2, 3, 4, 7, 8] (G := Bool × List (List Int)) (fun a g => [(12, some (.bool g.1)), (13, some (.int .i64 (a : Int)))])
   (fun a g H => (pot g.2 ≤ P0 ∧ (g.1 = true → pot g.2 < P0) ∧ SpI c q g.2 ∧ (g.1 = false → ∀ b : Nat, b < a → ClosedA c q g.2 b)) ∧ Owns H0 H [(id8, .cells 1 (g.2.map iL) 0), (id4, .cells 7 z7 0)]) c.frm.length (false, CC)
   ⟨⟨by simp [hP0], by simp, hS, by intro _ b hb; omega⟩, o⟩ rfl ?_
  clear o hcl
  rintro a ⟨more, CC⟩ H ha ⟨⟨hp1, hp2, hS, hcl⟩, o⟩
  dsimp only at hp1 hp2 hS hcl o
  have hCl := hS.len
  try simp only [go_sem, reduceAdd, reduceLeDiff, hfl]
  refine ⟨fun h2 => At.mk ?_, fun h2 => At.mk ?_⟩
  ·have h2p : a < c.frm.length := of_decide h2
   have w2 := wsucc (k := a) (by omega)
   have haI : 0 ≤ (a : Int) ∧ ((a : Int)).toNat < c.frm.length := by omega
   have hfr := h.1.frmObj haI.2
   have hto := h.1.toObj haI.2
   have hax := freeQ_act (os := q.v) h h2p
   rw [ix_nat] at hfr hto
   obtain ⟨x, hx⟩ : ∃ x : Nat, c.frm.getD a default = x := ⟨_, (Int.toNat_of_nonneg hfr.1).symm⟩
   obtain ⟨y, hy⟩ : ∃ y : Nat, c.to.getD a default = y := ⟨_, (Int.toNat_of_nonneg hto.1).symm⟩
   have hix : ix c.frm (a : Int) = (x : Int) := by rw [ix_nat, hx]
   have hiy : ix c.to (a : Int) = (y : Int) := by rw [ix_nat, hy]
   rw [hx] at hfr
   rw [hy] at hto
   have hxl : x < CC.length := by omega
   have hyl : y < CC.length := by omega
   have hrx := hS.row (y := x) (by omega)
   have hry := hS.row (y := y) (by omega)
   have hmlx := hml (x : Int)
   have hmly := hml (y : Int)
   have hacl : ((freeQ c q.v).acts.getD a default).length = (CC.getD x default).length := by rw [hax, List.length_map, List.length_range, hix]; omega
   have hact : ∀ d, d < (CC.getD x default).length → ((freeQ c q.v).acts.getD a default).getD d default = actP c q.v a d ∧ 0 ≤ actP c q.v a d ∧ (actP c q.v a d).toNat < (CC.getD y default).length := fun d hd => by
    have hdm : d < (memC c q.v (ix c.frm (a : Int))).length := by rw [hix]; omega
    have := (actP_in h haI hdm).1
    rw [hiy] at this
    exact ⟨by rw [hax, getD_map_range _ _ hdm], this.1, by omega⟩
   try simp only [go_sem, reduceAdd, reduceLeDiff]
   refine ⟨h2p, by omega, ?_⟩
   rw [hx, hy]
   refine new_list iL o fun id16 H o => ?_
   try simp only [go_sem]
   refine awp_for [2, 3, 4, 7, 8, 12, 13, 14, 15] (G := Nat × List (List Int)) (fun e g => [(16, some (.buf g.1 g.2.length)), (17, some (.int .i64 (e : Int)))])
    (fun e g H => ((∀ r, r ∈ g.2 → MovedOk c q CC a r ∧ ∃ u v : Int, r = [u, v] ∧ (0 ≤ u ∧ u.toNat < (CC.getD y default).length) ∧ (0 ≤ v ∧ v.toNat < (CC.getD y default).length) ∧ ix (CC.getD y default) u ≠ ix (CC.getD y default) v) ∧
     (g.2 = [] → ∀ d, d < e → ix (CC.getD y default) (actP c q.v a (indexOf (CC.getD x default) ((CC.getD x default).getD d default)).toNat) = ix (CC.getD y default) (actP c q.v a d)) ∧ g.2.length ≤ e) ∧
     Owns H0 H [(g.1, .cells 1 (g.2.map iL) 0), (id8, .cells 1 (CC.map iL) 0), (id4, .cells 7 z7 0)]) (CC.getD x default).length (id16, []) ⟨⟨by simp, by intro _ d hd; omega, by simp⟩, o⟩ rfl ?_
   clear o
   rintro e ⟨id16, M⟩ H he ⟨⟨hM1, hM2, hM3⟩, o⟩
   dsimp only at hM1 hM2 hM3 o
   try simp only [go_sem]
   refine ⟨by omega, rd_own o.swap hxl ?_⟩
   try simp only [go_sem]
   refine ⟨fun h3 => At.mk ?_, fun h3 => At.mk ?_⟩
   ·have h3p : e < (CC.getD x default).length := of_decide h3
    have w3 := wsucc (k := e) (by omega)
    have hf := indexOf_in (l := CC.getD x default) (a := (CC.getD x default).getD e default) (mem_getD.mpr ⟨e, h3p, rfl⟩)
    obtain ⟨f, hff⟩ : ∃ f : Nat, indexOf (CC.getD x default) ((CC.getD x default).getD e default) = f := ⟨_, (Int.toNat_of_nonneg hf.1).symm⟩
    rw [hff] at hf
    have hfx : f < (CC.getD x default).length := by simpa using hf.2.1
    have hfe : (CC.getD x default).getD f default = (CC.getD x default).getD e default := by have := hf.2.2; rwa [ix_nat] at this
    obtain ⟨a1, a2, a3⟩ := hact f hfx
    obtain ⟨b1, b2, b3⟩ := hact e h3p
    try simp only [go_sem]
    refine ⟨by omega, rd_own o.swap hxl ?_⟩
    try simp only [go_sem]
    refine ⟨by omega, rd_own o.swap hxl ?_⟩
    try simp only [go_sem, reduceAdd, reduceLeDiff]
    refine ⟨h3p, ?_⟩
    refine ⟨_, (l01Index_ok B _ _).run, ?_⟩
    rw [hff]
    try simp only [go_sem, reduceAdd, reduceLeDiff]
    refine ⟨by rw [hfl]; exact h2p, ?_⟩
    refine ⟨by rw [hacl]; exact hfx, ?_⟩
    rw [a1]
    refine ⟨by rw [hfl]; exact h2p, ?_⟩
    refine ⟨by rw [hacl]; exact h3p, ?_⟩
    rw [b1]
    refine ⟨by omega, rd_own o.swap hyl ?_⟩
    try simp only [go_sem]
    refine ⟨⟨a2, a3⟩, ?_⟩
    refine ⟨by omega, rd_own o.swap hyl ?_⟩
    try simp only [go_sem]
    refine ⟨⟨b2, b3⟩, ?_⟩
    by_cases hne : ix (CC.getD y default) (actP c q.v a f) = ix (CC.getD y default) (actP c q.v a e)
    ·rw [decide_eq_true hne]
     try simp only [go_sem, w3]
     refine for_next (id16, M) h3p ⟨⟨hM1, fun hM d hd => ?_, Nat.le_succ_of_le hM3⟩, o⟩ rfl
     by_cases ed : d = e
     ·subst ed; rw [hff]; exact hne
     ·exact hM2 hM d (by omega)
    ·rw [decide_eq_false hne]
     try simp only [go_sem, reduceAdd]
     refine app_own [actP c q.v a f, actP c q.v a e] o rfl rfl (by simp only [maxL]; omega) fun z H o => ?_
     try simp only [go_sem, w3]
     refine for_next (z, M ++ [[actP c q.v a f, actP c q.v a e]]) h3p ⟨⟨fun r hr => ?_, fun hM => by simp at hM, by rw [List.length_append]; simp only [List.length_cons, List.length_nil]; omega⟩, o⟩ rfl
     rcases List.mem_append.mp hr with hr | hr
     ·exact hM1 r hr
     ·rw [List.mem_singleton] at hr
      subst hr
      exact ⟨⟨f, e, by rw [hix]; omega, by rw [hix]; omega, by rw [hix, ix_nat]; exact hfe, rfl⟩, _, _, rfl, ⟨a2, a3⟩, ⟨b2, b3⟩, hne⟩
   have h3p := of_ndecide h3
   have ee : e = (CC.getD x default).length := by omega
   rw [ee] at hM2 hM3
   try simp only [go_sem]
   refine fz_own o rfl fun H o => ?_
   try simp only [go_sem]
   by_cases hMn : M = []
   ·have hc : ClosedA c q CC a := fun d d' hd hd' hdd => by
     rw [hix] at hd hd' hdd
     rw [ix_nat] at hdd
     rw [hiy, ix_nat]
     have e1 := hM2 hMn d (by omega)
     have e2 := hM2 hMn d' (by omega)
     rw [hdd] at e1
     exact e1.symm.trans e2
    have hc2 : more = false → ∀ b : Nat, b < a + 1 → ClosedA c q CC b := fun hb b hbl => by
     by_cases eb : b = a
     ·rw [eb]; exact hc
     ·exact hcl hb b (by omega)
    rw [decide_eq_false (show ¬ (0 : Int) < (M.length : Int) by rw [hMn]; simp)]
    try simp only [go_sem, w2]
    exact for_next (more, CC) h2p ⟨⟨hp1, hp2, hS, hc2⟩, o⟩ rfl
   ·have hMp : 0 < M.length := List.length_pos_iff.mpr hMn
    rw [decide_eq_true (show (0 : Int) < (M.length : Int) by omega)]
    obtain ⟨hS2, hgl, hpo⟩ := hS.step h hq haI fun r hr => (hM1 r hr).1
    rw [hiy] at hS2 hgl hpo
    rw [ix_nat] at hS2 hgl hpo
    obtain ⟨r0, hr0⟩ : ∃ r, r ∈ M := List.exists_mem_of_ne_nil _ hMn
    obtain ⟨u, v, er, hu, hv, huv⟩ := (hM1 r0 hr0).2
    have hless := moved_less (by rw [joinL_len, hry]) hgl hr0 er hu hv huv
    have hpot := pot_set CC y _ hyl hless
    have hpl : (pairsOf (CC.getD y default)).length = (CC.getD y default).length := by rw [pairsOf, List.length_map, List.length_range]
    try simp only [go_sem, reduceAdd, reduceLeDiff]
    refine ⟨(hfs y (by omega)).2, ?_⟩
    rw [(hfs y (by omega)).1]
    refine ⟨by omega, rd_own o hyl ?_⟩
    try simp only [go_sem]
    refine (l01Pairs_own B (CC.getD y default) _ _ _ o).own fun idp A H o hA => ?_
    subst hA
    try simp only [go_sem]
    refine app_list (f := iL) (r := M) o rfl (by simp only [maxL]; omega) fun idp H o => ?_
    try simp only [go_sem]
    refine call_fz 1 rfl o rfl fun H o => ?_
    refine (join_pok B (memC c q.v y).length (by omega) (pairsOf (CC.getD y default) ++ M) hpo).go fun _ => ?_
    try simp only [go_sem]
    refine ⟨by omega, set_own (f := iL) (joinL (memC c q.v y).length (pairsOf (CC.getD y default) ++ M)) o rfl hyl fun H o => ?_⟩
    try simp only [go_sem, w2]
    exact for_next (true, _) h2p ⟨⟨Nat.le_trans (Nat.le_of_lt hpot) hp1, fun _ => Nat.lt_of_lt_of_le hpot hp1, hS2, by simp⟩, o⟩ rfl
  ·have h2p := of_ndecide h2
   have ea : a = c.frm.length := by omega
   rw [ea] at hcl
   try simp only [go_sem]
   cases more
   ·exact while_next (pot CC) (false, CC) (by simp at hmm; omega) ⟨⟨by simp, hS, hcl⟩, o⟩ rfl
   ·have := hp2 rfl
    exact while_next (pot CC + 1) (true, CC) (by simp at hmm; omega) ⟨⟨by simp, hS, by simp⟩, o⟩ rfl
 ·have hcl := hcl rfl
  have hCC := fun y (hy : y < c.objs.toNat) => hS.done h hq hcl hy
  try simp only [go_sem]
  refine fz_own o (by omega) fun H o => ?_
  try simp only [go_sem, reduceAdd]
  have hsz : CC.map mxL = szQ c q := by
   refine List.ext_getElem (by simp [szQ, sizesC]; omega) fun y h1 h2 => ?_
   have hyC : y < CC.length := by simpa using h1
   have hyo : y < c.objs.toNat := by omega
   have := hCC y hyo
   simp only [szQ, sizesC, List.getElem_map, List.getElem_range]
   rw [← this]
   simp [List.getD_eq_getElem?_getD, hyC]
  refine (l21Quot_ok B c h q hq CC hS hcl).go fun r _ ⟨A, e, hA1, hA2, hA3⟩ => ?_
  subst e
  rw [hsz]
  have hgl : (genT c q (clsQ c q)).length = q.v.length := by simp [genT]
  have hil := h.1.il
  try simp only [go_sem]
  refine new_list iI o fun id22 H o => ?_
  try simp only [go_sem, reduceAdd]
  refine ⟨by simp [maxL], newRef_own o fun id21 H o => ?_⟩
  try simp only [go_sem]
  refine stc o fun H o => ?_
  simp only [wr_cons, wr_nil, List.set_cons_zero, List.set_cons_succ] at o
  try simp only [go_sem]
  refine wk_ref 21 o rfl fun H o => wkW_done ?_
  try simp only [go_sem]
  refine awp_for [2, 3, 4, 8, 21] (G := Nat × List Int) (fun k g => [(22, some (.buf g.1 g.2.length)), (23, some (.int .i64 (k : Int)))])
   (fun k g H => g.2 = (genT c q (clsQ c q)).take k ∧ Owns H0 H [(g.1, .cells 1 (g.2.map iI) 0), (id4, .cells 7 z7 0)]) q.v.length (id22, []) ⟨by simp, o⟩ rfl ?_
  clear o
  rintro k ⟨id22, out⟩ H hk ⟨hout, o⟩
  dsimp only at hout o
  have hv4 := hq.v4
  try simp only [go_sem, reduceAdd, reduceLeDiff]
  refine ⟨fun h5 => At.mk ?_, fun h5 => At.mk ?_⟩
  ·have h5p : k < q.v.length := of_decide h5
   have w5 := wsucc (k := k) (by omega)
   have hvk := hq.vo _ (mem_getD.mpr ⟨k, h5p, rfl⟩)
   obtain ⟨hid, hidt⟩ := id_term h hq (i := (k : Int)) ⟨by omega, by simpa using h5p⟩
   rw [ix_nat] at hid hidt
   have hpc := (posC_in hid).1
   rw [hidt] at hpc
   have hrv := hS.row (y := (q.v.getD k default).toNat) (by omega)
   rw [Int.toNat_of_nonneg hvk.1] at hrv
   have hval : ix (ix CC (q.v.getD k default)) (posC c q.v ((k : Int), ix c.idn (q.v.getD k default))) = clsQ c q ((k : Int), ix c.idn (q.v.getD k default)) := by
    have h1 := cls_pos (R := RQ c q) hid
    simp only at h1
    rw [hidt] at h1
    have h2 := hCC (q.v.getD k default).toNat (by omega)
    rw [Int.toNat_of_nonneg hvk.1] at h2
    rw [show ix CC (q.v.getD k default) = classL (labC c q.v (RQ c q) (q.v.getD k default)) from h2]; exact h1
   try simp only [go_sem, reduceAdd, reduceLeDiff]
   refine ⟨h5p, ?_⟩
   refine ⟨⟨hvk.1, by omega⟩, ?_⟩
   refine ⟨⟨hvk.1, by omega⟩, ?_⟩
   refine ⟨_, (l38Pair_ok B c h q hq.v4 ((k : Int), ix c.idn (q.v.getD k default)) hid).run, ?_⟩
   try simp only [go_sem, reduceAdd]
   refine ⟨⟨hpc.1, by have : (ix CC (q.v.getD k default)).length = (memC c q.v (q.v.getD k default)).length := hrv; omega⟩, ?_⟩
   rw [hval]
   refine app_own (clsQ c q ((k : Int), ix c.idn (q.v.getD k default))) o rfl rfl (by rw [hout, List.length_take]; simp only [maxL]; omega) fun z H o => ?_
   try simp only [go_sem, w5]
   refine for_next (z, out ++ [clsQ c q ((k : Int), ix c.idn (q.v.getD k default))]) h5p ⟨?_, o⟩ rfl
   rw [hout, take_one _ (by omega)]
   congr 2
   rw [genT, getD_map_range _ _ h5p]
  have h5p := of_ndecide h5
  have ek : k = q.v.length := by omega
  rw [ek, ← hgl, List.take_length] at hout
  subst hout
  have hz0 : ∀ y, y ∈ szQ c q → 0 ≤ y := fun y hy => by
   rw [← hsz] at hy
   obtain ⟨l, hl, rfl⟩ := List.mem_map.mp hy
   obtain ⟨i, hi, rfl⟩ := mem_getD.mp hl
   exact (mxL_bd (N := ((memC c q.v (i : Int)).length : Int)) (by omega) (hS.ran (by omega))).1.1
  try simp only [go_sem, reduceAdd]
  refine ⟨_, (l21Made_ok B ⟨c, szQ c q, A⟩).run, ?_⟩
  have hbf : decide ((if ∀ y, y ∈ szQ c q → y < 17 then (0 : Int) else 3) = 0) = dec (FitQ c q) := by
   by_cases hz : FitQ c q
   ·rw [dec_t hz, if_pos fun y hy => (hz y hy).2]; rfl
   ·rw [dec_f hz, if_neg fun hh => hz fun y hy => ⟨hz0 y hy, hh y hy⟩]; rfl
  try simp only [go_sem]
  rw [hbf]
  refine stc o.swap fun H o => ?_
  simp only [wr_cons, wr_nil, List.set_cons_zero, List.set_cons_succ] at o
  try simp only [go_sem]
  refine fz_own o.swap rfl fun H o => ?_
  try simp only [go_sem]
  have hr := o.rc 7 0 (by simp)
  simp only [List.drop_zero] at hr
  rw [hr]
  exact rets_ret ⟨⟨c, szQ c q, A⟩, rfl, fun hz => canon_quot h hq hCC hz hA1 hA2 hA3⟩ o.sub
end Go.Proofs.Shf
namespace Go.Proofs.Shf
open Go.AW Go.Proofs Go.Shf
open Classical in
/-- The canonical set functor of a query that fits. -/
noncomputable def GQ (c : Cat) (p : QS) : SF := if h : ∃ G, CanonOk c p G (clsQ c p) then Classical.choose h else default
theorem GQ_eq {c : Cat} {p : QS} (h : c.Is) {G : SF} (k : CanonOk c p G (clsQ c p)) : G = GQ c p := by
 have hex : ∃ G, CanonOk c p G (clsQ c p) := ⟨G, k⟩
 rw [GQ, dif_pos hex]
 exact k.uniq h (Classical.choose_spec hex)
abbrev TyOk (p q : QS) : Prop := thenT p.o p.v = thenT q.o q.v
noncomputable def rowG (c : Cat) (p : QS) : List Int := thenT p.o (genT c p (clsQ c p))
open Classical in
noncomputable def conC (c : Cat) (p q : QS) : Int := if c.Is ∧ p.Ok c ∧ q.Ok c then (if TyOk p q then (if FitQ c p ∧ prodT (szT (GQ c p) q.v) ≤ 4096 then 0 else 3) else 5) else 1
def ConB (c : Cat) (p q : QS) : Prop := conC c p q = 0 ∧ ∃ s, s ∈ solQ (GQ c p) q ∧ thenT q.o s = rowG c p
theorem conB_f {c : Cat} {p q : QS} {k : Int} (e : conC c p q = k) (hk : k ≠ 0) : dec (ConB c p q) = false := dec_f fun h => hk (e.symm.trans h.1)
theorem conC_0 {c : Cat} {p q : QS} (e : conC c p q = 0) : (c.Is ∧ p.Ok c ∧ q.Ok c) ∧ TyOk p q ∧ FitQ c p ∧ prodT (szT (GQ c p) q.v) ≤ 4096 := by
 unfold conC at e
 split at e
 ·split at e
  ·split at e
   ·exact ⟨‹_›, ‹_›, ‹_›⟩
   ·simp at e
  ·simp at e
 ·simp at e
theorem isContained_ok (B : Nat) (c : Cat) (p q : QS) : Pur Tryz.prog B 44 [.agg c.cells, .agg p.cells, .agg q.cells] (.tup [.bool (dec (ConB c p q)), iI (conC c p q)]) := by
 refine ⟨fun H0 => c44p (by simp) fun _ => ?_⟩
 unfold s44p
 have o : Owns H0 H0 [] := .nil _
 try simp only [go_sem, reduceAdd]
 refine (areQueries_ok B c [p, q]).go fun _ => ?_
 by_cases hI : c.Is ∧ p.Ok c ∧ q.Ok c
 rotate_left 1
 ·have e1 : conC c p q = 1 := by rw [conC, if_neg hI]
  rw [dec_f (show ¬ (c.Is ∧ ∀ x : QS, x ∈ [p, q] → x.Ok c) from fun hh => hI ⟨hh.1, hh.2 p (by simp), hh.2 q (by simp)⟩)]
  try simp only [go_sem]
  exact pure_ret (by rw [conB_f e1 (by decide), e1]) (.refl _)
 have hI' := hI
 obtain ⟨h, hp, hq⟩ := hI'
 rw [dec_t (show c.Is ∧ ∀ x : QS, x ∈ [p, q] → x.Ok c from ⟨h, fun x hx => by simp only [List.mem_cons, List.not_mem_nil, or_false] at hx; rcases hx with rfl | rfl <;> assumption⟩)]
 try simp only [go_sem, reduceAdd, reduceLeDiff]
 refine ⟨_, (then_ok B p.o p.v fun y hy => by have := hp.ov y hy; omega).run, ?_⟩
 refine ⟨_, (then_ok B q.o q.v fun y hy => by have := hq.ov y hy; omega).run, ?_⟩
 refine ⟨_, (same_ok B (thenT p.o p.v) (thenT q.o q.v)).run, ?_⟩
 by_cases hT : TyOk p q
 rotate_left 1
 ·have e1 : conC c p q = 5 := by rw [conC, if_pos hI, if_neg hT]
  rw [dec_f hT]
  try simp only [go_sem]
  exact pure_ret (by rw [conB_f e1 (by decide), e1]) (.refl _)
 rw [dec_t hT]
 try simp only [go_sem]
 refine (canonical_own B c h p hp _).mono ?_
 rintro r H (⟨rfl, hnf, o⟩ | ⟨A, ido, idc, ks, vs, rfl, hfit, hG, hC, o⟩)
 ·have e1 : conC c p q = 3 := by rw [conC, if_pos hI, if_pos hT, if_neg fun h => hnf h.1]
  try simp only [go_sem, reduceAdd, reduceLT]
  exact pure_ret (by rw [conB_f e1 (by decide), e1]) o.sub
 have hGQ := GQ_eq h hG
 have hGI := hG.is h
 try simp only [go_sem, reduceAdd, reduceLT]
 refine wk_ref 8 o rfl fun H o => wkW_done ?_
 try simp only [go_sem, reduceAdd, reduceLeDiff]
 refine (solutions_ok B ⟨c, szQ c p, A⟩ hGI q hq).go fun _ => ?_
 by_cases hP : prodT (szT ⟨c, szQ c p, A⟩ q.v) ≤ 4096
 rotate_left 1
 ·have e1 : conC c p q = 3 := by rw [conC, if_pos hI, if_pos hT, if_neg fun h => hP (by rw [hGQ]; exact h.2)]
  rw [decide_eq_false hP, if_neg hP]
  try simp only [go_sem, reduceAdd, reduceLT]
  exact pure_ret (by rw [conB_f e1 (by decide), e1]) o.sub
 have e1 : conC c p q = 0 := by rw [conC, if_pos hI, if_pos hT, if_pos ⟨hfit, by rw [← hGQ]; exact hP⟩]
 rw [decide_eq_true hP, if_pos hP]
 have hsl := solK_len ⟨c, szQ c p, A⟩ q (prodT (szT ⟨c, szQ c p, A⟩ q.v)).toNat
 rw [solK_all] at hsl
 have hgl : (genT c p (clsQ c p)).length = p.v.length := by simp [genT]
 try simp only [go_sem, reduceAdd, reduceLeDiff, reduceLT]
 refine (generic_ptr B c h p hp hC o.h0).mono ?_
 rintro r H' ⟨rfl, rfl⟩
 refine ⟨.refl _, ?_⟩
 refine ⟨_, (then_ok B p.o (genT c p (clsQ c p)) fun y hy => by have := hp.ov y hy; omega).run, ?_⟩
 refine awp_for [5, 11, 49, 50] (fun k _ => [(51, some (.int .i64 (k : Int)))]) (fun k _ H => H0.sub H ∧ ∀ i, i < k → thenT q.o ((solQ ⟨c, szQ c p, A⟩ q).getD i default) ≠ rowG c p) (solQ ⟨c, szQ c p, A⟩ q).length () ⟨o.sub, by intro i hi; omega⟩ rfl ?_
 clear o
 rintro k _ H hk ⟨hs, hall⟩
 try simp only [go_sem]
 refine ⟨fun h1 => At.mk ?_, fun h1 => At.mk ?_⟩
 ·have h1p : k < (solQ ⟨c, szQ c p, A⟩ q).length := of_decide h1
  have w1 := wsucc (k := k) (by omega)
  have hil := (((mem_solQ hGI hq).mp (mem_getD.mpr ⟨k, h1p, rfl⟩)).1).len
  rw [szT_len] at hil
  try simp only [go_sem, reduceAdd, reduceLeDiff]
  refine ⟨h1p, ?_⟩
  refine (then_ok B q.o _ fun y hy => by have := hq.ov y hy; omega).go fun _ => ?_
  try simp only [go_sem]
  refine (same_ok B (thenT q.o ((solQ ⟨c, szQ c p, A⟩ q).getD k default)) (rowG c p)).go fun _ => ?_
  by_cases h2 : thenT q.o ((solQ ⟨c, szQ c p, A⟩ q).getD k default) = rowG c p
  ·rw [dec_t h2]
   try simp only [go_sem]
   exact pure_ret (by rw [dec_t ⟨e1, _, by rw [← hGQ]; exact mem_getD.mpr ⟨k, h1p, rfl⟩, h2⟩, e1]) hs
  ·rw [dec_f h2]
   try simp only [go_sem, w1]
   exact for_next () h1p ⟨hs, fun i hi => by
    by_cases e : i = k
    ·subst e; exact h2
    ·exact hall i (by omega)⟩ rfl
 ·have h1p := of_ndecide h1
  have ek : k = (solQ ⟨c, szQ c p, A⟩ q).length := by omega
  try simp only [go_sem]
  refine pure_ret ?_ hs
  rw [e1, dec_f]
  rintro ⟨_, s, hs, e⟩
  rw [← hGQ] at hs
  obtain ⟨i, hi, rfl⟩ := mem_getD.mp hs
  exact hall i (by omega) e
theorem indexOf_no {α : Type} [DecidableEq α] {l : List α} {a : α} (h : a ∉ l) : indexOf l a < 0 := by
 unfold indexOf
 rw [List.idxOf?_eq_none_iff.mpr h]
 decide
theorem specIsContained_ok (B : Nat) (c : Cat) (p q : QS) : Pur Tryz.prog B 45 [.agg c.cells, .agg p.cells, .agg q.cells] (.tup [.bool (dec (ConB c p q)), iI (conC c p q)]) := by
 refine ⟨fun H0 => c45p (by simp) fun _ => ?_⟩
 unfold s45p
 have o : Owns H0 H0 [] := .nil _
 try simp only [go_sem, reduceAdd]
 refine (specIsQuery_ok B c p).go fun _ => ?_
 by_cases h1 : c.Is ∧ p.Ok c
 rotate_left 1
 ·have e1 : conC c p q = 1 := by rw [conC, if_neg fun hh => h1 ⟨hh.1, hh.2.1⟩]
  rw [dec_f h1]
  try simp only [go_sem]
  exact pure_ret (by rw [conB_f e1 (by decide), e1]) (.refl _)
 rw [dec_t h1]
 try simp only [go_sem, reduceAdd]
 refine (specIsQuery_ok B c q).go fun _ => ?_
 by_cases h2 : c.Is ∧ q.Ok c
 rotate_left 1
 ·have e1 : conC c p q = 1 := by rw [conC, if_neg fun hh => h2 ⟨hh.1, hh.2.2⟩]
  rw [dec_f h2]
  try simp only [go_sem]
  exact pure_ret (by rw [conB_f e1 (by decide), e1]) (.refl _)
 rw [dec_t h2]
 obtain ⟨h, hp⟩ := h1
 have hq := h2.2
 have hI : c.Is ∧ p.Ok c ∧ q.Ok c := ⟨h, hp, hq⟩
 try simp only [go_sem, reduceAdd, reduceLeDiff]
 refine ⟨_, (l01Then_ok B p.o p.v fun y hy => by have := hp.ov y hy; omega).run, ?_⟩
 refine ⟨_, (l01Then_ok B q.o q.v fun y hy => by have := hq.ov y hy; omega).run, ?_⟩
 refine ⟨_, (l01Same_ok B (thenT p.o p.v) (thenT q.o q.v)).run, ?_⟩
 by_cases hT : TyOk p q
 rotate_left 1
 ·have e1 : conC c p q = 5 := by rw [conC, if_pos hI, if_neg hT]
  rw [dec_f hT]
  try simp only [go_sem]
  exact pure_ret (by rw [conB_f e1 (by decide), e1]) (.refl _)
 rw [dec_t hT]
 try simp only [go_sem, reduceAdd]
 refine (l38Canon_ok B c h p hp).go fun r _ ⟨G, e, hG⟩ => ?_
 subst e
 try simp only [go_sem, reduceAdd, reduceLT]
 refine ⟨by simp [maxL], newRef_own o fun id8 H o => ?_⟩
 try simp only [go_sem]
 refine stc o fun H o => ?_
 simp only [wr_cons, wr_nil, List.set_cons_zero, List.set_cons_succ] at o
 try simp only [go_sem]
 refine wk_ref 8 o rfl fun H o => wkW_done ?_
 try simp only [go_sem]
 by_cases hfit : FitQ c p
 rotate_left 1
 ·have e1 : conC c p q = 3 := by rw [conC, if_pos hI, if_pos hT, if_neg fun h => hfit h.1]
  rw [dec_f hfit]
  try simp only [go_sem]
  exact pure_ret (by rw [conB_f e1 (by decide), e1]) o.sub
 rw [dec_t hfit]
 replace hG := hG hfit
 have hGQ := GQ_eq h hG
 have hGI := hG.is h
 have hqG : q.Ok G.shape := by rw [hG.sh]; exact hq
 have hgl : (genT c p (clsQ c p)).length = p.v.length := by simp [genT]
 try simp only [go_sem, reduceAdd]
 refine (l38Fits_ok B G hGI q hqG).go fun _ => ?_
 by_cases hP : prodT (szT G q.v) ≤ 4096
 rotate_left 1
 ·have e1 : conC c p q = 3 := by rw [conC, if_pos hI, if_pos hT, if_neg fun h => hP (by rw [hGQ]; exact h.2)]
  rw [dec_f hP]
  try simp only [go_sem]
  exact pure_ret (by rw [conB_f e1 (by decide), e1]) o.sub
 have e1 : conC c p q = 0 := by rw [conC, if_pos hI, if_pos hT, if_pos ⟨hfit, by rw [← hGQ]; exact hP⟩]
 rw [dec_t hP]
 try simp only [go_sem, reduceAdd, reduceLeDiff]
 refine ⟨_, (l38Rows_ok B G hGI q hqG hP).run, ?_⟩
 refine ⟨_, (l01Then_ok B p.o (genT c p (clsQ c p)) fun y hy => by have := hp.ov y hy; omega).run, ?_⟩
 refine ⟨_, (l05Place_ok B (rowsQ G q) (rowG c p)).run, ?_⟩
 try simp only [go_sem]
 refine pure_ret ?_ o.sub
 rw [e1]
 by_cases hr : rowG c p ∈ rowsQ G q
 ·obtain ⟨s, hs, e⟩ := (mem_rowsQ hGI hqG).mp hr
  rw [dec_t ⟨e1, s, by rw [← hGQ]; exact hs, e⟩, decide_eq_true (indexOf_in hr).1]
 ·rw [dec_f fun hh => hr ((mem_rowsQ hGI hqG).mpr (by obtain ⟨_, s, hs, e⟩ := hh; exact ⟨s, by rw [hGQ]; exact hs, e⟩)), decide_eq_false (by have := indexOf_no hr; omega)]
end Go.Proofs.Shf
namespace Go.AW
theorem app_ownF {α : Type} {n : Nat} {f : α → AV} [h : AggN n f] {H0 H : Heap} {l : List (Nat × MObj)} {K : Kont} {id m fr : Nat} {out : List α} (a : α) {v : AV} (o : Owns H0 H ((id, .cells n (flat (out.map f)) fr) :: l)) (hv : v = f a) (hn : m = out.length) (hm : (out.length + 1) * n ≤ maxL)
  (hk : ∀ id' H', Owns H0 H' ((id', .cells n (flat ((out ++ [a]).map f)) fr) :: l) → K (.buf id' (out ++ [a]).length) H') :
  appW n (some (.buf id m)) (some (.sl [v])) K H := by
 subst hv hn
 have h0 := o.h0
 simp only at h0
 have h2 := h.two
 simp only [appW, h0, srcOf, app2]
 have hle : out.length + 1 ≤ maxL := Nat.le_trans (Nat.le_mul_of_pos_right _ (by omega)) hm
 refine ⟨⟨trivial, flat_len out, hle, hm, okEls_mapN [a]⟩, fun id' hn => ?_⟩
 have := o.mv hn (.cells n (flat ((out ++ [a]).map f)) fr)
 have e : flat (out.map f) ++ flat [f a] = flat ((out ++ [a]).map f) := by rw [List.map_append, flat_app]; rfl
 rw [e]
 have := hk id' _ this
 simpa using this
theorem call_cell {P : Program} {B : Nat} {fn : FuncId} {args : List AV} {H H2 : Heap} {K : Kont} {cs : List AV} {X Y : AV} (t k : Nat) (ha : args[t]? = some (.agg cs)) (hc : cs[k]? = some X)
  (hw : ∀ g w, WRel g B H w → ∃ g', g.le g' ∧ WRel g' B H2 w ∧ ∀ v, VRel g' X v → VRel g' Y v) (hk : CallH P B fn (args.set t (.agg (cs.set k Y))) H2 K) : CallH P B fn args H K := by
 have ht : t < args.length := by
  rcases Nat.lt_or_ge t args.length with h | h
  ·exact h
  ·rw [List.getElem?_eq_none h] at ha; cases ha
 refine Wk.call (by simp) (fun g w vs hW hv => ?_) hk
 obtain ⟨g', q1, q2, q3⟩ := hw g w hW
 refine ⟨g', q1, q2, by rw [List.length_set]; exact hv.1, fun i hi => ?_⟩
 rw [List.length_set] at hi
 have hvi := hv.2 i hi
 by_cases e : i = t
 ·subst e
  have e1 : args.getD i nv = .agg cs := by rw [List.getD_eq_getElem?_getD, ha]; rfl
  have e2 : (args.set i (.agg (cs.set k Y))).getD i nv = .agg (cs.set k Y) := by simp [List.getD_eq_getElem?_getD, hi]
  rw [e1] at hvi
  rw [e2]
  generalize vs.getD i undef = v at hvi
  cases hvi with
  | agg _ us hs hus =>
   refine .agg _ us (by rw [List.length_set]; exact hs) fun j hj => ?_
   rw [List.length_set] at hj
   have hj2 := hus j hj
   by_cases e3 : j = k
   ·subst e3
    have e4 : cs.getD j nv = X := by rw [List.getD_eq_getElem?_getD, hc]; rfl
    have e5 : (cs.set j Y).getD j nv = Y := by simp [List.getD_eq_getElem?_getD, hj]
    rw [e4] at hj2
    rw [e5]; exact q3 _ (hj2.mono q1)
   ·have e5 : (cs.set k Y).getD j nv = cs.getD j nv := by
     rw [List.getD_eq_getElem?_getD, List.getElem?_set_ne (by omega), ← List.getD_eq_getElem?_getD]
    rw [e5]; exact hj2.mono q1
 ·have e2 : (args.set t (.agg (cs.set k Y))).getD i nv = args.getD i nv := by
   rw [List.getD_eq_getElem?_getD, List.getElem?_set_ne (by omega), ← List.getD_eq_getElem?_getD]
  rw [e2]; exact hvi.mono q1
def EmN {α : Type} (n : Nat) (f : α → AV) (p : List (Nat × MObj)) (X : AV) (A : List α) : Prop := (p = [] ∧ X = .emsl ∧ A = []) ∨ ∃ id fr, p = [(id, .cells n (flat (A.map f)) fr)] ∧ X = .buf id A.length
section
variable {α : Type} {n : Nat} {f : α → AV} [h : AggN n f] {H0 H : Heap} {l p : List (Nat × MObj)} {X : AV} {A : List α}
theorem EmN.app {K : Kont} (e : EmN n f p X A) (o : Owns H0 H (p ++ l)) (a : α) {v : AV} (hv : v = f a) (hm : (A.length + 1) * n ≤ maxL)
  (hk : ∀ id fr H', Owns H0 H' ((id, .cells n (flat ((A ++ [a]).map f)) fr) :: l) → K (.buf id (A ++ [a]).length) H') : appW n (some X) (some (.sl [v])) K H := by
 subst hv
 have h2 := h.two
 rcases e with ⟨rfl, rfl, rfl⟩ | ⟨id, fr, rfl, rfl⟩
 ·have hmn : n ≤ maxL := by simpa using hm
  simp only [appW, srcOf, app0, List.length_cons, List.length_nil, Nat.zero_add, Nat.one_mul]
  refine ⟨⟨by omega, by omega, hmn, okEls_mapN [a]⟩, newBuf_own o fun id H' o => hk id 0 H' o⟩
 ·exact app_ownF a o rfl rfl hm fun id H' o => hk id fr H' o
theorem EmN.lend {P : Program} {B : Nat} {fn : FuncId} {args : List AV} {K : Kont} {cs : List AV} (t k : Nat) (ha : args[t]? = some (.agg cs)) (hc : cs[k]? = some X) (e : EmN n f p X A) (o : Owns H0 H (p ++ l))
  (hk : ∀ p' H', EmN n f p' X A → Owns H0 H' (p' ++ l) → CallH P B fn (args.set t (.agg (cs.set k (mL f A)))) H' K) : CallH P B fn args H K := by
 rcases e with ⟨rfl, rfl, rfl⟩ | ⟨id, fr, rfl, rfl⟩
 ·refine call_cell t k ha hc (fun g w hW => ⟨g, .refl g, hW, fun v hv => ?_⟩) (hk [] H (.inl ⟨rfl, rfl, rfl⟩) o)
  cases hv; exact .slnil _ 0
 ·refine call_cell t k ha hc (fun g w hW => ?_) (hk [(id, .cells n (flat (A.map f)) (flat (A.map f)).length)] _ (.inr ⟨id, _, rfl, rfl⟩) (o.put _))
  obtain ⟨g', q1, q2, q3⟩ := hW.gaveVn (n := n) (f := f) (A := A) o.h0
  exact ⟨g', q1, q2, fun v hv => q3 g' v (.refl _) hv⟩
theorem wk_cellE {F : Env → Heap → Prop} {σ : Env} {id sz fr : Nat} {cs : List AV} (k : Nat) (e : EmN n f p X A) (o : Owns H0 H ((id, .cells sz cs fr) :: (p ++ l))) (hc : cs[k]? = some X)
  (hk : ∀ H', Owns H0 H' ((id, .cells sz (cs.set k (mL f A)) fr) :: l) → wkW F σ H') : wkW F σ H := by
 rcases e with ⟨rfl, rfl, rfl⟩ | ⟨id2, fr2, rfl, rfl⟩
 ·have h1 := o.h0
  simp only at h1
  refine wkW_step (σ1 := σ) ?_ (hk _ (o.put (.cells sz (cs.set k (mL f [])) fr)))
  intro g B w tm hW hE
  refine ⟨g, .refl g, hW.recell h1 (by simp) fun j v hj hv => ?_, hE⟩
  by_cases e : j = k
  ·subst e
   have e1 : cs.getD j nv = .emsl := by rw [List.getD_eq_getElem?_getD, hc]; rfl
   have e2 : (cs.set j (mL f ([] : List α))).getD j nv = mL f [] := by simp [List.getD_eq_getElem?_getD, hj]
   rw [e1] at hv
   rw [e2]; cases hv; exact .slnil _ 0
  ·have e2 : (cs.set k (mL f ([] : List α))).getD j nv = cs.getD j nv := by
    rw [List.getD_eq_getElem?_getD, List.getElem?_set_ne (by omega), ← List.getD_eq_getElem?_getD]
   rw [e2]; exact hv
 ·exact wk_cellN k o hc rfl hk
end
end Go.AW
namespace Go.Proofs.Shf
open Go.AW Go.Proofs Go.Shf
def CanD (r : AV) : Prop := ∃ (c : Cat) (p q : QS), r = .tup [.agg c.cells, .agg p.cells, .agg q.cells]
theorem drop3m {H0 H : Heap} {a b c d : Nat × MObj} {l : List (Nat × MObj)} (h : Owns H0 H (a :: b :: c :: d :: l)) : Owns H0 H (a :: c :: l) :=
 h.subl (((((List.Sublist.refl l).cons d).cons_cons c).cons b).cons_cons a)
theorem drawCon_ok (B : Nat) (code : List UInt8) : Rets B 43 [mL Go.AW.iB code] CanD := by
 intro H0
 refine c43p (by simp) fun _ => ?_
 unfold s43p
 have o : Owns H0 H0 [] := .nil _
 try simp only [go_sem, reduceAdd]
 refine newRef_own o fun id2 H o => ?_
 try simp only [go_sem, reduceAdd]
 refine newRef_own o fun id3 H o => ?_
 try simp only [go_sem, reduceAdd]
 refine newRef_own o fun id4 H o => ?_
 try simp only [go_sem]
 refine (l01From_ok B code _).mono' fun r H _ ⟨id, s, e, hs, o2⟩ => ?_
 subst e
 have o : Owns H0 H [(id, s.obj), (id4, _), (id3, _), (id2, _)] := o.trans o2
 try simp only [go_sem]
 refine (l19Base_ok B).go hs o fun r s H _ ⟨c, e⟩ hs o => ?_
 subst e
 try simp only [go_sem, reduceAdd]
 refine newRef_own o fun id6 H o => ?_
 try simp only [go_sem]
 refine stc o fun H o => ?_
 simp only [wr_cons, wr_nil, List.set_cons_zero, List.set_cons_succ] at o
 try simp only [go_sem]
 refine rd_celln o (by simp) ?_
 try simp only [go_sem]
 refine (l38Draw_ok B c).go hs o.swap fun r s H _ ⟨q, e⟩ hs o => ?_
 subst e
 try simp only [go_sem, reduceAdd]
 refine newRef_own o fun id7 H o => ?_
 try simp only [go_sem]
 refine stc o fun H o => ?_
 simp only [wr_cons, wr_nil, List.set_cons_zero, List.set_cons_succ] at o
 try simp only [go_sem]
 refine wk_ref 7 o rfl fun H o => wk_ref 6 o.swap rfl fun H o => wkW_done ?_
 try simp only [go_sem, reduceAdd]
 refine (l02Is_ok B c).go fun _ => ?_
 by_cases hc : c.Is
 rotate_left 1
 ·rw [dec_f hc]
  try simp only [go_sem, reduceAdd]
  refine (l38Draw_ok B c).go hs o fun r s H _ ⟨q2, e⟩ hs o => ?_
  subst e
  try simp only [go_sem]
  refine stc (up3 o) fun H o => ?_
  simp only [wr_cons, wr_nil, List.set_cons_zero, List.set_cons_succ] at o
  try simp only [go_sem]
  refine stc (up3 o) fun H o => ?_
  simp only [wr_cons, wr_nil, List.set_cons_zero, List.set_cons_succ] at o
  try simp only [go_sem]
  refine stc (up3 o) fun H o => ?_
  simp only [wr_cons, wr_nil, List.set_cons_zero, List.set_cons_succ] at o
  try simp only [go_sem]
  have hr2 := o.tl.tl.rc 5 0 (by simp)
  have hr3 := o.tl.rc 4 0 (by simp)
  have hr4 := o.rc 4 0 (by simp)
  simp only [List.drop_zero] at hr2 hr3 hr4
  rw [hr2, hr3, hr4]
  exact rets_ret ⟨c, q, q2, rfl⟩ o.sub
 rw [dec_t hc]
 try simp only [go_sem, reduceAdd]
 refine (specIsQuery_ok B c q).go fun _ => ?_
 by_cases hq : c.Is ∧ q.Ok c
 rotate_left 1
 ·rw [dec_f hq]
  try simp only [go_sem, reduceAdd]
  refine (l38Draw_ok B c).go hs o fun r s H _ ⟨q2, e⟩ hs o => ?_
  subst e
  try simp only [go_sem]
  refine stc (up3 o) fun H o => ?_
  simp only [wr_cons, wr_nil, List.set_cons_zero, List.set_cons_succ] at o
  try simp only [go_sem]
  refine stc (up3 o) fun H o => ?_
  simp only [wr_cons, wr_nil, List.set_cons_zero, List.set_cons_succ] at o
  try simp only [go_sem]
  refine stc (up3 o) fun H o => ?_
  simp only [wr_cons, wr_nil, List.set_cons_zero, List.set_cons_succ] at o
  try simp only [go_sem]
  have hr2 := o.tl.tl.rc 5 0 (by simp)
  have hr3 := o.tl.rc 4 0 (by simp)
  have hr4 := o.rc 4 0 (by simp)
  simp only [List.drop_zero] at hr2 hr3 hr4
  rw [hr2, hr3, hr4]
  exact rets_ret ⟨c, q, q2, rfl⟩ o.sub
 rw [dec_t hq]
 replace hq := hq.2
 have hl6 := hq.l6
 have hrl := hq.rl
 try simp only [go_sem]
 refine (l01Next_ok B 8).go hs o fun r s H _ ⟨x0, e, _⟩ hs o => ?_
 subst e
 try simp only [go_sem]
 refine ⟨fun h0 => At.mk ?_, fun h0 => At.mk ?_⟩
 rotate_left 1
 ·try simp only [go_sem, reduceAdd]
  refine (l38Draw_ok B c).go hs o fun r s H _ ⟨q2, e⟩ hs o => ?_
  subst e
  try simp only [go_sem]
  refine stc (up3 o) fun H o => ?_
  simp only [wr_cons, wr_nil, List.set_cons_zero, List.set_cons_succ] at o
  try simp only [go_sem]
  refine stc (up3 o) fun H o => ?_
  simp only [wr_cons, wr_nil, List.set_cons_zero, List.set_cons_succ] at o
  try simp only [go_sem]
  refine stc (up3 o) fun H o => ?_
  simp only [wr_cons, wr_nil, List.set_cons_zero, List.set_cons_succ] at o
  try simp only [go_sem]
  have hr2 := o.tl.tl.rc 5 0 (by simp)
  have hr3 := o.tl.rc 4 0 (by simp)
  have hr4 := o.rc 4 0 (by simp)
  simp only [List.drop_zero] at hr2 hr3 hr4
  rw [hr2, hr3, hr4]
  exact rets_ret ⟨c, q, q2, rfl⟩ o.sub
 try simp only [go_sem, reduceAdd, reduceLeDiff]
 refine ⟨_, (l01Own_ok B _).run, ?_⟩
 try simp only [go_sem, reduceAdd, reduceLeDiff]
 refine ⟨_, (l01Own_ok B _).run, ?_⟩
 try simp only [go_sem, reduceAdd]
 refine newRef_own o fun id8 H o => ?_
 try simp only [go_sem]
 refine stc o fun H o => ?_
 simp only [wr_cons, wr_nil, List.set_cons_zero, List.set_cons_succ] at o
 try simp only [go_sem]
 let T : List (Nat × MObj) := [(id4, .cells 4 [.nilsl, .nilsl, .nilsl, .nilsl] 0), (id3, .cells 4 [.nilsl, .nilsl, .nilsl, .nilsl] 0), (id2, .cells 5 [.int .i64 0, .nilsl, .nilsl, .nilsl, .nilsl] 0)]
 refine awp_for [2, 3, 4, 5, 6, 7, 8] (G := (AV × List (Nat × MObj) × List (Int × Int)) × (AV × List (Nat × MObj) × List (Int × Int)) × Src) (fun i _ => [(9, some (.int .i64 (i : Int)))])
  (fun i g H => g.2.2.Ok ∧ g.1.2.2.length ≤ i ∧ g.2.1.2.2.length ≤ i ∧ EmN 2 prE g.1.2.1 g.1.1 g.1.2.2 ∧ EmN 2 prE g.2.1.2.1 g.2.1.1 g.2.1.2.2 ∧
   Owns H0 H ((id, g.2.2.obj) :: (id8, .cells 4 [iL q.v, g.1.1, g.2.1.1, iL q.o] 0) :: (g.2.1.2.1 ++ (g.1.2.1 ++ T)))) q.l.length ((.emsl, [], []), (.emsl, [], []), s)
  ⟨hs, by simp, by simp, .inl ⟨rfl, rfl, rfl⟩, .inl ⟨rfl, rfl, rfl⟩, o.swap⟩ rfl ?_
 clear o hs
 rintro i ⟨⟨X, pL, L⟩, ⟨Y, pR, R⟩, s⟩ H hi ⟨hs, hLl, hRl, hX, hY, o⟩
 dsimp only at hs hLl hRl hX hY o
 try simp only [go_sem, reduceAdd, reduceLeDiff]
 refine ⟨fun h1 => At.mk ?_, fun h1 => At.mk ?_⟩
 ·have h1p : i < q.l.length := of_decide h1
  have w1 := wsucc (k := i) (by omega)
  try simp only [go_sem]
  refine (l01Next_ok B 2).go hs o fun r s H _ ⟨x1, e, _⟩ hs o => ?_
  subst e
  try simp only [go_sem]
  refine ⟨fun h2 => At.mk ?_, fun h2 => At.mk ?_⟩
  ·try simp only [go_sem, reduceAdd]
   refine rd_cells o.swap (by simp) ?_
   try simp only [go_sem, reduceAdd, reduceLeDiff]
   refine ⟨prE_at h1p, ?_⟩
   rw [prE_get h1p]
   try simp only [go_sem, reduceAdd]
   have o2 : Owns H0 H (pL ++ ((id8, .cells 4 [iL q.v, X, Y, iL q.o] 0) :: (id, s.obj) :: (pR ++ T))) := o.perm (permC fun x => by (try dsimp only); simp only [List.append_eq, List.count_append, List.count_cons, List.count_nil, List.map_nil, List.length_nil, List.length_append, List.length_cons, List.length_set, Nat.zero_add, List.nil_append, iI, iL]; omega)
   refine hX.app o2 (q.l.getD i default) rfl (by simp only [maxL]; omega) fun idL frL H o => ?_
   try simp only [go_sem, reduceAdd]
   refine stc o.swap fun H o => ?_
   simp only [wr_cons, wr_nil, List.set_cons_zero, List.set_cons_succ] at o
   try simp only [go_sem, reduceAdd]
   refine rd_cells o (by simp) ?_
   try simp only [go_sem, reduceAdd, reduceLeDiff]
   refine ⟨prE_at (by omega), ?_⟩
   rw [prE_get (show i < q.r.length by omega)]
   try simp only [go_sem, reduceAdd]
   have o2 : Owns H0 H (pR ++ ((id8, .cells 4 [iL q.v, .buf idL (L ++ [q.l.getD i default]).length, Y, iL q.o] 0) :: (idL, .cells 2 (flat ((L ++ [q.l.getD i default]).map prE)) frL) :: (id, s.obj) :: T)) := o.perm (permC fun x => by (try dsimp only); simp only [List.append_eq, List.count_append, List.count_cons, List.count_nil, List.map_nil, List.length_nil, List.length_append, List.length_cons, List.length_set, Nat.zero_add, List.nil_append, iI, iL]; omega)
   refine hY.app o2 (q.r.getD i default) rfl (by simp only [maxL]; omega) fun idR frR H o => ?_
   try simp only [go_sem, reduceAdd]
   refine stc o.swap fun H o => ?_
   simp only [wr_cons, wr_nil, List.set_cons_zero, List.set_cons_succ] at o
   have o2 : Owns H0 H ((id, s.obj) :: (id8, .cells 4 [iL q.v, .buf idL (L ++ [q.l.getD i default]).length, .buf idR (R ++ [q.r.getD i default]).length, iL q.o] 0) :: ([(idR, .cells 2 (flat ((R ++ [q.r.getD i default]).map prE)) frR)] ++ ([(idL, .cells 2 (flat ((L ++ [q.l.getD i default]).map prE)) frL)] ++ T))) := o.perm (permC fun x => by (try dsimp only); simp only [List.append_eq, List.count_append, List.count_cons, List.count_nil, List.map_nil, List.length_nil, List.length_append, List.length_cons, List.length_set, Nat.zero_add, List.nil_append, iI, iL]; omega)
   have b1 : (L ++ [q.l.getD i default]).length ≤ i + 1 := by rw [List.length_append]; simp only [List.length_cons, List.length_nil]; omega
   have b2 : (R ++ [q.r.getD i default]).length ≤ i + 1 := by rw [List.length_append]; simp only [List.length_cons, List.length_nil]; omega
   try simp only [go_sem, w1]
   exact for_next ((_, _, L ++ [q.l.getD i default]), (_, _, R ++ [q.r.getD i default]), s) h1p ⟨hs, b1, b2, .inr ⟨idL, frL, rfl, rfl⟩, .inr ⟨idR, frR, rfl, rfl⟩, o2⟩ rfl
  ·try simp only [go_sem, w1]
   exact for_next ((X, pL, L), (Y, pR, R), s) h1p ⟨hs, Nat.le_succ_of_le hLl, Nat.le_succ_of_le hRl, hX, hY, o⟩ rfl
 have h1p := of_ndecide h1
 have ei : i = q.l.length := by omega
 try simp only [go_sem, reduceAdd]
 refine rd_celln o.swap (by simp) ?_
 try simp only [go_sem]
 have o2 : Owns H0 H (pL ++ ((id8, .cells 4 [iL q.v, X, Y, iL q.o] 0) :: (id, s.obj) :: (pR ++ T))) := o.perm (permC fun x => by (try dsimp only); simp only [List.append_eq, List.count_append, List.count_cons, List.count_nil, List.map_nil, List.length_nil, List.length_append, List.length_cons, List.length_set, Nat.zero_add, List.nil_append, iI, iL]; omega)
 refine hX.lend (cs := [iL q.v, X, Y, iL q.o]) 2 1 rfl rfl o2 fun pL H hX o => ?_
 have o2 : Owns H0 H (pR ++ ((id8, .cells 4 [iL q.v, X, Y, iL q.o] 0) :: (id, s.obj) :: (pL ++ T))) := o.perm (permC fun x => by (try dsimp only); simp only [List.append_eq, List.count_append, List.count_cons, List.count_nil, List.map_nil, List.length_nil, List.length_append, List.length_cons, List.length_set, Nat.zero_add, List.nil_append, iI, iL]; omega)
 refine hY.lend (cs := [iL q.v, mL prE L, Y, iL q.o]) 2 2 rfl rfl o2 fun pR H hY o => ?_
 have o2 : Owns H0 H ((id, s.obj) :: (id8, .cells 4 [iL q.v, X, Y, iL q.o] 0) :: (pR ++ (pL ++ T))) := o.perm (permC fun x => by (try dsimp only); simp only [List.append_eq, List.count_append, List.count_cons, List.count_nil, List.map_nil, List.length_nil, List.length_append, List.length_cons, List.length_set, Nat.zero_add, List.nil_append, iI, iL]; omega)
 refine (l38Match_ok B c hc ⟨q.v, L, R, q.o⟩).go hs o2 fun r s H _ ⟨a, b, ok, e⟩ hs o => ?_
 subst e
 try simp only [go_sem, reduceAdd, reduceLT]
 refine newRef_own o fun id10 H o => ?_
 try simp only [go_sem, reduceAdd]
 refine newRef_own o fun id11 H o => ?_
 try simp only [go_sem]
 refine stc o.swap fun H o => ?_
 simp only [wr_cons, wr_nil, List.set_cons_zero, List.set_cons_succ] at o
 try simp only [go_sem]
 refine stc o.swap fun H o => ?_
 simp only [wr_cons, wr_nil, List.set_cons_zero, List.set_cons_succ] at o
 try simp only [go_sem]
 cases ok
 ·obtain ⟨L', pL', hL', R', pR', hR', o⟩ : ∃ L', ∃ pL', ∃ _ : EmN 2 prE pL' X L', ∃ R', ∃ pR', ∃ _ : EmN 2 prE pR' Y R', Owns H0 H ((id8, .cells 4 [iL q.v, X, Y, iL q.o] 0) :: (pR' ++ (pL' ++ [(id4, .cells 4 [.nilsl, .nilsl, .nilsl, .nilsl] 0), (id3, .cells 4 [.nilsl, .nilsl, .nilsl, .nilsl] 0), (id2, .cells 5 [.int .i64 0, .nilsl, .nilsl, .nilsl, .nilsl] 0)]))) := ⟨L, pL, hX, R, pR, hY, o.tl.tl.tl⟩
  try simp only [go_sem]
  refine wk_cellE 2 hR' o rfl fun H o => wk_cellE 1 hL' o rfl fun H o => wk_ref 8 o rfl fun H o => wkW_done ?_
  try simp only [go_sem, reduceAdd]
  refine stc (up2 o) fun H o => ?_
  simp only [wr_cons, wr_nil, List.set_cons_zero, List.set_cons_succ] at o
  try simp only [go_sem]
  refine stc (up2 o) fun H o => ?_
  simp only [wr_cons, wr_nil, List.set_cons_zero, List.set_cons_succ] at o
  try simp only [go_sem]
  refine stc (up2 o) fun H o => ?_
  simp only [wr_cons, wr_nil, List.set_cons_zero, List.set_cons_succ] at o
  try simp only [go_sem]
  have hr2 := o.tl.tl.rc 5 0 (by simp)
  have hr3 := o.tl.rc 4 0 (by simp)
  have hr4 := o.rc 4 0 (by simp)
  simp only [List.drop_zero] at hr2 hr3 hr4
  rw [hr2, hr3, hr4]
  exact rets_ret ⟨c, q, ⟨q.v, L', R', q.o⟩, rfl⟩ o.sub
 try simp only [go_sem]
 refine (l01Next_ok B 2).go hs (up2 o) fun r s H _ ⟨x2, e, _⟩ hs o => ?_
 subst e
 try simp only [go_sem]
 refine ⟨fun h2 => At.mk ?_, fun h2 => At.mk ?_⟩
 rotate_left 1
 ·obtain ⟨L', pL', hL', R', pR', hR', o⟩ : ∃ L', ∃ pL', ∃ _ : EmN 2 prE pL' X L', ∃ R', ∃ pR', ∃ _ : EmN 2 prE pR' Y R', Owns H0 H ((id8, .cells 4 [iL q.v, X, Y, iL q.o] 0) :: (pR' ++ (pL' ++ [(id4, .cells 4 [.nilsl, .nilsl, .nilsl, .nilsl] 0), (id3, .cells 4 [.nilsl, .nilsl, .nilsl, .nilsl] 0), (id2, .cells 5 [.int .i64 0, .nilsl, .nilsl, .nilsl, .nilsl] 0)]))) := ⟨L, pL, hX, R, pR, hY, o.tl.tl.tl⟩
  try simp only [go_sem]
  refine wk_cellE 2 hR' o rfl fun H o => wk_cellE 1 hL' o rfl fun H o => wk_ref 8 o rfl fun H o => wkW_done ?_
  try simp only [go_sem, reduceAdd]
  refine stc (up2 o) fun H o => ?_
  simp only [wr_cons, wr_nil, List.set_cons_zero, List.set_cons_succ] at o
  try simp only [go_sem]
  refine stc (up2 o) fun H o => ?_
  simp only [wr_cons, wr_nil, List.set_cons_zero, List.set_cons_succ] at o
  try simp only [go_sem]
  refine stc (up2 o) fun H o => ?_
  simp only [wr_cons, wr_nil, List.set_cons_zero, List.set_cons_succ] at o
  try simp only [go_sem]
  have hr2 := o.tl.tl.rc 5 0 (by simp)
  have hr3 := o.tl.rc 4 0 (by simp)
  have hr4 := o.rc 4 0 (by simp)
  simp only [List.drop_zero] at hr2 hr3 hr4
  rw [hr2, hr3, hr4]
  exact rets_ret ⟨c, q, ⟨q.v, L', R', q.o⟩, rfl⟩ o.sub
 try simp only [go_sem, reduceAdd]
 refine rd_cells (up3 o) (by simp) ?_
 try simp only [go_sem]
 refine rd_celln (up2 o) (by simp) ?_
 try simp only [go_sem, reduceAdd]
 have o2 : Owns H0 H (pL ++ ((id8, .cells 4 [iL q.v, X, Y, iL q.o] 0) :: (id11, .cells 2 [iI b.1, iI b.2] 0) :: (pR ++ T))) := (drop3m (up3 o)).perm (permC fun x => by (try dsimp only); simp only [List.append_eq, List.count_append, List.count_cons, List.count_nil, List.map_nil, List.length_nil, List.length_append, List.length_cons, List.length_set, Nat.zero_add, List.nil_append, iI, iL]; omega)
 refine hX.app o2 a rfl (by simp only [maxL]; omega) fun idL frL H o => ?_
 try simp only [go_sem, reduceAdd]
 refine stc o.swap fun H o => ?_
 simp only [wr_cons, wr_nil, List.set_cons_zero, List.set_cons_succ] at o
 try simp only [go_sem, reduceAdd]
 refine rd_cells o (by simp) ?_
 try simp only [go_sem]
 refine rd_celln (up2 o) (by simp) ?_
 try simp only [go_sem, reduceAdd]
 have o2 : Owns H0 H (pR ++ ((id8, .cells 4 [iL q.v, .buf idL (L ++ [a]).length, Y, iL q.o] 0) :: (idL, .cells 2 (flat ((L ++ [a]).map prE)) frL) :: T)) := (up2 o).tl.perm (permC fun x => by (try dsimp only); simp only [List.append_eq, List.count_append, List.count_cons, List.count_nil, List.map_nil, List.length_nil, List.length_append, List.length_cons, List.length_set, Nat.zero_add, List.nil_append, iI, iL]; omega)
 refine hY.app o2 b rfl (by simp only [maxL]; omega) fun idR frR H o => ?_
 try simp only [go_sem, reduceAdd]
 refine stc o.swap fun H o => ?_
 simp only [wr_cons, wr_nil, List.set_cons_zero, List.set_cons_succ] at o
 try simp only [go_sem]
 obtain ⟨L', pL', hL', R', pR', hR', o⟩ : ∃ L', ∃ pL', ∃ _ : EmN 2 prE pL' (.buf idL (L ++ [a]).length) L', ∃ R', ∃ pR', ∃ _ : EmN 2 prE pR' (.buf idR (R ++ [b]).length) R', Owns H0 H ((id8, .cells 4 [iL q.v, (.buf idL (L ++ [a]).length), (.buf idR (R ++ [b]).length), iL q.o] 0) :: (pR' ++ (pL' ++ [(id4, .cells 4 [.nilsl, .nilsl, .nilsl, .nilsl] 0), (id3, .cells 4 [.nilsl, .nilsl, .nilsl, .nilsl] 0), (id2, .cells 5 [.int .i64 0, .nilsl, .nilsl, .nilsl, .nilsl] 0)]))) := ⟨L ++ [a], [_], .inr ⟨idL, frL, rfl, rfl⟩, R ++ [b], [_], .inr ⟨idR, frR, rfl, rfl⟩, o⟩
 refine wk_cellE 2 hR' o rfl fun H o => wk_cellE 1 hL' o rfl fun H o => wk_ref 8 o rfl fun H o => wkW_done ?_
 try simp only [go_sem, reduceAdd]
 refine stc (up2 o) fun H o => ?_
 simp only [wr_cons, wr_nil, List.set_cons_zero, List.set_cons_succ] at o
 try simp only [go_sem]
 refine stc (up2 o) fun H o => ?_
 simp only [wr_cons, wr_nil, List.set_cons_zero, List.set_cons_succ] at o
 try simp only [go_sem]
 refine stc (up2 o) fun H o => ?_
 simp only [wr_cons, wr_nil, List.set_cons_zero, List.set_cons_succ] at o
 try simp only [go_sem]
 have hr2 := o.tl.tl.rc 5 0 (by simp)
 have hr3 := o.tl.rc 4 0 (by simp)
 have hr4 := o.rc 4 0 (by simp)
 simp only [List.drop_zero] at hr2 hr3 hr4
 rw [hr2, hr3, hr4]
 exact rets_ret ⟨c, q, ⟨q.v, L', R', q.o⟩, rfl⟩ o.sub
end Go.Proofs.Shf
