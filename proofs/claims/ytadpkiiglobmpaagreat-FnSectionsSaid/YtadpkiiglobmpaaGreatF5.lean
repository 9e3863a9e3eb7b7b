/- Contracts, part 5. -/
import Derived.Test.YtadpkiiglobmpaaGreatF4
set_option linter.unusedVariables false
set_option linter.unusedSimpArgs false
set_option linter.unusedSectionVars false
open Nat (reduceEqDiff reduceAdd reduceMul reduceLeDiff reduceLT)
namespace Go.Shf
open Go.AW
structure Cov where
 shape : Cat
 sizes : List Int
 pulls : List (List Int)
 sieves : List (List (List Int))
 marks : List (List Bool)
@[go_sem] def Cov.cls (v : Cov) : List AV := [iI v.shape.objs, iL v.shape.frm, iL v.shape.to, iL v.shape.idn, iLL v.shape.comp, iL v.sizes, iLL v.pulls, iLLL v.sieves]
@[go_sem] def Cov.cells (v : Cov) (cnt : AV) : List AV := [.ptr v.cls, .ptr v.shape.cells, mL (mL AV.bool) v.marks, cnt]
end Go.Shf
namespace Go.Proofs.Shf
open Go.AW Go.Proofs Go.Shf
end Go.Proofs.Shf
namespace Go.Shf
open Go.AW
theorem mput_new {k x : AV} : ∀ {ks vs : List AV}, (∀ a, a ∈ ks → k.keq a = false) → vs.length = ks.length → mput k x ks vs = (ks ++ [k], vs ++ [x])
 | [], vs, _, h => by
  have : vs = [] := List.eq_nil_of_length_eq_zero h
  subst this; rfl
 | b :: ks, [], _, h => by simp at h
 | b :: ks, v :: vs, h1, h => by
  simp only [mput, h1 b (by simp), Bool.false_eq_true, if_false]
  rw [mput_new (fun a ha => h1 a (by simp [ha])) (by simpa using h)]
  rfl
theorem mget_str : ∀ {ks : List (List UInt8)} {vs : List AV}, vs.length = ks.length → ∀ s, mget (.str s) (ks.map AV.str) vs = vs[ks.idxOf s]?
 | [], vs, h, i => by
  have : vs = [] := List.eq_nil_of_length_eq_zero h
  subst this; rfl
 | k :: ks, [], h, i => by simp at h
 | k :: ks, v :: vs, h, i => by
  simp only [List.map_cons, mget, AV.keq, decide_eq_true_eq, List.idxOf_cons]
  by_cases e : i = k
  ·subst e; simp
  ·have h2 : (k == i) = false := by simpa using fun h => e h.symm
   rw [if_neg e, mget_str (by simpa using h), h2]; simp
theorem keyS_inj {a b : List Int} (ha : ∀ y, y ∈ a → 0 ≤ y ∧ y < 255) (hb : ∀ y, y ∈ b → 0 ≤ y ∧ y < 255) (h : keyS [a] = keyS [b]) : a = b := by
 have h1 : a.map (fun y => UInt8.ofNat (IntKind.u8.wrap y).toNat) = b.map (fun y => UInt8.ofNat (IntKind.u8.wrap y).toNat) := by
  simp only [keyS, keyB, List.flatMap_cons, List.flatMap_nil, List.append_nil, List.map_append, List.map_map] at h
  exact List.append_cancel_right h
 have hw : ∀ y : Int, 0 ≤ y ∧ y < 255 → IntKind.u8.wrap y = y := fun y hy => by
  have e : y % 256 = y := by omega
  simp only [IntKind.wrap, IntKind.bits, IntKind.signed]
  simpa using e
 clear h
 induction a generalizing b with
 | nil => cases b with
  | nil => rfl
  | cons y b => simp at h1
 | cons x a ih => cases b with
  | nil => simp at h1
  | cons y b =>
   simp only [List.map_cons, List.cons.injEq] at h1
   have hx := ha x (by simp)
   have hy := hb y (by simp)
   rw [hw x hx, hw y hy] at h1
   have e : x = y := by
    have h2 := congrArg UInt8.toNat h1.1
    simp only [UInt8.toNat_ofNat'] at h2
    omega
   rw [e, ih (fun z hz => ha z (by simp [hz])) (fun z hz => hb z (by simp [hz])) h1.2]
theorem plS_eq {L : List (List Int)} (nd : L.Nodup) (hb : ∀ l, l ∈ L → ∀ y, y ∈ l → 0 ≤ y ∧ y < 255) : ∀ k, k ≤ L.length → plS L k = (((L.take k).map fun l => keyS [l]).map AV.str, (List.range k).map fun i : Nat => iI (i : Int)) := by
 intro k
 induction k with
 | zero => intro _; rfl
 | succ k ih =>
  intro hk
  have hk : k < L.length := by omega
  rw [plS, ih (by omega), mput_new]
  ·rw [Go.Proofs.Shf.take_succ_getD L hk, List.range_succ]; simp
  ·intro a ha
   simp only [List.map_map, List.mem_map, Function.comp_apply] at ha
   obtain ⟨l, hl, rfl⟩ := ha
   simp only [AV.keq, decide_eq_false_iff_not]
   intro e
   have hm : L.getD k default ∈ L := mem_getD.mpr ⟨k, hk, rfl⟩
   have := keyS_inj (hb _ hm) (hb _ (List.mem_of_mem_take hl)) e
   rw [← this] at hl
   obtain ⟨j, hj, e2⟩ := mem_getD.mp hl
   rw [List.length_take] at hj
   have e3 : L.getD j default = L.getD k default := by
    rw [← e2]; simp [List.getD_eq_getElem?_getD, List.getElem?_take, show j < k by omega]
   have h1 := indexOf_nodup nd (k := j) (by omega)
   have h2 := indexOf_nodup nd hk
   rw [e3, h2] at h1
   omega
  ·simp
   omega
theorem plS_get {L : List (List Int)} (nd : L.Nodup) (hb : ∀ l, l ∈ L → ∀ y, y ∈ l → 0 ≤ y ∧ y < 255) {m : List Int} (hm : m ∈ L) : mget (.str (keyS [m])) (plS L L.length).1 (plS L L.length).2 = some (iI (indexOf L m)) := by
 obtain ⟨k, hk, rfl⟩ := mem_getD.mp hm
 rw [plS_eq nd hb _ (Nat.le_refl _), List.take_length, mget_str (by simp), indexOf_nodup nd hk]
 have : (L.map fun l => keyS [l]).idxOf (keyS [L.getD k default]) = k := by
  have hnd : (L.map fun l => keyS [l]).Nodup := by
   rw [List.Nodup, List.pairwise_map]
   refine List.Pairwise.imp_of_mem ?_ nd
   intro a b ha hb2 hne e
   exact hne (keyS_inj (hb a ha) (hb b hb2) e)
  have hk2 : k < (L.map fun l => keyS [l]).length := by simpa using hk
  have := hnd.idxOf_getElem k hk2
  simpa [List.getD_eq_getElem?_getD, hk] using this
 rw [this]
 simp [hk]
end Go.Shf
namespace Go.AW
end Go.AW
namespace Go.Shf
open Go.AW
def plE (L : List (List Int)) : AV := .imap (plS L L.length).1 (plS L L.length).2
instance : One plE := ⟨fun _ => rfl, fun _ => rfl⟩
end Go.Shf
namespace Go.Proofs.Shf
open Go.AW Go.Proofs Go.Shf
@[go_sem] noncomputable def stepVal (f : SF) (V : List (List Int)) : AV := .ptr [.ptr f.cells, iI f.shape.objs, iL f.shape.frm, iL f.shape.to, iL f.shape.idn, iLL f.shape.comp, iL (stepSizes f V), iLL (stepActs f V), iLL V, iLLL (famsOf f V), mL plE (famsOf f V)]
end Go.Proofs.Shf
namespace Go.Shf
open Go.AW
def constF (c : Cat) (n : Int) : SF := ⟨c, List.replicate c.objs.toNat n, List.replicate c.frm.length ((List.range n.toNat).map Int.ofNat)⟩
theorem rep_succ {α : Type} (k : Nat) (a : α) : List.replicate (k + 1) a = List.replicate k a ++ [a] := List.replicate_succ'
end Go.Shf
namespace Go.Proofs.Shf
open Go.AW Go.Proofs Go.Shf
abbrev z7 : List AV := [.int .i64 0, .nilsl, .nilsl, .nilsl, .nilsl, .nilsl, .nilsl]
theorem l19ConstG_ok (B : Nat) (c : Cat) (hob : 0 ≤ c.objs ∧ c.objs ≤ 4096) (hm : c.frm.length ≤ 4096) (n : Int) (hn : 0 ≤ n ∧ n ≤ 100) : Pur Tryz.prog B 76 [.agg c.cells, iI n] (.agg (constF c n).cells) := by
 refine ⟨fun H0 => c76p (by simp) fun hfi => ?_⟩
 unfold s76p
 have o : Owns H0 H0 [] := .nil _
 try simp only [go_sem, reduceAdd]
 refine ⟨by simp [maxL], newRef_own o fun id4 H o => ?_⟩
 try simp only [go_sem, reduceAdd]
 refine (l02Own_ok B c).go fun _ => ?_
 try simp only [go_sem, reduceAdd, reduceLeDiff]
 refine ⟨by simp [maxL], newRef_own o fun id5 H o => ?_⟩
 try simp only [go_sem]
 refine stc o fun H o => ?_
 simp only [wr_cons, wr_nil, List.set_cons_zero, List.set_cons_succ] at o
 let st : AV → AV → MObj := fun x5 x6 => .cells 7 [iI c.objs, iL c.frm, iL c.to, iL c.idn, iLL c.comp, x5, x6] 0
 try simp only [go_sem]
 refine awp_for [1, 2, 4, 5] (G := AV) (fun k X => [(6, some (.int .i64 (k : Int)))]) (fun k X H => LsO iI H0 H ((id5, st X .nilsl) :: [(id4, .cells 7 z7 0)]) X (List.replicate k n)) c.objs.toNat .nilsl (.inl ⟨rfl, rfl, o⟩) rfl ?_
 clear o
 rintro k X H hk hX
 try simp only [go_sem, reduceAdd, reduceLeDiff]
 refine ⟨fun h1 => At.mk ?_, fun h1 => At.mk ?_⟩
 ·have h1p := of_decide h1
  have w := wsucc (k := k) (by omega)
  try simp only [go_sem, reduceAdd]
  refine rd_get hX.obj (by simp [st]) ?_
  try simp only [go_sem, reduceAdd]
  refine hX.app n rfl (by simp only [List.length_replicate, maxL]; omega) fun idn H o => ?_
  rw [← rep_succ] at o ⊢
  try simp only [go_sem, reduceAdd]
  refine stc o.swap fun H o => ?_
  simp only [wr_cons, wr_nil, List.set_cons_zero, List.set_cons_succ] at o
  try simp only [go_sem, w]
  exact for_next _ (by omega) (.inr ⟨idn, rfl, o.swap⟩) rfl
 ·have h1p := of_ndecide h1
  obtain rfl : k = c.objs.toNat := by omega
  obtain ⟨p5, o, h5⟩ := hX.split
  have o : Owns H0 H ((id5, st X .nilsl) :: (p5 ++ [(id4, .cells 7 z7 0)])) := o.perm List.perm_middle
  clear hX
  try simp only [go_sem]
  refine awp_for [1, 2, 4, 5] (G := AV) (fun a Y => [(7, some (.int .i64 (a : Int)))]) (fun a Y H => LsO iL H0 H ((id5, st X Y) :: (p5 ++ [(id4, .cells 7 z7 0)])) Y (List.replicate a ((List.range n.toNat).map Int.ofNat))) c.frm.length .nilsl (.inl ⟨rfl, rfl, o⟩) rfl ?_
  clear o
  rintro a Y H ha hY
  replace hY : LsO iL H0 H ((id5, st X Y) :: (p5 ++ [(id4, .cells 7 z7 0)])) Y (List.replicate a ((List.range n.toNat).map Int.ofNat)) := hY
  try simp only [go_sem, reduceAdd, reduceLeDiff]
  refine ⟨fun h2 => At.mk ?_, fun h2 => At.mk ?_⟩
  ·have h2p := of_decide h2
   have w2 := wsucc (k := a) (by omega)
   obtain ⟨q, o, hq⟩ := hY.split
   clear hY
   try simp only [go_sem]
   refine new_list iI o fun id8 H o => ?_
   try simp only [go_sem]
   refine awp_for [1, 2, 4, 5, 7] (G := Nat × List Int) (fun e g => [(8, some (.buf g.1 g.2.length)), (9, some (.int .i64 (e : Int)))])
    (fun e g H => g.2 = (List.range e).map Int.ofNat ∧ Owns H0 H ((g.1, .cells 1 (g.2.map iI) 0) :: (q ++ ((id5, st X Y) :: (p5 ++ [(id4, .cells 7 z7 0)]))))) n.toNat (id8, []) ⟨rfl, o⟩ rfl ?_
   clear o
   rintro e ⟨id8, row⟩ H he ⟨hrow, o⟩
   replace hrow : row = (List.range e).map Int.ofNat := hrow
   replace o : Owns H0 H ((id8, .cells 1 (row.map iI) 0) :: (q ++ ((id5, st X Y) :: (p5 ++ [(id4, .cells 7 z7 0)])))) := o
   have hrl : row.length = e := by rw [hrow]; simp
   try simp only [go_sem]
   refine ⟨fun h3 => At.mk ?_, fun h3 => At.mk ?_⟩
   ·have h3p := of_decide h3
    have w3 := wsucc (k := e) (by omega)
    try simp only [go_sem, reduceAdd]
    refine app_own (e : Int) o rfl rfl (by simp only [maxL]; omega) fun id8 H o => ?_
    try simp only [go_sem, w3]
    exact for_next (_, _) (by omega) ⟨by rw [hrow, List.range_succ]; simp, o⟩ rfl
   ·have h3p := of_ndecide h3
    obtain rfl : e = n.toNat := by omega
    try simp only [go_sem]
    refine fz_own o rfl fun H o => ?_
    have hY := LsO.mk o hq
    clear o
    try simp only [go_sem, reduceAdd]
    refine rd_get hY.obj (by simp [st]) ?_
    try simp only [go_sem, reduceAdd]
    refine hY.app row rfl (by simp only [List.length_replicate, maxL]; omega) fun idn H o => ?_
    rw [hrow, ← rep_succ] at o ⊢
    try simp only [go_sem, reduceAdd]
    refine stc o.swap fun H o => ?_
    simp only [wr_cons, wr_nil, List.set_cons_zero, List.set_cons_succ] at o
    try simp only [go_sem, w2]
    exact for_next _ (by omega) (.inr ⟨idn, rfl, o.swap⟩) rfl
  ·have h2p := of_ndecide h2
   obtain rfl : a = c.frm.length := by omega
   try simp only [go_sem]
   refine wk_ls 6 hY rfl fun H o => ?_
   simp only [List.set_cons_zero, List.set_cons_succ] at o
   have hX := LsO.mk (o.perm List.perm_middle.symm) h5
   clear o
   refine wk_ls 5 hX rfl fun H o => wkW_done ?_
   simp only [List.set_cons_zero, List.set_cons_succ] at o
   try simp only [go_sem]
   refine rd_celln o (by simp) ?_
   try simp only [go_sem]
   refine stc o.swap fun H o => ?_
   simp only [wr_cons, wr_nil, List.set_cons_zero, List.set_cons_succ] at o
   try simp only [go_sem]
   have hr := o.rc 7 0 (by simp)
   simp only [List.drop_zero] at hr
   rw [hr]
   exact pure_ret rfl o.sub
theorem l19Constant_ok (B : Nat) (c : Cat) (hc : c.Shape) (n : Int) (hn : 0 ≤ n ∧ n ≤ 100) : Pur Tryz.prog B 76 [.agg c.cells, iI n] (.agg (constF c n).cells) :=
 l19ConstG_ok B c (by have := hc.o; omega) (by have := hc.m; omega) n hn
end Go.Proofs.Shf
namespace Go.Proofs.Shf
open Go.AW Go.Proofs Go.Shf
def PreQ (c : Cat) (N : Nat) (r : AV) : Prop := ∃ f : SF, r = .agg f.cells ∧ f.Pre c N
theorem l19Free_ok (B : Nat) (c : Cat) (hc : c.Is) (os : List Int) (hos : os.length ≤ 3) : Rets B 237 [.agg c.cells, iL os] (PreQ c 120) := by
 intro H0
 refine c237p (by simp) fun _ => ?_
 have hm := hc.1.m
 have hob := hc.1.o
 have htl := hc.1.tol
 unfold s237p
 have o : Owns H0 H0 [] := .nil _
 try simp only [go_sem, reduceAdd]
 refine ⟨by simp [maxL], newRef_own o fun id4 H o => ?_⟩
 try simp only [go_sem, reduceAdd, reduceLeDiff]
 refine ⟨⟨by omega, by simp only [maxL]; omega⟩, ?_⟩
 rw [rep_one]
 refine newBuf_own o fun idL H o => ?_
 try simp only [go_sem]
 refine awp_for [1, 2, 4, 5] (G := List AV × List (List (List Int)) × List (Nat × MObj)) (fun k _ => [(6, some (.int .i64 (k : Int)))])
  (fun k g H => Owns H0 H ((idL, .cells 1 g.1 0) :: (g.2.2 ++ [(id4, .cells 7 z7 0)])) ∧ LsR iL g.1 g.2.1 g.2.2 ∧ FreeI c os k 0 g.2.1) os.length (List.replicate c.objs.toNat .nilsl, List.replicate c.objs.toNat [], []) ⟨o, LsR.rep iL _, .zero hob.1⟩ rfl ?_
 clear o
 rintro k ⟨Xs, LL, ob⟩ H hk ⟨o, hR, hI⟩
 replace o : Owns H0 H ((idL, .cells 1 Xs 0) :: (ob ++ [(id4, .cells 7 z7 0)])) := o
 replace hR : LsR iL Xs LL ob := hR
 replace hI : FreeI c os k 0 LL := hI
 try simp only [go_sem]
 refine ⟨fun h1 => At.mk ?_, fun h1 => At.mk ?_⟩
 ·have h1p := of_decide h1
  have w1 := wsucc (k := k) (by omega)
  try simp only [go_sem]
  refine awp_for [1, 2, 4, 5, 6] (G := List AV × List (List (List Int)) × List (Nat × MObj)) (fun h _ => [(7, some (.int .i64 (h : Int)))])
   (fun h g H => Owns H0 H ((idL, .cells 1 g.1 0) :: (g.2.2 ++ [(id4, .cells 7 z7 0)])) ∧ LsR iL g.1 g.2.1 g.2.2 ∧ FreeI c os k h g.2.1) c.frm.length (Xs, LL, ob) ⟨o, hR, hI⟩ rfl ?_
  clear o hR hI Xs LL ob
  rintro h ⟨Xs, LL, ob⟩ H hh ⟨o, hR, hI⟩
  replace o : Owns H0 H ((idL, .cells 1 Xs 0) :: (ob ++ [(id4, .cells 7 z7 0)])) := o
  replace hR : LsR iL Xs LL ob := hR
  replace hI : FreeI c os k h LL := hI
  try simp only [go_sem, reduceAdd, reduceLeDiff]
  refine ⟨fun h2 => At.mk ?_, fun h2 => At.mk ?_⟩
  ·have h2p := of_decide h2
   have w2 := wsucc (k := h) (by omega)
   have hto := hc.1.toObj (f := (h : Int)) (by simpa using h2p)
   rw [ix_nat] at hto
   have hXl := hR.len
   have hLl := hI.len
   have hbd := hI.bd (c.to.getD h default).toNat
   have hkm : k * c.frm.length ≤ 2 * 40 := Nat.mul_le_mul (by omega) hm
   try simp only [go_sem, reduceAdd, reduceLeDiff]
   refine ⟨h2p, h1p, ?_⟩
   refine ⟨fun h3 => At.mk ?_, fun h3 => At.mk ?_⟩
   ·have h3p : c.frm.getD h default = os.getD k default := of_decide h3
    try simp only [go_sem, reduceAdd, reduceLeDiff]
    refine ⟨by omega, by omega, ⟨hto.1, by omega⟩, rd_get o.h0 (by omega) ?_⟩
    try simp only [go_sem, reduceAdd]
    refine rows_app o hR (by omega) [(k : Int), (h : Int)] rfl (by show (LL.getD _ default).length + 1 ≤ maxL; simp only [maxL]; omega) fun X' o' H hX1 hR o => ?_
    try simp only [go_sem, AV.cells_one hX1]
    refine ⟨⟨hto.1, by omega⟩, st_cells o (by omega) rfl (by simp only [memcons, memnil]; exact ⟨hX1, trivial⟩) fun H o => ?_⟩
    simp only [wr_cons, wr_nil] at o
    try simp only [go_sem, w2]
    exact for_next (_, _, _) (by omega) ⟨o, hR, hI.hit hc.1 h1p h2p h3p⟩ rfl
   ·try simp only [go_sem, w2]
    exact for_next (_, _, _) (by omega) ⟨o, hR, hI.skip (of_ndecide h3)⟩ rfl
  ·have h2p := of_ndecide h2
   obtain rfl : h = c.frm.length := by omega
   try simp only [go_sem, w1]
   exact for_next (_, _, _) (by omega) ⟨o, hR, hI.next⟩ rfl
 ·have h1p := of_ndecide h1
  obtain rfl : k = os.length := by omega
  have hLl := hI.len
  try simp only [go_sem]
  refine wk_rows hR [] H o fun H o => wkW_done ?_
  rw [List.nil_append] at o
  clear hR
  try simp only [go_sem]
  refine fz_own (f := iLL) o (by omega) fun H o => ?_
  try simp only [go_sem, reduceAdd]
  refine (l02Own_ok B c).go fun _ => ?_
  try simp only [go_sem, reduceAdd, reduceLeDiff]
  refine ⟨by simp [maxL], newRef_own o fun id8 H o => ?_⟩
  try simp only [go_sem]
  refine stc o fun H o => ?_
  simp only [wr_cons, wr_nil, List.set_cons_zero, List.set_cons_succ] at o
  let st : AV → AV → MObj := fun x5 x6 => .cells 7 [iI c.objs, iL c.frm, iL c.to, iL c.idn, iLL c.comp, x5, x6] 0
  try simp only [go_sem]
  have hpre := free_pre hc hI (N := 120) (by have := Nat.mul_le_mul hos hm; omega)
  have hof := hI.of
  clear hI
  refine awp_for [2, 4, 5, 8] (G := AV) (fun k X => [(9, some (.int .i64 (k : Int)))]) (fun k X H => LsO iI H0 H ((id8, st X .nilsl) :: [(id4, .cells 7 z7 0)]) X ((LL.take k).map fun l => (l.length : Int))) LL.length .nilsl (.inl ⟨rfl, rfl, o⟩) rfl ?_
  clear o
  rintro k X H hk hX
  try simp only [go_sem]
  refine ⟨fun h4 => At.mk ?_, fun h4 => At.mk ?_⟩
  ·have h4p := of_decide h4
   have w := wsucc (k := k) (by omega)
   try simp only [go_sem, reduceAdd]
   refine rd_get hX.obj (by simp [st]) ?_
   try simp only [go_sem, reduceAdd]
   refine ⟨h4p, ?_⟩
   refine hX.app ((LL.getD k default).length : Int) rfl (by simp only [List.length_map, List.length_take, maxL]; omega) fun idn H o => ?_
   have e5 : ((LL.take k).map fun l => (l.length : Int)) ++ [((LL.getD k default).length : Int)] = (LL.take (k + 1)).map fun l => (l.length : Int) := by rw [take_one LL h4p]; simp
   rw [e5] at o ⊢
   try simp only [go_sem, reduceAdd]
   refine stc o.swap fun H o => ?_
   simp only [wr_cons, wr_nil, List.set_cons_zero, List.set_cons_succ] at o
   try simp only [go_sem, w]
   exact for_next _ (by omega) (.inr ⟨idn, rfl, o.swap⟩) rfl
  ·have h4p := of_ndecide h4
   obtain rfl : k = LL.length := by omega
   rw [List.take_length] at hX
   obtain ⟨p5, o, hp5⟩ := hX.split
   have o : Owns H0 H ((id8, st X .nilsl) :: (p5 ++ [(id4, .cells 7 z7 0)])) := o.perm List.perm_middle
   clear hX
   try simp only [go_sem]
   refine awp_for [2, 4, 5, 8] (G := AV) (fun a Y => [(10, some (.int .i64 (a : Int)))]) (fun a Y H => LsO iL H0 H ((id8, st X Y) :: (p5 ++ [(id4, .cells 7 z7 0)])) Y ((List.range a).map (freeAct c LL))) c.frm.length .nilsl (.inl ⟨rfl, rfl, o⟩) rfl ?_
   clear o
   rintro a Y H ha hY
   replace hY : LsO iL H0 H ((id8, st X Y) :: (p5 ++ [(id4, .cells 7 z7 0)])) Y ((List.range a).map (freeAct c LL)) := hY
   try simp only [go_sem, reduceAdd, reduceLeDiff]
   refine ⟨fun h5 => At.mk ?_, fun h5 => At.mk ?_⟩
   ·have h5p := of_decide h5
    have w2 := wsucc (k := a) (by omega)
    have hfr := hc.1.frmObj (f := (a : Int)) (by simpa using h5p)
    have hto := hc.1.toObj (f := (a : Int)) (by simpa using h5p)
    rw [ix_nat] at hfr hto
    obtain ⟨q, o, hq⟩ := hY.split
    clear hY
    try simp only [go_sem]
    refine new_list iI o fun id11 H o => ?_
    try simp only [go_sem, reduceAdd, reduceLeDiff]
    refine ⟨h5p, ⟨hfr.1, by omega⟩, by omega, ⟨hto.1, by omega⟩, ?_⟩
    have eF : ix LL (c.frm.getD a default) = LL.getD (c.frm.getD a default).toNat default := rfl
    have eT : ix LL (c.to.getD a default) = LL.getD (c.to.getD a default).toNat default := rfl
    have hact : freeAct c LL a = (LL.getD (c.frm.getD a default).toNat default).map fun q => indexOf (LL.getD (c.to.getD a default).toNat default) [ix q 0, (ix c.comp (ix q 1)).getD a default] := rfl
    have hofF := hof (c.frm.getD a default).toNat (by omega)
    rw [eF, eT]
    generalize hF : LL.getD (c.frm.getD a default).toNat default = F at *
    generalize hT : LL.getD (c.to.getD a default).toNat default = T at *
    have hFl : F.length ≤ 200 := by
     have := hpre.sz (F.length : Int) (List.mem_map.mpr ⟨F, by rw [← hF]; exact mem_getD.mpr ⟨_, by omega, rfl⟩, rfl⟩)
     omega
    refine awp_for [2, 4, 5, 8, 10, 12, 13] (G := Nat × List Int) (fun e g => [(11, some (.buf g.1 g.2.length)), (14, some (.int .i64 (e : Int)))])
     (fun e g H => g.2 = (F.take e).map (fun q => indexOf T [ix q 0, (ix c.comp (ix q 1)).getD a default]) ∧ Owns H0 H ((g.1, .cells 1 (g.2.map iI) 0) :: (q ++ ((id8, st X Y) :: (p5 ++ [(id4, .cells 7 z7 0)]))))) F.length (id11, []) ⟨by simp, o⟩ rfl ?_
    clear o
    rintro e ⟨id11, row⟩ H he ⟨hrow, o⟩
    replace hrow : row = (F.take e).map (fun q => indexOf T [ix q 0, (ix c.comp (ix q 1)).getD a default]) := hrow
    replace o : Owns H0 H ((id11, .cells 1 (row.map iI) 0) :: (q ++ ((id8, st X Y) :: (p5 ++ [(id4, .cells 7 z7 0)])))) := o
    have hrl : row.length = e := by rw [hrow, List.length_map, List.length_take]; omega
    try simp only [go_sem]
    refine ⟨fun h6 => At.mk ?_, fun h6 => At.mk ?_⟩
    ·have h6p := of_decide h6
     have w3 := wsucc (k := e) (by omega)
     obtain ⟨i, j, eq, hi, hj, _, _⟩ := hofF (F.getD e default) (mem_getD.mpr ⟨e, h6p, rfl⟩)
     have e0 : ix (F.getD e default) 0 = (i : Int) := by rw [eq]; rfl
     have e1 : ix (F.getD e default) 1 = (j : Int) := by rw [eq]; rfl
     have el : (F.getD e default).length = 2 := by rw [eq]; rfl
     have hcl := hc.1.cl
     have hrw := hc.1.row' (a := (j : Int)) (by simpa using hj)
     try simp only [go_sem, reduceAdd]
     refine ⟨h6p, ⟨by omega, by rw [el]; decide⟩, h6p, ⟨by omega, by rw [el]; decide⟩, ?_⟩
     rw [e0, e1]
     refine ⟨_, (l02Then_ok B c (j : Int) (a : Int) ⟨by omega, by rw [Int.toNat_natCast, hcl]; exact hj⟩ ⟨by omega, by rw [hrw]; simpa using h5p⟩).run, ?_⟩
     try simp only [go_sem, reduceAdd]
     refine ⟨_, (l05Place_ok B T [(i : Int), (ix c.comp (j : Int)).getD a default]).run, ?_⟩
     try simp only [go_sem, reduceAdd]
     refine app_own (indexOf T [(i : Int), (ix c.comp (j : Int)).getD a default]) o rfl rfl (by simp only [maxL]; omega) fun id11 H o => ?_
     try simp only [go_sem, w3]
     refine for_next (_, _) (by omega) ⟨?_, o⟩ rfl
     rw [take_one F h6p, List.map_append, ← hrow, List.map_cons, List.map_nil, e0, e1]
    ·have h6p := of_ndecide h6
     obtain rfl : e = F.length := by omega
     rw [List.take_length, ← hact] at hrow
     try simp only [go_sem]
     refine fz_own o rfl fun H o => ?_
     have hY := LsO.mk o hq
     clear o
     try simp only [go_sem, reduceAdd]
     refine rd_get hY.obj (by simp [st]) ?_
     try simp only [go_sem, reduceAdd]
     have e7 : (List.range a).map (freeAct c LL) ++ [row] = (List.range (a + 1)).map (freeAct c LL) := by rw [map_range_succ, hrow]
     refine hY.app row rfl (by simp only [List.length_map, List.length_range, maxL]; omega) fun idn H o => ?_
     try simp only [go_sem, reduceAdd]
     refine stc o.swap fun H o => ?_
     simp only [wr_cons, wr_nil, List.set_cons_zero, List.set_cons_succ] at o
     have hY : LsO iL H0 H ((id8, st X (.buf idn ((List.range a).map (freeAct c LL) ++ [row]).length)) :: (p5 ++ [(id4, .cells 7 z7 0)])) (.buf idn ((List.range a).map (freeAct c LL) ++ [row]).length) ((List.range a).map (freeAct c LL) ++ [row]) := .inr ⟨idn, rfl, o.swap⟩
     generalize (AV.buf idn ((List.range a).map (freeAct c LL) ++ [row]).length) = Y' at hY
     rw [e7] at hY
     try simp only [go_sem, w2]
     exact for_next Y' (by omega) hY rfl
   ·have h5p := of_ndecide h5
    obtain rfl : a = c.frm.length := by omega
    try simp only [go_sem]
    refine wk_ls 6 hY rfl fun H o => ?_
    simp only [List.set_cons_zero, List.set_cons_succ] at o
    have hX := LsO.mk (o.perm List.perm_middle.symm) hp5
    clear o
    refine wk_ls 5 hX rfl fun H o => wkW_done ?_
    simp only [List.set_cons_zero, List.set_cons_succ] at o
    try simp only [go_sem]
    refine rd_celln o (by simp) ?_
    try simp only [go_sem]
    refine stc o.swap fun H o => ?_
    simp only [wr_cons, wr_nil, List.set_cons_zero, List.set_cons_succ] at o
    try simp only [go_sem]
    have hr := o.rc 7 0 (by simp)
    simp only [List.drop_zero] at hr
    rw [hr]
    exact rets_ret ⟨freeF c LL, rfl, hpre⟩ o.sub
end Go.Proofs.Shf
namespace Go.Proofs.Shf
open Go.AW Go.Proofs Go.Shf
def AnyF (r : AV) : Prop := ∃ f : SF, r = .agg f.cells
def AnyFc (c : Cat) (r : AV) : Prop := ∃ f : SF, r = .agg f.cells ∧ f.shape = c ∧ f.acts.length ≤ 40
def PairsOk (sz : List Int) (PP : List (List (List Int))) : Prop := PP.length = sz.length ∧ ∀ x : Nat, x < sz.length → ∀ q, q ∈ PP.getD x default → 2 ≤ q.length ∧ (0 ≤ q.getD 0 default ∧ q.getD 0 default < sz.getD x default) ∧ (0 ≤ q.getD 1 default ∧ q.getD 1 default < sz.getD x default)
theorem l19Glue_ok (B : Nat) (f : SF) (c : Cat) (hc : c.Is) (hf : f.Pre c 120) (PP : List (List (List Int))) (hP : PairsOk f.sizes PP) : Rets B 273 [.agg f.cells, iLLL PP] (AnyFc c) := by
 intro H0
 refine c273p (by simp) fun _ => ?_
 obtain ⟨rfl, hsl, hal, hsz, hact⟩ := hf
 have hm := hc.1.m
 have hob := hc.1.o
 have htl := hc.1.tol
 unfold s273p
 have o : Owns H0 H0 [] := .nil _
 have hz0 : ∀ x, x < f.sizes.length → 0 ≤ f.sizes.getD x default ∧ f.sizes.getD x default ≤ 120 := fun x hx => hsz _ (mem_getD.mpr ⟨x, hx, rfl⟩)
 try simp only [go_sem, reduceAdd]
 refine ⟨by simp [maxL], newRef_own o fun id4 H o => ?_⟩
 try simp only [go_sem]
 refine new_list iL o fun id5 H o => ?_
 try simp only [go_sem]
 refine awp_for [1, 2, 4] (G := Nat × List (List Int)) (fun k g => [(5, some (.buf g.1 g.2.length)), (6, some (.int .i64 (k : Int)))])
  (fun k g H => g.2 = (List.range k).map (clsAt f.sizes PP) ∧ Owns H0 H [(g.1, .cells 1 (g.2.map iL) 0), (id4, .cells 7 z7 0)]) f.sizes.length (id5, []) ⟨rfl, o⟩ rfl ?_
 clear o
 rintro k ⟨id5, CC⟩ H hk ⟨hCC, o⟩
 replace hCC : CC = (List.range k).map (clsAt f.sizes PP) := hCC
 replace o : Owns H0 H [(id5, .cells 1 (CC.map iL) 0), (id4, .cells 7 z7 0)] := o
 have hCl : CC.length = k := by rw [hCC]; simp
 try simp only [go_sem, reduceAdd, reduceLeDiff]
 refine ⟨fun h1 => At.mk ?_, fun h1 => At.mk ?_⟩
 ·have h1p := of_decide h1
  have w1 := wsucc (k := k) (by omega)
  have hzk := hz0 k h1p
  obtain ⟨n, hn⟩ : ∃ n : Nat, f.sizes.getD k default = n := ⟨_, (Int.toNat_of_nonneg hzk.1).symm⟩
  have hPk := hP.2 k h1p
  have hcl : clsAt f.sizes PP k = joinL n (PP.getD k default) := by rw [clsAt, hn, Int.toNat_natCast]
  rw [hn] at hPk hzk
  try simp only [go_sem, reduceAdd, reduceLeDiff]
  refine ⟨h1p, by rw [hP.1]; exact h1p, ?_⟩
  rw [hn]
  refine ⟨_, (join_pok B n (by omega) (PP.getD k default) fun q hq => ?_).run, ?_⟩
  ·have := hPk q hq; omega
  try simp only [go_sem, reduceAdd]
  refine app_own (joinL n (PP.getD k default)) o rfl rfl (by simp only [maxL]; omega) fun id5 H o => ?_
  try simp only [go_sem, w1]
  exact for_next (_, _) (by omega) ⟨by rw [hCC, map_range_succ, hcl], o⟩ rfl
 ·have h1p := of_ndecide h1
  obtain rfl : k = f.sizes.length := by omega
  have hK : ClsOk f.sizes CC := by rw [hCC]; exact cls_join (fun y hy => (hsz y hy).1) PP
  clear hCC
  try simp only [go_sem]
  rw [hCl]
  refine awp_while [2, 4, 5] (G := Bool × List (List Int)) (fun g => [(7, some (.bool g.1))]) (fun m g H => (m = pot g.2 + (if g.1 = true then 1 else 0) ∧ ClsOk f.sizes g.2) ∧ Owns H0 H [(id5, .cells 1 (g.2.map iL) 0), (id4, .cells 7 z7 0)])
   (pot CC + 1) (true, CC) ⟨⟨by simp, hK⟩, o⟩ rfl ?_
  clear o hK hCl CC
  rintro m ⟨more, CC⟩ H ⟨⟨hmm, hK⟩, o⟩
  replace hmm : m = pot CC + (if more = true then 1 else 0) := hmm
  replace hK : ClsOk f.sizes CC := hK
  replace o : Owns H0 H [(id5, .cells 1 (CC.map iL) 0), (id4, .cells 7 z7 0)] := o
  cases more
  rotate_left 1
  ·try simp only [go_sem]
   obtain ⟨P0, hP0⟩ : ∃ P0, P0 = pot CC := ⟨_, rfl⟩
   rw [← hP0] at hmm
   refine awp_for [2, 4, 5] (G := Bool × List (List Int)) (fun a g => [(7, some (.bool g.1)), (8, some (.int .i64 (a : Int)))])
    (fun a g H => (pot g.2 ≤ P0 ∧ (g.1 = true → pot g.2 < P0) ∧ ClsOk f.sizes g.2) ∧ Owns H0 H [(id5, .cells 1 (g.2.map iL) 0), (id4, .cells 7 z7 0)]) f.acts.length (false, CC) ⟨⟨by simp [hP0], by simp, hK⟩, o⟩ rfl ?_
   clear o hK hP0 CC
   rintro a ⟨more, CC⟩ H ha ⟨⟨hp1, hp2, hK⟩, o⟩
   replace hp1 : pot CC ≤ P0 := hp1
   replace hp2 : more = true → pot CC < P0 := hp2
   replace hK : ClsOk f.sizes CC := hK
   replace o : Owns H0 H [(id5, .cells 1 (CC.map iL) 0), (id4, .cells 7 z7 0)] := o
   try simp only [go_sem, reduceAdd, reduceLeDiff]
   refine ⟨fun h2 => At.mk ?_, fun h2 => At.mk ?_⟩
   ·have h2p := of_decide h2
    have w2 := wsucc (k := a) (by omega)
    have ham : a < f.shape.frm.length := by omega
    have hfr := hc.1.frmObj (f := (a : Int)) (by simpa using ham)
    have hto := hc.1.toObj (f := (a : Int)) (by simpa using ham)
    have hac := hact a ham
    rw [ix_nat] at hfr hto
    obtain ⟨x, hx⟩ : ∃ x : Nat, f.shape.frm.getD a default = x := ⟨_, (Int.toNat_of_nonneg hfr.1).symm⟩
    obtain ⟨y, hy⟩ : ∃ y : Nat, f.shape.to.getD a default = y := ⟨_, (Int.toNat_of_nonneg hto.1).symm⟩
    rw [hx, hy, ix_nat, ix_nat] at hac
    rw [hx] at hfr
    rw [hy] at hto
    have hxl : x < f.sizes.length := by omega
    have hyl : y < f.sizes.length := by omega
    have hzx := hz0 x hxl
    have hzy := hz0 y hyl
    obtain ⟨n, hn⟩ : ∃ n : Nat, f.sizes.getD x default = n := ⟨_, (Int.toNat_of_nonneg hzx.1).symm⟩
    obtain ⟨ny, hny⟩ : ∃ n : Nat, f.sizes.getD y default = n := ⟨_, (Int.toNat_of_nonneg hzy.1).symm⟩
    rw [hn] at hac hzx
    rw [hny] at hac hzy
    try simp only [go_sem, reduceAdd, reduceLeDiff]
    refine ⟨ham, by omega, ?_⟩
    rw [hx, hy]
    refine awp_for [2, 4, 5, 8, 9, 10] (G := Bool × List (List Int)) (fun d g => [(7, some (.bool g.1)), (11, some (.int .i64 (d : Int)))])
     (fun d g H => (pot g.2 ≤ P0 ∧ (g.1 = true → pot g.2 < P0) ∧ ClsOk f.sizes g.2) ∧ Owns H0 H [(id5, .cells 1 (g.2.map iL) 0), (id4, .cells 7 z7 0)]) n (more, CC) ⟨⟨hp1, hp2, hK⟩, o⟩ rfl ?_
    clear o hp1 hp2 hK
    rintro d ⟨more, CC⟩ H hd ⟨⟨hp1, hp2, hK⟩, o⟩
    replace hp1 : pot CC ≤ P0 := hp1
    replace hp2 : more = true → pot CC < P0 := hp2
    replace hK : ClsOk f.sizes CC := hK
    replace o : Owns H0 H [(id5, .cells 1 (CC.map iL) 0), (id4, .cells 7 z7 0)] := o
    have hkx := hK.row x hxl
    have hkl := hK.len
    rw [hn] at hkx
    try simp only [go_sem]
    refine ⟨hxl, rd_own o (by omega) ?_⟩
    have ecl : (CC.getD x default).length = n := by omega
    try simp only [go_sem, ecl]
    refine ⟨fun h3 => At.mk ?_, fun h3 => At.mk ?_⟩
    ·have h3p := of_decide h3
     have w3 := wsucc (k := d) (by omega)
     try simp only [go_sem]
     refine awp_for [2, 4, 5, 8, 9, 10, 11] (G := Bool × List (List Int)) (fun e g => [(7, some (.bool g.1)), (12, some (.int .i64 (e : Int)))])
      (fun e g H => (pot g.2 ≤ P0 ∧ (g.1 = true → pot g.2 < P0) ∧ ClsOk f.sizes g.2) ∧ Owns H0 H [(id5, .cells 1 (g.2.map iL) 0), (id4, .cells 7 z7 0)]) d (more, CC) ⟨⟨hp1, hp2, hK⟩, o⟩ rfl ?_
     clear o hp1 hp2 hK hkx hkl ecl
     rintro e ⟨more, CC⟩ H he ⟨⟨hp1, hp2, hK⟩, o⟩
     replace hp1 : pot CC ≤ P0 := hp1
     replace hp2 : more = true → pot CC < P0 := hp2
     replace hK : ClsOk f.sizes CC := hK
     replace o : Owns H0 H [(id5, .cells 1 (CC.map iL) 0), (id4, .cells 7 z7 0)] := o
     have hkx := hK.row x hxl
     have hky := hK.row y hyl
     have hkl := hK.len
     rw [hn] at hkx
     rw [hny] at hky
     try simp only [go_sem]
     refine ⟨fun h4 => At.mk ?_, fun h4 => At.mk ?_⟩
     ·have h4p := of_decide h4
      have w4 := wsucc (k := e) (by omega)
      have hu := hac.2 _ (mem_getD.mpr ⟨d, by omega, rfl⟩)
      have hv := hac.2 _ (mem_getD.mpr ⟨e, by omega, rfl⟩)
      try simp only [go_sem, reduceAdd, reduceLeDiff]
      refine ⟨h2p, by omega, h2p, by omega, ?_⟩
      generalize (f.acts.getD a default).getD d default = u at hu ⊢
      generalize (f.acts.getD a default).getD e default = v at hv ⊢
      refine ⟨hxl, rd_own o (by omega) ?_⟩
      try simp only [go_sem]
      refine ⟨by omega, hxl, rd_own o (by omega) ?_⟩
      try simp only [go_sem]
      refine ⟨by omega, ?_⟩
      refine ⟨fun h5 => At.mk ?_, fun h5 => At.mk ?_⟩
      ·try simp only [go_sem, h5]
       have hlx : (CC.getD y default).length = ny := by omega
       refine ⟨hyl, rd_own o (by omega) ?_⟩
       try simp only [go_sem]
       refine ⟨⟨hu.1, by omega⟩, hyl, rd_own o (by omega) ?_⟩
       try simp only [go_sem]
       refine ⟨⟨hv.1, by omega⟩, ?_⟩
       refine ⟨fun h6 => At.mk ?_, fun h6 => At.mk ?_⟩
       ·try simp only [go_sem, reduceAdd, reduceLeDiff]
        have h6p := h6; simp only [bnt, decide_eq_false_iff_not] at h6p
        have h6p : ix (CC.getD y default) u ≠ ix (CC.getD y default) v := h6p
        have hul : 0 ≤ u ∧ u.toNat < (CC.getD y default).length := ⟨hu.1, by omega⟩
        have hvl : 0 ≤ v ∧ v.toNat < (CC.getD y default).length := ⟨hv.1, by omega⟩
        have hpo := pairsOf_ok hul hvl
        rw [hlx] at hpo
        have hgl := joinL_glued (n := ny) (ps := pairsOf (CC.getD y default) ++ [[u, v]]) fun q hq => ⟨(hpo q hq).2.1.2, (hpo q hq).2.2.2⟩
        have hless := glued_less (by rw [joinL_len, hlx]) hul hvl h6p hgl
        have hset := hK.set hyl (m := joinL ny (pairsOf (CC.getD y default) ++ [[u, v]])) (by rw [joinL_len, hny]) fun w hw => by rw [hny]; exact joinL_ran hw
        have hpot := pot_set CC y _ (by omega) hless
        refine ⟨hyl, hyl, rd_own o (by omega) ?_⟩
        rw [hny]
        try simp only [go_sem, reduceAdd]
        refine (l01Pairs_own B (CC.getD y default) _ _ _ o).own fun idp A H o hA => ?_
        subst hA
        have hpl : (pairsOf (CC.getD y default)).length = ny := by rw [pairsOf, List.length_map, List.length_range, hlx]
        try simp only [go_sem]
        refine app_own [u, v] o rfl rfl (by simp only [maxL]; omega) fun idp H o => ?_
        try simp only [go_sem]
        refine call_fz 1 rfl o rfl fun H o => ?_
        refine (join_pok B ny (by omega) (pairsOf (CC.getD y default) ++ [[u, v]]) hpo).go fun _ => ?_
        try simp only [go_sem]
        refine ⟨hyl, set_own (f := iL) (joinL ny (pairsOf (CC.getD y default) ++ [[u, v]])) o rfl (by omega) fun H o => ?_⟩
        try simp only [go_sem, w4]
        exact for_next (true, _) (by omega) ⟨⟨Nat.le_trans (Nat.le_of_lt hpot) hp1, fun _ => Nat.lt_of_lt_of_le hpot hp1, hset⟩, o⟩ rfl
       ·try simp only [go_sem, w4]
        exact for_next (more, CC) (by omega) ⟨⟨hp1, hp2, hK⟩, o⟩ rfl
      ·try simp only [go_sem, h5, w4]
       exact for_next (more, CC) (by omega) ⟨⟨hp1, hp2, hK⟩, o⟩ rfl
     ·have h4p := of_ndecide h4
      obtain rfl : e = d := by omega
      try simp only [go_sem, w3]
      exact for_next (more, CC) (by omega) ⟨⟨hp1, hp2, hK⟩, o⟩ rfl
    ·have h3p := of_ndecide h3
     obtain rfl : d = n := by omega
     try simp only [go_sem, w2]
     exact for_next (more, CC) (by omega) ⟨⟨hp1, hp2, hK⟩, o⟩ rfl
   ·have h2p := of_ndecide h2
    obtain rfl : a = f.acts.length := by omega
    try simp only [go_sem]
    cases more
    ·exact while_next (pot CC) (false, CC) (by simp at hmm; omega) ⟨⟨by simp, hK⟩, o⟩ rfl
    ·have := hp2 rfl
     exact while_next (pot CC + 1) (true, CC) (by simp at hmm; omega) ⟨⟨by simp, hK⟩, o⟩ rfl
  ·clear hmm
   have hkl := hK.len
   have hcx : ∀ x, x < f.sizes.length → (CC.getD x default).length ≤ 120 := fun x hx => by have := hK.row x hx; have := hz0 x hx; omega
   have hmx : ∀ x, x < f.sizes.length → (0 ≤ mxL (CC.getD x default) ∧ mxL (CC.getD x default) ≤ f.sizes.getD x default) ∧ ∀ v, v ∈ CC.getD x default → v < mxL (CC.getD x default) :=
    fun x hx => mxL_bd (hz0 x hx).1 (hK.ran x hx)
   try simp only [go_sem]
   refine fz_own o hkl.symm fun H o => ?_
   try simp only [go_sem, reduceAdd, reduceLeDiff]
   refine (l02Own_ok B f.shape).go fun _ => ?_
   try simp only [go_sem, reduceAdd, reduceLeDiff]
   refine ⟨by simp [maxL], newRef_own o fun id8 H o => ?_⟩
   try simp only [go_sem]
   refine stc o fun H o => ?_
   simp only [wr_cons, wr_nil, List.set_cons_zero, List.set_cons_succ] at o
   let st : AV → AV → MObj := fun x5 x6 => .cells 7 [iI f.shape.objs, iL f.shape.frm, iL f.shape.to, iL f.shape.idn, iLL f.shape.comp, x5, x6] 0
   try simp only [go_sem]
   refine awp_for [2, 4, 5, 15] (G := AV) (fun k X => [(16, some (.int .i64 (k : Int)))]) (fun k X H => LsO iI H0 H ((id8, st X .nilsl) :: [(id4, .cells 7 z7 0)]) X ((CC.take k).map mxL)) CC.length .nilsl (.inl ⟨rfl, rfl, o⟩) rfl ?_
   clear o
   rintro k X H hk hX
   try simp only [go_sem]
   refine ⟨fun h1 => At.mk ?_, fun h1 => At.mk ?_⟩
   ·have h1p := of_decide h1
    have w1 := wsucc (k := k) (by omega)
    obtain ⟨p, o, hp⟩ := hX.split
    clear hX
    have hck := hcx k (by omega)
    have hrk := hK.ran k (by omega)
    have hzk := hz0 k (by omega)
    try simp only [go_sem]
    refine awp_for [2, 4, 5, 15, 16] (G := Unit) (fun e _ => [(17, some (.int .i64 (mxL ((CC.getD k default).take e)))), (18, some (.int .i64 (e : Int)))]) (fun e _ H => Owns H0 H (p ++ ((id8, st X .nilsl) :: [(id4, .cells 7 z7 0)]))) (CC.getD k default).length () o rfl ?_
    clear o
    rintro e _ H he o
    try simp only [go_sem]
    refine ⟨h1p, ?_⟩
    refine ⟨fun h2 => At.mk ?_, fun h2 => At.mk ?_⟩
    ·have h2p := of_decide h2
     have w2 := wsucc (k := e) (by omega)
     have hv := hrk _ (mem_getD.mpr ⟨e, h2p, rfl⟩)
     have w3 : IntKind.i64.wrap ((CC.getD k default).getD e default + 1) = (CC.getD k default).getD e default + 1 := wrap_i64 (by omega) (by omega)
     have hms := mxL_succ (CC.getD k default) h2p
     try simp only [go_sem, ↓reduceIte]
     refine ⟨h1p, h2p, ?_⟩
     rw [w3, ← hms]
     try simp only [go_sem, w2]
     exact for_next () (by omega) o rfl
    ·have h2p := of_ndecide h2
     obtain rfl : e = (CC.getD k default).length := by omega
     rw [List.take_length]
     have hX := LsO.mk o hp
     clear o
     try simp only [go_sem, reduceAdd]
     refine rd_get hX.obj (by simp [st]) ?_
     try simp only [go_sem, reduceAdd]
     have e7 : (CC.take k).map mxL ++ [mxL (CC.getD k default)] = (CC.take (k + 1)).map mxL := by rw [take_one CC h1p]; simp
     refine hX.app (mxL (CC.getD k default)) rfl (by simp only [List.length_map, List.length_take, maxL]; omega) fun idn H o => ?_
     rw [e7] at o ⊢
     try simp only [go_sem, reduceAdd]
     refine stc o.swap fun H o => ?_
     simp only [wr_cons, wr_nil, List.set_cons_zero, List.set_cons_succ] at o
     try simp only [go_sem, w1]
     exact for_next _ (by omega) (.inr ⟨idn, rfl, o.swap⟩) rfl
   ·have h1p := of_ndecide h1
    obtain rfl : k = CC.length := by omega
    rw [List.take_length] at hX
    obtain ⟨p5, o, hp5⟩ := hX.split
    have o : Owns H0 H ((id8, st X .nilsl) :: (p5 ++ [(id4, .cells 7 z7 0)])) := o.perm List.perm_middle
    clear hX
    try simp only [go_sem]
    refine awp_for [2, 4, 5, 15] (G := AV × List (List Int)) (fun a Y => [(19, some (.int .i64 (a : Int)))]) (fun a Y H => Y.2.length = a ∧ LsO iL H0 H ((id8, st X Y.1) :: (p5 ++ [(id4, .cells 7 z7 0)])) Y.1 Y.2) f.acts.length (.nilsl, []) ⟨rfl, .inl ⟨rfl, rfl, o⟩⟩ rfl ?_
    clear o
    rintro a ⟨Y, RR⟩ H ha ⟨hRR, hY⟩
    replace hRR : RR.length = a := hRR
    replace hY : LsO iL H0 H ((id8, st X Y) :: (p5 ++ [(id4, .cells 7 z7 0)])) Y RR := hY
    try simp only [go_sem, reduceAdd, reduceLeDiff]
    refine ⟨fun h2 => At.mk ?_, fun h2 => At.mk ?_⟩
    ·have h2p := of_decide h2
     have w2 := wsucc (k := a) (by omega)
     have ham : a < f.shape.frm.length := by omega
     have hfr := hc.1.frmObj (f := (a : Int)) (by simpa using ham)
     have hto := hc.1.toObj (f := (a : Int)) (by simpa using ham)
     have hac := hact a ham
     rw [ix_nat] at hfr hto
     obtain ⟨x, hx⟩ : ∃ x : Nat, f.shape.frm.getD a default = x := ⟨_, (Int.toNat_of_nonneg hfr.1).symm⟩
     obtain ⟨y, hy⟩ : ∃ y : Nat, f.shape.to.getD a default = y := ⟨_, (Int.toNat_of_nonneg hto.1).symm⟩
     rw [hx, hy, ix_nat, ix_nat] at hac
     rw [hx] at hfr
     rw [hy] at hto
     have hxl : x < f.sizes.length := by omega
     have hyl : y < f.sizes.length := by omega
     have hzx := hz0 x hxl
     have hkx := hK.row x hxl
     have hky := hK.row y hyl
     have hmxx := hmx x hxl
     try simp only [go_sem, reduceAdd, reduceLeDiff]
     refine ⟨ham, by omega, ?_⟩
     rw [hx, hy]
     obtain ⟨idX, rfl, rfl⟩ := hp5.sub (i := x) (by rw [List.length_map]; omega)
     refine rd_get hY.obj (by simp [st]) ?_
     try simp only [go_sem]
     refine ⟨by rw [List.length_map]; omega, rd_inner (f := iI) (hY.get (x := (idX, .cells 1 ((CC.map mxL).map iI) 0)) (by simp)) (by rw [List.length_map]; omega) ?_⟩
     rw [map_getD mxL (show x < CC.length by omega)]
     obtain ⟨n, hn⟩ : ∃ n : Nat, mxL (CC.getD x default) = n := ⟨_, (Int.toNat_of_nonneg hmxx.1.1).symm⟩
     rw [hn] at hmxx ⊢
     obtain ⟨q, o, hq⟩ := hY.split
     clear hY
     try simp only [go_sem]
     refine ⟨⟨by omega, by simp only [maxL]; omega⟩, mks_list iI 0 rfl o fun id22 H o => ?_⟩
     try simp only [go_sem]
     have hrep : (List.replicate n (0 : Int)).length = n := List.length_replicate
     refine awp_for [2, 4, 5, 15, 19, 20, 21, 22] (G := List Int) (fun e _ => [(23, some (.int .i64 (e : Int)))])
      (fun e A H => A.length = n ∧ Owns H0 H ((id22, .cells 1 (A.map iI) 0) :: (q ++ ((id8, st (.buf idX (CC.map mxL).length) Y) :: ([(idX, .cells 1 ((CC.map mxL).map iI) 0)] ++ [(id4, .cells 7 z7 0)]))))) (CC.getD x default).length (List.replicate n 0) ⟨hrep, o⟩ rfl ?_
     clear o
     rintro e A H he ⟨hA, o⟩
     try simp only [go_sem]
     refine ⟨by omega, ?_⟩
     refine ⟨fun h3 => At.mk ?_, fun h3 => At.mk ?_⟩
     ·have h3p := of_decide h3
      have w3 := wsucc (k := e) (by omega)
      have hcv := hmxx.2 _ (mem_getD.mpr ⟨e, h3p, rfl⟩)
      have hcr := hK.ran x hxl _ (mem_getD.mpr ⟨e, h3p, rfl⟩)
      have hav := hac.2 _ (mem_getD.mpr ⟨e, by omega, rfl⟩)
      try simp only [go_sem, reduceAdd, reduceLeDiff]
      refine ⟨by omega, h3p, by omega, h2p, by omega, ⟨hav.1, by omega⟩, ⟨hcr.1, by omega⟩, ?_⟩
      refine set_own (f := iI) _ o rfl (by omega) fun H o => ?_
      try simp only [go_sem, w3]
      exact for_next (A.set _ _) (by omega) ⟨by rw [List.length_set]; exact hA, o⟩ rfl
     ·have h3p := of_ndecide h3
      obtain rfl : e = (CC.getD x default).length := by omega
      try simp only [go_sem]
      refine fz_own o hA.symm fun H o => ?_
      have hY := LsO.mk o hq
      clear o
      try simp only [go_sem, reduceAdd]
      refine rd_get hY.obj (by simp [st]) ?_
      try simp only [go_sem, reduceAdd]
      refine hY.app A rfl (by simp only [maxL]; omega) fun idn H o => ?_
      try simp only [go_sem, reduceAdd]
      refine stc o.swap fun H o => ?_
      simp only [wr_cons, wr_nil, List.set_cons_zero, List.set_cons_succ] at o
      try simp only [go_sem, w2]
      exact for_next (.buf idn (RR ++ [A]).length, RR ++ [A]) (by omega) ⟨by show (RR ++ [A]).length = _; simp [hRR], .inr ⟨idn, rfl, o.swap⟩⟩ rfl
    ·have h2p := of_ndecide h2
     obtain rfl : a = f.acts.length := by omega
     try simp only [go_sem]
     refine wk_ls 6 hY rfl fun H o => ?_
     simp only [List.set_cons_zero, List.set_cons_succ] at o
     have hX := LsO.mk (o.perm List.perm_middle.symm) hp5
     clear o
     refine wk_ls 5 hX rfl fun H o => wkW_done ?_
     simp only [List.set_cons_zero, List.set_cons_succ] at o
     try simp only [go_sem]
     refine rd_celln o (by simp) ?_
     try simp only [go_sem]
     refine stc o.swap fun H o => ?_
     simp only [wr_cons, wr_nil, List.set_cons_zero, List.set_cons_succ] at o
     try simp only [go_sem]
     have hr := o.rc 7 0 (by simp)
     simp only [List.drop_zero] at hr
     rw [hr]
     exact rets_ret ⟨⟨f.shape, CC.map mxL, RR⟩, rfl, rfl, by show RR.length ≤ 40; omega⟩ o.sub
end Go.Proofs.Shf
namespace Go.AW
@[go_sem] theorem cells_emsl : AV.emsl.cells = [.emsl] := rfl
@[go_sem] theorem one_emsl : AV.emsl.one = true := rfl
@[go_sem] theorem le_maxL3 : (3 ≤ maxL) = True := by simp [maxL]
@[go_sem] theorem le_maxL4 : (4 ≤ maxL) = True := by simp [maxL]
@[go_sem] theorem le_maxL5 : (5 ≤ maxL) = True := by simp [maxL]
theorem permC {l r : Ob} (h : ∀ x, @List.count _ (@instBEqOfDecidableEq _ (Classical.typeDecidableEq _)) x l = @List.count _ (@instBEqOfDecidableEq _ (Classical.typeDecidableEq _)) x r) : l.Perm r := by
 letI : DecidableEq (Nat × MObj) := Classical.typeDecidableEq _
 exact List.perm_iff_count.mpr h
def EmP {α : Type} (f : α → AV) (p : List (Nat × MObj)) (X : AV) (A : List α) : Prop :=
 (p = [] ∧ X = .emsl ∧ A = []) ∨ ∃ id, p = [(id, .cells 1 (A.map f) 0)] ∧ X = .buf id A.length
theorem EmP.o {α : Type} {f : α → AV} {H0 H : Heap} {l p : List (Nat × MObj)} {X : AV} {A : List α} (h : EmP f p X A) (o : Owns H0 H (p ++ l)) : EmO f H0 H l X A := by
 rcases h with ⟨rfl, h1, h2⟩ | ⟨id, rfl, h1⟩
 ·exact .inl ⟨h1, h2, o⟩
 ·exact .inr ⟨id, h1, o⟩
theorem wk_emc {F : Env → Heap → Prop} {σ : Env} {H0 H : Heap} {l : List (Nat × MObj)} {id sz fr : Nat} {cs : List AV} (k : Nat)
  (o : Owns H0 H ((id, .cells sz cs fr) :: l)) (hc : cs[k]? = some .emsl) (hk : ∀ H', Owns H0 H' ((id, .cells sz (cs.set k (.sl [])) fr) :: l) → wkW F σ H') : wkW F σ H := by
 have h1 := o.h0
 simp only at h1
 refine wkW_step (σ1 := σ) ?_ (hk _ (o.put (.cells sz (cs.set k (.sl [])) fr)))
 intro g B w tm hW hE
 refine ⟨g, .refl g, hW.recell h1 (by simp) fun j v hj hv => ?_, hE⟩
 by_cases e : j = k
 ·subst e
  have e1 : cs.getD j nv = .emsl := by rw [List.getD_eq_getElem?_getD, hc]; rfl
  have e2 : (cs.set j (.sl [])).getD j nv = .sl [] := by simp [List.getD_eq_getElem?_getD, hj]
  rw [e1] at hv; rw [e2]
  cases hv; exact .slnil _ 0
 ·have e2 : (cs.set k (.sl [])).getD j nv = cs.getD j nv := by
   rw [List.getD_eq_getElem?_getD, List.getElem?_set_ne (by omega), ← List.getD_eq_getElem?_getD]
  rw [e2]; exact hv
theorem wk_em {α : Type} [Inhabited α] {f : α → AV} [One f] {F : Env → Heap → Prop} {σ : Env} {H0 H : Heap} {l p : List (Nat × MObj)} {id sz fr : Nat} {cs : List AV} {X : AV} {A : List α} (k : Nat)
  (h : EmP f p X A) (o : Owns H0 H (p ++ ((id, .cells sz cs fr) :: l))) (hc : cs[k]? = some X)
  (hk : ∀ H', Owns H0 H' ((id, .cells sz (cs.set k (mL f A)) fr) :: l) → wkW F σ H') : wkW F σ H := by
 rcases h with ⟨rfl, rfl, rfl⟩ | ⟨id2, rfl, rfl⟩
 ·exact wk_emc k o hc hk
 ·exact wk_cell k o.swap hc rfl hk
end Go.AW
namespace Go.Shf
open Go.AW
structure Cat.Sh (N : Nat) (c : Cat) : Prop where
 ob : 0 ≤ c.objs ∧ c.objs ≤ N
 il : (c.idn.length : Int) = c.objs
 ml : c.frm.length ≤ N
 tl : c.to.length = c.frm.length
 cl : c.comp.length = c.frm.length
 row : ∀ f : Nat, f < c.frm.length → (c.comp.getD f default).length = c.frm.length
theorem Cat.Sh.mono {N M : Nat} {c : Cat} (h : c.Sh N) (hm : N ≤ M) : c.Sh M := ⟨by have := h.ob; omega, h.il, by have := h.ml; omega, h.tl, h.cl, h.row⟩
def CatQ (N : Nat) (r : AV) : Prop := ∃ c : Cat, r = .agg c.cells ∧ c.Sh N
def SqT (n : Nat) (T : List (List Int)) : Prop := T.length ≤ n ∧ ∀ i, i < T.length → (T.getD i default).length = T.length
def SqQ (n : Nat) (r : AV) : Prop := ∃ T : List (List Int), r = iLL T ∧ SqT n T
end Go.Shf
namespace Go.Proofs.Shf
open Go.AW Go.Proofs Go.Shf
theorem l02Monoid_ok (B : Nat) : Rd B 350 [] (SqQ 4) := by
 intro id s H0 H hs o
 refine c350 (by simp) fun hf => ?_
 unfold s350
 try simp only [go_sem, reduceAdd]
 refine (l01Next_ok B 8).go hs o fun r s' H hr ⟨k, e, h0, h1, _⟩ hs o => ?_
 subst e
 try simp only [go_sem]
 refine ⟨fun q0 => At.mk ?_, fun q0 => At.mk ?_⟩
 ·try simp only [go_sem, reduceAdd]
  exact src_ret ⟨[[0]], rfl, by decide, by decide⟩ hs o
 try simp only [go_sem]
 refine ⟨fun q1 => At.mk ?_, fun q1 => At.mk ?_⟩
 ·try simp only [go_sem, reduceAdd]
  exact src_ret ⟨[[0, 1], [1, 0]], rfl, by decide, by decide⟩ hs o
 try simp only [go_sem]
 refine ⟨fun q2 => At.mk ?_, fun q2 => At.mk ?_⟩
 ·try simp only [go_sem, reduceAdd]
  exact src_ret ⟨[[0, 1], [1, 1]], rfl, by decide, by decide⟩ hs o
 try simp only [go_sem]
 refine ⟨fun q3 => At.mk ?_, fun q3 => At.mk ?_⟩
 ·try simp only [go_sem, reduceAdd]
  exact src_ret ⟨[[0, 1, 2], [1, 2, 0], [2, 0, 1]], rfl, by decide, by decide⟩ hs o
 try simp only [go_sem]
 refine ⟨fun q4 => At.mk ?_, fun q4 => At.mk ?_⟩
 ·try simp only [go_sem, reduceAdd]
  exact src_ret ⟨[[0, 1, 2], [1, 1, 2], [2, 2, 2]], rfl, by decide, by decide⟩ hs o
 try simp only [go_sem]
 refine ⟨fun q5 => At.mk ?_, fun q5 => At.mk ?_⟩
 ·try simp only [go_sem, reduceAdd]
  exact src_ret ⟨[[0, 1, 2], [1, 1, 2], [2, 1, 2]], rfl, by decide, by decide⟩ hs o
 try simp only [go_sem]
 refine ⟨fun q6 => At.mk ?_, fun q6 => At.mk ?_⟩
 ·try simp only [go_sem, reduceAdd]
  exact src_ret ⟨[[0, 1, 2, 3], [1, 0, 2, 3], [2, 3, 2, 3], [3, 2, 2, 3]], rfl, by decide, by decide⟩ hs o
 try simp only [go_sem, reduceAdd]
 exact src_ret ⟨[[0, 1, 2], [1, 2, 2], [2, 2, 2]], rfl, by decide, by decide⟩ hs o
theorem l02Split_ok (B : Nat) : Rets B 351 [] (CatQ 6) := by
 intro H0
 refine c351 (by simp) fun hf => ?_
 unfold s351
 try simp only [go_sem, reduceAdd]
 refine fun i1 n1 => ?_
 try simp only [go_sem, ↓reduceIte, reduceAdd, reduceLeDiff]
 refine rets_ret ⟨⟨2, [0, 1, 0, 0, 1], [0, 1, 0, 1, 0], [0, 1], [[0, -1, 2, 3, -1], [-1, 1, -1, -1, 4], [2, -1, 2, 3, -1], [-1, 3, -1, -1, 2], [4, -1, 4, 1, -1]]⟩, rfl, by decide, by decide, by decide, by decide, by decide, by decide⟩ ?_
 repeat (first | exact .refl _ | refine sub_set ?_ n1)
theorem l02Fits_ok (B : Nat) (c : Cat) : Pur Tryz.prog B 316 [.agg c.cells] (.bool (dec (c.objs ≤ 8 ∧ c.frm.length ≤ 40))) := by
 refine ⟨fun H0 => c316 (by simp) fun hf => ?_⟩
 unfold s316
 try simp only [go_sem, reduceAdd, reduceLeDiff]
 refine ⟨fun h1 => At.mk ?_, fun h1 => At.mk ?_⟩
 ·try simp only [go_sem, reduceAdd, reduceLeDiff, h1]
  exact pure_ret (by
   have h1p := of_decide h1
   congr 1
   rw [decide_dec]
   exact dec_congr ⟨fun h => ⟨h1p, by omega⟩, fun h => by have := h.2; omega⟩) (.refl _)
 ·try simp only [go_sem, h1]
  exact pure_ret (by rw [dec_f (fun h => of_ndecide h1 h.1)]) (.refl _)
theorem l03Monoid_ok (B : Nat) (T : List (List Int)) (hT : SqT 4 T) : Rets B 349 [iLL T] (CatQ 4) := by
 intro H0
 refine c349p (by simp) fun hf => ?_
 unfold s349p
 try simp only [go_sem, reduceAdd]
 refine newRef_own (.nil _) fun id H o => ?_
 try simp only [go_sem, reduceAdd]
 refine ⟨_, (l01Own2_ok ..).run, ?_⟩
 have hT4 := hT.1
 have hc : (T.length : Int) ≤ T.length ∧ T.length ≤ maxL ∧ T.length ≤ maxL := ⟨by omega, by simp only [maxL]; omega, by simp only [maxL]; omega⟩
 refine ⟨?_, ?_⟩
 ·refine ⟨hc, mks_list iI 0 rfl o fun i7 H o => ?_⟩
  try simp only [go_sem]
  refine ⟨hc, mks_list iI 0 rfl o fun i9 H o => ?_⟩
  try simp only [go_sem, reduceAdd, reduceLeDiff]
  have o := o.pull [_, _]
  simp only [List.cons_append, List.nil_append] at o
  refine stc o fun H o => ?_
  simp only [wr_cons, wr_nil, List.set_cons_zero, List.set_cons_succ] at o
  try simp only [go_sem]
  refine wk_cell 2 o rfl (by simp) fun H o => ?_
  simp only [List.set_cons_zero, List.set_cons_succ] at o
  refine wk_cell 1 o rfl (by simp) fun H o => wkW_done ?_
  simp only [List.set_cons_zero, List.set_cons_succ] at o
  try simp only [go_sem]
  have hr := o.rc 5 0 (by simp)
  simp only [List.drop_zero] at hr
  rw [hr]
  try simp only [go_sem]
  exact rets_ret ⟨⟨1, List.replicate T.length 0, List.replicate T.length 0, [0], T⟩, rfl, by simp, by simp, by simpa using hT4, by simp, by simp, fun f hf => by simpa using hT.2 f (by simpa using hf)⟩ o.sub
 ·refine ⟨hc, mks_list iI 0 rfl o fun i9 H o => ?_⟩
  try simp only [go_sem]
  refine ⟨hc, mks_list iI 0 rfl o fun i7 H o => ?_⟩
  try simp only [go_sem, reduceAdd, reduceLeDiff]
  have o := o.pull [_, _]
  simp only [List.cons_append, List.nil_append] at o
  refine stc o fun H o => ?_
  simp only [wr_cons, wr_nil, List.set_cons_zero, List.set_cons_succ] at o
  try simp only [go_sem]
  refine wk_cell 1 o rfl (by simp) fun H o => ?_
  simp only [List.set_cons_zero, List.set_cons_succ] at o
  refine wk_cell 2 o rfl (by simp) fun H o => wkW_done ?_
  simp only [List.set_cons_zero, List.set_cons_succ] at o
  try simp only [go_sem]
  have hr := o.rc 5 0 (by simp)
  simp only [List.drop_zero] at hr
  rw [hr]
  try simp only [go_sem]
  exact rets_ret ⟨⟨1, List.replicate T.length 0, List.replicate T.length 0, [0], T⟩, rfl, by simp, by simp, by simpa using hT4, by simp, by simp, fun f hf => by simpa using hT.2 f (by simpa using hf)⟩ o.sub
theorem l03Op_ok (B : Nat) (N : Nat) (hN : N ≤ 4096) (c : Cat) (hc : c.Sh N) : Rets B 352 [.agg c.cells] (CatQ N) := by
 intro H0
 refine c352p (by simp) fun hf => ?_
 have hob := hc.ob
 have hml := hc.ml
 have htl := hc.tl
 have hcl := hc.cl
 have hrow := hc.row
 unfold s352p
 try simp only [go_sem, reduceAdd]
 refine newRef_own (.nil _) fun id2 H o => ?_
 try simp only [go_sem, reduceAdd, reduceLeDiff]
 refine ⟨_, (l01Own_ok ..).run, ?_⟩
 try simp only [go_sem, reduceAdd, reduceLeDiff]
 refine ⟨_, (l01Own_ok ..).run, ?_⟩
 try simp only [go_sem, reduceAdd, reduceLeDiff]
 refine ⟨_, (l01Own_ok ..).run, ?_⟩
 try simp only [go_sem, reduceAdd, reduceLeDiff]
 refine newRef_own o fun id3 H o => ?_
 try simp only [go_sem]
 refine stc o fun H o => ?_
 simp only [wr_cons, wr_nil, List.set_cons_zero, List.set_cons_succ] at o
 try simp only [go_sem]
 refine awp_for [1, 2, 3] (G := AV × Ob × List (List Int)) (fun k _ => [(4, some (.int .i64 (k : Int)))])
  (fun k g H => EmP iL g.2.1 g.1 g.2.2 ∧ g.2.2.length = k ∧ (∀ r, r ∈ g.2.2 → r.length = c.frm.length) ∧ Owns H0 H (g.2.1 ++ [(id3, MObj.cells 5 [iI c.objs, iL c.to, iL c.frm, iL c.idn, g.1] 0), (id2, MObj.cells 5 [iI 0, .nilsl, .nilsl, .nilsl, .nilsl] 0)])) c.frm.length (.emsl, [], [])
  ⟨.inl ⟨rfl, rfl, rfl⟩, rfl, by simp, o⟩ rfl ?_
 clear o
 rintro k ⟨X, p, A⟩ H hk ⟨hX, hA, hr, o⟩
 replace hX : EmP iL p X A := hX
 replace hA : A.length = k := hA
 replace hr : ∀ r, r ∈ A → r.length = c.frm.length := hr
 replace o : Owns H0 H (p ++ [(id3, MObj.cells 5 [iI c.objs, iL c.to, iL c.frm, iL c.idn, X] 0), (id2, MObj.cells 5 [iI 0, .nilsl, .nilsl, .nilsl, .nilsl] 0)]) := o
 try simp only [go_sem, reduceAdd, reduceLeDiff]
 refine ⟨fun h1 => At.mk ?_, fun h1 => At.mk ?_⟩
 ·have h1p := of_decide h1
  try simp only [go_sem]
  refine newBuf_own o fun idr H o => ?_
  try simp only [go_sem]
  refine awp_for [1, 2, 3, 4] (G := Nat × List Int) (fun j g => [(5, some (.buf g.1 g.2.length)), (6, some (.int .i64 (j : Int)))])
   (fun j g H => g.2.length = j ∧ Owns H0 H ((g.1, .cells 1 (g.2.map iI) 0) :: (p ++ [(id3, MObj.cells 5 [iI c.objs, iL c.to, iL c.frm, iL c.idn, X] 0), (id2, MObj.cells 5 [iI 0, .nilsl, .nilsl, .nilsl, .nilsl] 0)]))) c.frm.length (idr, []) ⟨rfl, o⟩ rfl ?_
  clear o
  rintro j ⟨idr, row⟩ H hj ⟨hrl, o⟩
  replace hrl : row.length = j := hrl
  replace o : Owns H0 H ((idr, .cells 1 (row.map iI) 0) :: (p ++ [(id3, MObj.cells 5 [iI c.objs, iL c.to, iL c.frm, iL c.idn, X] 0), (id2, MObj.cells 5 [iI 0, .nilsl, .nilsl, .nilsl, .nilsl] 0)])) := o
  try simp only [go_sem, reduceAdd, reduceLeDiff]
  refine ⟨fun h2 => At.mk ?_, fun h2 => At.mk ?_⟩
  ·have h2p := of_decide h2
   have w := wsucc (k := j) (by omega)
   have hrj := hrow j h2p
   try simp only [go_sem, reduceAdd, reduceLeDiff]
   refine ⟨by omega, by omega, ?_⟩
   refine app_own _ o rfl rfl (by simp only [maxL]; omega) fun idr H o => ?_
   try simp only [go_sem, w]
   exact for_next (idr, _) h2p ⟨by simp [hrl], o⟩ rfl
  ·have h2p := of_ndecide h2
   try simp only [go_sem]
   refine fz_own o rfl fun H o => ?_
   try simp only [go_sem, reduceAdd]
   refine rd_get (o.get (id3, MObj.cells 5 [iI c.objs, iL c.to, iL c.frm, iL c.idn, X] 0) (by simp)) (by simp) ?_
   try simp only [go_sem, reduceAdd]
   refine (hX.o o).app row rfl (by simp only [maxL]; omega) fun id' H o => ?_
   try simp only [go_sem, reduceAdd]
   refine stc o.swap fun H o => ?_
   simp only [wr_cons, wr_nil, List.set_cons_zero, List.set_cons_succ] at o
   have w := wsucc (k := k) (by omega)
   try simp only [go_sem, w]
   exact for_next (_, [(id', .cells 1 ((A ++ [row]).map iL) 0)], A ++ [row]) h1p ⟨.inr ⟨id', rfl, rfl⟩, by simp [hA], by
    intro r hr'
    rcases List.mem_append.mp hr' with h | h
    ·exact hr r h
    ·rw [List.mem_singleton] at h; subst h; omega, o.swap⟩ rfl
 ·have h1p := of_ndecide h1
  try simp only [go_sem]
  refine wk_em 4 hX o rfl fun H o => wkW_done ?_
  simp only [List.set_cons_zero, List.set_cons_succ] at o
  try simp only [go_sem]
  refine rd_celln o (by simp) ?_
  try simp only [go_sem]
  refine stc o.swap fun H o => ?_
  simp only [wr_cons, wr_nil, List.set_cons_zero, List.set_cons_succ] at o
  try simp only [go_sem]
  have hr2 := o.rc 5 0 (by simp)
  simp only [List.drop_zero] at hr2
  rw [hr2]
  try simp only [go_sem]
  exact rets_ret ⟨⟨c.objs, c.to, c.frm, c.idn, A⟩, rfl, hob, hc.il, by show c.to.length ≤ N; omega, by show c.frm.length = c.to.length; omega, by show A.length = c.to.length; omega, fun f hf => by
   show (A.getD f default).length = c.to.length
   rw [hr _ (mem_getD.mpr ⟨f, by have : f < c.to.length := hf; omega, rfl⟩)]; omega⟩ o.sub
end Go.Proofs.Shf
namespace Go.Proofs.Shf
open Go.AW Go.Proofs Go.Shf
theorem l03Poset_ok (B : Nat) (R : List (List Int)) (hR : SqT 4 R) : Rets B 77 [iLL R] (CatQ 16) := by
 intro H0
 refine c77p (by simp) fun hf => ?_
 obtain ⟨hR4, hrow⟩ := hR
 unfold s77p
 try simp only [go_sem, reduceAdd]
 refine newRef_own (.nil _) fun id2 H o => ?_
 try simp only [go_sem]
 refine newBuf_own o fun idN H o => ?_
 try simp only [go_sem]
 refine newBuf_own o fun a H o => ?_
 try simp only [go_sem]
 refine newBuf_own o fun b H o => ?_
 try simp only [go_sem]
 refine newBuf_own o fun i H o => ?_
 try simp only [go_sem]
 refine newBuf_own o fun d H o => ?_
 try simp only [go_sem, reduceAdd, reduceLeDiff]
 refine newRef_own o fun id5 H o => ?_
 try simp only [go_sem]
 refine stc o fun H o => ?_
 simp only [wr_cons, wr_nil, List.set_cons_zero, List.set_cons_succ] at o
 try simp only [go_sem]
 generalize hn : R.length = n at *
 refine awp_for [0, 2, 3, 5] (G := (Nat × List Int) × (Nat × List Int) × (Nat × List (List Int))) (fun k g => [(4, some (.buf g.2.2.1 g.2.2.2.length)), (6, some (.int .i64 (k : Int)))])
  (fun k g H => g.2.1.2.length = g.1.2.length ∧ g.1.2.length ≤ k * n ∧ (∀ y, y ∈ g.1.2 → 0 ≤ y ∧ y < n) ∧ (∀ y, y ∈ g.2.1.2 → 0 ≤ y ∧ y < n) ∧ g.2.2.2.length = k ∧ (∀ r, r ∈ g.2.2.2 → r.length = n) ∧
   Owns H0 H [(id5, MObj.cells 5 [iI n, .buf g.1.1 g.1.2.length, .buf g.2.1.1 g.2.1.2.length, .buf i 0, .buf d 0] 0), (g.1.1, MObj.cells 1 (g.1.2.map iI) 0), (g.2.1.1, MObj.cells 1 (g.2.1.2.map iI) 0), (g.2.2.1, MObj.cells 1 (g.2.2.2.map iL) 0),
    (i, MObj.cells 1 [] 0), (d, MObj.cells 1 [] 0), (id2, MObj.cells 5 [iI 0, .nilsl, .nilsl, .nilsl, .nilsl] 0)]) n ((a, []), (b, []), (idN, []))
  ⟨rfl, by simp, by simp, by simp, rfl, by simp, o.perm (permC fun x => by (try dsimp only); simp only [List.append_eq, List.count_append, List.count_cons, List.count_nil, List.map_nil, List.length_nil, List.length_append, List.length_cons, List.length_set, Nat.zero_add, List.nil_append, iI, iL]; omega)⟩ rfl ?_
 clear o
 rintro k ⟨⟨a, A⟩, ⟨b, C⟩, ⟨idN, rows⟩⟩ H hk ⟨hC, hA, hAr, hCr, hrl, hrr, o⟩
 replace hC : C.length = A.length := hC
 replace hA : A.length ≤ k * n := hA
 replace hAr : ∀ y, y ∈ A → 0 ≤ y ∧ y < (n : Int) := hAr
 replace hCr : ∀ y, y ∈ C → 0 ≤ y ∧ y < (n : Int) := hCr
 replace hrl : rows.length = k := hrl
 replace hrr : ∀ r, r ∈ rows → r.length = n := hrr
 replace o : Owns H0 H [(id5, MObj.cells 5 [iI n, .buf a A.length, .buf b C.length, .buf i 0, .buf d 0] 0), (a, MObj.cells 1 (A.map iI) 0), (b, MObj.cells 1 (C.map iI) 0), (idN, MObj.cells 1 (rows.map iL) 0),
    (i, MObj.cells 1 [] 0), (d, MObj.cells 1 [] 0), (id2, MObj.cells 5 [iI 0, .nilsl, .nilsl, .nilsl, .nilsl] 0)] := o
 try simp only [go_sem]
 refine ⟨fun h1 => At.mk ?_, fun h1 => At.mk ?_⟩
 ·have h1p := of_decide h1
  try simp only [go_sem]
  refine newBuf_own o fun idr H o => ?_
  try simp only [go_sem]
  have hkn : k * n + n ≤ 16 := by
   have : (k + 1) * n ≤ 4 * 4 := Nat.mul_le_mul (by omega) (by omega)
   rw [Nat.succ_mul] at this; omega
  refine awp_for [0, 2, 3, 4, 5, 6] (G := (Nat × List Int) × (Nat × List Int) × (Nat × List Int)) (fun j g => [(7, some (.buf g.1.1 g.1.2.length)), (8, some (.int .i64 (j : Int)))])
   (fun j g H => g.1.2.length = j ∧ g.2.2.2.length = g.2.1.2.length ∧ g.2.1.2.length ≤ k * n + j ∧ (∀ y, y ∈ g.2.1.2 → 0 ≤ y ∧ y < n) ∧ (∀ y, y ∈ g.2.2.2 → 0 ≤ y ∧ y < n) ∧
    Owns H0 H [(g.1.1, MObj.cells 1 (g.1.2.map iI) 0), (id5, MObj.cells 5 [iI n, .buf g.2.1.1 g.2.1.2.length, .buf g.2.2.1 g.2.2.2.length, .buf i 0, .buf d 0] 0), (g.2.1.1, MObj.cells 1 (g.2.1.2.map iI) 0), (g.2.2.1, MObj.cells 1 (g.2.2.2.map iI) 0), (idN, MObj.cells 1 (rows.map iL) 0),
    (i, MObj.cells 1 [] 0), (d, MObj.cells 1 [] 0), (id2, MObj.cells 5 [iI 0, .nilsl, .nilsl, .nilsl, .nilsl] 0)]) n ((idr, []), (a, A), (b, C))
   ⟨rfl, hC, by omega, hAr, hCr, o⟩ rfl ?_
  clear o hA hAr hCr hC
  rintro j ⟨⟨idr, row⟩, ⟨a, A⟩, ⟨b, C⟩⟩ H hj ⟨hrow', hC, hA, hAr, hCr, o⟩
  replace hrow' : row.length = j := hrow'
  replace hC : C.length = A.length := hC
  replace hA : A.length ≤ k * n + j := hA
  replace hAr : ∀ y, y ∈ A → 0 ≤ y ∧ y < (n : Int) := hAr
  replace hCr : ∀ y, y ∈ C → 0 ≤ y ∧ y < (n : Int) := hCr
  replace o : Owns H0 H [(idr, MObj.cells 1 (row.map iI) 0), (id5, MObj.cells 5 [iI n, .buf a A.length, .buf b C.length, .buf i 0, .buf d 0] 0), (a, MObj.cells 1 (A.map iI) 0), (b, MObj.cells 1 (C.map iI) 0), (idN, MObj.cells 1 (rows.map iL) 0),
    (i, MObj.cells 1 [] 0), (d, MObj.cells 1 [] 0), (id2, MObj.cells 5 [iI 0, .nilsl, .nilsl, .nilsl, .nilsl] 0)] := o
  try simp only [go_sem]
  refine ⟨fun h2 => At.mk ?_, fun h2 => At.mk ?_⟩
  ·have h2p := of_decide h2
   have w := wsucc (k := j) (by omega)
   try simp only [go_sem, reduceAdd]
   refine rd_cells o.tl (by simp) ?_
   try simp only [go_sem, reduceAdd]
   refine app_own _ o rfl rfl (by simp only [maxL]; omega) fun idr H o => ?_
   have hR1 := hrow k (by omega)
   try simp only [go_sem]
   refine ⟨by omega, by omega, ?_⟩
   refine ⟨fun h3 => At.mk ?_, fun h3 => At.mk ?_⟩
   ·try simp only [go_sem, reduceAdd]
    refine rd_cells o.tl (by simp) ?_
    try simp only [go_sem, reduceAdd]
    refine app_own _ (o.pull [_, _]) rfl rfl (by simp only [maxL]; omega) fun a H o => ?_
    try simp only [go_sem, reduceAdd]
    refine stc (o.pull [_, _]) fun H o => ?_
    simp only [wr_cons, wr_nil, List.set_cons_zero, List.set_cons_succ] at o
    try simp only [go_sem, reduceAdd]
    refine rd_cells o (by simp) ?_
    try simp only [go_sem, reduceAdd]
    refine app_own _ (o.pull [_, _, _]) rfl rfl (by simp only [maxL]; omega) fun b H o => ?_
    try simp only [go_sem, reduceAdd]
    refine stc o.swap fun H o => ?_
    simp only [wr_cons, wr_nil, List.set_cons_zero, List.set_cons_succ] at o
    try simp only [go_sem, w]
    refine for_next ((idr, _), (a, A ++ [(k : Int)]), (b, C ++ [(j : Int)])) h2p ⟨by simp [hrow'], by simp [hC], by simp; omega, ?_, ?_, o.perm (permC fun x => by (try dsimp only); simp only [List.append_eq, List.count_append, List.count_cons, List.count_nil, List.map_nil, List.length_nil, List.length_append, List.length_cons, List.length_set, Nat.zero_add, List.nil_append, iI, iL]; omega)⟩ rfl
    ·intro y hy
     rcases List.mem_append.mp hy with h | h
     ·exact hAr y h
     ·rw [List.mem_singleton] at h; subst h; omega
    ·intro y hy
     rcases List.mem_append.mp hy with h | h
     ·exact hCr y h
     ·rw [List.mem_singleton] at h; subst h; omega
   ·try simp only [go_sem, w]
    exact for_next ((idr, _), (a, A), (b, C)) h2p ⟨by simp [hrow'], hC, by show A.length ≤ _; omega, hAr, hCr, o⟩ rfl
  ·have h2p := of_ndecide h2
   try simp only [go_sem]
   refine fz_own o rfl fun H o => ?_
   try simp only [go_sem, reduceAdd]
   refine app_own row (o.pull [_, _, _]) rfl rfl (by simp only [maxL]; omega) fun idN H o => ?_
   have w := wsucc (k := k) (by omega)
   try simp only [go_sem, w]
   refine for_next ((a, A), (b, C), (idN, rows ++ [row])) h1p ⟨hC, by show A.length ≤ _; rw [Nat.succ_mul]; omega, hAr, hCr, by simp [hrl], ?_, o.perm (permC fun x => by (try dsimp only); simp only [List.append_eq, List.count_append, List.count_cons, List.count_nil, List.map_nil, List.length_nil, List.length_append, List.length_cons, List.length_set, Nat.zero_add, List.nil_append, iI, iL]; omega)⟩ rfl
   intro r hr
   rcases List.mem_append.mp hr with h | h
   ·exact hrr r h
   ·rw [List.mem_singleton] at h; subst h; omega
 ·have h1p := of_ndecide h1
  have hkn : k = n := by omega
  subst hkn
  have hA16 : A.length ≤ 16 := Nat.le_trans hA (Nat.mul_le_mul hR4 hR4)
  try simp only [go_sem]
  refine fz_own (o.pull [_, _, _]) rfl fun H o => ?_
  try simp only [go_sem]
  refine awp_for [2, 3, 4, 5] (G := (Nat × List Int)) (fun j g => [(9, some (.int .i64 (j : Int)))])
   (fun j g H => g.2.length = j ∧ Owns H0 H [(id5, MObj.cells 5 [iI k, .buf a A.length, .buf b C.length, .buf g.1 g.2.length, .buf d 0] 0), (g.1, MObj.cells 1 (g.2.map iI) 0), (a, MObj.cells 1 (A.map iI) 0), (b, MObj.cells 1 (C.map iI) 0),
    (d, MObj.cells 1 [] 0), (id2, MObj.cells 5 [iI 0, .nilsl, .nilsl, .nilsl, .nilsl] 0)]) k (i, []) ⟨rfl, o.perm (permC fun x => by (try dsimp only); simp only [List.append_eq, List.count_append, List.count_cons, List.count_nil, List.map_nil, List.length_nil, List.length_append, List.length_cons, List.length_set, Nat.zero_add, List.nil_append, iI, iL]; omega)⟩ rfl ?_
  clear o
  rintro j ⟨i, I⟩ H hj ⟨hI, o⟩
  replace hI : I.length = j := hI
  replace o : Owns H0 H [(id5, MObj.cells 5 [iI k, .buf a A.length, .buf b C.length, .buf i I.length, .buf d 0] 0), (i, MObj.cells 1 (I.map iI) 0), (a, MObj.cells 1 (A.map iI) 0), (b, MObj.cells 1 (C.map iI) 0),
    (d, MObj.cells 1 [] 0), (id2, MObj.cells 5 [iI 0, .nilsl, .nilsl, .nilsl, .nilsl] 0)] := o
  try simp only [go_sem]
  refine ⟨fun h2 => At.mk ?_, fun h2 => At.mk ?_⟩
  ·have h2p := of_decide h2
   have w := wsucc (k := j) (by omega)
   have hrj := hrr (rows.getD j default) (mem_getD.mpr ⟨j, by omega, rfl⟩)
   try simp only [go_sem, reduceAdd]
   refine rd_cells o (by simp) ?_
   try simp only [go_sem, reduceAdd]
   refine ⟨by omega, by omega, ?_⟩
   refine app_own _ o.swap rfl rfl (by simp only [maxL]; omega) fun i H o => ?_
   try simp only [go_sem, reduceAdd]
   refine stc o.swap fun H o => ?_
   simp only [wr_cons, wr_nil, List.set_cons_zero, List.set_cons_succ] at o
   try simp only [go_sem, w]
   exact for_next (i, _) h2p ⟨by simp [hI], o⟩ rfl
  ·have h2p := of_ndecide h2
   have hIk : I.length = k := by omega
   try simp only [go_sem]
   refine wk_cell 3 o rfl rfl fun H o => ?_
   simp only [List.set_cons_zero, List.set_cons_succ] at o
   refine wk_cell 1 o rfl rfl fun H o => ?_
   simp only [List.set_cons_zero, List.set_cons_succ] at o
   refine wk_cell 2 o rfl rfl fun H o => wkW_done ?_
   simp only [List.set_cons_zero, List.set_cons_succ] at o
   clear h2 h2p hj hI
   try simp only [go_sem]
   refine awp_for [2, 4, 5] (G := (Nat × List (List Int))) (fun j g => [(10, some (.int .i64 (j : Int)))])
    (fun j g H => g.2.length = j ∧ (∀ r, r ∈ g.2 → r.length = A.length) ∧ Owns H0 H [(id5, MObj.cells 5 [iI k, iL A, iL C, iL I, .buf g.1 g.2.length] 0), (g.1, MObj.cells 1 (g.2.map iL) 0), (id2, MObj.cells 5 [iI 0, .nilsl, .nilsl, .nilsl, .nilsl] 0)]) A.length (d, []) ⟨rfl, by simp, o⟩ rfl ?_
   clear o
   rintro f ⟨d, D⟩ H hf' ⟨hD, hDr, o⟩
   replace hD : D.length = f := hD
   replace hDr : ∀ r, r ∈ D → r.length = A.length := hDr
   replace o : Owns H0 H [(id5, MObj.cells 5 [iI k, iL A, iL C, iL I, .buf d D.length] 0), (d, MObj.cells 1 (D.map iL) 0), (id2, MObj.cells 5 [iI 0, .nilsl, .nilsl, .nilsl, .nilsl] 0)] := o
   try simp only [go_sem, reduceAdd]
   refine rd_cells o (by simp) ?_
   try simp only [go_sem]
   refine ⟨fun h2 => At.mk ?_, fun h2 => At.mk ?_⟩
   ·have h2p := of_decide h2
    try simp only [go_sem]
    refine newBuf_own o fun idr H o => ?_
    try simp only [go_sem]
    refine awp_for [2, 4, 5, 10] (G := Nat × List Int) (fun g r => [(11, some (.buf r.1 r.2.length)), (12, some (.int .i64 (g : Int)))])
     (fun g r H => r.2.length = g ∧ Owns H0 H [(r.1, MObj.cells 1 (r.2.map iI) 0), (id5, MObj.cells 5 [iI k, iL A, iL C, iL I, .buf d D.length] 0), (d, MObj.cells 1 (D.map iL) 0), (id2, MObj.cells 5 [iI 0, .nilsl, .nilsl, .nilsl, .nilsl] 0)]) A.length (idr, []) ⟨rfl, o⟩ rfl ?_
    clear o
    rintro g ⟨idr, row⟩ H hg ⟨hrl', o⟩
    replace hrl' : row.length = g := hrl'
    replace o : Owns H0 H [(idr, MObj.cells 1 (row.map iI) 0), (id5, MObj.cells 5 [iI k, iL A, iL C, iL I, .buf d D.length] 0), (d, MObj.cells 1 (D.map iL) 0), (id2, MObj.cells 5 [iI 0, .nilsl, .nilsl, .nilsl, .nilsl] 0)] := o
    try simp only [go_sem, reduceAdd]
    refine rd_cells o.tl (by simp) ?_
    try simp only [go_sem]
    refine ⟨fun h3 => At.mk ?_, fun h3 => At.mk ?_⟩
    ·have h3p := of_decide h3
     have w := wsucc (k := g) (by omega)
     try simp only [go_sem, reduceAdd]
     refine rd_cells o.tl (by simp) ?_
     try simp only [go_sem, reduceAdd]
     refine ⟨by omega, ?_⟩
     refine rd_cells o.tl (by simp) ?_
     try simp only [go_sem]
     refine ⟨by omega, ?_⟩
     have hAf := hAr (A.getD f default) (mem_getD.mpr ⟨f, h2p, rfl⟩)
     have hCg := hCr (C.getD g default) (mem_getD.mpr ⟨g, by omega, rfl⟩)
     have hrx := hrr (ix rows (A.getD f default)) (ix_mem (by omega))
     refine ⟨fun h4 => At.mk ?_, fun h4 => At.mk ?_⟩
     ·try simp only [go_sem, reduceAdd]
      refine rd_cells o.tl (by simp) ?_
      try simp only [go_sem, reduceAdd]
      refine ⟨h2p, ⟨by omega, by omega⟩, ?_⟩
      refine rd_cells o.tl (by simp) ?_
      try simp only [go_sem, reduceAdd]
      refine ⟨by omega, ⟨by omega, by omega⟩, ?_⟩
      refine app_own _ o rfl rfl (by simp only [maxL]; omega) fun idr H o => ?_
      try simp only [go_sem, w]
      exact for_next (idr, _) h3p ⟨by simp [hrl'], o⟩ rfl
     ·try simp only [go_sem, reduceAdd]
      refine app_own _ o rfl rfl (by simp only [maxL]; omega) fun idr H o => ?_
      try simp only [go_sem, w]
      exact for_next (idr, _) h3p ⟨by simp [hrl'], o⟩ rfl
    ·have h3p := of_ndecide h3
     have w := wsucc (k := f) (by omega)
     try simp only [go_sem]
     refine fz_own o rfl fun H o => ?_
     try simp only [go_sem, reduceAdd]
     refine rd_cells o (by simp) ?_
     try simp only [go_sem, reduceAdd]
     refine app_own row o.swap rfl rfl (by simp only [maxL]; omega) fun d H o => ?_
     try simp only [go_sem, reduceAdd]
     refine stc o.swap fun H o => ?_
     simp only [wr_cons, wr_nil, List.set_cons_zero, List.set_cons_succ] at o
     try simp only [go_sem, w]
     refine for_next (d, D ++ [row]) h2p ⟨by simp [hD], ?_, o⟩ rfl
     intro r hr
     rcases List.mem_append.mp hr with h | h
     ·exact hDr r h
     ·rw [List.mem_singleton] at h; subst h; omega
   ·have h2p := of_ndecide h2
    try simp only [go_sem]
    refine wk_cell 4 o rfl rfl fun H o => wkW_done ?_
    simp only [List.set_cons_zero, List.set_cons_succ] at o
    try simp only [go_sem]
    refine rd_celln o (by simp) ?_
    try simp only [go_sem]
    refine stc o.swap fun H o => ?_
    simp only [wr_cons, wr_nil, List.set_cons_zero, List.set_cons_succ] at o
    try simp only [go_sem]
    have hr2 := o.rc 5 0 (by simp)
    simp only [List.drop_zero] at hr2
    rw [hr2]
    try simp only [go_sem]
    have hDA : D.length = A.length := by omega
    refine rets_ret ⟨⟨k, A, C, I, D⟩, rfl, ⟨by show (0 : Int) ≤ (k : Int); omega, by show (k : Int) ≤ ((16 : Nat) : Int); omega⟩, by show (I.length : Int) = k; omega, hA16, hC, hDA, fun x hx => ?_⟩ o.sub
    exact hDr _ (mem_getD.mpr ⟨x, by rw [hDA]; exact hx, rfl⟩)
end Go.Proofs.Shf
namespace Go.AW
theorem LsR.inner {α : Type} {f : α → AV} : ∀ (ms : List (Nat × List α)), LsR f (ms.map bufE) (ms.map Prod.snd) (inner f ms)
 | [] => .nil
 | m :: ms => LsR.cons (p := [(m.1, .cells 1 (m.2.map f) 0)]) (.inr ⟨m.1, rfl, rfl⟩) (LsR.inner ms)
theorem app_own' {α : Type} [Inhabited α] {f : α → AV} [One f] {H0 H : Heap} {l : Ob} {K : Kont} {id fr n : Nat} {out : List α} (a : α) {v : AV} (h : Owns H0 H ((id, .cells 1 (out.map f) fr) :: l)) (hv : v = f a) (hn : n = out.length) (hm : out.length + 1 ≤ maxL)
  (hk : ∀ id' H' A, A = out ++ [a] → A.length = out.length + 1 → Owns H0 H' ((id', .cells 1 (A.map f) fr) :: l) → K (.buf id' A.length) H') : appW 1 (some (.buf id n)) (some (.sl [v])) K H :=
 app_own a h hv hn hm fun id' H' o => hk id' H' _ rfl (by simp) o
end Go.AW
namespace Go.Proofs.Shf
open Go.AW Go.Proofs Go.Shf
theorem l01Own2_own (B : Nat) (T : List (List Int)) (H0 H : Heap) (l : Ob) (o : Owns H0 H l) :
  CallH Tryz.prog B 250 [iLL T] H (fun r H' => ∃ d Xs ob, r = .buf d Xs.length ∧ LsR iI Xs T ob ∧ Owns H0 H' ((d, .cells 1 Xs 0) :: (ob ++ l))) := by
 refine c250p (by simp) fun ⟨hf, _⟩ => ?_
 have hl := fine_mL_le hf
 simp only [maxL] at hl
 unfold s250p
 try simp only [go_sem, reduceAdd]
 refine newBuf_own o fun d H o => ?_
 try simp only [go_sem]
 refine awp_for [0] (G := Nat × List (Nat × List Int)) (fun k g => [(3, some (.buf g.1 g.2.length)), (4, some (.int .i64 (k : Int)))])
  (fun k g H => g.2.map Prod.snd = T.take k ∧ Owns H0 H ((g.1, MObj.cells 1 (g.2.map bufE) 0) :: (inner iI g.2 ++ l))) T.length (d, []) ⟨by simp, o⟩ rfl ?_
 clear o
 rintro k ⟨d, ms⟩ H hk ⟨hms, o⟩
 replace hms : ms.map Prod.snd = T.take k := hms
 replace o : Owns H0 H ((d, MObj.cells 1 (ms.map bufE) 0) :: (inner iI ms ++ l)) := o
 have hml : ms.length = k := by
  have := congrArg List.length hms
  simpa [Nat.min_eq_left hk] using this
 try simp only [go_sem]
 refine ⟨fun h1 => At.mk ?_, fun h1 => At.mk ?_⟩
 ·have h1p := of_decide h1
  have w := wsucc (k := k) (by omega)
  try simp only [go_sem]
  refine ⟨h1p, ?_⟩
  refine (l01Own_own B (T.getD k default) H0 H _ o).own fun id A H o hA => ?_
  subst hA
  try simp only [go_sem, reduceAdd]
  refine app_own (f := bufE) (id, T.getD k default) o.swap rfl rfl (by simp only [maxL]; omega) fun d H o => ?_
  try simp only [go_sem, w]
  refine for_next (d, ms ++ [(id, T.getD k default)]) h1p ⟨by rw [List.map_append, hms, take_succ' T h1p]; rfl, ?_⟩ rfl
  refine o.perm (.cons _ ?_)
  simp only [inner, List.map_append, List.map_cons, List.map_nil, List.append_assoc, List.cons_append, List.nil_append]
  exact List.perm_middle.symm
 ·have h1p := of_ndecide h1
  obtain rfl : k = T.length := by omega
  rw [List.take_length] at hms
  try simp only [go_sem]
  refine ⟨H, .refl H, d, ms.map bufE, inner iI ms, by simp, ?_, o⟩
  rw [← hms]; exact LsR.inner ms
theorem New.go' {P : Program} {B : Nat} {fn : FuncId} {args : List AV} {O : Ob → AV → Prop} {H0 H : Heap} {l : Ob} {K : Kont} (h : New P B fn args O) (o : Owns H0 H l) (hk : ∀ r p H', O p r → Owns H0 H' (p ++ l) → H.sub H' → K r H') : CallH P B fn args H K :=
 (h.run H).mono fun r H' ⟨p, q1, q2⟩ => hk r p H' q1 (o.trans q2) q2.sub
def OLb (l : List Int) (p : Ob) (X : AV) : Prop := ∃ id, X = .buf id l.length ∧ p = [(id, .cells 1 (l.map iI) 0)]
theorem l01Own_new (B : Nat) (l : List Int) : New Tryz.prog B 114 [iL l] (OLb l) :=
 ⟨fun H => (l01Own_own B l H H [] (.nil H)).mono fun r H' ⟨id, A, e, o, q⟩ => by
  subst e q
  exact ⟨_, ⟨id, rfl, rfl⟩, o⟩⟩
def OLLb (T : List (List Int)) (p : Ob) (X : AV) : Prop := ∃ d Xs ob, X = .buf d Xs.length ∧ LsR iI Xs T ob ∧ p = (d, .cells 1 Xs 0) :: ob
theorem l01Own2_new (B : Nat) (T : List (List Int)) : New Tryz.prog B 250 [iLL T] (OLLb T) :=
 ⟨fun H => (l01Own2_own B T H H [] (.nil H)).mono fun r H' ⟨d, Xs, ob, e, h, o⟩ => by
  rw [List.append_nil] at o
  exact ⟨_, ⟨d, Xs, ob, e, h, rfl⟩, o⟩⟩
def OCb (c : Cat) (p : Ob) (X : AV) : Prop := ∃ a b i d Xs ob, X = .agg [iI c.objs, .buf a c.frm.length, .buf b c.to.length, .buf i c.idn.length, .buf d Xs.length] ∧ LsR iI Xs c.comp ob ∧
 p = (a, .cells 1 (c.frm.map iI) 0) :: (b, .cells 1 (c.to.map iI) 0) :: (i, .cells 1 (c.idn.map iI) 0) :: (d, .cells 1 Xs 0) :: ob
theorem l02Own_new (B : Nat) (c : Cat) : New Tryz.prog B 171 [.agg c.cells] (OCb c) := by
 refine ⟨fun H0 => c171p (by simp) fun _ => ?_⟩
 unfold s171p
 try simp only [go_sem, reduceAdd]
 refine newRef_own (.nil _) fun id H o => ?_
 try simp only [go_sem, reduceAdd, reduceLeDiff]
 refine New.go' (l01Own_new B c.frm) o fun X1 p1 H ⟨a, e1, e2⟩ o hs => ⟨hs, ?_⟩
 subst e1 e2
 try simp only [go_sem, reduceAdd, reduceLeDiff]
 refine New.go' (l01Own_new B c.to) o fun X1 p1 H ⟨b, e1, e2⟩ o hs => ⟨hs, ?_⟩
 subst e1 e2
 try simp only [go_sem, reduceAdd, reduceLeDiff]
 refine New.go' (l01Own_new B c.idn) o fun X1 p1 H ⟨i, e1, e2⟩ o hs => ⟨hs, ?_⟩
 subst e1 e2
 try simp only [go_sem, reduceAdd, reduceLeDiff]
 refine New.go' (l01Own2_new B c.comp) o fun X1 p1 H ⟨d, Xs, ob, e1, h, e2⟩ o hs => ⟨hs, ?_⟩
 subst e1 e2
 try simp only [go_sem, reduceAdd]
 have o : Owns H0 H ((id, MObj.cells 5 [iI 0, .nilsl, .nilsl, .nilsl, .nilsl] 0) :: (a, MObj.cells 1 (c.frm.map iI) 0) :: (b, MObj.cells 1 (c.to.map iI) 0) :: (i, MObj.cells 1 (c.idn.map iI) 0) :: (d, MObj.cells 1 Xs 0) :: ob) := o.perm (permC fun x => by (try dsimp only); simp only [List.append_eq, List.count_append, List.count_cons, List.count_nil, List.map_nil, List.length_nil, List.length_append, List.length_cons, List.length_set, Nat.zero_add, List.nil_append, iI, iL]; omega)
 refine stc o fun H o => ?_
 simp only [wr_cons, wr_nil, List.set_cons_zero, List.set_cons_succ] at o
 try simp only [go_sem]
 have hr := o.rc 5 0 (by simp)
 simp only [List.drop_zero] at hr
 rw [hr]
 exact ⟨H, .refl H, _, ⟨a, b, i, d, Xs, ob, rfl, h, rfl⟩, o.tl⟩
end Go.Proofs.Shf
