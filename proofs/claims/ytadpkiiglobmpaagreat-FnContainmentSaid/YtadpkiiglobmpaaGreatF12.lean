/- A part of a proof. -/
import Derived.Test.YtadpkiiglobmpaaGreatF11
import Derived.Test.YtadpkiiglobmpaaGreatProg
import Derived.Shelf.SlLaysF
set_option linter.unusedVariables false
set_option linter.unusedSimpArgs false
set_option linter.unusedSectionVars false
open Nat (reduceEqDiff reduceAdd reduceMul reduceLeDiff reduceLT)
namespace Go.Proofs.Shf
open Go.AW Go.Proofs Go.Shf
end Go.Proofs.Shf
namespace Go.Proofs.Shf
open Go.AW Go.Proofs Go.Shf
instance : Inhabited QS := ⟨⟨[], [], [], []⟩⟩
abbrev qsP (q : QS) : AV := .ptr q.cells
instance : One qsP := ⟨fun _ => rfl, fun _ => rfl⟩
theorem areQueries_ok (B : Nat) (c : Cat) (l : List QS) : Pur Tryz.prog B 69 [.ptr c.cells, mL qsP l] (.bool (dec (c.Is ∧ ∀ q, q ∈ l → q.Ok c))) := by
 refine ⟨fun H0 => c69 (by simp) fun ⟨_, hf, _⟩ => ?_⟩
 have hl := fine_mL_le hf
 simp only [maxL] at hl
 unfold s69
 try simp only [go_sem, reduceAdd]
 refine (isCategory_ok B c).go fun _ => ?_
 by_cases hc : c.Is
 rotate_left 1
 ·rw [dec_f hc]
  try simp only [go_sem]
  exact pure_ret (by rw [dec_f fun h => hc h.1]) (.refl _)
 rw [dec_t hc]
 try simp only [go_sem]
 refine awp_for [0, 10, 11] (fun k _ => [(12, some (.int .i64 (k : Int)))]) (fun k _ H => H = H0 ∧ ∀ i, i < k → (l.getD i default).Ok c) l.length () ⟨rfl, by simp⟩ rfl ?_
 rintro k _ H hk ⟨rfl, hall⟩
 try simp only [go_sem]
 refine ⟨fun h1 => At.mk ?_, fun h1 => At.mk ?_⟩
 ·have h1p := of_decide h1
  have w1 := wsucc (k := k) (by omega)
  try simp only [go_sem]
  refine ⟨h1p, (isQuery_ok B c hc _).go fun _ => ?_⟩
  by_cases h2 : (l.getD k default).Ok c
  ·rw [dec_t h2]
   try simp only [go_sem, w1]
   exact for_next () h1p ⟨rfl, lt_succ_all hall h2⟩ rfl
  ·rw [dec_f h2]
   try simp only [go_sem]
   exact pure_ret (by rw [dec_f]; intro h; exact h2 (h.2 _ (mem_getD.mpr ⟨k, h1p, rfl⟩))) (.refl _)
 ·have h1p := of_ndecide h1
  try simp only [go_sem]
  exact pure_ret (by rw [dec_t ⟨hc, all_getD.mpr fun i hi => hall i (by omega)⟩]) (.refl _)
def RootK (n : Nat) (N : List (Int × Int)) (j : List Int) (x : Int) (id : Nat) (H0 : Heap) (l : Ob) : Kont := fun r H' => ∃ (a : Int) (j' : List Int), r = iI a ∧ JoinOk n N j' ∧ Root j x a ∧ InR n a ∧ (∀ y r, InR n y → Root j y r → Root j' y r) ∧ Owns H0 H' ((id, .cells 1 (j'.map iI) 0) :: l)
theorem root_own (B : Nat) {n : Nat} {N : List (Int × Int)} {j : List Int} (k : JoinOk n N j) (x : Int) (hx : InR n x) {H0 H : Heap} {l : Ob} {id : Nat} (o : Owns H0 H ((id, .cells 1 (j.map iI) 0) :: l)) :
  CallH Tryz.prog B 162 [.buf id n, iI x] H (RootK n N j x id H0 l) := by
 refine c162 (by simp) fun _ => ?_
 obtain ⟨a, hra, haR, _⟩ := k.uf.rootAt (x := x) (by rw [k.len]; exact hx)
 rw [k.len] at haR
 unfold s162
 try simp only [go_sem, reduceAdd]
 refine awp_while [0] (G := List Int × Int) (fun g => [(1, some (iI g.2))])
  (fun m g H' => m = g.2.toNat ∧ JoinOk n N g.1 ∧ InR n g.2 ∧ (∀ y r, InR n y → Root j y r → Root g.1 y r) ∧ Root g.1 g.2 a ∧ Owns H0 H' ((id, .cells 1 (g.1.map iI) 0) :: l)) x.toNat (j, x) ⟨rfl, k, hx, fun y r _ h => h, hra, o⟩ rfl ?_
 clear o
 rintro m ⟨j1, x1⟩ H' ⟨hm, k1, hx1, hpre, hr1, o⟩
 replace k1 : JoinOk n N j1 := k1
 replace hx1 : InR n x1 := hx1
 replace o : Owns H0 H' ((id, .cells 1 (j1.map iI) 0) :: l) := o
 replace hm : m = x1.toNat := hm
 obtain ⟨c, rfl⟩ : ∃ c : Nat, x1 = c := ⟨x1.toNat, (Int.toNat_of_nonneg hx1.1).symm⟩
 have hcn : c < n := by simpa using hx1.2
 have hlen := k1.len
 have hjc := k1.uf.inR (x := (c : Int)) (by rw [k1.len]; exact hx1)
 have hle := k1.uf.le (c : Int) (by rw [k1.len]; exact hx1)
 obtain ⟨p, hp⟩ : ∃ p : Nat, ix j1 (c : Int) = p := ⟨_, (Int.toNat_of_nonneg hjc.1).symm⟩
 have hle2 := k1.uf.le _ hjc
 have hjp := k1.uf.inR hjc
 rw [hp] at hjc hle hle2 hjp
 have hpn : p < n := by have := hjc.2; rw [hlen] at this; simpa using this
 obtain ⟨w, hw⟩ : ∃ w : Nat, ix j1 (p : Int) = w := ⟨_, (Int.toNat_of_nonneg hjp.1).symm⟩
 rw [hw] at hle2 hjp
 have hwn : w < n := by have := hjp.2; rw [hlen] at this; simpa using this
 have e1 : (j1.map iI).getD c nv = iI (p : Int) := by rw [map_getD _ (by omega), ← hp, ix_nat]
 have e2 : (j1.map iI).getD p nv = iI (w : Int) := by rw [map_getD _ (by omega), ← hw, ix_nat]
 try simp only [go_sem]
 refine ⟨hcn, rd_cells o (by simp; omega) ?_⟩
 rw [e1]
 try simp only [go_sem]
 refine ⟨fun h1 => At.mk ?_, fun h1 => At.mk ?_⟩
 ·have h1p : p ≠ c := by simp at h1; omega
  try simp only [go_sem]
  refine ⟨hcn, rd_cells o (by simp; omega) ?_⟩
  rw [e1]
  try simp only [go_sem]
  refine ⟨hpn, rd_cells o (by simp; omega) ?_⟩
  rw [e2]
  try simp only [go_sem]
  refine ⟨hcn, ?_⟩
  refine set_own (f := iI) (w : Int) o rfl (by omega) fun H2 o => ?_
  obtain ⟨k2, hk2⟩ := k1.halve hx1
  rw [hp, hw, Int.toNat_natCast] at k2 hk2
  have e3 : ((j1.set c (w : Int)).map iI).getD c nv = iI (w : Int) := by
   rw [map_getD _ (by rw [List.length_set]; omega)]
   simp [List.getD_eq_getElem?_getD, show c < j1.length by omega]
  have e4 : ix (j1.set c (w : Int)) (c : Int) = w := by
   simp [ix_nat, List.getD_eq_getElem?_getD, show c < j1.length by omega]
  have hr2 := (hk2 c a hx1 hr1).next
  rw [e4] at hr2
  try simp only [go_sem]
  refine ⟨hcn, rd_cells o (by simp; omega) ?_⟩
  rw [e3]
  try simp only [go_sem]
  exact while_next w (j1.set c (w : Int), (w : Int)) (by omega) ⟨by simp, k2, ⟨by omega, by simpa using hwn⟩, fun y r hy h => hk2 y r hy (hpre y r hy h), hr2, o⟩ rfl
 ·have h1p : p = c := by simp at h1; omega
  try simp only [go_sem]
  have ea : a = c := hr1.uniq (.here _ (by rw [hp, h1p]))
  exact ⟨H', .refl H', c, j1, rfl, k1, ea ▸ hra, hx1, hpre, o⟩
def JoinK (n : Nat) (N : List (Int × Int)) (id : Nat) (H0 : Heap) (l : Ob) : Kont := fun r H' => ∃ (b : Bool) (j' : List Int), r = .bool b ∧ JoinOk n N j' ∧ Owns H0 H' ((id, .cells 1 (j'.map iI) 0) :: l)
theorem join_own (B : Nat) {n : Nat} {N : List (Int × Int)} {j : List Int} (k : JoinOk n N j) (x y : Int) (hx : InR n x) (hy : InR n y) {H0 H : Heap} {l : Ob} {id : Nat} (o : Owns H0 H ((id, .cells 1 (j.map iI) 0) :: l)) :
  CallH Tryz.prog B 159 [.buf id n, iI x, iI y] H (JoinK n (N ++ [(x, y)]) id H0 l) := by
 refine c159 (by simp) fun _ => ?_
 unfold s159
 try simp only [go_sem, reduceAdd]
 refine (root_own B k x hx o).mono ?_
 rintro r H ⟨a, j1, rfl, k1, hra, haR, hp1, o⟩
 try simp only [go_sem]
 refine (root_own B k1 y hy o).mono ?_
 rintro r H ⟨b, j2, rfl, k2, hrb, hbR, hp2, o⟩
 have ha2 := hp2 x a hx (hp1 x a hx hra)
 have hb2 := hp2 y b hy hrb
 have kl := k2.link hx hy ha2 hb2
 have hl := k2.len
 try simp only [go_sem, ↓reduceIte]
 have em : (if b > a then b else a) = max a b := by split <;> omega
 have en : (if false = true then if b > a then b else a else if b < a then b else a) = min a b := by
  rw [if_neg (by simp)]; split <;> omega
 have hM : InR n (max a b) := by
  rcases Int.le_total a b with h | h
  ·rw [Int.max_eq_right h]; exact hbR
  ·rw [Int.max_eq_left h]; exact haR
 rw [en, em]
 refine ⟨hM, ?_⟩
 refine set_own (f := iI) (min a b) o rfl (by rw [hl]; exact hM.2) fun H2 o => ?_
 try simp only [go_sem]
 exact ⟨H2, .refl H2, _, _, rfl, kl, o⟩
end Go.Proofs.Shf
namespace Go.Proofs.Shf
open Go.AW Go.Proofs Go.Shf
def numK (n k : Nat) : List Int := (List.range n).map fun i => if i < k then (i : Int) else 0
theorem numK_zero (n : Nat) : numK n 0 = List.replicate n 0 := by
 refine List.ext_getElem (by simp [numK]) fun i h1 h2 => ?_
 simp [numK]
theorem numK_full (n : Nat) : numK n n = (List.range n).map Int.ofNat := by
 refine List.ext_getElem (by simp [numK]) fun i h1 h2 => ?_
 have hi : i < n := by simpa [numK] using h1
 simp [numK, hi]
theorem numK_succ (n k : Nat) (hk : k < n) : (numK n k).set k (k : Int) = numK n (k + 1) := by
 refine List.ext_getElem (by simp [numK]) fun i h1 h2 => ?_
 simp only [numK, List.getElem_set, List.getElem_map, List.getElem_range]
 by_cases e : k = i
 ·subst e; rw [if_pos rfl, if_pos (by omega)]
 ·rw [if_neg e]
  by_cases e2 : i < k
  ·rw [if_pos e2, if_pos (by omega)]
  ·rw [if_neg e2, if_neg (by omega)]
theorem numbers_own (B : Nat) (n : Nat) (hn : n ≤ 1048576) {H0 H : Heap} {l : Ob} (o : Owns H0 H l) : CallH Tryz.prog B 186 [iI n] H fun r H' => ∃ id, r = .buf id n ∧ Owns H0 H' ((id, .cells 1 (((List.range n).map Int.ofNat).map iI) 0) :: l) := by
 refine c186p (by simp) fun _ => ?_
 unfold s186p
 try simp only [go_sem, reduceAdd]
 refine ⟨⟨by omega, by simp only [maxL]; omega⟩, mks_list iI 0 rfl o fun id H o => ?_⟩
 try simp only [go_sem]
 refine awp_for [3, 8] (G := List Int) (fun k _ => [(9, some (.int .i64 (k : Int)))])
  (fun k A H => A = numK n k ∧ Owns H0 H ((id, .cells 1 (A.map iI) 0) :: l)) n (List.replicate n 0) ⟨(numK_zero n).symm, o⟩ rfl ?_
 clear o
 rintro k A H hk ⟨hA, o⟩
 try simp only [go_sem]
 refine ⟨fun h1 => At.mk ?_, fun h1 => At.mk ?_⟩
 ·have h1p : k < n := of_decide h1
  have w1 := wsucc (k := k) (by omega)
  try simp only [go_sem]
  refine ⟨h1p, ?_⟩
  refine set_own (f := iI) (k : Int) o rfl (by rw [hA]; simpa [numK] using h1p) fun H o => ?_
  try simp only [go_sem, w1]
  exact for_next (A.set k (k : Int)) h1p ⟨by rw [hA, numK_succ n k h1p], o⟩ rfl
 ·have h1p : ¬ k < n := of_ndecide h1
  obtain rfl : k = n := by omega
  try simp only [go_sem]
  rw [hA, numK_full] at o
  exact ⟨H, .refl H, id, rfl, o⟩
theorem joinerOf_own (B : Nat) (n : Nat) (hn : n ≤ 1048576) {H0 H : Heap} {l : Ob} (o : Owns H0 H l) : CallH Tryz.prog B 158 [iI n] H fun r H' => ∃ id, r = .buf id n ∧ Owns H0 H' ((id, .cells 1 (((List.range n).map Int.ofNat).map iI) 0) :: l) := by
 refine c158p (by simp) fun _ => ?_
 unfold s158p
 try simp only [go_sem, reduceAdd]
 refine (numbers_own B n hn o).mono ?_
 rintro r H ⟨id, rfl, o⟩
 try simp only [go_sem]
 exact ⟨H, .refl H, id, rfl, o⟩
theorem fitting_ok (B : Nat) (s : List Int) : Pur Tryz.prog B 165 [iL s] (.bool (dec (∀ y, y ∈ s → 0 ≤ y ∧ y < 17))) := by
 refine ⟨fun H0 => c165 (by simp) fun _ => ?_⟩
 unfold s165
 try simp only [go_sem, reduceAdd]
 refine (within_ok B s 17 (by omega)).go fun _ => ?_
 try simp only [go_sem]
 exact pure_ret rfl (.refl _)
theorem classesI_ok (B : Nat) (l : List Int) (h : ∀ v, v ∈ l → 0 ≤ v ∧ v < l.length) : Pur Tryz.prog B 164 [iL l] (iI (mxL l)) := by
 refine ⟨fun H0 => c164 (by simp) fun ⟨hf, _⟩ => ?_⟩
 have hl := fine_mL_le hf
 simp only [maxL] at hl
 unfold s164
 try simp only [go_sem, reduceAdd]
 refine awp_for [6, 7] (fun k _ => [(3, some (iI (mxL (l.take k)))), (8, some (.int .i64 (k : Int)))]) (fun k _ H => H = H0) l.length () rfl rfl ?_
 rintro k _ H hk rfl
 try simp only [go_sem]
 refine ⟨fun h1 => At.mk ?_, fun h1 => At.mk ?_⟩
 ·have h1p := of_decide h1
  have w1 := wsucc (k := k) (by omega)
  have hv := h _ (mem_getD.mpr ⟨k, h1p, rfl⟩)
  have w2 : IntKind.i64.wrap (l.getD k default + 1) = l.getD k default + 1 := wrap_i64 (by omega) (by omega)
  try simp only [go_sem, ↓reduceIte]
  refine ⟨h1p, ?_⟩
  try simp only [go_sem, w2, w1]
  exact for_next () h1p rfl (by rw [mxL_succ l h1p])
 ·have h1p := of_ndecide h1
  obtain rfl : k = l.length := by omega
  rw [List.take_length]
  try simp only [go_sem]
  exact pure_ret rfl (.refl _)
end Go.Proofs.Shf
namespace Go.Proofs.Shf
open Go.AW Go.Proofs Go.Shf
structure PMapI (g : Int × Int → Option Int) (ks vs : List AV) : Prop where
 len : vs.length = ks.length
 key : ∀ a, a ∈ ks → ∃ y d, a = kpr y d
 get : ∀ y d, mget (kpr y d) ks vs = (g (y, d)).map iI
theorem PMapI.nil : PMapI (fun _ => none) [] [] := ⟨rfl, by simp, fun _ _ => rfl⟩
theorem PMapI.put {g : Int × Int → Option Int} {ks vs : List AV} (h : PMapI g ks vs) (y d n : Int) : PMapI (fun p => if p = (y, d) then some n else g p) (mput (kpr y d) (iI n) ks vs).1 (mput (kpr y d) (iI n) ks vs).2 where
 len := mput_len _ _ _ _ h.len
 key a ha := by
  rcases mput_key _ _ _ _ _ ha with rfl | ha
  ·exact ⟨y, d, rfl⟩
  ·exact h.key a ha
 get y' d' := by
  rw [mget_mput_kpr _ _ _ _ _ _ _ h.len h.key]
  by_cases e : y' = y ∧ d' = d
  ·rw [if_pos e, if_pos (by rw [e.1, e.2])]; rfl
  ·rw [if_neg e, if_neg (fun k => e (Prod.mk.inj k)), h.get]
theorem PMapI.ok {g : Int × Int → Option Int} {ks vs : List AV} (h : PMapI g ks vs) (y d : Int) : okKey 2 (kpr y d) ks :=
 ⟨rfl, fun a ha => by obtain ⟨y', d', rfl⟩ := h.key a ha; rfl⟩
theorem PMapI.at {g : Int × Int → Option Int} {ks vs : List AV} (h : PMapI g ks vs) {y d n : Int} (e : g (y, d) = some n) : mget (kpr y d) ks vs = some (iI n) := by
 rw [h.get, e]; rfl
theorem numbered_own (B : Nat) (L : List (Int × Int)) (nd : L.Nodup) {H0 H : Heap} {l : Ob} (o : Owns H0 H l) :
  CallH Tryz.prog B 157 [mL prE L] H fun r H' => ∃ (idm : Nat) (ks vs : List AV), r = .mref idm ∧ PMapI (fun p => if p ∈ L then some (indexOf L p) else none) ks vs ∧ Owns H0 H' ((idm, .map ks vs) :: l) := by
 refine c157 (by simp) fun ⟨hf, _⟩ => ?_
 have hl := fine_mL_le hf
 simp only [maxL] at hl
 unfold s157
 try simp only [go_sem, reduceAdd]
 refine newMap_own o fun idm H o => ?_
 try simp only [go_sem]
 refine awp_for [3, 7, 8] (G := List AV × List AV) (fun k _ => [(9, some (.int .i64 (k : Int)))])
  (fun k g H => PMapI (fun p => if p ∈ L.take k then some (indexOf L p) else none) g.1 g.2 ∧ Owns H0 H ((idm, .map g.1 g.2) :: l)) L.length ([], []) ⟨by simpa using PMapI.nil, o⟩ rfl ?_
 clear o
 rintro k ⟨ks, vs⟩ H hk ⟨hP, o⟩
 replace hP : PMapI (fun p => if p ∈ L.take k then some (indexOf L p) else none) ks vs := hP
 replace o : Owns H0 H ((idm, .map ks vs) :: l) := o
 try simp only [go_sem]
 refine ⟨fun h1 => At.mk ?_, fun h1 => At.mk ?_⟩
 ·have h1p := of_decide h1
  have w1 := wsucc (k := k) (by omega)
  try simp only [go_sem]
  refine ⟨prE_at h1p, ?_⟩
  rw [prE_get h1p]
  try simp only [go_sem, reduceAdd]
  refine newRef_own o fun id5 H o => ?_
  try simp only [go_sem]
  refine stc o fun H o => ?_
  simp only [wr_cons, wr_nil, List.set_cons_zero, List.set_cons_succ] at o
  try simp only [go_sem]
  refine rd_celln o (by simp) ?_
  try simp only [go_sem]
  have hg : H.get idm = some (.map ks vs) := o.swap.h0
  rw [hg]
  refine ⟨hP.ok (L.getD k default).1 (L.getD k default).2, ?_⟩
  have o := (o.swap.put (.map (mput (kpr (L.getD k default).1 (L.getD k default).2) (iI (k : Int)) ks vs).1 (mput (kpr (L.getD k default).1 (L.getD k default).2) (iI (k : Int)) ks vs).2))
  have hP2 := hP.put (L.getD k default).1 (L.getD k default).2 (k : Int)
  have hk2 : indexOf L (L.getD k default) = k := indexOf_nodup nd h1p
  try simp only [go_sem, w1]
  refine for_next ((mput (kpr (L.getD k default).1 (L.getD k default).2) (iI (k : Int)) ks vs).1, (mput (kpr (L.getD k default).1 (L.getD k default).2) (iI (k : Int)) ks vs).2) h1p ⟨?_, o.subl (by simp)⟩ rfl
  have e : (fun p : Int × Int => if p ∈ L.take (k + 1) then some (indexOf L p) else none) = fun p => if p = ((L.getD k default).1, (L.getD k default).2) then some (k : Int) else if p ∈ L.take k then some (indexOf L p) else none := by
   funext p
   rw [take_one _ h1p]
   by_cases h : p = L.getD k default
   ·subst h
    rw [if_pos (by simp), if_pos rfl, hk2]
   ·rw [if_neg (show ¬ p = ((L.getD k default).1, (L.getD k default).2) from h)]
    by_cases h2 : p ∈ L.take k
    ·rw [if_pos (List.mem_append_left _ h2), if_pos h2]
    ·rw [if_neg h2, if_neg fun hm => (List.mem_append.mp hm).elim h2 fun e => h (List.mem_singleton.mp e)]
  simp only [e]
  exact hP2
 ·have h1p := of_ndecide h1
  have e : k = L.length := by omega
  rw [e, List.take_length] at hP
  try simp only [go_sem]
  exact ⟨H, .refl H, idm, ks, vs, rfl, hP, o⟩
end Go.Proofs.Shf
namespace Go.Proofs.Shf
open Go.AW Go.Proofs Go.Shf
def numM (n : Nat) : List AV := (List.range n).map fun i : Nat => iI (i : Int)
theorem numM_len (n : Nat) : (numM n).length = n := by simp [numM]
theorem numM_get {n i : Nat} (h : i < n) : (numM n)[i]? = some (iI (i : Int)) := by simp [numM, h]
theorem numM_none {n : Nat} : (numM n)[n]? = none := by simp [numM]
theorem numM_succ (n : Nat) : numM (n + 1) = numM n ++ [iI (n : Int)] := by rw [numM, List.range_succ, List.map_append]; rfl
theorem idxOf_index {s : List Int} {v : Int} (h : v ∈ s) : ((s.idxOf v : Nat) : Int) = indexOf s v ∧ s.idxOf v < s.length := by
 have hl := List.idxOf_lt_length_of_mem h
 refine ⟨(indexOf_hit (k := s.idxOf v) hl (fun i hi e => ?_) ?_).symm, hl⟩
 ·have := List.not_of_lt_findIdx (p := (· == v)) (xs := s) (i := i) (by exact hi)
  have hil : i < s.length := by omega
  rw [List.getD_eq_getElem?_getD, List.getElem?_eq_getElem hil] at e
  simp at this e
  exact this e
 ·rw [List.getD_eq_getElem?_getD, List.getElem?_eq_getElem hl]
  simp
theorem lkR_tn (z : AV) : lkR true z none = .tup [z, .bool false] := rfl
theorem lkR_ts (z v : AV) : lkR true z (some v) = .tup [v, .bool true] := rfl
theorem normal_ok (B : Nat) (l : List Int) : Pur Tryz.prog B 163 [iL l] (iL (classL l)) := by
 refine ⟨fun H0 => c163 (by simp) fun ⟨hf, _⟩ => ?_⟩
 have hl := fine_mL_le hf
 simp only [maxL] at hl
 unfold s163
 have o : Owns H0 H0 [] := .nil _
 try simp only [go_sem, reduceAdd]
 refine newMap_own o fun idm H o => ?_
 try simp only [go_sem]
 refine ⟨⟨by omega, by simp only [maxL]; omega⟩, mks_list iI 0 rfl o fun id H o => ?_⟩
 try simp only [go_sem]
 refine awp_for [3, 4, 13, 14] (fun k _ => [(15, some (.int .i64 (k : Int)))])
  (fun k _ H => Owns H0 H [(id, .cells 1 ((classK l k).map iI) 0), (idm, .map ((seenL (l.take k)).map iI) (numM (seenL (l.take k)).length))]) l.length () (by rw [classK_zero]; exact o) rfl ?_
 clear o
 rintro k _ H hk o
 try simp only [go_sem]
 refine ⟨fun h1 => At.mk ?_, fun h1 => At.mk ?_⟩
 ·have h1p := of_decide h1
  have w1 := wsucc (k := k) (by omega)
  have hg : H.get idm = some (.map ((seenL (l.take k)).map iI) (numM (seenL (l.take k)).length)) := o.swap.h0
  have hcl := classK_len l (k := k) (by omega)
  try simp only [go_sem]
  refine ⟨h1p, ?_⟩
  rw [hg]
  refine ⟨okKey_iI _ _, ?_⟩
  rw [mget_iI (by rw [numM_len])]
  by_cases hm : l.getD k default ∈ seenL (l.take k)
  ·obtain ⟨e1, e2⟩ := idxOf_index hm
   obtain ⟨e3, _⟩ := seen_old h1p hm
   rw [numM_get e2, e1, lkR_ts]
   try simp only [go_sem, reduceAdd, reduceLT]
   refine ⟨by omega, ?_⟩
   refine set_own (f := iI) (indexOf (seenL (l.take k)) (l.getD k default)) o rfl (by omega) fun H o => ?_
   try simp only [go_sem, w1]
   refine for_next () h1p ?_ rfl
   have := classK_succ l h1p
   rw [e3] at this
   rw [this] at o
   simp only [e3]
   exact o
  ·obtain ⟨e3, e4⟩ := seen_new h1p hm
   have e5 : (seenL (l.take k)).idxOf (l.getD k default) = (seenL (l.take k)).length := List.idxOf_eq_length hm
   rw [e5, numM_none, lkR_tn]
   try simp only [go_sem, reduceAdd, reduceLT]
   rw [hg]
   try simp only [go_sem]
   rw [hg]
   refine ⟨okKey_iI _ _, ?_⟩
   rw [mput_iI _ _ (by rw [numM_len]), if_neg hm]
   have o := o.swap.put (.map ((seenL (l.take k) ++ [l.getD k default]).map iI) (numM (seenL (l.take k)).length ++ [iI ((seenL (l.take k)).length : Int)]))
   rw [List.length_map]
   try simp only [go_sem]
   refine ⟨by omega, ?_⟩
   refine set_own (f := iI) ((seenL (l.take k)).length : Int) o.swap rfl (by omega) fun H o => ?_
   try simp only [go_sem, w1]
   refine for_next () h1p ?_ rfl
   have := classK_succ l h1p
   rw [e4] at this
   rw [this] at o
   simp only [e3, List.length_append, List.length_cons, List.length_nil, Nat.zero_add, numM_succ]
   exact o
 ·have h1p := of_ndecide h1
  obtain rfl : k = l.length := by omega
  rw [classK_full] at o
  try simp only [go_sem]
  refine fz_own o (by rw [classL_len]) fun H o => ?_
  try simp only [go_sem]
  exact pure_ret rfl o.sub
end Go.Proofs.Shf
namespace Go.Proofs.Shf
open Go.AW Go.Proofs Go.Shf
section
variable {H0 H : Heap} {a b c d e f : Nat × MObj} {l : List (Nat × MObj)}
theorem up2 (h : Owns H0 H (a :: b :: c :: l)) : Owns H0 H (c :: a :: b :: l) := h.perm (List.perm_middle (l₁ := [a, b]))
theorem up3 (h : Owns H0 H (a :: b :: c :: d :: l)) : Owns H0 H (d :: a :: b :: c :: l) := h.perm (List.perm_middle (l₁ := [a, b, c]))
theorem up5 (h : Owns H0 H (a :: b :: c :: d :: e :: f :: l)) : Owns H0 H (f :: a :: b :: c :: d :: e :: l) := h.perm (List.perm_middle (l₁ := [a, b, c, d, e]))
theorem dn2 (h : Owns H0 H (c :: a :: b :: l)) : Owns H0 H (a :: b :: c :: l) := h.perm (List.perm_middle (l₁ := [a, b])).symm
theorem dn3 (h : Owns H0 H (d :: a :: b :: c :: l)) : Owns H0 H (a :: b :: c :: d :: l) := h.perm (List.perm_middle (l₁ := [a, b, c])).symm
theorem dn5 (h : Owns H0 H (f :: a :: b :: c :: d :: e :: l)) : Owns H0 H (a :: b :: c :: d :: e :: f :: l) := h.perm (List.perm_middle (l₁ := [a, b, c, d, e])).symm
end
structure CMap (cls : Int × Int → Int) (S : Int × Int → Prop) (ks vs : List AV) : Prop where
 ex : ∃ g, PMapI g ks vs ∧ ∀ p, S p → g p = some (cls p)
section
variable {cls : Int × Int → Int} {S S' : Int × Int → Prop} {ks vs : List AV}
theorem CMap.nil (h : ∀ p, ¬ S p) : CMap cls S [] [] := ⟨_, .nil, fun p hp => absurd hp (h p)⟩
theorem CMap.put (h : CMap cls S ks vs) (p : Int × Int) (hS : ∀ x, S' x → x = p ∨ S x) : CMap cls S' (mput (kpr p.1 p.2) (iI (cls p)) ks vs).1 (mput (kpr p.1 p.2) (iI (cls p)) ks vs).2 := by
 obtain ⟨g, h1, h2⟩ := h.ex
 refine ⟨_, h1.put p.1 p.2 (cls p), fun x hx => ?_⟩
 by_cases e : x = p
 ·subst e; simp
 ·rw [if_neg (show ¬ x = (p.1, p.2) from e)]
  exact h2 x ((hS x hx).resolve_left e)
theorem CMap.mono (h : CMap cls S ks vs) (hS : ∀ x, S' x → S x) : CMap cls S' ks vs := by
 obtain ⟨g, h1, h2⟩ := h.ex
 exact ⟨g, h1, fun x hx => h2 x (hS x hx)⟩
theorem CMap.congr {cls' : Int × Int → Int} (h : CMap cls S ks vs) (e : ∀ p, S p → cls p = cls' p) : CMap cls' S ks vs := by
 obtain ⟨g, h1, h2⟩ := h.ex
 exact ⟨g, h1, fun x hx => by rw [h2 x hx, e x hx]⟩
theorem CMap.ok (h : CMap cls S ks vs) (y d : Int) : okKey 2 (kpr y d) ks := by
 obtain ⟨g, h1, h2⟩ := h.ex
 exact h1.ok y d
theorem CMap.at (h : CMap cls S ks vs) {y d : Int} (hp : S (y, d)) : mget (kpr y d) ks vs = some (iI (cls (y, d))) := by
 obtain ⟨g, h1, h2⟩ := h.ex
 exact h1.at (h2 _ hp)
end
abbrev canC (c : Cat) (q : QS) (X Y : AV) (idc : Nat) : List AV := [qsP q, iI c.objs, iL c.frm, iL c.to, iL c.idn, iLL c.comp, X, Y, .mref idc]
def CanonK (c : Cat) (q : QS) (H0 : Heap) : Kont := fun r H' => (r = .tup [.nilp, .bool false] ∧ ¬ FitQ c q ∧ Owns H0 H' []) ∨
 ∃ (A : List (List Int)) (ido idc : Nat) (ks vs : List AV), r = .tup [.ref ido 0, .bool true] ∧ FitQ c q ∧ CanonOk c q ⟨c, szQ c q, A⟩ (clsQ c q) ∧ CMap (clsQ c q) (TermOk c q.v) ks vs ∧
  Owns H0 H' [(ido, .cells 9 (canC c q (iL (szQ c q)) (iLL A) idc) 0), (idc, .map ks vs)]
theorem lk1_at {H : Heap} {id : Nat} {ks vs : List AV} {z v : AV} {K : Kont} {y d : Int} (hg : H.get id = some (.map ks vs)) (h1 : okKey 2 (kpr y d) ks) (h2 : mget (kpr y d) ks vs = some v) (hk : K v H) :
  lk1 2 false z (H.get id) (kpr y d) K H := by
 rw [hg]; exact ⟨h1, by rw [h2]; exact hk⟩
theorem up1_at {H : Heap} {id : Nat} {ks vs : List AV} {v : AV} {K : Kont} {y d : Int} (hg : H.get id = some (.map ks vs)) (h1 : okKey 2 (kpr y d) ks) (hk : K nv (H.set id (.map (mput (kpr y d) v ks vs).1 (mput (kpr y d) v ks vs).2))) :
  up1 2 (H.get id) id (kpr y d) v K H := by
 rw [hg]; exact ⟨h1, hk⟩
theorem drop3 {H0 H : Heap} {a b c : Nat × MObj} {l : List (Nat × MObj)} (h : Owns H0 H (a :: b :: c :: l)) : Owns H0 H (a :: b :: l) := h.subl ((((List.Sublist.refl l).cons c).cons_cons b).cons_cons a)
theorem drop2 {H0 H : Heap} {a b : Nat × MObj} {l : List (Nat × MObj)} (h : Owns H0 H (a :: b :: l)) : Owns H0 H (a :: l) := h.subl (((List.Sublist.refl l).cons b).cons_cons a)
theorem canonical_own (B : Nat) (c : Cat) (h : c.Is) (q : QS) (hq : q.Ok c) (H0 : Heap) : CallH Tryz.prog B 70 [.ptr c.cells, .ptr q.cells] H0 (CanonK c q H0) := by
 refine c70p (by simp) fun _ => ?_
 unfold s70p
 have o : Owns H0 H0 [] := .nil _
 have ho := h.1.o
 have hm40 := h.1.m
 have htl := h.1.tol
 have hv4 := hq.v4
 have hb160 := pairsC_bound h hq
 try simp only [go_sem, reduceAdd]
 refine new_listN prE o fun z H o => ?_
 try simp only [go_sem, reduceAdd, reduceLeDiff]
 refine awp_for [0, 1, 35, 36] (G := Nat × List (Int × Int)) (fun k g => [(6, some (.buf g.1 g.2.length)), (37, some (.int .i64 (k : Int)))])
  (fun k g H => g.2 = prsN c q.v k ∧ Owns H0 H [(g.1, .cells 2 (flat (g.2.map prE)) 0)]) q.v.length (z, []) ⟨by simp [prsN], o⟩ rfl ?_
 clear o
 rintro k ⟨z, ps⟩ H hk ⟨hps, o⟩
 replace hps : ps = prsN c q.v k := hps
 replace o : Owns H0 H [(z, .cells 2 (flat (ps.map prE)) 0)] := o
 try simp only [go_sem]
 refine ⟨fun h1 => At.mk ?_, fun h1 => At.mk ?_⟩
 ·have h1p : k < q.v.length := of_decide h1
  have w1 := wsucc (k := k) (by omega)
  try simp only [go_sem]
  refine ⟨h1p, ?_⟩
  refine (outOf_ok B c (q.v.getD k default)).go fun _ => ?_
  try simp only [go_sem]
  have hol := outs_lenN c (q.v.getD k default)
  refine awp_for [0, 1, 7, 35, 36, 37, 44, 45] (G := Nat × List (Int × Int)) (fun m g => [(6, some (.buf g.1 g.2.length)), (46, some (.int .i64 (m : Int)))])
   (fun m g H => g.2 = ps ++ ((outs c (q.v.getD k default)).take m).map (fun x => ((k : Int), x)) ∧ Owns H0 H [(g.1, .cells 2 (flat (g.2.map prE)) 0)]) (outs c (q.v.getD k default)).length (z, ps) ⟨by simp, o⟩ rfl ?_
  clear o
  rintro m ⟨z2, ps2⟩ H hm ⟨hps2, o⟩
  replace hps2 : ps2 = ps ++ ((outs c (q.v.getD k default)).take m).map (fun x => ((k : Int), x)) := hps2
  replace o : Owns H0 H [(z2, .cells 2 (flat (ps2.map prE)) 0)] := o
  try simp only [go_sem]
  refine ⟨fun h2 => At.mk ?_, fun h2 => At.mk ?_⟩
  ·have h2p : m < (outs c (q.v.getD k default)).length := of_decide h2
   have w2 := wsucc (k := m) (by omega)
   have hlen : ps2.length ≤ 160 := by
    have h5 := prsN_bound h hq (n := k + 1) (by omega)
    rw [prsN_succ, List.length_append, List.length_map, ← hps] at h5
    rw [hps2, List.length_append, List.length_map, List.length_take]; omega
   try simp only [go_sem, reduceAdd, reduceLeDiff]
   refine ⟨h2p, ?_⟩
   refine app_ownN (f := prE) ((k : Int), (outs c (q.v.getD k default)).getD m default) o rfl rfl (by simp only [maxL]; omega) fun z3 H o => ?_
   try simp only [go_sem, w2]
   exact for_next (_, _) h2p ⟨by rw [hps2, take_one _ h2p, List.map_append, List.append_assoc]; rfl, o⟩ rfl
  ·have h2p := of_ndecide h2
   obtain rfl : m = (outs c (q.v.getD k default)).length := by omega
   try simp only [go_sem, w1]
   exact for_next (_, _) h1p ⟨by rw [hps2, List.take_length, prsN_succ, ← hps], o⟩ rfl
 have h1p := of_ndecide h1
 obtain rfl : k = q.v.length := by omega
 rw [prsN_full] at hps
 subst hps
 try simp only [go_sem]
 refine fz_ownN (f := prE) o rfl fun H o => ?_
 try simp only [go_sem]
 refine (numbered_own B (pairsC c q.v) (pairsC_nodup q.v) o).mono ?_
 rintro r H ⟨idm, ks, vs, rfl, hP, o⟩
 try simp only [go_sem]
 refine (joinerOf_own B (pairsC c q.v).length (by omega) o).mono ?_
 rintro r H ⟨idj, rfl, o⟩
 try simp only [go_sem, reduceAdd, reduceLeDiff]
 refine awp_for [0, 1, 6, 11, 12, 67] (G := List Int) (fun k _ => [(68, some (.int .i64 (k : Int)))])
  (fun k j H => JoinOk (pairsC c q.v).length (joinsK c q k) j ∧ Owns H0 H [(idj, .cells 1 (j.map iI) 0), (idm, .map ks vs)]) q.l.length _ ⟨JoinOk.start _, o⟩ rfl ?_
 clear o
 rintro k j H hk ⟨hJ, o⟩
 have hl6 := hq.l6
 have hrl := hq.rl
 try simp only [go_sem]
 refine ⟨fun h1 => At.mk ?_, fun h1 => At.mk ?_⟩
 ·have h1p : k < q.l.length := of_decide h1
  have w1 := wsucc (k := k) (by omega)
  obtain ⟨hta, htb, htab⟩ := hq.cond k h1p
  have hta2 := hta.2.1
  have htb2 := htb.2.1
  try simp only [go_sem, reduceAdd, reduceLeDiff]
  refine ⟨prE_at h1p, ?_⟩
  rw [prE_get h1p]
  try simp only [go_sem, reduceAdd, reduceLeDiff]
  refine ⟨prE_at (by omega), ?_⟩
  rw [prE_get (show k < q.r.length by omega)]
  try simp only [go_sem, reduceAdd]
  refine ⟨?_, ?_⟩
  focus
   refine newRef_own o fun id14 H o => ?_
   try simp only [go_sem, reduceAdd]
   refine newRef_own o fun id15 H o => ?_
   try simp only [go_sem]
   replace o := o.swap
  rotate_left 1
  focus
   refine newRef_own o fun id15 H o => ?_
   try simp only [go_sem, reduceAdd]
   refine newRef_own o fun id14 H o => ?_
   try simp only [go_sem]
  all_goals
   refine stc o fun H o => ?_
   simp only [wr_cons, wr_nil, List.set_cons_zero, List.set_cons_succ] at o
   try simp only [go_sem]
   refine stc o.swap fun H o => ?_
   simp only [wr_cons, wr_nil, List.set_cons_zero, List.set_cons_succ] at o
   try simp only [go_sem, reduceAdd, reduceLeDiff]
   replace o := o.swap
   refine rd_cells o (by simp) ?_
   try simp only [go_sem]
   refine ⟨⟨hta.2.1.1, by omega⟩, ?_⟩
   refine ⟨_, (outOf_ok B c _).run, ?_⟩
   try simp only [go_sem]
   generalize hO : outs c (ix c.to (q.l.getD k default).2) = O
   have hOl : O.length ≤ 40 := by rw [← hO]; have := outs_lenN c (ix c.to (q.l.getD k default).2); omega
   refine awp_for [0, 1, 6, 11, 12, 14, 15, 67, 68, 94, 95] (G := List Int) (fun m _ => [(96, some (.int .i64 (m : Int)))])
    (fun m j H => JoinOk (pairsC c q.v).length (joinsK c q k ++ (O.take m).map (cndK c q k)) j ∧ Owns H0 H [(id14, .cells 2 [iI (q.l.getD k default).1, iI (q.l.getD k default).2] 0), (id15, .cells 2 [iI (q.r.getD k default).1, iI (q.r.getD k default).2] 0), (idj, .cells 1 (j.map iI) 0), (idm, .map ks vs)]) O.length j ⟨by simpa using hJ, o⟩ rfl ?_
   clear o
   rintro m j2 H hm ⟨hJ2, o⟩
   try simp only [go_sem]
   refine ⟨fun h2 => At.mk ?_, fun h2 => At.mk ?_⟩
   ·have h2p : m < O.length := of_decide h2
    have w2 := wsucc (k := m) (by omega)
    have hkm : O.getD m default ∈ outs c (ix c.to (q.l.getD k default).2) := by
     rw [hO]; exact mem_getD.mpr ⟨m, h2p, rfl⟩
    obtain ⟨hk1, hk2, hk3⟩ := mem_outs.mp hkm
    obtain ⟨ht1, ht2⟩ := cnd_terms h hq h1p hkm
    have hrow1 : (ix c.comp (q.l.getD k default).2).length = c.frm.length := h.1.row _ hta2.2
    have hrow2 : (ix c.comp (q.r.getD k default).2).length = c.frm.length := h.1.row _ htb2.2
    have hcl := h.1.cl
    have hg : H.get idm = some (.map ks vs) := (up3 o).h0
    have hp1 : (if ((q.l.getD k default).1, ix (ix c.comp (q.l.getD k default).2) (O.getD m default)) ∈ pairsC c q.v then some (indexOf (pairsC c q.v) ((q.l.getD k default).1, ix (ix c.comp (q.l.getD k default).2) (O.getD m default))) else none) = some (cndK c q k (O.getD m default)).1 := if_pos (mem_pairsC.mpr ht1)
    have hp2 : (if ((q.r.getD k default).1, ix (ix c.comp (q.r.getD k default).2) (O.getD m default)) ∈ pairsC c q.v then some (indexOf (pairsC c q.v) ((q.r.getD k default).1, ix (ix c.comp (q.r.getD k default).2) (O.getD m default))) else none) = some (cndK c q k (O.getD m default)).2 := if_pos (mem_pairsC.mpr ht2)
    try simp only [go_sem, reduceAdd]
    refine ⟨h2p, ?_⟩
    refine rd_cells o (by simp) ?_
    try simp only [go_sem, reduceAdd]
    refine rd_cells o (by simp) ?_
    try simp only [go_sem, reduceAdd, reduceLeDiff]
    refine ⟨_, (catThen_ok B c _ _ ⟨hta2.1, by omega⟩ ⟨hk1, by omega⟩).run, ?_⟩
    try simp only [go_sem, reduceAdd]
    refine lk1_at hg (hP.ok _ _) (hP.at hp1) ?_
    try simp only [go_sem, reduceAdd]
    refine rd_cells o.swap (by simp) ?_
    try simp only [go_sem, reduceAdd]
    refine rd_cells o.swap (by simp) ?_
    try simp only [go_sem, reduceAdd, reduceLeDiff]
    refine ⟨_, (catThen_ok B c _ _ ⟨htb2.1, by omega⟩ ⟨hk1, by omega⟩).run, ?_⟩
    try simp only [go_sem, reduceAdd]
    refine lk1_at hg (hP.ok _ _) (hP.at hp2) ?_
    try simp only [go_sem]
    refine (join_own B hJ2 _ _ (idxP_in ht1).1 (idxP_in ht2).1 (up2 o)).mono ?_
    rintro r H ⟨b, j3, rfl, hJ3, o⟩
    try simp only [go_sem, w2]
    exact for_next j3 h2p ⟨by rw [take_one _ h2p, List.map_append, ← List.append_assoc]; exact hJ3, dn2 o⟩ rfl
   ·have h2p := of_ndecide h2
    obtain rfl : m = O.length := by omega
    rw [List.take_length] at hJ2
    try simp only [go_sem, w1]
    exact for_next j2 h1p ⟨by rw [joinsK_succ, hO]; exact hJ2, (up2 o).subl (by simp)⟩ rfl
 have h1p := of_ndecide h1
 obtain rfl : k = q.l.length := by omega
 rw [joinsK_full] at hJ
 have hR := hJ.rootR
 generalize hRd : rootF j = R at hR
 have hRE : ∀ {x : Int}, InR (pairsC c q.v).length x → Root j x (R x) := fun {x} hx => hRd ▸ hJ.rootE hx
 replace o := o.swap.tl
 try simp only [go_sem, reduceAdd, reduceLeDiff]
 refine ⟨_, (catCopy_ok B c).run, ?_⟩
 try simp only [go_sem, reduceAdd]
 refine newMap_own o fun idc H o => ?_
 try simp only [go_sem, reduceAdd, reduceLeDiff]
 refine ⟨rfl, ⟨rfl, by simp [maxL]⟩, newRef_own (cs := canC c q .nilsl .nilsl idc) o fun ido H o => ?_⟩
 try simp only [go_sem, reduceAdd, reduceLeDiff]
 have hpj : ∀ x, x ∈ pairsC c q.v → TermOk c q.v x := fun x hx => mem_pairsC.mp hx
 refine awp_for [0, 6, 12, 18, 134] (G := AV × List Int × List AV × List AV × Ob) (fun y _ => [(135, some (.int .i64 (y : Int)))])
  (fun y g H => LsP iI g.2.2.2.2 g.1 (szsN c q.v R y) ∧ JoinOk (pairsC c q.v).length (joinsN c q) g.2.1 ∧ (∀ x r, InR (pairsC c q.v).length x → Root j x r → Root g.2.1 x r) ∧
   CMap (clsC c q.v R) (fun p => TermOk c q.v p ∧ ix c.to p.2 < y) g.2.2.1 g.2.2.2.1 ∧
   Owns H0 H ((ido, .cells 9 (canC c q g.1 .nilsl idc) 0) :: (idc, .map g.2.2.1 g.2.2.2.1) :: (idj, .cells 1 (g.2.1.map iI) 0) :: g.2.2.2.2)) c.objs.toNat (.nilsl, j, [], [], [])
  ⟨.inl ⟨rfl, rfl, rfl⟩, hJ, fun x r _ hr => hr, .nil fun p hp => by have := h.1.toObj hp.1.2.1.2; have := hp.2; omega, o⟩ rfl ?_
 clear o
 rintro y ⟨X, j2, cks, cvs, p⟩ H hy ⟨hX, hJ2, hpre, hC, o⟩
 dsimp only at hX hJ2 hpre hC o
 try simp only [go_sem]
 refine ⟨fun h1 => At.mk ?_, fun h1 => At.mk ?_⟩
 ·have h1p : (y : Int) < c.objs := of_decide h1
  have hyo : y < c.objs.toNat := by omega
  have w1 := wsucc (k := y) (by omega)
  try simp only [go_sem]
  refine new_list iI o fun idl H o => ?_
  try simp only [go_sem]
  refine new_listN prE o fun idb H o => ?_
  try simp only [go_sem]
  refine awp_for [0, 6, 12, 18, 19, 134, 135, 140, 141] (G := Nat × Nat × List Int × List (Int × Int) × List Int)
   (fun i g => [(20, some (.buf g.1 g.2.2.1.length)), (21, some (.buf g.2.1 g.2.2.2.1.length)), (142, some (.int .i64 (i : Int)))])
   (fun i g H => g.2.2.2.1 = ((pairsC c q.v).take i).filter (fun p => decide (ix c.to p.2 = (y : Int))) ∧ g.2.2.1 = g.2.2.2.1.map (fun p => R (idxP c q.v p)) ∧ JoinOk (pairsC c q.v).length (joinsN c q) g.2.2.2.2 ∧
    (∀ x r, InR (pairsC c q.v).length x → Root j x r → Root g.2.2.2.2 x r) ∧
    Owns H0 H ((g.1, .cells 1 (g.2.2.1.map iI) 0) :: (g.2.1, .cells 2 (flat (g.2.2.2.1.map prE)) 0) :: (ido, .cells 9 (canC c q X .nilsl idc) 0) :: (idc, .map cks cvs) :: (idj, .cells 1 (g.2.2.2.2.map iI) 0) :: p))
   (pairsC c q.v).length (idl, idb, [], [], j2) ⟨by simp, rfl, hJ2, hpre, o.swap⟩ rfl ?_
  clear o
  rintro i ⟨idl, idb, labs, mem, j3⟩ H hi ⟨hmem, hlabs, hJ3, hpre3, o⟩
  dsimp only at hmem hlabs hJ3 hpre3 o
  have hmlen : mem.length ≤ 160 := by rw [hmem]; exact Nat.le_trans (List.length_filter_le _ _) (by rw [List.length_take]; omega)
  try simp only [go_sem]
  refine ⟨fun h2 => At.mk ?_, fun h2 => At.mk ?_⟩
  ·have h2p : i < (pairsC c q.v).length := of_decide h2
   have w2 := wsucc (k := i) (by omega)
   have ht := term_at h2p
   have ht2 := ht.2.1
   try simp only [go_sem]
   refine ⟨prE_at h2p, ?_⟩
   rw [prE_get h2p]
   try simp only [go_sem, reduceAdd]
   refine newRef_own o fun id23 H o => ?_
   try simp only [go_sem]
   refine stc o fun H o => ?_
   simp only [wr_cons, wr_nil, List.set_cons_zero, List.set_cons_succ] at o
   try simp only [go_sem, reduceAdd, reduceLeDiff]
   refine rd_cells o (by simp) ?_
   try simp only [go_sem]
   refine ⟨⟨ht2.1, by omega⟩, ?_⟩
   refine ⟨fun h3 => At.mk ?_, fun h3 => At.mk ?_⟩
   ·have h3p : ix c.to ((pairsC c q.v).getD i default).2 = y := of_decide h3
    try simp only [go_sem]
    have hidx : indexOf (pairsC c q.v) ((pairsC c q.v).getD i default) = i := indexOf_nodup (pairsC_nodup q.v) h2p
    refine (root_own B hJ3 (i : Int) ⟨by omega, by simpa using h2p⟩ (up5 o)).mono ?_
    rintro r H ⟨a, j4, rfl, hJ4, hra, haR, hp4, o⟩
    have ha : a = R (idxP c q.v ((pairsC c q.v).getD i default)) := by
     rw [idxP, hidx]
     exact hra.uniq (hpre3 _ _ ⟨by omega, by simpa using h2p⟩ (hRE ⟨by omega, by simpa using h2p⟩))
    replace o := dn5 o
    try simp only [go_sem, reduceAdd]
    refine app_own a o.swap rfl rfl (by rw [hlabs, List.length_map]; simp only [maxL]; omega) fun idl2 H o => ?_
    try simp only [go_sem]
    refine rd_celln o.swap (by simp) ?_
    try simp only [go_sem, reduceAdd]
    refine app_ownN (f := prE) ((pairsC c q.v).getD i default) (up2 o) rfl rfl (by simp only [maxL]; omega) fun idb2 H o => ?_
    try simp only [go_sem, w2]
    refine for_next (idl2, idb2, labs ++ [a], mem ++ [(pairsC c q.v).getD i default], j4) h2p ⟨?_, ?_, hJ4, fun x r hx hr => hp4 x r hx (hpre3 x r hx hr), drop3 o.swap⟩ rfl
    ·rw [filt_t h2p (decide_eq_true h3p), ← hmem]
    ·rw [List.map_append, ← hlabs, ha]; rfl
   ·have h3p : ¬ ix c.to ((pairsC c q.v).getD i default).2 = y := of_ndecide h3
    try simp only [go_sem, w2]
    refine for_next (idl, idb, labs, mem, j3) h2p ⟨?_, hlabs, hJ3, hpre3, o.tl⟩ rfl
    rw [filt_f h2p (decide_eq_false h3p), ← hmem]
  have h2p := of_ndecide h2
  obtain rfl : i = (pairsC c q.v).length := by omega
  rw [List.take_length] at hmem
  replace hmem : mem = memC c q.v y := hmem
  subst hmem
  replace hlabs : labs = labC c q.v R y := hlabs
  subst hlabs
  try simp only [go_sem]
  refine fz_own o rfl fun H o => ?_
  try simp only [go_sem]
  refine (normal_ok B _).go fun _ => ?_
  try simp only [go_sem]
  refine fz_ownN (f := prE) o rfl fun H o => ?_
  try simp only [go_sem]
  refine awp_for [0, 6, 12, 18, 24, 134, 135, 170, 171] (G := List AV × List AV) (fun i _ => [(172, some (.int .i64 (i : Int)))])
   (fun i g H => CMap (clsC c q.v R) (fun x => (TermOk c q.v x ∧ ix c.to x.2 < y) ∨ ∃ i', i' < i ∧ (memC c q.v y).getD i' default = x) g.1 g.2 ∧
    Owns H0 H ((ido, .cells 9 (canC c q X .nilsl idc) 0) :: (idc, .map g.1 g.2) :: (idj, .cells 1 (j3.map iI) 0) :: p)) (memC c q.v y).length (cks, cvs)
   ⟨hC.mono fun x hx => hx.elim id fun ⟨i', h, _⟩ => by omega, o⟩ rfl ?_
  clear o hC
  rintro i ⟨cks, cvs⟩ H hi ⟨hC, o⟩
  dsimp only at hC o
  try simp only [go_sem]
  refine ⟨fun h2 => At.mk ?_, fun h2 => At.mk ?_⟩
  ·have h2p : i < (memC c q.v y).length := of_decide h2
   have w2 := wsucc (k := i) (by omega)
   try simp only [go_sem]
   refine ⟨prE_at h2p, ?_⟩
   rw [prE_get h2p]
   try simp only [go_sem, reduceAdd]
   refine newRef_own o fun id26 H o => ?_
   try simp only [go_sem]
   refine stc o fun H o => ?_
   simp only [wr_cons, wr_nil, List.set_cons_zero, List.set_cons_succ] at o
   try simp only [go_sem, reduceAdd]
   refine rd_cells o.swap (by simp) ?_
   try simp only [go_sem]
   refine rd_celln o (by simp) ?_
   try simp only [go_sem]
   have hcll : (classL (labC c q.v R y)).length = (memC c q.v y).length := by rw [classL_len, labC_len]
   refine ⟨by omega, ?_⟩
   rw [class_mem h2p]
   refine up1_at (y := ((memC c q.v y).getD i default).1) (d := ((memC c q.v y).getD i default).2) (up2 o).h0 (hC.ok _ _) ?_
   have hC2 := hC.put (S' := fun x => (TermOk c q.v x ∧ ix c.to x.2 < y) ∨ ∃ i', i' < i + 1 ∧ (memC c q.v y).getD i' default = x) ((memC c q.v y).getD i default) fun x hx => by
    rcases hx with hx | ⟨i', h3, h4⟩
    ·exact .inr (.inl hx)
    ·by_cases e : i' = i
     ·subst e; exact .inl h4.symm
     ·exact .inr (.inr ⟨i', by omega, h4⟩)
   have o := (up2 o).put (.map (mput (kpr ((memC c q.v y).getD i default).1 ((memC c q.v y).getD i default).2) (iI (clsC c q.v R ((memC c q.v y).getD i default))) cks cvs).1 (mput (kpr ((memC c q.v y).getD i default).1 ((memC c q.v y).getD i default).2) (iI (clsC c q.v R ((memC c q.v y).getD i default))) cks cvs).2)
   try simp only [go_sem, w2]
   exact for_next (_, _) h2p ⟨hC2, (dn2 o).tl⟩ rfl
  have h2p := of_ndecide h2
  obtain rfl : i = (memC c q.v y).length := by omega
  have hC2 : CMap (clsC c q.v R) (fun x => TermOk c q.v x ∧ ix c.to x.2 < ((y + 1 : Nat) : Int)) cks cvs := hC.mono fun x hx => by
   by_cases e : ix c.to x.2 = y
   ·exact .inr (mem_getD.mp (mem_memC.mpr ⟨hx.1, e⟩))
   ·exact .inl ⟨hx.1, by have := hx.2; omega⟩
  try simp only [go_sem, reduceAdd]
  refine rd_cells o (by simp) ?_
  try simp only [go_sem, reduceAdd]
  refine ⟨_, (classesI_ok B _ fun v hv => by rw [classL_len]; exact classL_ran hv).run, ?_⟩
  try simp only [go_sem, reduceAdd]
  refine (LsO.mk (o.perm (List.perm_append_comm (l₁ := [_, _, _]))) hX).app (mxL (classL (labC c q.v R y))) rfl (by rw [szsN_len]; simp only [maxL]; omega) fun idz H o => ?_
  try simp only [go_sem, reduceAdd]
  refine stc o.swap fun H o => ?_
  simp only [wr_cons, wr_nil, List.set_cons_zero, List.set_cons_succ] at o
  try simp only [go_sem, w1]
  rw [← szsN_succ] at o
  exact for_next (.buf idz (szsN c q.v R (y + 1)).length, j3, cks, cvs, [(idz, .cells 1 ((szsN c q.v R (y + 1)).map iI) 0)]) hyo ⟨.inr ⟨idz, rfl, rfl⟩, hJ3, hpre3, hC2, dn3 o.swap⟩ rfl
 have h1p : ¬ (y : Int) < c.objs := of_ndecide h1
 obtain rfl : y = c.objs.toNat := by omega
 rw [szsN_full] at hX
 have hCT : CMap (clsC c q.v R) (TermOk c q.v) cks cvs := hC.mono fun x hx => ⟨hx, by have := h.1.toObj hx.2.1.2; omega⟩
 refine wk_ls 6 (LsO.mk (o.perm (List.perm_append_comm (l₁ := [_, _, _]))) hX) rfl fun H o => wkW_done ?_
 replace o : Owns H0 H [(ido, .cells 9 (canC c q (iL (sizesC c q.v R)) .nilsl idc) 0), (idc, .map cks cvs), (idj, .cells 1 (j2.map iI) 0)] := o
 have hsl : (sizesC c q.v R).length = c.objs.toNat := by simp [sizesC]
 try simp only [go_sem, reduceAdd]
 refine rd_cells o (by simp) ?_
 try simp only [go_sem]
 refine (fitting_ok B _).go fun _ => ?_
 by_cases hz : ∀ y, y ∈ sizesC c q.v R → 0 ≤ y ∧ y < 17
 rotate_left 1
 ·rw [dec_f hz]
  try simp only [go_sem]
  exact ⟨H, .refl H, .inl ⟨rfl, fun hf => hz (by rw [sizes_eq h hq hR]; exact hf), o.subl (List.nil_sublist _)⟩⟩
 rw [dec_t hz]
 try simp only [go_sem, reduceAdd, reduceLeDiff]
 refine awp_for [0, 6, 18, 212] (G := AV × List (List Int) × Ob) (fun a _ => [(213, some (.int .i64 (a : Int)))])
  (fun a g H => g.2.1.length = a ∧ (∀ i, i < a → ActR c q R i (pairsC c q.v).length (g.2.1.getD i default)) ∧ LsP iL g.2.2 g.1 g.2.1 ∧
   Owns H0 H ((ido, .cells 9 (canC c q (iL (sizesC c q.v R)) g.1 idc) 0) :: (idc, .map cks cvs) :: g.2.2)) c.frm.length (.nilsl, [], []) ⟨rfl, by intro i hi; omega, .inl ⟨rfl, rfl, rfl⟩, drop3 o⟩ rfl ?_
 clear o hX
 rintro a ⟨X, A, p⟩ H ha ⟨hAl, hA, hX, o⟩
 dsimp only at hAl hA hX o
 try simp only [go_sem]
 refine ⟨fun h1 => At.mk ?_, fun h1 => At.mk ?_⟩
 ·have h1p : a < c.frm.length := of_decide h1
  have w1 := wsucc (k := a) (by omega)
  have hfr := h.1.frm _ (mem_getD.mpr ⟨a, h1p, rfl⟩)
  have hzv := hz _ (mem_getD.mpr ⟨(c.frm.getD a default).toNat, by rw [hsl]; omega, rfl⟩)
  obtain ⟨n, hn⟩ : ∃ n : Nat, (sizesC c q.v R).getD (c.frm.getD a default).toNat default = n := ⟨_, (Int.toNat_of_nonneg hzv.1).symm⟩
  rw [hn] at hzv
  try simp only [go_sem, reduceAdd]
  refine rd_cells o (by simp) ?_
  try simp only [go_sem, reduceAdd, reduceLeDiff]
  refine ⟨h1p, ?_⟩
  refine ⟨⟨hfr.1, by rw [hsl]; omega⟩, ?_⟩
  rw [show ix (sizesC c q.v R) (c.frm.getD a default) = n from hn]
  try simp only [go_sem]
  refine ⟨⟨by omega, by simp only [maxL]; omega⟩, mks_list iI 0 rfl o fun idr H o => ?_⟩
  try simp only [go_sem]
  refine awp_for [0, 6, 18, 27, 28, 212, 213, 231, 232] (G := List Int) (fun i _ => [(233, some (.int .i64 (i : Int)))])
   (fun i row H => ActR c q R a i row ∧ Owns H0 H ((idr, .cells 1 (row.map iI) 0) :: (ido, .cells 9 (canC c q (iL (sizesC c q.v R)) X idc) 0) :: (idc, .map cks cvs) :: p)) (pairsC c q.v).length (List.replicate n 0)
   ⟨ActR.zero (by rw [← hn, ix_nat]; rfl), o⟩ rfl ?_
  clear o
  rintro i row H hi ⟨hrow, o⟩
  have hrl : row.length = n := by have := hrow.len; rw [ix_nat, ix, hn] at this; omega
  have haI : 0 ≤ (a : Int) ∧ ((a : Int)).toNat < c.frm.length := by omega
  try simp only [go_sem]
  refine ⟨fun h2 => At.mk ?_, fun h2 => At.mk ?_⟩
  ·have h2p : i < (pairsC c q.v).length := of_decide h2
   have w2 := wsucc (k := i) (by omega)
   have ht := term_at h2p
   have ht2 := ht.2.1
   try simp only [go_sem]
   refine ⟨prE_at h2p, ?_⟩
   rw [prE_get h2p]
   try simp only [go_sem, reduceAdd]
   refine newRef_own o fun id30 H o => ?_
   try simp only [go_sem]
   refine stc o fun H o => ?_
   simp only [wr_cons, wr_nil, List.set_cons_zero, List.set_cons_succ] at o
   try simp only [go_sem, reduceAdd, reduceLeDiff]
   refine rd_cells o (by simp) ?_
   try simp only [go_sem, reduceAdd, reduceLeDiff]
   refine ⟨⟨ht2.1, by omega⟩, ?_⟩
   refine ⟨h1p, ?_⟩
   refine ⟨fun h3 => At.mk ?_, fun h3 => At.mk ?_⟩
   ·have h3p : ix c.to ((pairsC c q.v).getD i default).2 = ix c.frm (a : Int) := by rw [ix_nat]; exact of_decide h3
    have hslot := hrow.slot h h2p h3p
    have hsl2 : (clsC c q.v R (((pairsC c q.v).getD i default).1, ((pairsC c q.v).getD i default).2)).toNat < n := by rw [← hrl]; exact hslot.2
    have htc := (ht.comp h haI h3p).1
    have hcr : (ix c.comp ((pairsC c q.v).getD i default).2).length = c.frm.length := h.1.row _ ht2.2
    have hcl := h.1.cl
    try simp only [go_sem, reduceAdd]
    refine rd_cells (up2 o) (by simp) ?_
    try simp only [go_sem]
    refine rd_celln o (by simp) ?_
    try simp only [go_sem]
    refine lk1_at (y := ((pairsC c q.v).getD i default).1) (d := ((pairsC c q.v).getD i default).2) (up3 o).h0 (hCT.ok _ _) (hCT.at ht) ?_
    try simp only [go_sem, reduceAdd]
    refine rd_cells (up2 o) (by simp) ?_
    try simp only [go_sem, reduceAdd]
    refine rd_cells o (by simp) ?_
    try simp only [go_sem, reduceAdd]
    refine rd_cells o (by simp) ?_
    try simp only [go_sem, reduceAdd, reduceLeDiff]
    refine ⟨_, (catThen_ok B c _ _ ⟨ht2.1, by omega⟩ ⟨haI.1, by omega⟩).run, ?_⟩
    try simp only [go_sem, reduceAdd]
    refine lk1_at (y := ((pairsC c q.v).getD i default).1) (d := ix (ix c.comp ((pairsC c q.v).getD i default).2) (a : Int)) (up3 o).h0 (hCT.ok _ _) (hCT.at htc) ?_
    try simp only [go_sem]
    refine ⟨⟨hslot.1, hsl2⟩, ?_⟩
    refine set_own (f := iI) (clsC c q.v R (((pairsC c q.v).getD i default).1, ix (ix c.comp ((pairsC c q.v).getD i default).2) (a : Int))) o.swap rfl hslot.2 fun H o => ?_
    try simp only [go_sem, w2]
    exact for_next _ h2p ⟨hrow.put h hq hR haI h2p h3p, drop2 o⟩ rfl
   ·have h3p : ¬ ix c.to ((pairsC c q.v).getD i default).2 = ix c.frm (a : Int) := by rw [ix_nat]; exact of_ndecide h3
    try simp only [go_sem, w2]
    exact for_next row h2p ⟨hrow.skip h3p, o.tl⟩ rfl
  have h2p := of_ndecide h2
  obtain rfl : i = (pairsC c q.v).length := by omega
  try simp only [go_sem]
  refine fz_own o hrl.symm fun H o => ?_
  try simp only [go_sem, reduceAdd]
  refine rd_cells o (by simp) ?_
  try simp only [go_sem, reduceAdd]
  refine (LsO.mk (o.perm (List.perm_append_comm (l₁ := [_, _]))) hX).app row rfl (by simp only [maxL]; omega) fun idz H o => ?_
  try simp only [go_sem, reduceAdd]
  refine stc o.swap fun H o => ?_
  simp only [wr_cons, wr_nil, List.set_cons_zero, List.set_cons_succ] at o
  try simp only [go_sem, w1]
  refine for_next (.buf idz (A ++ [row]).length, A ++ [row], [(idz, .cells 1 ((A ++ [row]).map iL) 0)]) h1p ⟨by simp [hAl], fun i hi => ?_, .inr ⟨idz, rfl, rfl⟩, dn2 o.swap⟩ rfl
  by_cases e : i < a
  ·rw [List.getD_eq_getElem?_getD, List.getElem?_append_left (by omega), ← List.getD_eq_getElem?_getD]
   exact hA i e
  ·obtain rfl : i = a := by omega
   rw [List.getD_eq_getElem?_getD, List.getElem?_append_right (by omega), hAl, Nat.sub_self]
   exact hrow
 have h1p := of_ndecide h1
 obtain rfl : a = c.frm.length := by omega
 refine wk_ls 7 (LsO.mk (o.perm (List.perm_append_comm (l₁ := [_, _]))) hX) rfl fun H o => wkW_done ?_
 replace o : Owns H0 H [(ido, .cells 9 (canC c q (iL (sizesC c q.v R)) (iLL A) idc) 0), (idc, .map cks cvs)] := o
 try simp only [go_sem]
 have hse := sizes_eq h hq hR
 have hk := (canon_rows h hq hR hz hAl fun i hi => hA i (by omega)).congr h fun p hp => cls_eq h hq hR hp
 rw [hse] at hk hz o
 exact ⟨H, .refl H, .inr ⟨A, ido, idc, cks, cvs, rfl, hz, hk, hCT.congr fun p hp => cls_eq h hq hR hp, o⟩⟩
end Go.Proofs.Shf
namespace Go.Proofs.Shf
open Go.AW Go.Proofs Go.Shf
theorem generic_own (B : Nat) (c : Cat) (h : c.Is) (q : QS) (hq : q.Ok c) {X Y : AV} {cls : Int × Int → Int} {ido idc : Nat} {ks vs : List AV} (hC : CMap cls (TermOk c q.v) ks vs) {H : Heap}
  (hg1 : H.get ido = some (.cells 9 (canC c q X Y idc) 0)) (hg2 : H.get idc = some (.map ks vs)) : CallH Tryz.prog B 71 [.ref ido 0] H fun r H' => r = iL (genT c q cls) ∧ H' = H := by
 refine c71p (by simp) fun _ => ?_
 unfold s71p
 have o : Owns H H [] := .nil _
 have hv4 := hq.v4
 have hgl : (genT c q cls).length = q.v.length := by simp [genT]
 have hil := h.1.il
 try simp only [go_sem, reduceAdd]
 refine new_list iI o fun z H1 o => ?_
 have hh1 := o.sub _ _ hg1
 try simp only [go_sem, reduceAdd]
 refine rd_get hh1 (by simp) ?_
 try simp only [go_sem, reduceAdd, reduceLeDiff]
 refine awp_for [0, 13, 14] (G := Nat × List Int) (fun k g => [(3, some (.buf g.1 g.2.length)), (15, some (.int .i64 (k : Int)))])
  (fun k g H' => g.2 = (genT c q cls).take k ∧ Owns H H' [(g.1, .cells 1 (g.2.map iI) 0)]) q.v.length (z, []) ⟨by simp, o⟩ rfl ?_
 clear o hh1
 rintro k ⟨z, out⟩ H1 hk ⟨hout, o⟩
 dsimp only at hout o
 try simp only [go_sem]
 refine ⟨fun h1 => At.mk ?_, fun h1 => At.mk ?_⟩
 ·have h1p : k < q.v.length := of_decide h1
  have w1 := wsucc (k := k) (by omega)
  have hh1 := o.sub _ _ hg1
  have hh2 := o.sub _ _ hg2
  have hvk := hq.vo _ (mem_getD.mpr ⟨k, h1p, rfl⟩)
  have hid := (id_term h hq (i := (k : Int)) ⟨by omega, by simpa using h1p⟩).1
  rw [ix_nat] at hid
  try simp only [go_sem, reduceAdd]
  refine ⟨h1p, ?_⟩
  refine rd_get hh1 (by simp) ?_
  try simp only [go_sem, reduceAdd]
  refine rd_get hh1 (by simp) ?_
  try simp only [go_sem, reduceAdd, reduceLeDiff]
  refine ⟨⟨hvk.1, by omega⟩, ?_⟩
  refine lk1_at (y := (k : Int)) (d := ix c.idn (q.v.getD k default)) hh2 (hC.ok _ _) (hC.at hid) ?_
  try simp only [go_sem, reduceAdd]
  refine app_own (cls ((k : Int), ix c.idn (q.v.getD k default))) o rfl rfl (by rw [hout, List.length_take]; simp only [maxL]; omega) fun z2 H1 o => ?_
  try simp only [go_sem, w1]
  refine for_next (z2, out ++ [cls ((k : Int), ix c.idn (q.v.getD k default))]) h1p ⟨?_, o⟩ rfl
  rw [hout, take_one _ (by omega)]
  congr 2
  rw [genT, getD_map_range _ _ h1p]
 ·have h1p := of_ndecide h1
  obtain rfl : k = q.v.length := by omega
  rw [← hgl, List.take_length] at hout
  subst hout
  try simp only [go_sem]
  refine fz_own o rfl fun H1 o => ?_
  try simp only [go_sem]
  exact ⟨H, o.sub, rfl, rfl⟩
def CanQ (c : Cat) (q : QS) (r : AV) : Prop := (r = .tup [.agg [iI 0, .nilsl, .nilsl, .nilsl, .nilsl, .nilsl, .nilsl], iL [], iI 3] ∧ ¬ FitQ c q) ∨
 ∃ G : SF, r = .tup [.agg G.cells, iL (genT c q (clsQ c q)), iI 0] ∧ FitQ c q ∧ CanonOk c q G (clsQ c q)
theorem canonSets_ok (B : Nat) (c : Cat) (h : c.Is) (q : QS) (hq : q.Ok c) : Rets B 15 [.agg c.cells, .agg q.cells] (CanQ c q) := by
 intro H0
 refine c15p (by simp) fun _ => ?_
 unfold s15p
 have o : Owns H0 H0 [] := .nil _
 try simp only [go_sem, reduceAdd]
 refine ⟨by simp [maxL], newRef_own o fun id4 H o => ?_⟩
 try simp only [go_sem, reduceAdd]
 refine (areQueries_ok B c [q]).go fun _ => ?_
 rw [dec_t ⟨h, by simpa using hq⟩]
 try simp only [go_sem]
 refine (canonical_own B c h q hq _).mono ?_
 rintro r H (⟨rfl, hnf, o2⟩ | ⟨A, ido, idc, ks, vs, rfl, hfit, hG, hC, o2⟩)
 ·have o : Owns H0 H [(id4, .cells 7 [.int .i64 0, .nilsl, .nilsl, .nilsl, .nilsl, .nilsl, .nilsl] 0)] := o.trans o2
  try simp only [go_sem, reduceAdd, reduceLT]
  refine stc o fun H o => ?_
  simp only [wr_cons, wr_nil, List.set_cons_zero, List.set_cons_succ] at o
  try simp only [go_sem]
  have hr := o.rc 7 0 (by simp)
  simp only [List.drop_zero] at hr
  rw [hr]
  exact rets_ret (.inl ⟨rfl, hnf⟩) o.sub
 ·have o := o.trans o2
  try simp only [go_sem, reduceAdd, reduceLT]
  refine rd_celln o (by simp) ?_
  try simp only [go_sem]
  refine (generic_own B c h q hq hC o.h0 o.swap.h0).mono ?_
  rintro r H ⟨rfl, rfl⟩
  refine ⟨.refl _, ?_⟩
  refine stc (up2 o) fun H o => ?_
  simp only [wr_cons, wr_nil, List.set_cons_zero, List.set_cons_succ] at o
  try simp only [go_sem]
  have hr := o.rc 7 0 (by simp)
  simp only [List.drop_zero] at hr
  rw [hr]
  exact rets_ret (.inr ⟨⟨c, szQ c q, A⟩, rfl, hfit, hG⟩) o.sub
theorem generic_ptr (B : Nat) (c : Cat) (h : c.Is) (q : QS) (hq : q.Ok c) {X Y : AV} {cls : Int × Int → Int} {idc : Nat} {ks vs : List AV} (hC : CMap cls (TermOk c q.v) ks vs) {H : Heap}
  (hg2 : H.get idc = some (.map ks vs)) : CallH Tryz.prog B 71 [.ptr (canC c q X Y idc)] H fun r H' => r = iL (genT c q cls) ∧ H' = H := by
 refine c71p (by simp) fun _ => ?_
 unfold s71p
 have o : Owns H H [] := .nil _
 have hv4 := hq.v4
 have hgl : (genT c q cls).length = q.v.length := by simp [genT]
 have hil := h.1.il
 try simp only [go_sem, reduceAdd]
 refine new_list iI o fun z H1 o => ?_
 try simp only [go_sem, reduceAdd, reduceLeDiff]
 refine awp_for [0, 13, 14] (G := Nat × List Int) (fun k g => [(3, some (.buf g.1 g.2.length)), (15, some (.int .i64 (k : Int)))])
  (fun k g H' => g.2 = (genT c q cls).take k ∧ Owns H H' [(g.1, .cells 1 (g.2.map iI) 0)]) q.v.length (z, []) ⟨by simp, o⟩ rfl ?_
 clear o
 rintro k ⟨z, out⟩ H1 hk ⟨hout, o⟩
 dsimp only at hout o
 try simp only [go_sem]
 refine ⟨fun h1 => At.mk ?_, fun h1 => At.mk ?_⟩
 ·have h1p : k < q.v.length := of_decide h1
  have w1 := wsucc (k := k) (by omega)
  have hh2 := o.sub _ _ hg2
  have hvk := hq.vo _ (mem_getD.mpr ⟨k, h1p, rfl⟩)
  have hid := (id_term h hq (i := (k : Int)) ⟨by omega, by simpa using h1p⟩).1
  rw [ix_nat] at hid
  try simp only [go_sem, reduceAdd, reduceLeDiff]
  refine ⟨h1p, ?_⟩
  refine ⟨⟨hvk.1, by omega⟩, ?_⟩
  refine lk1_at (y := (k : Int)) (d := ix c.idn (q.v.getD k default)) hh2 (hC.ok _ _) (hC.at hid) ?_
  try simp only [go_sem, reduceAdd]
  refine app_own (cls ((k : Int), ix c.idn (q.v.getD k default))) o rfl rfl (by rw [hout, List.length_take]; simp only [maxL]; omega) fun z2 H1 o => ?_
  try simp only [go_sem, w1]
  refine for_next (z2, out ++ [cls ((k : Int), ix c.idn (q.v.getD k default))]) h1p ⟨?_, o⟩ rfl
  rw [hout, take_one _ (by omega)]
  congr 2
  rw [genT, getD_map_range _ _ h1p]
 ·have h1p := of_ndecide h1
  have ek : k = q.v.length := by omega
  rw [ek, ← hgl, List.take_length] at hout
  subst hout
  try simp only [go_sem]
  refine fz_own o rfl fun H1 o => ?_
  try simp only [go_sem]
  exact ⟨H, o.sub, rfl, rfl⟩
end Go.Proofs.Shf
namespace Go.Proofs.Shf
open Go.AW Go.Proofs Go.Shf
def flagK (b : Bool) (p : Nat → Bool) : Nat → Bool
 | 0 => b
 | k + 1 => flagK b p k || p k
theorem flagK_mono (b : Bool) (p : Nat → Bool) {i : Nat} : ∀ {n : Nat}, i < n → p i = true → flagK b p n = true
 | n + 1, h, e => by
  rw [flagK]
  by_cases c : i = n
  ·subst c; rw [e, Bool.or_true]
  ·rw [flagK_mono b p (by omega) e, Bool.true_or]
theorem ansQ_len (f : SF) (q : QS) : (ansQ f q).length ≤ 4096 := by
 rw [ansQ]
 split
 ·rename_i h
  have h1 := (codQ_0 h).2
  have h2 := solK_len f q (prodT (szT f q.v)).toNat
  rw [solK_all] at h2
  omega
 ·simp
end Go.Proofs.Shf
namespace Go.Proofs
open Go.Shelf
def Tryz.sortR_ren : Go.Shelf.Ren := ⟨fun | 6 => 295 | 15 => 285 | 14 => 337 | 28 => 325 | 29 => 326 | 20 => 366 | 21 => 367 | 22 => 368 | 23 => 369 | 24 => 370 | 25 => 371 | 26 => 372 | 27 => 373 | 46 => 387 | 47 => 355 | 48 => 356 | 49 => 388 | 50 => 389 | 57 => 402 | n => n, fun | 22 => 25 | 24 => 24 | 25 => 260 | 3 => 3 | 39 => 158 | 0 => 0 | 53 => 266 | 55 => 63 | 4 => 4 | 46 => 367 | 45 => 366 | 50 => 371 | 5 => 5 | 9 => 9 | 66 => 394 | 70 => 398 | 76 => 420 | 77 => 421 | n => n, fun | n => n⟩
theorem Tryz.sortR : Go.Proofs.SlLaysF.n6 Tryz.prog Tryz.sortR_ren := {
 mixed := by kernel_rfl
 f6 := ⟨Tryz.f295.name, by decide, Tryz.func295.trans (congrArg some (by kernel_rfl))⟩
 f14 := ⟨Tryz.f337.name, by decide, Tryz.func337.trans (congrArg some (by kernel_rfl))⟩
 f15 := Tryz.func285.trans (congrArg some (by kernel_rfl))
 f20 := ⟨Tryz.f366.name, by decide, Tryz.func366.trans (congrArg some (by kernel_rfl))⟩
 f21 := ⟨Tryz.f367.name, by decide, Tryz.func367.trans (congrArg some (by kernel_rfl))⟩
 f22 := ⟨Tryz.f368.name, by decide, Tryz.func368.trans (congrArg some (by kernel_rfl))⟩
 f23 := ⟨Tryz.f369.name, by decide, Tryz.func369.trans (congrArg some (by kernel_rfl))⟩
 f24 := ⟨Tryz.f370.name, by decide, Tryz.func370.trans (congrArg some (by kernel_rfl))⟩
 f25 := ⟨Tryz.f371.name, by decide, Tryz.func371.trans (congrArg some (by kernel_rfl))⟩
 f26 := ⟨Tryz.f372.name, by decide, Tryz.func372.trans (congrArg some (by kernel_rfl))⟩
 f27 := ⟨Tryz.f373.name, by decide, Tryz.func373.trans (congrArg some (by kernel_rfl))⟩
 f28 := Tryz.func325.trans (congrArg some (by kernel_rfl))
 f29 := Tryz.func326.trans (congrArg some (by kernel_rfl))
 f46 := ⟨Tryz.f387.name, by decide, Tryz.func387.trans (congrArg some (by kernel_rfl))⟩
 f47 := Tryz.func355.trans (congrArg some (by kernel_rfl))
 f48 := Tryz.func356.trans (congrArg some (by kernel_rfl))
 f49 := ⟨Tryz.f388.name, by decide, Tryz.func388.trans (congrArg some (by kernel_rfl))⟩
 f50 := ⟨Tryz.f389.name, by decide, Tryz.func389.trans (congrArg some (by kernel_rfl))⟩
 f57 := ⟨Tryz.f402.name, by decide, Tryz.func402.trans (congrArg some (by kernel_rfl))⟩
 t0 := Tryz.underlying0
 a0 := Tryz.isAgg0
 z0 := Tryz.sizeOf0
 v0 := Tryz.zeroValue0
 t3 := Tryz.underlying3
 a3 := Tryz.isAgg3
 z3 := Tryz.sizeOf3
 v3 := Tryz.zeroValue3
 t4 := Tryz.underlying4
 a4 := Tryz.isAgg4
 z4 := Tryz.sizeOf4
 v4 := Tryz.zeroValue4
 t5 := Tryz.underlying5
 a5 := Tryz.isAgg5
 z5 := Tryz.sizeOf5
 v5 := Tryz.zeroValue5
 t9 := Tryz.underlying9
 a9 := Tryz.isAgg9
 z9 := Tryz.sizeOf9
 v9 := Tryz.zeroValue9
 t22 := Tryz.underlying25
 a22 := Tryz.isAgg25
 z22 := Tryz.sizeOf25
 v22 := Tryz.zeroValue25
 a24 := Tryz.isAgg24
 z24 := Tryz.sizeOf24
 t25 := Tryz.underlying260
 a25 := Tryz.isAgg260
 z25 := Tryz.sizeOf260
 v25 := Tryz.zeroValue260
 t39 := Tryz.underlying158
 a39 := Tryz.isAgg158
 z39 := Tryz.sizeOf158
 v39 := Tryz.zeroValue158
 t45 := Tryz.underlying366
 a45 := Tryz.isAgg366
 z45 := Tryz.sizeOf366
 v45 := Tryz.zeroValue366
 t46 := Tryz.underlying367
 a46 := Tryz.isAgg367
 z46 := Tryz.sizeOf367
 v46 := Tryz.zeroValue367
 t50 := Tryz.underlying371
 a50 := Tryz.isAgg371
 z50 := Tryz.sizeOf371
 v50 := Tryz.zeroValue371
 t53 := Tryz.underlying266
 a53 := Tryz.isAgg266
 z53 := Tryz.sizeOf266
 v53 := Tryz.zeroValue266
 t55 := Tryz.underlying63
 a55 := Tryz.isAgg63
 z55 := Tryz.sizeOf63
 v55 := Tryz.zeroValue63
 t66 := Tryz.underlying394
 a66 := Tryz.isAgg394
 z66 := Tryz.sizeOf394
 v66 := Tryz.zeroValue394
 t70 := Tryz.underlying398
 a70 := Tryz.isAgg398
 z70 := Tryz.sizeOf398
 v70 := Tryz.zeroValue398
 t76 := Tryz.underlying420
 a76 := Tryz.isAgg420
 z76 := Tryz.sizeOf420
 v76 := Tryz.zeroValue420
 t77 := Tryz.underlying421
 a77 := Tryz.isAgg421
 z77 := Tryz.sizeOf421
 v77 := Tryz.zeroValue421 }
end Go.Proofs
