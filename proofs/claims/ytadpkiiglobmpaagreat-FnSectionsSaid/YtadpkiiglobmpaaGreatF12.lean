/- A part of a proof. -/
import Derived.Test.YtadpkiiglobmpaaGreatF11
import Derived.Test.YtadpkiiglobmpaaGreatProg
import Derived.Shelf.SlLaysF
set_option linter.unusedVariables false
set_option linter.unusedSimpArgs false
set_option linter.unusedSectionVars false
open Nat (reduceEqDiff reduceAdd reduceMul reduceLeDiff reduceLT)
namespace Go.Proofs.Shf
open Go.AW Go.Proofs Go.Shf
end Go.Proofs.Shf
namespace Go.Proofs.Shf
open Go.AW Go.Proofs Go.Shf
instance : Inhabited QS := ⟨⟨[], [], [], []⟩⟩
def RootK (n : Nat) (N : List (Int × Int)) (j : List Int) (x : Int) (id : Nat) (H0 : Heap) (l : Ob) : Kont := fun r H' => ∃ (a : Int) (j' : List Int), r = iI a ∧ JoinOk n N j' ∧ Root j x a ∧ InR n a ∧ (∀ y r, InR n y → Root j y r → Root j' y r) ∧ Owns H0 H' ((id, .cells 1 (j'.map iI) 0) :: l)
theorem root_own (B : Nat) {n : Nat} {N : List (Int × Int)} {j : List Int} (k : JoinOk n N j) (x : Int) (hx : InR n x) {H0 H : Heap} {l : Ob} {id : Nat} (o : Owns H0 H ((id, .cells 1 (j.map iI) 0) :: l)) :
  CallH Tryz.prog B 162 [.buf id n, iI x] H (RootK n N j x id H0 l) := by
 refine c162 (by simp) fun _ => ?_
 obtain ⟨a, hra, haR, _⟩ := k.uf.rootAt (x := x) (by rw [k.len]; exact hx)
 rw [k.len] at haR
 unfold s162
 try simp only [go_sem, reduceAdd]
 refine awp_while [0] (G := List Int × Int) (fun g => [(1, some (iI g.2))])
  (fun m g H' => m = g.2.toNat ∧ JoinOk n N g.1 ∧ InR n g.2 ∧ (∀ y r, InR n y → Root j y r → Root g.1 y r) ∧ Root g.1 g.2 a ∧ Owns H0 H' ((id, .cells 1 (g.1.map iI) 0) :: l)) x.toNat (j, x) ⟨rfl, k, hx, fun y r _ h => h, hra, o⟩ rfl ?_
 clear o
 rintro m ⟨j1, x1⟩ H' ⟨hm, k1, hx1, hpre, hr1, o⟩
 replace k1 : JoinOk n N j1 := k1
 replace hx1 : InR n x1 := hx1
 replace o : Owns H0 H' ((id, .cells 1 (j1.map iI) 0) :: l) := o
 replace hm : m = x1.toNat := hm
 obtain ⟨c, rfl⟩ : ∃ c : Nat, x1 = c := ⟨x1.toNat, (Int.toNat_of_nonneg hx1.1).symm⟩
 have hcn : c < n := by simpa using hx1.2
 have hlen := k1.len
 have hjc := k1.uf.inR (x := (c : Int)) (by rw [k1.len]; exact hx1)
 have hle := k1.uf.le (c : Int) (by rw [k1.len]; exact hx1)
 obtain ⟨p, hp⟩ : ∃ p : Nat, ix j1 (c : Int) = p := ⟨_, (Int.toNat_of_nonneg hjc.1).symm⟩
 have hle2 := k1.uf.le _ hjc
 have hjp := k1.uf.inR hjc
 rw [hp] at hjc hle hle2 hjp
 have hpn : p < n := by have := hjc.2; rw [hlen] at this; simpa using this
 obtain ⟨w, hw⟩ : ∃ w : Nat, ix j1 (p : Int) = w := ⟨_, (Int.toNat_of_nonneg hjp.1).symm⟩
 rw [hw] at hle2 hjp
 have hwn : w < n := by have := hjp.2; rw [hlen] at this; simpa using this
 have e1 : (j1.map iI).getD c nv = iI (p : Int) := by rw [map_getD _ (by omega), ← hp, ix_nat]
 have e2 : (j1.map iI).getD p nv = iI (w : Int) := by rw [map_getD _ (by omega), ← hw, ix_nat]
 try simp only [go_sem]
 refine ⟨hcn, rd_cells o (by simp; omega) ?_⟩
 rw [e1]
 try simp only [go_sem]
 refine ⟨fun h1 => At.mk ?_, fun h1 => At.mk ?_⟩
 ·have h1p : p ≠ c := by simp at h1; omega
  try simp only [go_sem]
  refine ⟨hcn, rd_cells o (by simp; omega) ?_⟩
  rw [e1]
  try simp only [go_sem]
  refine ⟨hpn, rd_cells o (by simp; omega) ?_⟩
  rw [e2]
  try simp only [go_sem]
  refine ⟨hcn, ?_⟩
  refine set_own (f := iI) (w : Int) o rfl (by omega) fun H2 o => ?_
  obtain ⟨k2, hk2⟩ := k1.halve hx1
  rw [hp, hw, Int.toNat_natCast] at k2 hk2
  have e3 : ((j1.set c (w : Int)).map iI).getD c nv = iI (w : Int) := by
   rw [map_getD _ (by rw [List.length_set]; omega)]
   simp [List.getD_eq_getElem?_getD, show c < j1.length by omega]
  have e4 : ix (j1.set c (w : Int)) (c : Int) = w := by
   simp [ix_nat, List.getD_eq_getElem?_getD, show c < j1.length by omega]
  have hr2 := (hk2 c a hx1 hr1).next
  rw [e4] at hr2
  try simp only [go_sem]
  refine ⟨hcn, rd_cells o (by simp; omega) ?_⟩
  rw [e3]
  try simp only [go_sem]
  exact while_next w (j1.set c (w : Int), (w : Int)) (by omega) ⟨by simp, k2, ⟨by omega, by simpa using hwn⟩, fun y r hy h => hk2 y r hy (hpre y r hy h), hr2, o⟩ rfl
 ·have h1p : p = c := by simp at h1; omega
  try simp only [go_sem]
  have ea : a = c := hr1.uniq (.here _ (by rw [hp, h1p]))
  exact ⟨H', .refl H', c, j1, rfl, k1, ea ▸ hra, hx1, hpre, o⟩
def JoinK (n : Nat) (N : List (Int × Int)) (id : Nat) (H0 : Heap) (l : Ob) : Kont := fun r H' => ∃ (b : Bool) (j' : List Int), r = .bool b ∧ JoinOk n N j' ∧ Owns H0 H' ((id, .cells 1 (j'.map iI) 0) :: l)
theorem join_own (B : Nat) {n : Nat} {N : List (Int × Int)} {j : List Int} (k : JoinOk n N j) (x y : Int) (hx : InR n x) (hy : InR n y) {H0 H : Heap} {l : Ob} {id : Nat} (o : Owns H0 H ((id, .cells 1 (j.map iI) 0) :: l)) :
  CallH Tryz.prog B 159 [.buf id n, iI x, iI y] H (JoinK n (N ++ [(x, y)]) id H0 l) := by
 refine c159 (by simp) fun _ => ?_
 unfold s159
 try simp only [go_sem, reduceAdd]
 refine (root_own B k x hx o).mono ?_
 rintro r H ⟨a, j1, rfl, k1, hra, haR, hp1, o⟩
 try simp only [go_sem]
 refine (root_own B k1 y hy o).mono ?_
 rintro r H ⟨b, j2, rfl, k2, hrb, hbR, hp2, o⟩
 have ha2 := hp2 x a hx (hp1 x a hx hra)
 have hb2 := hp2 y b hy hrb
 have kl := k2.link hx hy ha2 hb2
 have hl := k2.len
 try simp only [go_sem, ↓reduceIte]
 have em : (if b > a then b else a) = max a b := by split <;> omega
 have en : (if false = true then if b > a then b else a else if b < a then b else a) = min a b := by
  rw [if_neg (by simp)]; split <;> omega
 have hM : InR n (max a b) := by
  rcases Int.le_total a b with h | h
  ·rw [Int.max_eq_right h]; exact hbR
  ·rw [Int.max_eq_left h]; exact haR
 rw [en, em]
 refine ⟨hM, ?_⟩
 refine set_own (f := iI) (min a b) o rfl (by rw [hl]; exact hM.2) fun H2 o => ?_
 try simp only [go_sem]
 exact ⟨H2, .refl H2, _, _, rfl, kl, o⟩
end Go.Proofs.Shf
namespace Go.Proofs.Shf
open Go.AW Go.Proofs Go.Shf
def numK (n k : Nat) : List Int := (List.range n).map fun i => if i < k then (i : Int) else 0
theorem numK_zero (n : Nat) : numK n 0 = List.replicate n 0 := by
 refine List.ext_getElem (by simp [numK]) fun i h1 h2 => ?_
 simp [numK]
theorem numK_full (n : Nat) : numK n n = (List.range n).map Int.ofNat := by
 refine List.ext_getElem (by simp [numK]) fun i h1 h2 => ?_
 have hi : i < n := by simpa [numK] using h1
 simp [numK, hi]
theorem numK_succ (n k : Nat) (hk : k < n) : (numK n k).set k (k : Int) = numK n (k + 1) := by
 refine List.ext_getElem (by simp [numK]) fun i h1 h2 => ?_
 simp only [numK, List.getElem_set, List.getElem_map, List.getElem_range]
 by_cases e : k = i
 ·subst e; rw [if_pos rfl, if_pos (by omega)]
 ·rw [if_neg e]
  by_cases e2 : i < k
  ·rw [if_pos e2, if_pos (by omega)]
  ·rw [if_neg e2, if_neg (by omega)]
theorem numbers_own (B : Nat) (n : Nat) (hn : n ≤ 1048576) {H0 H : Heap} {l : Ob} (o : Owns H0 H l) : CallH Tryz.prog B 186 [iI n] H fun r H' => ∃ id, r = .buf id n ∧ Owns H0 H' ((id, .cells 1 (((List.range n).map Int.ofNat).map iI) 0) :: l) := by
 refine c186p (by simp) fun _ => ?_
 unfold s186p
 try simp only [go_sem, reduceAdd]
 refine ⟨⟨by omega, by simp only [maxL]; omega⟩, mks_list iI 0 rfl o fun id H o => ?_⟩
 try simp only [go_sem]
 refine awp_for [3, 8] (G := List Int) (fun k _ => [(9, some (.int .i64 (k : Int)))])
  (fun k A H => A = numK n k ∧ Owns H0 H ((id, .cells 1 (A.map iI) 0) :: l)) n (List.replicate n 0) ⟨(numK_zero n).symm, o⟩ rfl ?_
 clear o
 rintro k A H hk ⟨hA, o⟩
 try simp only [go_sem]
 refine ⟨fun h1 => At.mk ?_, fun h1 => At.mk ?_⟩
 ·have h1p : k < n := of_decide h1
  have w1 := wsucc (k := k) (by omega)
  try simp only [go_sem]
  refine ⟨h1p, ?_⟩
  refine set_own (f := iI) (k : Int) o rfl (by rw [hA]; simpa [numK] using h1p) fun H o => ?_
  try simp only [go_sem, w1]
  exact for_next (A.set k (k : Int)) h1p ⟨by rw [hA, numK_succ n k h1p], o⟩ rfl
 ·have h1p : ¬ k < n := of_ndecide h1
  obtain rfl : k = n := by omega
  try simp only [go_sem]
  rw [hA, numK_full] at o
  exact ⟨H, .refl H, id, rfl, o⟩
theorem joinerOf_own (B : Nat) (n : Nat) (hn : n ≤ 1048576) {H0 H : Heap} {l : Ob} (o : Owns H0 H l) : CallH Tryz.prog B 158 [iI n] H fun r H' => ∃ id, r = .buf id n ∧ Owns H0 H' ((id, .cells 1 (((List.range n).map Int.ofNat).map iI) 0) :: l) := by
 refine c158p (by simp) fun _ => ?_
 unfold s158p
 try simp only [go_sem, reduceAdd]
 refine (numbers_own B n hn o).mono ?_
 rintro r H ⟨id, rfl, o⟩
 try simp only [go_sem]
 exact ⟨H, .refl H, id, rfl, o⟩
theorem classesI_ok (B : Nat) (l : List Int) (h : ∀ v, v ∈ l → 0 ≤ v ∧ v < l.length) : Pur Tryz.prog B 164 [iL l] (iI (mxL l)) := by
 refine ⟨fun H0 => c164 (by simp) fun ⟨hf, _⟩ => ?_⟩
 have hl := fine_mL_le hf
 simp only [maxL] at hl
 unfold s164
 try simp only [go_sem, reduceAdd]
 refine awp_for [6, 7] (fun k _ => [(3, some (iI (mxL (l.take k)))), (8, some (.int .i64 (k : Int)))]) (fun k _ H => H = H0) l.length () rfl rfl ?_
 rintro k _ H hk rfl
 try simp only [go_sem]
 refine ⟨fun h1 => At.mk ?_, fun h1 => At.mk ?_⟩
 ·have h1p := of_decide h1
  have w1 := wsucc (k := k) (by omega)
  have hv := h _ (mem_getD.mpr ⟨k, h1p, rfl⟩)
  have w2 : IntKind.i64.wrap (l.getD k default + 1) = l.getD k default + 1 := wrap_i64 (by omega) (by omega)
  try simp only [go_sem, ↓reduceIte]
  refine ⟨h1p, ?_⟩
  try simp only [go_sem, w2, w1]
  exact for_next () h1p rfl (by rw [mxL_succ l h1p])
 ·have h1p := of_ndecide h1
  obtain rfl : k = l.length := by omega
  rw [List.take_length]
  try simp only [go_sem]
  exact pure_ret rfl (.refl _)
end Go.Proofs.Shf
namespace Go.Proofs.Shf
open Go.AW Go.Proofs Go.Shf
end Go.Proofs.Shf
namespace Go.Proofs.Shf
open Go.AW Go.Proofs Go.Shf
def numM (n : Nat) : List AV := (List.range n).map fun i : Nat => iI (i : Int)
theorem numM_len (n : Nat) : (numM n).length = n := by simp [numM]
theorem numM_get {n i : Nat} (h : i < n) : (numM n)[i]? = some (iI (i : Int)) := by simp [numM, h]
theorem numM_none {n : Nat} : (numM n)[n]? = none := by simp [numM]
theorem numM_succ (n : Nat) : numM (n + 1) = numM n ++ [iI (n : Int)] := by rw [numM, List.range_succ, List.map_append]; rfl
theorem idxOf_index {s : List Int} {v : Int} (h : v ∈ s) : ((s.idxOf v : Nat) : Int) = indexOf s v ∧ s.idxOf v < s.length := by
 have hl := List.idxOf_lt_length_of_mem h
 refine ⟨(indexOf_hit (k := s.idxOf v) hl (fun i hi e => ?_) ?_).symm, hl⟩
 ·have := List.not_of_lt_findIdx (p := (· == v)) (xs := s) (i := i) (by exact hi)
  have hil : i < s.length := by omega
  rw [List.getD_eq_getElem?_getD, List.getElem?_eq_getElem hil] at e
  simp at this e
  exact this e
 ·rw [List.getD_eq_getElem?_getD, List.getElem?_eq_getElem hl]
  simp
theorem lkR_tn (z : AV) : lkR true z none = .tup [z, .bool false] := rfl
theorem lkR_ts (z v : AV) : lkR true z (some v) = .tup [v, .bool true] := rfl
theorem normal_ok (B : Nat) (l : List Int) : Pur Tryz.prog B 163 [iL l] (iL (classL l)) := by
 refine ⟨fun H0 => c163 (by simp) fun ⟨hf, _⟩ => ?_⟩
 have hl := fine_mL_le hf
 simp only [maxL] at hl
 unfold s163
 have o : Owns H0 H0 [] := .nil _
 try simp only [go_sem, reduceAdd]
 refine newMap_own o fun idm H o => ?_
 try simp only [go_sem]
 refine ⟨⟨by omega, by simp only [maxL]; omega⟩, mks_list iI 0 rfl o fun id H o => ?_⟩
 try simp only [go_sem]
 refine awp_for [3, 4, 13, 14] (fun k _ => [(15, some (.int .i64 (k : Int)))])
  (fun k _ H => Owns H0 H [(id, .cells 1 ((classK l k).map iI) 0), (idm, .map ((seenL (l.take k)).map iI) (numM (seenL (l.take k)).length))]) l.length () (by rw [classK_zero]; exact o) rfl ?_
 clear o
 rintro k _ H hk o
 try simp only [go_sem]
 refine ⟨fun h1 => At.mk ?_, fun h1 => At.mk ?_⟩
 ·have h1p := of_decide h1
  have w1 := wsucc (k := k) (by omega)
  have hg : H.get idm = some (.map ((seenL (l.take k)).map iI) (numM (seenL (l.take k)).length)) := o.swap.h0
  have hcl := classK_len l (k := k) (by omega)
  try simp only [go_sem]
  refine ⟨h1p, ?_⟩
  rw [hg]
  refine ⟨okKey_iI _ _, ?_⟩
  rw [mget_iI (by rw [numM_len])]
  by_cases hm : l.getD k default ∈ seenL (l.take k)
  ·obtain ⟨e1, e2⟩ := idxOf_index hm
   obtain ⟨e3, _⟩ := seen_old h1p hm
   rw [numM_get e2, e1, lkR_ts]
   try simp only [go_sem, reduceAdd, reduceLT]
   refine ⟨by omega, ?_⟩
   refine set_own (f := iI) (indexOf (seenL (l.take k)) (l.getD k default)) o rfl (by omega) fun H o => ?_
   try simp only [go_sem, w1]
   refine for_next () h1p ?_ rfl
   have := classK_succ l h1p
   rw [e3] at this
   rw [this] at o
   simp only [e3]
   exact o
  ·obtain ⟨e3, e4⟩ := seen_new h1p hm
   have e5 : (seenL (l.take k)).idxOf (l.getD k default) = (seenL (l.take k)).length := List.idxOf_eq_length hm
   rw [e5, numM_none, lkR_tn]
   try simp only [go_sem, reduceAdd, reduceLT]
   rw [hg]
   try simp only [go_sem]
   rw [hg]
   refine ⟨okKey_iI _ _, ?_⟩
   rw [mput_iI _ _ (by rw [numM_len]), if_neg hm]
   have o := o.swap.put (.map ((seenL (l.take k) ++ [l.getD k default]).map iI) (numM (seenL (l.take k)).length ++ [iI ((seenL (l.take k)).length : Int)]))
   rw [List.length_map]
   try simp only [go_sem]
   refine ⟨by omega, ?_⟩
   refine set_own (f := iI) ((seenL (l.take k)).length : Int) o.swap rfl (by omega) fun H o => ?_
   try simp only [go_sem, w1]
   refine for_next () h1p ?_ rfl
   have := classK_succ l h1p
   rw [e4] at this
   rw [this] at o
   simp only [e3, List.length_append, List.length_cons, List.length_nil, Nat.zero_add, numM_succ]
   exact o
 ·have h1p := of_ndecide h1
  obtain rfl : k = l.length := by omega
  rw [classK_full] at o
  try simp only [go_sem]
  refine fz_own o (by rw [classL_len]) fun H o => ?_
  try simp only [go_sem]
  exact pure_ret rfl o.sub
end Go.Proofs.Shf
namespace Go.Proofs.Shf
open Go.AW Go.Proofs Go.Shf
end Go.Proofs.Shf
namespace Go.Proofs.Shf
open Go.AW Go.Proofs Go.Shf
end Go.Proofs.Shf
namespace Go.Proofs.Shf
open Go.AW Go.Proofs Go.Shf
end Go.Proofs.Shf
namespace Go.Proofs
open Go.Shelf
end Go.Proofs
