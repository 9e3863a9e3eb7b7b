/- A part of a proof. -/
import Derived.Test.YtadpkiiglobmpaaGreatF9
set_option linter.unusedVariables false
set_option linter.unusedSimpArgs false
set_option linter.unusedSectionVars false
open Nat (reduceEqDiff reduceAdd reduceMul reduceLeDiff reduceLT)
namespace Go.AW
def nilTo : AV → AV
 | .nilsl => .sl []
 | a => a
theorem wk_nils {F : Env → Heap → Prop} {σ : Env} {H0 : Heap} {l : Ob} {id sz fr : Nat} : ∀ (r dn : List AV) (H : Heap), Owns H0 H ((id, .cells sz (dn ++ r) fr) :: l) →
  (∀ H', Owns H0 H' ((id, .cells sz (dn ++ r.map nilTo) fr) :: l) → wkW F σ H') → wkW F σ H
 | [], dn, H, o, hk => hk H (by simpa using o)
 | a :: r, dn, H, o, hk => by
  have hstep : ∀ H', Owns H0 H' ((id, .cells sz ((dn ++ [nilTo a]) ++ r) fr) :: l) → wkW F σ H' := fun H' o' =>
   wk_nils r (dn ++ [nilTo a]) H' o' fun H2 o2 => hk H2 (by simpa using o2)
  by_cases h : a = .nilsl
  ·subst h
   refine wk_nil dn.length o (by simp) fun H' o' => hstep H' ?_
   have e : (dn ++ AV.nilsl :: r).set dn.length (.sl []) = (dn ++ [nilTo .nilsl]) ++ r := by rw [List.set_append_right _ _ (Nat.le_refl _)]; simp [nilTo]
   rw [e] at o'; exact o'
  ·refine hstep H ?_
   have e : nilTo a = a := by unfold nilTo; split <;> simp_all
   rw [e]; simpa using o
end Go.AW
namespace Go.Shf
open Go.AW Go.Proofs.Shf
end Go.Shf
namespace Go.Proofs.Shf
open Go.AW Go.Proofs Go.Shf
end Go.Proofs.Shf
namespace Go.AW
def kpr (y d : Int) : AV := .agg [.int .i64 y, .int .i64 d]
theorem kpr_keq (y d y' d' : Int) : (kpr y d).keq (kpr y' d') = (decide (y = y') && decide (d = d')) := rfl
theorem mget_mput_kpr (y d y' d' : Int) (x : AV) : ∀ (ks vs : List AV), vs.length = ks.length → (∀ a, a ∈ ks → ∃ y d, a = kpr y d) →
  mget (kpr y d) (mput (kpr y' d') x ks vs).1 (mput (kpr y' d') x ks vs).2 = if y = y' ∧ d = d' then some x else mget (kpr y d) ks vs
 | [], [], _, _ => by simp [mput, mget, kpr_keq]
 | [], _ :: _, h, _ => by simp at h
 | _ :: _, [], h, _ => by simp at h
 | a :: ks, v :: vs, h, hk => by
  obtain ⟨p, q, rfl⟩ := hk a (by simp)
  have ih := mget_mput_kpr y d y' d' x ks vs (by simpa using h) fun a ha => hk a (by simp [ha])
  simp only [mput, kpr_keq, Bool.and_eq_true, decide_eq_true_eq]
  by_cases e : y' = p ∧ d' = q
  ·obtain ⟨rfl, rfl⟩ := e
   simp only [and_self, if_true, mget, kpr_keq, Bool.and_eq_true, decide_eq_true_eq]
   split <;> rfl
  ·rw [if_neg e]
   simp only [mget, kpr_keq, Bool.and_eq_true, decide_eq_true_eq]
   by_cases e2 : y = p ∧ d = q
   ·obtain ⟨rfl, rfl⟩ := e2
    rw [if_pos ⟨rfl, rfl⟩, if_neg (fun h => e ⟨h.1.symm, h.2.symm⟩), if_pos ⟨rfl, rfl⟩]
   ·rw [if_neg e2, if_neg e2, ih]
theorem mput_len (k x : AV) : ∀ (ks vs : List AV), vs.length = ks.length → (mput k x ks vs).2.length = (mput k x ks vs).1.length
 | [], [], _ => rfl
 | [], _ :: _, h => by simp at h
 | _ :: _, [], h => by simp at h
 | a :: ks, v :: vs, h => by
  have := mput_len k x ks vs (by simpa using h)
  simp only [mput]
  split
  ·simpa using h
  ·simpa using this
theorem mput_key (k x : AV) : ∀ (ks vs : List AV) (a : AV), a ∈ (mput k x ks vs).1 → a = k ∨ a ∈ ks
 | [], vs, a, h => by simp [mput] at h; exact .inl h
 | b :: ks, [], a, h => by simp [mput] at h; exact .inl h
 | b :: ks, v :: vs, a, h => by
  simp only [mput] at h
  split at h
  ·rcases List.mem_cons.mp h with h | h
   ·exact .inl h
   ·exact .inr (List.mem_cons_of_mem _ h)
  ·rcases List.mem_cons.mp h with h | h
   ·exact .inr (by simp [h])
   ·rcases mput_key k x ks vs a h with h | h
    ·exact .inl h
    ·exact .inr (List.mem_cons_of_mem _ h)
end Go.AW
namespace Go.Proofs.Shf
open Go.AW Go.Proofs Go.Shf
end Go.Proofs.Shf
namespace Go.Proofs.Shf
open Go.AW Go.Proofs Go.Shf
end Go.Proofs.Shf
namespace Go.AW
end Go.AW
namespace Go.AW
@[go_sem] def prE (q : Int × Int) : AV := .agg [iI q.1, iI q.2]
instance : AggN 2 prE := ⟨by omega, fun _ => rfl, fun _ => rfl, fun a c hc => by
 simp only [prE, AV.cells, List.mem_cons, List.not_mem_nil, or_false] at hc
 rcases hc with rfl | rfl <;> rfl⟩
end Go.AW
namespace Go.Proofs.Shf
open Go.AW Go.Proofs Go.Shf
@[go_sem] def srO (f g : SF) (X fv : AV) : MObj := .cells 5 [.ptr f.cells, .ptr g.cells, .bool false, X, fv] 0
end Go.Proofs.Shf
namespace Go.Proofs.Shf
open Go.AW Go.Proofs Go.Shf
end Go.Proofs.Shf
namespace Go.Shf
open Go.AW
end Go.Shf
namespace Go.Proofs.Shf
open Go.AW Go.Proofs Go.Shf
def idxR : Option Nat → Int
 | some i => i
 | none => -1
end Go.Proofs.Shf
namespace Go.Proofs.Shf
open Go.AW Go.Proofs Go.Shf
end Go.Proofs.Shf
namespace Go.Proofs.Shf
open Go.AW Go.Proofs Go.Shf
theorem isSize_ok (B : Nat) (n : Int) : Pur Tryz.prog B 338 [iI n] (.bool (dec (0 ≤ n ∧ n ≤ 256))) := by
 refine ⟨fun H0 => c338 (by simp) fun _ => ?_⟩
 unfold s338
 try simp only [go_sem, reduceAdd]
 refine (inRange_ok ..).go fun _ => ?_
 try simp only [go_sem]
 exact pure_ret rfl (.refl _)
theorem areSizes_ok (B : Nat) (s : List Int) : Pur Tryz.prog B 299 [iL s] (.bool (dec (∀ y, y ∈ s → 0 ≤ y ∧ y ≤ 256))) := by
 refine ⟨fun H0 => c299 (by simp) fun ⟨hf, _⟩ => ?_⟩
 have hl := fine_mL_le hf
 simp only [maxL] at hl
 unfold s299
 try simp only [go_sem, reduceAdd]
 refine awp_for [5, 6] (fun k _ => [(7, some (.int .i64 (k : Int)))]) (fun k _ H => H = H0 ∧ ∀ i, i < k → 0 ≤ s.getD i default ∧ s.getD i default ≤ 256) s.length () ⟨rfl, by simp⟩ rfl ?_
 rintro k _ H hk ⟨rfl, hall⟩
 try simp only [go_sem]
 refine ⟨fun h1 => At.mk ?_, fun h1 => At.mk ?_⟩
 ·have h1p := of_decide h1
  have w1 := wsucc (k := k) (by omega)
  try simp only [go_sem]
  refine ⟨h1p, ?_⟩
  refine (isSize_ok ..).go fun _ => ?_
  try simp only [go_sem]
  refine ⟨fun h2 => At.mk ?_, fun h2 => At.mk ?_⟩
  ·try simp only [go_sem]
   have h2p := h2; simp only [bnt, decf] at h2p
   refine pure_ret ?_ (.refl _)
   rw [dec_f]; intro h
   exact h2p (h _ (mem_getD.mpr ⟨k, h1p, rfl⟩))
  ·try simp only [go_sem, w1]
   have h2p := h2; simp only [bnf, dect] at h2p
   exact for_next () (by omega) ⟨rfl, lt_succ_all hall (by omega)⟩ rfl
 ·have h1p := of_ndecide h1
  try simp only [go_sem]
  exact pure_ret (by rw [dec_t]; exact all_getD.mpr fun i hi => hall i (by omega)) (.refl _)
theorem prodT_take {s : List Int} {k : Nat} (hk : k < s.length) : prodT (s.take (k + 1)) = prodT (s.take k) * s.getD k default := by
 rw [take_one _ hk, prodT_append, prodT, prodT, Int.mul_one]
theorem prodT_drop {s : List Int} {k : Nat} (hk : k < s.length) : prodT (s.drop k) = s.getD k default * prodT (s.drop (k + 1)) := by
 have : s.drop k = s.getD k default :: s.drop (k + 1) := by
  rw [List.drop_eq_getElem_cons hk]; simp [List.getD_eq_getElem?_getD, hk]
 rw [this, prodT]
def Sm (s : List Int) : Prop := s.length ≤ 4 ∧ ∀ a, a ∈ s → 0 ≤ a ∧ a ≤ 16
theorem Sm.take {s : List Int} (h : Sm s) (k : Nat) : 0 ≤ prodT (s.take k) ∧ prodT (s.take k) ≤ 65536 := by
 have h2 : ∀ a, a ∈ s.take k → 0 ≤ a ∧ a ≤ 16 := fun a ha => h.2 a (List.mem_of_mem_take ha)
 refine ⟨prodT_nonneg fun a ha => (h2 a ha).1, Int.le_trans (prodT_le (by omega) h2) ?_⟩
 have h3 : (s.take k).length ≤ 4 := by rw [List.length_take]; have := h.1; omega
 have : ∀ j : Nat, j ≤ 4 → (16 : Int) ^ j ≤ 65536 := by decide
 exact this _ h3
theorem Sm.prod {s : List Int} (h : Sm s) : 0 ≤ prodT s ∧ prodT s ≤ 65536 := by
 have := h.take s.length
 rwa [List.take_length] at this
theorem tupleCount_ok (B : Nat) (s : List Int) (hs : Sm s) : Pur Tryz.prog B 232 [iL s] (iI (prodT s)) := by
 refine ⟨fun H0 => c232 (by simp) fun _ => ?_⟩
 have hl := hs.1
 unfold s232
 try simp only [go_sem, reduceAdd]
 refine awp_for [6, 7] (fun k _ => [(3, some (iI (prodT (s.take k)))), (8, some (.int .i64 (k : Int)))]) (fun k _ H => H = H0) s.length () rfl rfl ?_
 rintro k _ H hk rfl
 have ht := hs.take k
 try simp only [go_sem]
 refine ⟨fun h1 => At.mk ?_, fun h1 => At.mk ?_⟩
 ·have h1p := of_decide h1
  have w1 := wsucc (k := k) (by omega)
  have hb := hs.2 _ (mem_getD.mpr ⟨k, h1p, rfl⟩)
  have ht2 := hs.take (k + 1)
  rw [prodT_take h1p] at ht2
  try simp only [go_sem]
  refine ⟨h1p, ?_⟩
  refine ⟨fun h2 => At.mk ?_, fun h2 => At.mk ?_⟩
  ·have h2p := h2; simp only [decide_eq_true_eq] at h2p
   try simp only [go_sem]
   refine pure_ret ?_ (.refl _)
   rw [prodT_zero (mem_getD.mpr ⟨k, h1p, h2p⟩)]
  ·have h2p := h2; simp only [decide_eq_false_iff_not] at h2p
   have w2 : IntKind.i64.wrap (prodT (s.take k) * s.getD k default) = prodT (s.take k) * s.getD k default := wrap_i64 (by omega) (by omega)
   try simp only [go_sem]
   rw [decide_eq_true (show prodT (s.take k) ≤ 1000000000000 by omega)]
   try simp only [go_sem, w1, w2]
   exact for_next () (by omega) rfl (by rw [prodT_take h1p])
 ·have h1p := of_ndecide h1
  obtain rfl : k = s.length := by omega
  rw [List.take_length] at ht ⊢
  try simp only [go_sem]
  refine pure_ret ?_ (.refl _)
  rw [if_neg (show ¬ (1000000000001 : Int) < prodT s by omega)]
  rfl
theorem l01Total_ok (B : Nat) (s : List Int) (hs : Sm s) : Pur Tryz.prog B 154 [iL s] (iI (prodT s)) := by
 refine ⟨fun H0 => c154 (by simp) fun _ => ?_⟩
 have hl := hs.1
 unfold s154
 try simp only [go_sem, reduceAdd]
 refine awp_for [0] (fun k _ => [(3, some (.int .i64 (k : Int)))]) (fun k _ H => H = H0 ∧ ∀ i, i < k → s.getD i default ≠ 0) s.length () ⟨rfl, by simp⟩ rfl ?_
 rintro k _ H hk ⟨rfl, hall⟩
 try simp only [go_sem]
 refine ⟨fun h1 => At.mk ?_, fun h1 => At.mk ?_⟩
 ·have h1p := of_decide h1
  have w1 := wsucc (k := k) (by omega)
  try simp only [go_sem]
  refine ⟨h1p, ?_⟩
  refine ⟨fun h2 => At.mk ?_, fun h2 => At.mk ?_⟩
  ·have h2p := h2; simp only [decide_eq_true_eq] at h2p
   try simp only [go_sem]
   exact pure_ret (by rw [prodT_zero (mem_getD.mpr ⟨k, h1p, h2p⟩)]) (.refl _)
  ·have h2p := h2; simp only [decide_eq_false_iff_not] at h2p
   try simp only [go_sem, w1]
   exact for_next () (by omega) ⟨rfl, lt_succ_all hall h2p⟩ rfl
 ·have h1p := of_ndecide h1
  obtain rfl : k = s.length := by omega
  try simp only [go_sem]
  refine awp_for [0] (fun k _ => [(4, some (iI (prodT (s.take k)))), (5, some (.int .i64 (k : Int)))]) (fun k _ H' => H' = H) s.length () rfl rfl ?_
  clear h1 h1p hk
  rintro k _ H' hk rfl
  have ht := hs.take k
  try simp only [go_sem]
  refine ⟨fun h1 => At.mk ?_, fun h1 => At.mk ?_⟩
  ·have h1p := of_decide h1
   have w1 := wsucc (k := k) (by omega)
   have hb := hs.2 _ (mem_getD.mpr ⟨k, h1p, rfl⟩)
   have hne := hall k h1p
   have ht2 := hs.take (k + 1)
   rw [prodT_take h1p] at ht2
   have w2 : IntKind.i64.wrap (prodT (s.take k) * s.getD k default) = prodT (s.take k) * s.getD k default := wrap_i64 (by omega) (by omega)
   have hq : 62500000000 ≤ (1000000000000 : Int).tdiv (s.getD k default) ∧ (1000000000000 : Int).tdiv (s.getD k default) ≤ 1000000000000 := by
    rw [Int.tdiv_eq_ediv_of_nonneg (by omega)]
    refine ⟨(Int.le_ediv_iff_mul_le (by omega)).mpr (by omega), Int.ediv_le_self _ (by omega)⟩
   have w3 : IntKind.i64.wrap ((1000000000000 : Int).tdiv (s.getD k default)) = (1000000000000 : Int).tdiv (s.getD k default) := wrap_i64 (by omega) (by omega)
   try simp only [go_sem]
   refine ⟨h1p, hne, ?_⟩
   try simp only [go_sem, w3]
   rw [decide_eq_false (show ¬ (1000000000000 : Int).tdiv (s.getD k default) < prodT (s.take k) by omega)]
   try simp only [go_sem]
   refine ⟨h1p, ?_⟩
   try simp only [go_sem, w1, w2]
   exact for_next () (by omega) rfl (by rw [prodT_take h1p])
  ·have h1p := of_ndecide h1
   obtain rfl : k = s.length := by omega
   rw [List.take_length]
   try simp only [go_sem]
   exact pure_ret rfl (.refl _)
def atK (s : List Int) (n : Int) (k : Nat) : List Int := (List.range s.length).map fun j => if s.length ≤ j + k then digT s n j else 0
theorem atK_zero (s : List Int) (n : Int) : atK s n 0 = List.replicate s.length 0 := by
 refine List.ext_getElem (by simp [atK]) fun i h1 h2 => ?_
 have : i < s.length := by simpa [atK] using h1
 simp [atK]; omega
theorem atK_full (s : List Int) (n : Int) : atK s n s.length = atT s n := by
 refine List.ext_getElem (by simp [atK, atT]) fun i h1 h2 => ?_
 simp [atK, atT]
theorem atK_succ (s : List Int) (n : Int) {k : Nat} (hk : k < s.length) : (atK s n k).set (s.length - 1 - k) (digT s n (s.length - 1 - k)) = atK s n (k + 1) := by
 refine List.ext_getElem (by simp [atK]) fun i h1 h2 => ?_
 have hi : i < s.length := by simpa [atK] using h2
 simp only [atK, List.getElem_set, List.getElem_map, List.getElem_range]
 by_cases e : s.length - 1 - k = i
 ·rw [if_pos e, if_pos (by omega), e]
 ·rw [if_neg e]
  by_cases e2 : s.length ≤ i + k
  ·rw [if_pos e2, if_pos (by omega)]
  ·rw [if_neg e2, if_neg (by omega)]
theorem atK_len (s : List Int) (n : Int) (k : Nat) : (atK s n k).length = s.length := by simp [atK]
theorem at_step {s : List Int} (hp : ∀ a, a ∈ s → 0 < a) {n : Int} (hn : 0 ≤ n) {k j : Nat} (hk : k < s.length) (hj : j = s.length - 1 - k) :
  (n / prodT (s.drop (s.length - k))).tmod (s.getD j default) = digT s n j ∧ (n / prodT (s.drop (s.length - k))).tdiv (s.getD j default) = n / prodT (s.drop (s.length - (k + 1))) ∧
  0 < s.getD j default ∧ 0 ≤ n / prodT (s.drop (s.length - (k + 1))) ∧ n / prodT (s.drop (s.length - (k + 1))) ≤ n ∧ 0 ≤ digT s n j ∧ s.length - k = j + 1 ∧ s.length - (k + 1) = j ∧ j < s.length := by
 have hjl : j < s.length := by omega
 have e1 : s.length - k = j + 1 := by omega
 have e2 : s.length - (k + 1) = j := by omega
 have hb := hp _ (mem_getD.mpr ⟨j, hjl, rfl⟩)
 have hP : 0 < prodT (s.drop (j + 1)) := prodT_pos fun a ha => hp a (List.mem_of_mem_drop ha)
 have hq : 0 ≤ n / prodT (s.drop (j + 1)) := Int.ediv_nonneg hn (by omega)
 rw [e1, e2, Int.tmod_eq_emod_of_nonneg hq, Int.tdiv_eq_ediv_of_nonneg hq, prodT_drop hjl, Int.mul_comm, ← Int.ediv_ediv_of_nonneg (by omega)]
 refine ⟨rfl, rfl, hb, Int.ediv_nonneg hq (by omega), Int.le_trans (Int.ediv_le_self _ hq) (Int.ediv_le_self _ hn), Int.emod_nonneg _ (by omega), by omega, by omega, hjl⟩
theorem l01At_ok (B : Nat) (s : List Int) (hs : Sm s) (hp : ∀ a, a ∈ s → 0 < a) (n : Int) (hn : 0 ≤ n ∧ n < 9223372036854775807) : Pur Tryz.prog B 155 [iL s, iI n] (iL (atT s n)) := by
 refine ⟨fun H0 => c155 (by simp) fun _ => ?_⟩
 have hl := hs.1
 have w0 : IntKind.i64.wrap ((s.length : Int) - 1) = (s.length : Int) - 1 := wrap_i64 (by omega) (by omega)
 unfold s155
 have o : Owns H0 H0 [] := .nil _
 try simp only [go_sem, reduceAdd]
 refine ⟨⟨by omega, by simp only [maxL]; omega⟩, mks_list iI 0 rfl o fun id H o => ?_⟩
 try simp only [go_sem, w0]
 refine awp_for [0, 5] (G := List Int) (fun k _ => [(1, some (iI (n / prodT (s.drop (s.length - k))))), (6, some (iI ((s.length : Int) - 1 - k)))])
  (fun k A H => A = atK s n k ∧ Owns H0 H [(id, .cells 1 (A.map iI) 0)]) s.length (List.replicate s.length 0) ⟨(atK_zero s n).symm, o⟩ (by simp [prodT]; rfl) ?_
 clear o
 rintro k A H hk ⟨hA, o⟩
 try simp only [go_sem]
 refine ⟨fun h1 => At.mk ?_, fun h1 => At.mk ?_⟩
 ·have h1p : k < s.length := by simp at h1; omega
  obtain ⟨j, hj⟩ : ∃ j, j = s.length - 1 - k := ⟨_, rfl⟩
  obtain ⟨m1, m2, m3, m4, m5, m6, m7, m8, m9⟩ := at_step hp hn.1 h1p hj
  have ej : (s.length : Int) - 1 - k = (j : Int) := by omega
  have w1 : IntKind.i64.wrap ((j : Int) - 1) = (j : Int) - 1 := wrap_i64 (by omega) (by omega)
  have w2 : IntKind.i64.wrap (n / prodT (s.drop (s.length - (k + 1)))) = n / prodT (s.drop (s.length - (k + 1))) := wrap_i64 (by omega) (by omega)
  rw [ej]
  try simp only [go_sem]
  refine ⟨m9, by omega, m9, ?_⟩
  rw [m1]
  refine set_own (f := iI) _ o rfl (by rw [hA, atK_len]; exact m9) fun H o => ?_
  try simp only [go_sem]
  refine ⟨m9, by omega, ?_⟩
  rw [m2]
  try simp only [go_sem, w2, w1]
  exact for_next (A.set j (digT s n j)) h1p ⟨by rw [hA, hj, atK_succ s n h1p], o⟩ (by rw [show (s.length : Int) - 1 - ((k + 1 : Nat) : Int) = (j : Int) - 1 by omega])
 ·have h1p : k = s.length := by simp at h1; omega
  subst h1p
  try simp only [go_sem]
  refine fz_own o (by rw [hA, atK_len]) fun H o => ?_
  try simp only [go_sem]
  rw [hA, atK_full]
  exact pure_ret rfl o.sub
theorem atT_smT {s : List Int} (hs : Sm s) {n : Int} (hn : 0 ≤ n ∧ n < prodT s) : ∀ a, a ∈ s → 0 < a := fun a ha => by
 have h1 := hs.2 a ha
 by_cases e : a = 0
 ·subst e; rw [prodT_zero ha] at hn; omega
 ·omega
theorem tupleAt_ok (B : Nat) (s : List Int) (hs : Sm s) (n : Int) (hn : 0 ≤ n ∧ n < prodT s) : Pur Tryz.prog B 234 [iL s, iI n] (.tup [iL (atT s n), iI 0]) := by
 refine ⟨fun H0 => c234 (by simp) fun _ => ?_⟩
 have hl := hs.1
 have hp := atT_smT hs hn
 have hP := hs.prod
 have w0 : IntKind.i64.wrap ((s.length : Int) - 1) = (s.length : Int) - 1 := wrap_i64 (by omega) (by omega)
 have wP : IntKind.i64.wrap (prodT s - 1) = prodT s - 1 := wrap_i64 (by omega) (by omega)
 unfold s234
 have o : Owns H0 H0 [] := .nil _
 try simp only [go_sem, reduceAdd]
 refine (areSizes_ok B s).go fun _ => ?_
 rw [dec_t fun y hy => by have := hs.2 y hy; omega]
 try simp only [go_sem]
 refine (tupleCount_ok B s hs).go fun _ => ?_
 try simp only [go_sem]
 rw [decide_eq_false (show ¬ (1000000000000 : Int) < prodT s by omega)]
 try simp only [go_sem, wP]
 refine (inRange_ok ..).go fun _ => ?_
 rw [dec_t (by omega)]
 try simp only [go_sem]
 refine ⟨⟨by omega, by simp only [maxL]; omega⟩, mks_list iI 0 rfl o fun id H o => ?_⟩
 try simp only [go_sem, w0]
 refine awp_for [0, 7] (G := List Int) (fun k A => [(1, some (iI (n / prodT (s.drop (s.length - k))))), (8, some (iI ((s.length : Int) - 1 - k)))])
  (fun k A H => A = atK s n k ∧ Owns H0 H [(id, .cells 1 (A.map iI) 0)]) s.length (List.replicate s.length 0) ⟨(atK_zero s n).symm, o⟩ (by simp [prodT]; rfl) ?_
 clear o
 rintro k A H hk ⟨hA, o⟩
 try simp only [go_sem]
 refine ⟨fun h1 => At.mk ?_, fun h1 => At.mk ?_⟩
 ·have h1p : k < s.length := by simp at h1; omega
  obtain ⟨j, hj⟩ : ∃ j, j = s.length - 1 - k := ⟨_, rfl⟩
  obtain ⟨m1, m2, m3, m4, m5, m6, m7, m8, m9⟩ := at_step hp hn.1 h1p hj
  have ej : (s.length : Int) - 1 - k = (j : Int) := by omega
  have w1 : IntKind.i64.wrap ((j : Int) - 1) = (j : Int) - 1 := wrap_i64 (by omega) (by omega)
  have w2 : IntKind.i64.wrap (n / prodT (s.drop (s.length - (k + 1)))) = n / prodT (s.drop (s.length - (k + 1))) := wrap_i64 (by omega) (by omega)
  rw [ej]
  try simp only [go_sem]
  refine ⟨m9, by omega, m9, ?_⟩
  rw [m1]
  refine set_own (f := iI) _ o rfl (by rw [hA, atK_len]; exact m9) fun H o => ?_
  try simp only [go_sem]
  refine ⟨m9, by omega, ?_⟩
  rw [m2]
  try simp only [go_sem, w2, w1]
  exact for_next (A.set j (digT s n j)) h1p ⟨by rw [hA, hj, atK_succ s n h1p], o⟩ (by rw [show (s.length : Int) - 1 - ((k + 1 : Nat) : Int) = (j : Int) - 1 by omega])
 ·have h1p : k = s.length := by simp at h1; omega
  subst h1p
  try simp only [go_sem]
  refine fz_own o (by rw [hA, atK_len]) fun H o => ?_
  try simp only [go_sem]
  rw [hA, atK_full]
  exact pure_ret rfl o.sub
end Go.Proofs.Shf
