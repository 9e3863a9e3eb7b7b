/- Contracts of functions over abstract values, part 1. -/
import Derived.Test.YtadpkiiglobmpaaGreatA4
import Derived.Test.YtadpkiiglobmpaaGreatC
set_option linter.unusedVariables false
set_option linter.unusedSimpArgs false
set_option linter.unusedSectionVars false
open Nat (reduceEqDiff reduceAdd reduceMul reduceLeDiff reduceLT)
namespace Go.Proofs.Shf
open Go.AW Go.Proofs
theorem inRange_ok (B : Nat) (n lo hi : Int) : Pur Tryz.prog B 86 [.int .i64 n, .int .i64 lo, .int .i64 hi] (.bool (dec (lo ≤ n ∧ n ≤ hi))) := by
 refine ⟨fun H => c86 (by simp) fun _ => ?_⟩
 unfold s86
 try simp only [go_sem, reduceAdd, *]
 refine ⟨fun h1 => At.mk ?_, fun h1 => At.mk ?_⟩
 all_goals (try simp only [go_sem, *])
 ·exact pure_ret (by rw [← decide_dec]; simp at h1; simp [h1]) (.refl _)
 ·exact pure_ret (by rw [← decide_dec]; simp at h1; simp; omega) (.refl _)
theorem l01In_ok (B : Nat) (n lo hi : Int) : Pur Tryz.prog B 243 [.int .i64 n, .int .i64 lo, .int .i64 hi] (.bool (dec (lo ≤ n ∧ n ≤ hi))) := by
 refine ⟨fun H => c243 (by simp) fun _ => ?_⟩
 unfold s243
 try simp only [go_sem, reduceAdd, *]
 refine ⟨fun h1 => At.mk ?_, fun h1 => At.mk ?_⟩
 all_goals (try simp only [go_sem, *])
 ·exact pure_ret (by rw [← decide_dec]; simp at h1; simp [h1]) (.refl _)
 ·exact pure_ret (by rw [← decide_dec]; simp at h1; simp; omega) (.refl _)
theorem within_ok (B : Nat) (l : List Int) (n : Int) (hn : -9223372036854775808 < n ∧ n ≤ 9223372036854775807): Pur Tryz.prog B 203 [iL l, .int .i64 n] (.bool (dec (∀ y, y ∈ l → 0 ≤ y ∧ y < n))) := by
 refine ⟨fun H0 => c203 (by simp) fun ⟨hf, _⟩ => ?_⟩
 have hl := fine_mL_le hf
 simp only [maxL] at hl
 have w : IntKind.i64.wrap (n - 1) = n - 1 := wrap_i64 (by omega) (by omega)
 unfold s203
 try simp only [go_sem, reduceAdd, *]
 refine awp_for [1, 7, 8] (fun k _ => [(9, some (.int .i64 (k : Int)))]) (fun k _ H => H = H0 ∧ ∀ i, i < k → 0 ≤ l.getD i default ∧ l.getD i default < n) l.length () ⟨rfl, by simp⟩ rfl ?_
 rintro k _ H hk ⟨rfl, hall⟩
 try simp only [go_sem, *]
 refine ⟨fun h1 => At.mk ?_, fun h1 => At.mk ?_⟩
 ·have h1 := of_decide h1
  have w1 := wsucc (k := k) (by omega)
  try simp only [go_sem, *]
  refine (inRange_ok ..).go fun _ => ?_
  try simp only [go_sem, *]
  refine ⟨fun h2 => At.mk ?_, fun h2 => At.mk ?_⟩
  ·try simp only [go_sem, *]
   have h2p := h2; simp only [bnt, decf] at h2p
   refine pure_ret ?_ (.refl _)
   rw [dec_f]; intro h
   have := h _ (mem_getD.mpr ⟨k, h1, rfl⟩)
   omega
  ·try simp only [go_sem, *]
   have h2p := h2; simp only [bnf, dect] at h2p
   exact for_next () (by omega) ⟨rfl, lt_succ_all hall (by omega)⟩ rfl
 ·try simp only [go_sem, *]
  have h1 := of_ndecide h1
  exact pure_ret (by rw [dec_t]; exact all_getD.mpr fun i hi => hall i (by omega)) (.refl _)
theorem l01Map_ok (B : Nat) (l : List Int) (n : Int) : Pur Tryz.prog B 208 [.int .i64 n, iL l] (.bool (dec (∀ y, y ∈ l → 0 ≤ y ∧ y < n))) := by
 refine ⟨fun H0 => c208 (by simp) fun ⟨_, hf, _⟩ => ?_⟩
 have hl := fine_mL_le hf
 simp only [maxL] at hl
 unfold s208
 try simp only [go_sem, reduceAdd, *]
 refine awp_for [0, 1] (fun k _ => [(5, some (.int .i64 (k : Int)))]) (fun k _ H => H = H0 ∧ ∀ i, i < k → 0 ≤ l.getD i default ∧ l.getD i default < n) l.length () ⟨rfl, by simp⟩ rfl ?_
 rintro k _ H hk ⟨rfl, hall⟩
 try simp only [go_sem, *]
 refine ⟨fun h1 => At.mk ?_, fun h1 => At.mk ?_⟩
 ·have h1 := of_decide h1
  have w1 := wsucc (k := k) (by omega)
  try simp only [go_sem, *]
  have hn : l.getD k default < 0 ∨ n ≤ l.getD k default → ¬ ∀ y, y ∈ l → 0 ≤ y ∧ y < n := fun hc h => by
   have := h _ (mem_getD.mpr ⟨k, h1, rfl⟩); omega
  refine ⟨fun h2 => At.mk ?_, fun h2 => At.mk ?_⟩
  ·try simp only [go_sem, *]
   refine ⟨fun h3 => At.mk ?_, fun h3 => At.mk ?_⟩
   ·try simp only [go_sem, *]
    have h3p := h3; simp only [decide_eq_true_eq] at h3p
    exact pure_ret (by rw [dec_f (hn (.inr h3p))]) (.refl _)
   ·try simp only [go_sem, *]
    have h2p := h2; simp only [decide_eq_false_iff_not, Int.not_lt] at h2p
    have h3p := h3; simp only [decide_eq_false_iff_not, Int.not_le] at h3p
    exact for_next () (by omega) ⟨rfl, lt_succ_all hall (by omega)⟩ rfl
  ·try simp only [go_sem, *]
   have h2p := h2; simp only [decide_eq_true_eq] at h2p
   exact pure_ret (by rw [dec_f (hn (.inl h2p))]) (.refl _)
 ·try simp only [go_sem, *]
  have h1 := of_ndecide h1
  exact pure_ret (by rw [dec_t]; exact all_getD.mpr fun i hi => hall i (by omega)) (.refl _)
theorem l01Index_ok (B : Nat) (l : List Int) (n : Int) : Pur Tryz.prog B 239 [iL l, .int .i64 n] (.int .i64 (indexOf l n)) := by
 refine ⟨fun H0 => c239 (by simp) fun ⟨hf, _⟩ => ?_⟩
 have hl := fine_mL_le hf
 simp only [maxL] at hl
 unfold s239
 try simp only [go_sem, reduceAdd, *]
 refine awp_for [0, 1] (fun k _ => [(5, some (.int .i64 (k : Int)))]) (fun k _ H => H = H0 ∧ ∀ i, i < k → l.getD i default ≠ n) l.length () ⟨rfl, by simp⟩ rfl ?_
 rintro k _ H hk ⟨rfl, hall⟩
 try simp only [go_sem, *]
 refine ⟨fun h1 => At.mk ?_, fun h1 => At.mk ?_⟩
 ·have h1 := of_decide h1
  have w1 := wsucc (k := k) (by omega)
  try simp only [go_sem, *]
  refine ⟨fun h2 => At.mk ?_, fun h2 => At.mk ?_⟩
  ·try simp only [go_sem, *]
   exact pure_ret (by rw [indexOf_hit h1 hall (of_decide h2)]) (.refl _)
  ·try simp only [go_sem, *]
   exact for_next () h1 ⟨rfl, lt_succ_all hall (of_ndecide h2)⟩ rfl
 ·try simp only [go_sem, *]
  have h1 := of_ndecide h1
  exact pure_ret (by rw [indexOf_miss fun i hi => hall i (by omega)]) (.refl _)
theorem slIndex_ok (B : Nat) (l : List Int) (n : Int) : Pur Tryz.prog B 288 [iL l, .int .i64 n] (.int .i64 (indexOf l n)) := by
 refine ⟨fun H0 => c288 (by simp) fun ⟨hf, _⟩ => ?_⟩
 have hl := fine_mL_le hf
 simp only [maxL] at hl
 unfold s288
 try simp only [go_sem, reduceAdd, *]
 refine awp_for [0, 1, 7] (fun k _ => [(8, some (.int .i64 (k : Int)))]) (fun k _ H => H = H0 ∧ ∀ i, i < k → l.getD i default ≠ n) l.length () ⟨rfl, by simp⟩ rfl ?_
 rintro k _ H hk ⟨rfl, hall⟩
 try simp only [go_sem, *]
 refine ⟨fun h1 => At.mk ?_, fun h1 => At.mk ?_⟩
 ·have h1 := of_decide h1
  have w1 := wsucc (k := k) (by omega)
  try simp only [go_sem, *]
  refine ⟨fun h2 => At.mk ?_, fun h2 => At.mk ?_⟩
  ·try simp only [go_sem, *]
   exact pure_ret (by rw [indexOf_hit h1 hall (of_decide h2).symm]) (.refl _)
  ·try simp only [go_sem, *]
   exact for_next () h1 ⟨rfl, lt_succ_all hall fun e => of_ndecide h2 e.symm⟩ rfl
 ·try simp only [go_sem, *]
  have h1 := of_ndecide h1
  exact pure_ret (by rw [indexOf_miss fun i hi => hall i (by omega)]) (.refl _)
theorem index_ok (B : Nat) (l : List Int) (n : Int) : Pur Tryz.prog B 216 [iL l, .int .i64 n] (.int .i64 (indexOf l n)) := by
 refine ⟨fun H0 => c216 (by simp) fun ⟨hf, _⟩ => ?_⟩
 unfold s216
 try simp only [go_sem, reduceAdd, *]
 refine (slIndex_ok ..).go fun _ => ?_
 have hl := fine_mL_le hf
 simp only [maxL] at hl
 have hb := indexOf_bd l n
 have w : IntKind.i64.wrap (indexOf l n) = indexOf l n := wrap_i64 (by omega) (by omega)
 try simp only [go_sem, *]
 exact pure_ret rfl (.refl _)
theorem clone_ok (B : Nat) (l : List Int) : Pur Tryz.prog B 189 [iL l] (iL l) := by
 refine ⟨fun H0 => c189 (by simp) fun ⟨hf, _⟩ => ?_⟩
 have hl := fine_mL_le hf
 unfold s189
 try simp only [go_sem, reduceAdd, *]
 refine new_list iI (.nil _) fun id H o => ?_
 try simp only [go_sem, *]
 refine app_list o rfl (by simpa using hl) fun id H o => ?_
 try simp only [go_sem, *]
 refine fz_own o rfl fun H o => ?_
 try simp only [go_sem, *]
 exact pure_ret (by simp) o.sub
theorem l01Own_ok (B : Nat) (l : List Int) : Pur Tryz.prog B 114 [iL l] (iL l) := by
 refine ⟨fun H0 => c114 (by simp) fun ⟨hf, _⟩ => ?_⟩
 have hl := fine_mL_le hf
 unfold s114
 try simp only [go_sem, reduceAdd, *]
 refine new_list iI (.nil _) fun id H o => ?_
 try simp only [go_sem, *]
 refine app_list o rfl (by simpa using hl) fun id H o => ?_
 try simp only [go_sem, *]
 refine fz_own o rfl fun H o => ?_
 try simp only [go_sem, *]
 exact pure_ret (by simp) o.sub
end Go.Proofs.Shf
namespace Go.Proofs.Shf
open Go.AW Go.Proofs Go.Shf
theorem compare_ok (B : Nat) (a b : List Int) : Pur Tryz.prog B 214 [iL a, iL b] (.int .i64 (cmp a b)) := by
 refine ⟨fun H0 => c214 (by simp) fun ⟨hf, hg, _⟩ => ?_⟩
 have hl := fine_mL_le hf
 have hl2 := fine_mL_le hg
 simp only [maxL] at hl hl2
 unfold s214
 try simp only [go_sem, reduceAdd]
 refine awp_for [0, 1, 7] (fun k _ => [(8, some (.int .i64 (k : Int)))]) (fun k _ H => H = H0 ∧ k ≤ b.length ∧ cmp a b = cmp (a.drop k) (b.drop k)) a.length () ⟨rfl, by simp, by simp⟩ rfl ?_
 rintro k _ H hk ⟨rfl, hkb, hc⟩
 try simp only [go_sem]
 refine ⟨fun h1 => At.mk ?_, fun h1 => At.mk ?_⟩
 ·have h1 := of_decide h1
  have w1 := wsucc (k := k) (by omega)
  have da := drop_cons a h1
  rw [da] at hc
  try simp only [go_sem]
  refine ⟨fun h2 => At.mk ?_, fun h2 => At.mk ?_⟩
  ·try simp only [go_sem]
   have h2 := of_decide h2
   refine pure_ret ?_ (.refl _)
   rw [hc, List.drop_of_length_le (show b.length ≤ k by omega)]; rfl
  ·have h2 := of_ndecide h2
   have h3 : k < b.length := by omega
   have db := drop_cons b h3
   rw [db] at hc
   try simp only [go_sem]
   refine ⟨h1, h3, ?_⟩
   refine ⟨fun h4 => At.mk ?_, fun h4 => At.mk ?_⟩
   ·have h4p : a.getD k default ≠ b.getD k default := by simpa using h4
    try simp only [go_sem]
    refine ⟨h1, h3, ?_⟩
    refine ⟨fun h5 => At.mk ?_, fun h5 => At.mk ?_⟩
    ·try simp only [go_sem]
     have h5 := of_decide h5
     refine pure_ret ?_ (.refl _)
     rw [hc, cmp, if_neg h4p, if_pos h5]
    ·try simp only [go_sem]
     have h5 := of_ndecide h5
     refine pure_ret ?_ (.refl _)
     rw [hc, cmp, if_neg h4p, if_neg h5]
   ·have h4p : a.getD k default = b.getD k default := by simpa using h4
    try simp only [go_sem, w1]
    refine for_next () (by omega) ⟨rfl, by omega, ?_⟩ rfl
    rw [hc, cmp, if_pos h4p]
 ·try simp only [go_sem]
  have h1 := of_ndecide h1
  rw [List.drop_of_length_le (by omega)] at hc
  refine ⟨fun h2 => At.mk ?_, fun h2 => At.mk ?_⟩
  ·try simp only [go_sem]
   have h2 := of_decide h2
   refine pure_ret ?_ (.refl _)
   rw [hc, drop_cons b (by omega)]; rfl
  ·try simp only [go_sem]
   have h2 := of_ndecide h2
   refine pure_ret ?_ (.refl _)
   rw [hc, List.drop_of_length_le (by omega)]; rfl
theorem same_ok (B : Nat) (a b : List Int) : Pur Tryz.prog B 110 [iL a, iL b] (.bool (dec (a = b))) := by
 refine ⟨fun H0 => c110 (by simp) fun _ => ?_⟩
 unfold s110
 try simp only [go_sem, reduceAdd, *]
 refine (compare_ok ..).go fun _ => ?_
 try simp only [go_sem, *]
 exact pure_ret (by rw [decide_dec, dec_congr cmp_zero]) (.refl _)
theorem l01Same_ok (B : Nat) (a b : List Int) : Pur Tryz.prog B 117 [iL a, iL b] (.bool (dec (a = b))) := by
 refine ⟨fun H0 => c117 (by simp) fun ⟨hf, hg, _⟩ => ?_⟩
 have hl := fine_mL_le hf
 have hl2 := fine_mL_le hg
 simp only [maxL] at hl hl2
 unfold s117
 try simp only [go_sem, reduceAdd]
 refine ⟨fun h0 => At.mk ?_, fun h0 => At.mk ?_⟩
 ·try simp only [go_sem]
  have h0p : a.length ≠ b.length := by simpa using h0
  exact pure_ret (by rw [dec_f]; rintro rfl; exact h0p rfl) (.refl _)
 have h0p : a.length = b.length := by simpa using h0
 try simp only [go_sem]
 refine awp_for [0, 1] (fun k _ => [(5, some (.int .i64 (k : Int)))]) (fun k _ H => H = H0 ∧ ∀ i, i < k → a.getD i default = b.getD i default) a.length () ⟨rfl, by simp⟩ rfl ?_
 rintro k _ H hk ⟨rfl, hall⟩
 try simp only [go_sem]
 refine ⟨fun h1 => At.mk ?_, fun h1 => At.mk ?_⟩
 ·have h1 := of_decide h1
  have w1 := wsucc (k := k) (by omega)
  try simp only [go_sem]
  refine ⟨h1, by omega, ?_⟩
  refine ⟨fun h2 => At.mk ?_, fun h2 => At.mk ?_⟩
  ·try simp only [go_sem]
   have h2p : a.getD k default ≠ b.getD k default := by simpa using h2
   exact pure_ret (by rw [dec_f]; rintro rfl; exact h2p rfl) (.refl _)
  ·try simp only [go_sem, w1]
   have h2p : a.getD k default = b.getD k default := by simpa using h2
   exact for_next () (by omega) ⟨rfl, lt_succ_all hall h2p⟩ rfl
 ·try simp only [go_sem]
  have h1 := of_ndecide h1
  refine pure_ret ?_ (.refl _)
  rw [dec_t]
  refine List.ext_getElem h0p fun i hi hj => ?_
  have := hall i (by omega)
  simpa [List.getD_eq_getElem?_getD, hi, hj] using this
theorem l05Place_ok (B : Nat) (l : List (List Int)) (x : List Int) : Pur Tryz.prog B 121 [iLL l, iL x] (.int .i64 (indexOf l x)) := by
 refine ⟨fun H0 => c121 (by simp) fun ⟨hf, _⟩ => ?_⟩
 have hl := fine_mL_le hf
 simp only [maxL] at hl
 unfold s121
 try simp only [go_sem, reduceAdd]
 refine awp_for [0, 1] (fun k _ => [(5, some (.int .i64 (k : Int)))]) (fun k _ H => H = H0 ∧ ∀ i, i < k → l.getD i default ≠ x) l.length () ⟨rfl, by simp⟩ rfl ?_
 rintro k _ H hk ⟨rfl, hall⟩
 try simp only [go_sem]
 refine ⟨fun h1 => At.mk ?_, fun h1 => At.mk ?_⟩
 ·have h1 := of_decide h1
  have w1 := wsucc (k := k) (by omega)
  try simp only [go_sem]
  refine ⟨h1, (l01Same_ok ..).go fun _ => ?_⟩
  try simp only [go_sem]
  refine ⟨fun h2 => At.mk ?_, fun h2 => At.mk ?_⟩
  ·try simp only [go_sem]
   have h2p := h2; simp only [dect] at h2p
   exact pure_ret (by rw [indexOf_hit h1 hall h2p]) (.refl _)
  ·try simp only [go_sem, w1]
   have h2p := h2; simp only [decf] at h2p
   exact for_next () (by omega) ⟨rfl, lt_succ_all hall h2p⟩ rfl
 ·try simp only [go_sem]
  have h1 := of_ndecide h1
  exact pure_ret (by rw [indexOf_miss fun i hi => hall i (by omega)]) (.refl _)
theorem l01Less_ok (B : Nat) (a b : List Int) : Pur Tryz.prog B 307 [iL a, iL b] (.bool (dec (cmp a b < 0))) := by
 refine ⟨fun H0 => c307 (by simp) fun ⟨hf, hg, _⟩ => ?_⟩
 have hl := fine_mL_le hf
 have hl2 := fine_mL_le hg
 simp only [maxL] at hl hl2
 unfold s307
 try simp only [go_sem, reduceAdd]
 refine awp_for [0, 1] (fun k _ => [(5, some (.int .i64 (k : Int)))]) (fun k _ H => H = H0 ∧ k ≤ b.length ∧ cmp a b = cmp (a.drop k) (b.drop k)) a.length () ⟨rfl, by simp, by simp⟩ rfl ?_
 rintro k _ H hk ⟨rfl, hkb, hc⟩
 try simp only [go_sem]
 refine ⟨fun h1 => At.mk ?_, fun h1 => At.mk ?_⟩
 ·have h1p := of_decide h1
  have w1 := wsucc (k := k) (by omega)
  try simp only [go_sem, h1]
  refine ⟨fun h2 => At.mk ?_, fun h2 => At.mk ?_⟩
  ·have h2 := of_decide h2
   try simp only [go_sem]
   refine ⟨h1p, h2, ?_⟩
   rw [drop_cons a h1p, drop_cons b h2] at hc
   refine ⟨fun h4 => At.mk ?_, fun h4 => At.mk ?_⟩
   ·have h4p : a.getD k default ≠ b.getD k default := by simpa using h4
    try simp only [go_sem]
    refine ⟨h1p, h2, ?_⟩
    refine pure_ret ?_ (.refl _)
    rw [hc, cmp, if_neg h4p, decide_dec]
    congr 1
    refine dec_congr ?_
    split <;> omega
   ·have h4p : a.getD k default = b.getD k default := by simpa using h4
    try simp only [go_sem, w1]
    refine for_next () (by omega) ⟨rfl, by omega, ?_⟩ rfl
    rw [hc, cmp, if_pos h4p]
  ·have h2 := of_ndecide h2
   try simp only [go_sem]
   refine pure_ret ?_ (.refl _)
   rw [hc, drop_cons a h1p, List.drop_of_length_le (show b.length ≤ k by omega), decide_dec]
   congr 1
   refine dec_congr ?_
   simp only [cmp]; omega
 ·have h1p := of_ndecide h1
  try simp only [go_sem, h1]
  refine pure_ret ?_ (.refl _)
  rw [hc, List.drop_of_length_le (show a.length ≤ k by omega), decide_dec]
  congr 1
  refine dec_congr ?_
  by_cases h : a.length < b.length
  ·rw [drop_cons b (by omega)]; simp only [cmp]; omega
  ·rw [List.drop_of_length_le (by omega)]; simp only [cmp]; omega
end Go.Proofs.Shf
namespace Go.Proofs.Shf
open Go.AW Go.Proofs Go.Shf
theorem clones_ok (B : Nat) (l : List (List Int)) : Pur Tryz.prog B 170 [mL (mL iI) l] (mL (mL iI) l) := by
 refine ⟨fun H0 => c170 (by simp) fun ⟨hf, _⟩ => ?_⟩
 have hl := fine_mL_le hf
 simp only [maxL] at hl
 unfold s170
 try simp only [go_sem, reduceAdd]
 refine ⟨⟨by omega, by simp [maxL] <;> omega⟩, new_list (mL iI) (.nil _) fun id H o => ?_⟩
 try simp only [go_sem]
 refine awp_for [9, 10] (G := Nat × List (List Int)) (fun k g => [(3, some (.buf g.1 g.2.length)), (11, some (.int .i64 (k : Int)))]) (fun k g H => g.2 = (l.take k) ∧ Owns H0 H [(g.1, .cells 1 (g.2.map (mL iI)) 0)]) l.length (id, []) ⟨by simp, o⟩ rfl ?_
 rintro k ⟨id, out⟩ H hk ⟨hout, o⟩
 replace hout : out = (l.take k) := hout
 try simp only [go_sem]
 refine ⟨fun h1 => At.mk ?_, fun h1 => At.mk ?_⟩
 ·have h1 := of_decide h1
  have w1 := wsucc (k := k) (by omega)
  try simp only [go_sem]
  refine ⟨h1, (clone_ok ..).go fun _ => ?_⟩
  try simp only [go_sem, reduceAdd]
  refine app_own (l.getD k default) o rfl rfl (by rw [hout]; simp [maxL] <;> omega) fun id H o => ?_
  try simp only [go_sem, w1]
  exact for_next (_, _) (by omega) ⟨by rw [hout, take_succ' l h1], o⟩ rfl
 ·try simp only [go_sem]
  have h1 := of_ndecide h1
  refine fz_own o rfl fun H o => ?_
  try simp only [go_sem]
  exact pure_ret (by rw [hout, List.take_of_length_le (by omega)]) o.sub
theorem l01Own2_ok (B : Nat) (l : List (List Int)) : Pur Tryz.prog B 250 [mL (mL iI) l] (mL (mL iI) l) := by
 refine ⟨fun H0 => c250 (by simp) fun ⟨hf, _⟩ => ?_⟩
 have hl := fine_mL_le hf
 simp only [maxL] at hl
 unfold s250
 try simp only [go_sem, reduceAdd]
 refine new_list (mL iI) (.nil _) fun id H o => ?_
 try simp only [go_sem]
 refine awp_for [0] (G := Nat × List (List Int)) (fun k g => [(3, some (.buf g.1 g.2.length)), (4, some (.int .i64 (k : Int)))]) (fun k g H => g.2 = (l.take k) ∧ Owns H0 H [(g.1, .cells 1 (g.2.map (mL iI)) 0)]) l.length (id, []) ⟨by simp, o⟩ rfl ?_
 rintro k ⟨id, out⟩ H hk ⟨hout, o⟩
 replace hout : out = (l.take k) := hout
 try simp only [go_sem]
 refine ⟨fun h1 => At.mk ?_, fun h1 => At.mk ?_⟩
 ·have h1 := of_decide h1
  have w1 := wsucc (k := k) (by omega)
  try simp only [go_sem]
  refine ⟨h1, (l01Own_ok ..).go fun _ => ?_⟩
  try simp only [go_sem, reduceAdd]
  refine app_own (l.getD k default) o rfl rfl (by rw [hout]; simp [maxL] <;> omega) fun id H o => ?_
  try simp only [go_sem, w1]
  exact for_next (_, _) (by omega) ⟨by rw [hout, take_succ' l h1], o⟩ rfl
 ·try simp only [go_sem]
  have h1 := of_ndecide h1
  refine fz_own o rfl fun H o => ?_
  try simp only [go_sem]
  exact pure_ret (by rw [hout, List.take_of_length_le (by omega)]) o.sub
theorem outOf_ok (B : Nat) (c : Cat) (x : Int) : Pur Tryz.prog B 156 [.ptr c.cells, .int .i64 x] (iL (outs c x)) := by
 refine ⟨fun H0 => c156 (by simp) fun ⟨hf, _⟩ => ?_⟩
 have hl := fine_mL_le (hf.ptr (c := iL c.frm) (by simp [Cat.cells]))
 simp only [maxL] at hl
 unfold s156
 try simp only [go_sem, reduceAdd]
 refine new_list iI (.nil _) fun id H o => ?_
 try simp only [go_sem, reduceAdd, reduceLeDiff]
 refine awp_for [1, 12, 13] (G := Nat × List (Int)) (fun k g => [(5, some (.buf g.1 g.2.length)), (14, some (.int .i64 (k : Int)))]) (fun k g H => g.2 = (((List.range k).filter fun i => c.frm.getD i default = x).map Int.ofNat) ∧ Owns H0 H [(g.1, .cells 1 (g.2.map iI) 0)]) c.frm.length (id, []) ⟨by simp, o⟩ rfl ?_
 rintro k ⟨id, out⟩ H hk ⟨hout, o⟩
 replace hout : out = (((List.range k).filter fun i => c.frm.getD i default = x).map Int.ofNat) := hout
 try simp only [go_sem]
 refine ⟨fun h1 => At.mk ?_, fun h1 => At.mk ?_⟩
 ·have h1 := of_decide h1
  have w1 := wsucc (k := k) (by omega)
  try simp only [go_sem]
  refine ⟨h1, ?_⟩
  have hlen : out.length ≤ k := by rw [hout, List.length_map]; exact Nat.le_trans (List.length_filter_le _ _) (by simp)
  refine ⟨fun h2 => At.mk ?_, fun h2 => At.mk ?_⟩
  ·try simp only [go_sem, reduceAdd]
   have h2p : c.frm.getD k default = x := of_decide h2
   refine app_own (k : Int) o rfl rfl (by simp only [maxL]; omega) fun id H o => ?_
   try simp only [go_sem, w1]
   exact for_next (_, _) (by omega) ⟨by rw [hout, range_succ_filter, if_pos h2, List.map_append]; rfl, o⟩ rfl
  ·try simp only [go_sem, w1]
   have h2p : ¬ c.frm.getD k default = x := of_ndecide h2
   exact for_next (_, _) (by omega) ⟨by rw [hout, range_succ_filter, if_neg (Bool.eq_false_iff.mp h2), List.map_append]; simp, o⟩ rfl
 ·try simp only [go_sem]
  have h1 := of_ndecide h1
  refine fz_own o rfl fun H o => ?_
  try simp only [go_sem]
  exact pure_ret (by rw [hout, show k = c.frm.length by omega]; rfl) o.sub
theorem repeated_ok (B : Nat) (x : Int) (n : Nat) (hn : n ≤ 1048576) : Pur Tryz.prog B 185 [.int .i64 x, .int .i64 (n : Int)] (iL (List.replicate n x)) := by
 refine ⟨fun H0 => c185 (by simp) fun ⟨_, _⟩ => ?_⟩
 unfold s185
 try simp only [go_sem, reduceAdd]
 refine ⟨⟨by omega, by simp [maxL] <;> omega⟩, ?_⟩
 refine mks_own iI (.nil _) fun id H o => ?_
 try simp only [go_sem]
 refine awp_for [0, 5, 10] (fun k _ => [(11, some (.int .i64 (k : Int)))]) (fun k _ H => Owns H0 H [(id, .cells 1 ((List.replicate k x).map iI ++ List.replicate (n - k) (.int .i64 0)) 0)]) n () o rfl ?_
 rintro k _ H hk o
 have hlen : (List.replicate k x).length = k := by simp
 try simp only [go_sem]
 refine ⟨fun h1 => At.mk ?_, fun h1 => At.mk ?_⟩
 ·have h1 := of_decide h1
  have w1 := wsucc (k := k) (by omega)
  have hsub : n - k = (n - (k + 1)) + 1 := by omega
  rw [hsub] at o
  try simp only [go_sem]
  refine ⟨by omega, ?_⟩
  refine st_own x o rfl (by omega) fun H o => ?_
  try simp only [go_sem, w1]
  exact for_next () (by omega) (by simpa [List.replicate_succ'] using o) rfl
 ·try simp only [go_sem]
  have h1 := of_ndecide h1
  have hsub : n - k = 0 := by omega
  rw [hsub] at o
  refine fz_made o (by omega) fun H o => ?_
  try simp only [go_sem]
  exact pure_ret (by rw [show k = n by omega]) o.sub
end Go.Proofs.Shf
namespace Go.Proofs.Shf
open Go.AW Go.Proofs Go.Shf
theorem l02Own_ok (B : Nat) (c : Cat) : Pur Tryz.prog B 171 [.agg c.cells] (.agg c.cells) := by
 refine ⟨fun H0 => c171 (by simp) fun hf => ?_⟩
 unfold s171
 try simp only [go_sem, reduceAdd]
 refine ⟨by simp [maxL], fun i1 n1 => ?_⟩
 try simp only [go_sem, reduceAdd, reduceLeDiff]
 refine ⟨_, (l01Own_ok ..).run, ?_⟩
 try simp only [go_sem, reduceAdd, reduceLeDiff]
 refine ⟨_, (l01Own_ok ..).run, ?_⟩
 try simp only [go_sem, reduceAdd, reduceLeDiff]
 refine ⟨_, (l01Own_ok ..).run, ?_⟩
 try simp only [go_sem, reduceAdd, reduceLeDiff]
 refine ⟨_, (l01Own2_ok ..).run, ?_⟩
 try simp only [go_sem, ↓reduceIte, reduceAdd, reduceLeDiff]
 refine pure_ret rfl ?_
 repeat (first | exact .refl _ | refine sub_set ?_ n1)
theorem catCopy_ok (B : Nat) (c : Cat) : Pur Tryz.prog B 161 [.ptr c.cells] (.agg c.cells) := by
 refine ⟨fun H0 => c161 (by simp) fun hf => ?_⟩
 unfold s161
 try simp only [go_sem, reduceAdd]
 refine ⟨by simp [maxL], fun i1 n1 => ?_⟩
 try simp only [go_sem, reduceAdd, reduceLeDiff]
 refine ⟨_, (clone_ok ..).run, ?_⟩
 try simp only [go_sem, reduceAdd, reduceLeDiff]
 refine ⟨_, (clone_ok ..).run, ?_⟩
 try simp only [go_sem, reduceAdd, reduceLeDiff]
 refine ⟨_, (clone_ok ..).run, ?_⟩
 try simp only [go_sem, reduceAdd, reduceLeDiff]
 refine ⟨_, (clones_ok ..).run, ?_⟩
 try simp only [go_sem, ↓reduceIte, reduceAdd, reduceLeDiff]
 refine pure_ret rfl ?_
 repeat (first | exact .refl _ | refine sub_set ?_ n1)
theorem ends_ok (B : Nat) (c : Cat) (f : Int) (h1 : 0 ≤ f ∧ f.toNat < c.frm.length) (h2 : f.toNat < c.to.length) : Pur Tryz.prog B 281 [.ptr c.cells, .int .i64 f] (.agg [.int .i64 (ix c.frm f), .int .i64 (ix c.to f)]) := by
 refine ⟨fun H0 => c281 (by simp) fun hf => ?_⟩
 unfold s281
 try simp only [go_sem, reduceAdd]
 refine fun i1 n1 => ?_
 try simp only [go_sem, ↓reduceIte, reduceAdd, reduceLeDiff]
 refine ⟨h1, ⟨h1.1, h2⟩, ?_⟩
 refine pure_ret rfl ?_
 repeat (first | exact .refl _ | refine sub_set ?_ n1)
theorem arrows_ok (B : Nat) (c : Cat) : Pur Tryz.prog B 205 [.ptr c.cells] (.int .i64 c.frm.length) := by
 refine ⟨fun H0 => c205 (by simp) fun hf => ?_⟩
 unfold s205
 try simp only [go_sem, reduceAdd, reduceLeDiff]
 exact pure_ret rfl (.refl _)
theorem catThen_ok (B : Nat) (c : Cat) (f g : Int) (h1 : 0 ≤ f ∧ f.toNat < c.comp.length) (h2 : 0 ≤ g ∧ g.toNat < (ix c.comp f).length) :
  Pur Tryz.prog B 160 [.ptr c.cells, .int .i64 f, .int .i64 g] (.int .i64 (ix (ix c.comp f) g)) := by
 refine ⟨fun H0 => c160 (by simp) fun hf => ?_⟩
 unfold s160
 try simp only [go_sem, reduceAdd, reduceLeDiff]
 exact ⟨h1, h2, pure_ret rfl (.refl _)⟩
theorem l02Then_ok (B : Nat) (c : Cat) (f g : Int) (h1 : 0 ≤ f ∧ f.toNat < c.comp.length) (h2 : 0 ≤ g ∧ g.toNat < (ix c.comp f).length) :
  Pur Tryz.prog B 101 [.agg c.cells, .int .i64 f, .int .i64 g] (.int .i64 (ix (ix c.comp f) g)) := by
 refine ⟨fun H0 => c101 (by simp) fun hf => ?_⟩
 unfold s101
 try simp only [go_sem, reduceAdd, reduceLeDiff]
 exact ⟨h1, h2, pure_ret rfl (.refl _)⟩
theorem l02Ends_ok (B : Nat) (l : List Int) (m : Nat) (n : Int) : Pur Tryz.prog B 296 [iL l, .int .i64 (m : Int), .int .i64 n] (.bool (dec (l.length = m ∧ ∀ y, y ∈ l → 0 ≤ y ∧ y < n))) := by
 refine ⟨fun H0 => c296 (by simp) fun hf => ?_⟩
 unfold s296
 try simp only [go_sem, reduceAdd]
 refine ⟨fun h1 => At.mk ?_, fun h1 => At.mk ?_⟩
 ·try simp only [go_sem, h1]
  have h1p : l.length = m := of_decide h1
  refine (l01Map_ok ..).go fun _ => ?_
  try simp only [go_sem]
  exact pure_ret (by congr 1; exact dec_congr ⟨fun h => ⟨h1p, h⟩, fun h => h.2⟩) (.refl _)
 ·try simp only [go_sem, h1]
  have h1p : ¬ l.length = m := of_ndecide h1
  exact pure_ret (by rw [dec_f (fun h => h1p h.1)]) (.refl _)
theorem isMapOf_ok (B : Nat) (l : List Int) (m n : Int) (hn : -9223372036854775808 < n ∧ n ≤ 9223372036854775807) : Pur Tryz.prog B 277 [iL l, .int .i64 m, .int .i64 n] (.bool (dec ((l.length : Int) = m ∧ ∀ y, y ∈ l → 0 ≤ y ∧ y < n))) := by
 refine ⟨fun H0 => c277 (by simp) fun hf => ?_⟩
 unfold s277
 try simp only [go_sem, reduceAdd]
 refine ⟨fun h1 => At.mk ?_, fun h1 => At.mk ?_⟩
 ·try simp only [go_sem, h1]
  have h1p : (l.length : Int) = m := of_decide h1
  refine (within_ok B l n hn).go fun _ => ?_
  try simp only [go_sem]
  exact pure_ret (by congr 1; exact dec_congr ⟨fun h => ⟨h1p, h⟩, fun h => h.2⟩) (.refl _)
 ·try simp only [go_sem, h1]
  have h1p : ¬ (l.length : Int) = m := of_ndecide h1
  exact pure_ret (by rw [dec_f (fun h => h1p h.1)]) (.refl _)
end Go.Proofs.Shf
namespace Go.Proofs.Shf
open Go.AW Go.Proofs Go.Shf
structure CellOk (c : Cat) (f g : Nat) : Prop where
 non : c.to.getD f default ≠ c.frm.getD g default → (c.comp.getD f default).getD g default = -1
 yes : c.to.getD f default = c.frm.getD g default →
  (0 ≤ (c.comp.getD f default).getD g default ∧ (c.comp.getD f default).getD g default < c.frm.length) ∧
  ix c.frm ((c.comp.getD f default).getD g default) = c.frm.getD f default ∧ ix c.to ((c.comp.getD f default).getD g default) = c.to.getD g default
structure RowOk (c : Cat) (f : Nat) : Prop where
 row : (c.comp.getD f default).length = c.frm.length
 cell : ∀ g, g < c.frm.length → CellOk c f g
theorem IsShape_ok (B : Nat) (c : Cat) : Pur Tryz.prog B 229 [.agg c.cells] (.bool (dec c.Shape)) := by
 refine ⟨fun H0 => c229 (by simp) fun ⟨hf, _⟩ => ?_⟩
 have hl := fine_mL_le (hf.agg (c := iL c.frm) (by simp [Cat.cells]))
 have hl2 := fine_mL_le (hf.agg (c := iL c.idn) (by simp [Cat.cells]))
 simp only [maxL] at hl hl2
 unfold s229
 try simp only [go_sem, reduceAdd, reduceLeDiff]
 refine (l01In_ok ..).go fun _ => ?_
 try simp only [go_sem]
 refine ⟨fun h1 => At.mk ?_, fun h1 => At.mk ?_⟩
 rotate_left
 ·try simp only [go_sem, h1]
  have h1p := h1; simp only [bnt, decf] at h1p
  exact pure_ret (by rw [dec_f]; intro s; exact h1p s.o) (.refl _)
 try simp only [go_sem, h1]
 have h1p := h1; simp only [bnf, dect] at h1p
 refine ⟨fun h2 => At.mk ?_, fun h2 => At.mk ?_⟩
 rotate_left
 ·try simp only [go_sem, h2]
  have h2p := h2; simp only [decide_eq_true_eq] at h2p
  exact pure_ret (by rw [dec_f]; intro s; have := s.m; omega) (.refl _)
 try simp only [go_sem, reduceAdd, reduceLeDiff, h2]
 have h2p := h2; simp only [decide_eq_false_iff_not, Int.not_lt] at h2p
 have h2q : c.frm.length ≤ 40 := by omega
 refine (l02Ends_ok ..).go fun _ => ?_
 try simp only [go_sem]
 refine ⟨fun h3 => At.mk ?_, fun h3 => At.mk ?_⟩
 rotate_left
 ·try simp only [go_sem, h3]
  have h3p := h3; simp only [bnt, decf] at h3p
  exact pure_ret (by rw [dec_f]; intro s; exact h3p s.frm) (.refl _)
 try simp only [go_sem, reduceAdd, reduceLeDiff, h3]
 have h3p := h3; simp only [bnf, dect] at h3p
 refine (l02Ends_ok ..).go fun _ => ?_
 try simp only [go_sem]
 refine ⟨fun h4 => At.mk ?_, fun h4 => At.mk ?_⟩
 rotate_left
 ·try simp only [go_sem, h4]
  have h4p := h4; simp only [bnt, decf] at h4p
  exact pure_ret (by rw [dec_f]; intro s; exact h4p ⟨s.tol, s.to⟩) (.refl _)
 try simp only [go_sem, reduceAdd, reduceLeDiff, h4]
 have h4p := h4; simp only [bnf, dect] at h4p
 refine ⟨fun h5 => At.mk ?_, fun h5 => At.mk ?_⟩
 ·try simp only [go_sem, h5]
  have h5p := h5; simp only [bnt, decide_eq_false_iff_not] at h5p
  exact pure_ret (by rw [dec_f]; intro s; exact h5p s.cl) (.refl _)
 try simp only [go_sem, reduceAdd, reduceLeDiff, h5]
 have h5p := h5; simp only [bnf, decide_eq_true_eq] at h5p
 refine ⟨fun h6 => At.mk ?_, fun h6 => At.mk ?_⟩
 rotate_left
 ·try simp only [go_sem, h6]
  have h6p := h6; simp only [bnt, decide_eq_false_iff_not] at h6p
  exact pure_ret (by rw [dec_f]; intro s; exact h6p s.il) (.refl _)
 try simp only [go_sem, reduceAdd, reduceLeDiff, h6]
 have h6p := h6; simp only [bnf, decide_eq_true_eq] at h6p
 refine (l01Map_ok ..).go fun _ => ?_
 try simp only [go_sem]
 refine ⟨fun h7 => At.mk ?_, fun h7 => At.mk ?_⟩
 ·try simp only [go_sem, h7]
  have h7p := h7; simp only [bnt, decf] at h7p
  exact pure_ret (by rw [dec_f]; intro s; exact h7p s.idn) (.refl _)
 try simp only [go_sem, h7]
 have h7p := h7; simp only [bnf, dect] at h7p
 refine awp_for [1, 3] (fun k _ => [(4, some (.int .i64 (k : Int)))]) (fun k _ H => H = H0 ∧ ∀ i, i < k → ix c.frm (c.idn.getD i default) = i ∧ ix c.to (c.idn.getD i default) = i) c.idn.length () ⟨rfl, by simp⟩ rfl ?_
 rintro k _ H hk ⟨rfl, hall⟩
 try simp only [go_sem, reduceAdd, reduceLeDiff]
 refine ⟨fun g1 => At.mk ?_, fun g1 => At.mk ?_⟩
 ·have g1p := g1; simp only [decide_eq_true_eq] at g1p
  have w1 := wsucc (k := k) (by omega)
  have hk1 : k < c.idn.length := by omega
  have hx := h7p _ (mem_getD.mpr ⟨k, hk1, rfl⟩)
  try simp only [go_sem, reduceAdd, reduceLeDiff]
  refine ⟨hk1, ⟨hx.1, by omega⟩, ?_⟩
  refine ⟨fun g2 => At.mk ?_, fun g2 => At.mk ?_⟩
  rotate_left
  ·try simp only [go_sem, g2]
   have g2p := g2; simp only [bnt, decide_eq_false_iff_not] at g2p
   exact pure_ret (by rw [dec_f]; intro s; exact g2p (s.ide k hk1).1) (.refl _)
  try simp only [go_sem, reduceAdd, reduceLeDiff, g2]
  have g2p := g2; simp only [bnf, decide_eq_true_eq] at g2p
  refine ⟨hk1, ⟨hx.1, by omega⟩, ?_⟩
  refine ⟨fun g3 => At.mk ?_, fun g3 => At.mk ?_⟩
  ·try simp only [go_sem, g3]
   have g3p := g3; simp only [bnt, decide_eq_false_iff_not] at g3p
   exact pure_ret (by rw [dec_f]; intro s; exact g3p (s.ide k hk1).2) (.refl _)
  try simp only [go_sem, g3, w1]
  have g3p := g3; simp only [bnf, decide_eq_true_eq] at g3p
  exact for_next () hk1 ⟨rfl, lt_succ_all hall ⟨g2p, g3p⟩⟩ rfl
 have g1p := g1; simp only [decide_eq_false_iff_not, Int.not_lt] at g1p
 have hkk : k = c.idn.length := by omega
 subst hkk
 try simp only [go_sem]
 refine awp_for [1, 3] (fun k _ => [(5, some (.int .i64 (k : Int)))]) (fun k _ H' => H' = H ∧ ∀ f, f < k → RowOk c f) c.frm.length () ⟨rfl, by simp⟩ rfl ?_
 rintro f _ H' hfm ⟨rfl, hrow⟩
 try simp only [go_sem]
 refine ⟨fun g2 => At.mk ?_, fun g2 => At.mk ?_⟩
 rotate_left
 ·try simp only [go_sem, g2]
  have g2p := g2; simp only [decide_eq_false_iff_not, Nat.not_lt] at g2p
  have hff : f = c.frm.length := by omega
  subst hff
  refine pure_ret ?_ (.refl _)
  rw [dec_t]
  exact ⟨h1p, by omega, h3p, h4p.1, h4p.2, h5p, h6p, h7p, hall, fun f hf => (hrow f hf).row, fun f g hf hg => ((hrow f hf).cell g hg).non, fun f g hf hg => ((hrow f hf).cell g hg).yes⟩
 have g2p := g2; simp only [decide_eq_true_eq] at g2p
 have wf := wsucc (k := f) (by omega)
 have hfc : f < c.comp.length := by omega
 have hft : f < c.to.length := by omega
 try simp only [go_sem, reduceAdd, reduceLeDiff]
 refine ⟨hfc, ?_⟩
 refine ⟨fun g3 => At.mk ?_, fun g3 => At.mk ?_⟩
 ·try simp only [go_sem, g3]
  have g3p := g3; simp only [bnt, decide_eq_false_iff_not] at g3p
  exact pure_ret (by rw [dec_f]; intro s; exact g3p (s.row f g2p)) (.refl _)
 try simp only [go_sem, g3]
 have g3p := g3; simp only [bnf, decide_eq_true_eq] at g3p
 refine awp_for [1, 3, 5] (fun k _ => [(6, some (.int .i64 (k : Int)))]) (fun k _ H => H = H' ∧ ∀ g, g < k → CellOk c f g) c.frm.length () ⟨rfl, by simp⟩ rfl ?_
 rintro g _ H hgm ⟨rfl, hcell⟩
 try simp only [go_sem]
 refine ⟨fun g4 => At.mk ?_, fun g4 => At.mk ?_⟩
 rotate_left
 ·try simp only [go_sem, g4, wf]
  have g4p := g4; simp only [decide_eq_false_iff_not, Nat.not_lt] at g4p
  have hff : g = c.frm.length := by omega
  subst hff
  exact for_next () g2p ⟨rfl, lt_succ_all hrow ⟨g3p, hcell⟩⟩ rfl
 have g4p := g4; simp only [decide_eq_true_eq] at g4p
 have wg := wsucc (k := g) (by omega)
 have hgr : g < (c.comp.getD f default).length := by omega
 try simp only [go_sem, reduceAdd, reduceLeDiff]
 refine ⟨hfc, hgr, hft, g4p, ?_⟩
 refine ⟨fun g5 => At.mk ?_, fun g5 => At.mk ?_⟩
 ·have g5p := g5; simp only [bnt, decide_eq_false_iff_not] at g5p
  try simp only [go_sem]
  refine ⟨fun g6 => At.mk ?_, fun g6 => At.mk ?_⟩
  ·try simp only [go_sem]
   have g6p := g6; simp only [bnt, decide_eq_false_iff_not] at g6p
   exact pure_ret (by rw [dec_f]; intro s; exact g6p (s.non f g g2p g4p g5p)) (.refl _)
  ·have g6p := g6; simp only [bnf, decide_eq_true_eq] at g6p
   try simp only [go_sem, wg]
   exact for_next () g4p ⟨rfl, lt_succ_all hcell ⟨fun _ => g6p, fun e => absurd e g5p⟩⟩ rfl
 have g5p := g5; simp only [bnf, decide_eq_true_eq] at g5p
 have hbad : ¬ ((0 ≤ (c.comp.getD f default).getD g default ∧ (c.comp.getD f default).getD g default < c.frm.length) ∧
  ix c.frm ((c.comp.getD f default).getD g default) = c.frm.getD f default ∧ ix c.to ((c.comp.getD f default).getD g default) = c.to.getD g default) → dec c.Shape = false :=
  fun h => dec_f fun s => h (s.yes f g g2p g4p g5p)
 try simp only [go_sem]
 refine ⟨fun g6 => At.mk ?_, fun g6 => At.mk ?_⟩
 rotate_left
 ·try simp only [go_sem, g6]
  have g6p := g6; simp only [decide_eq_true_eq] at g6p
  exact pure_ret (by rw [hbad]; intro h; omega) (.refl _)
 try simp only [go_sem, g6]
 have g6p := g6; simp only [decide_eq_false_iff_not, Int.not_lt] at g6p
 refine ⟨fun g7 => At.mk ?_, fun g7 => At.mk ?_⟩
 rotate_left
 ·try simp only [go_sem, g7]
  have g7p := g7; simp only [decide_eq_true_eq] at g7p
  exact pure_ret (by rw [hbad]; intro h; omega) (.refl _)
 try simp only [go_sem, reduceAdd, reduceLeDiff, g7]
 have g7p := g7; simp only [decide_eq_false_iff_not, Int.not_le] at g7p
 refine ⟨⟨g6p, by omega⟩, g2p, ?_⟩
 refine ⟨fun g8 => At.mk ?_, fun g8 => At.mk ?_⟩
 rotate_left
 ·try simp only [go_sem, g8]
  have g8p := g8; simp only [bnt, decide_eq_false_iff_not] at g8p
  exact pure_ret (by rw [hbad]; intro h; exact g8p h.2.1) (.refl _)
 try simp only [go_sem, reduceAdd, reduceLeDiff, g8]
 have g8p := g8; simp only [bnf, decide_eq_true_eq] at g8p
 refine ⟨⟨g6p, by omega⟩, by omega, ?_⟩
 refine ⟨fun g9 => At.mk ?_, fun g9 => At.mk ?_⟩
 ·try simp only [go_sem, g9]
  have g9p := g9; simp only [bnt, decide_eq_false_iff_not] at g9p
  exact pure_ret (by rw [hbad]; intro h; exact g9p h.2.2) (.refl _)
 try simp only [go_sem, g9, wg]
 have g9p := g9; simp only [bnf, decide_eq_true_eq] at g9p
 exact for_next () g4p ⟨rfl, lt_succ_all hcell ⟨fun h => absurd g5p h, fun _ => ⟨⟨g6p, by omega⟩, g8p, g9p⟩⟩⟩ rfl
theorem isShape_ok (B : Nat) (c : Cat) : Pur Tryz.prog B 183 [.ptr c.cells] (.bool (dec c.Shape)) := by
 refine ⟨fun H0 => c183 (by simp) fun ⟨hf, _⟩ => ?_⟩
 have hl := fine_mL_le (hf.ptr (c := iL c.frm) (by simp [Cat.cells]))
 have hl2 := fine_mL_le (hf.ptr (c := iL c.idn) (by simp [Cat.cells]))
 have hl3 := fine_mL_le (hf.ptr (c := iLL c.comp) (by simp [Cat.cells]))
 simp only [maxL] at hl hl2 hl3
 unfold s183
 try simp only [go_sem, reduceAdd]
 refine (arrows_ok B c).go fun _ => ?_
 try simp only [go_sem, reduceAdd, reduceLeDiff]
 refine ⟨_, (inRange_ok ..).run, ?_⟩
 try simp only [go_sem]
 refine ⟨fun h1 => At.mk ?_, fun h1 => At.mk ?_⟩
 rotate_left
 ·try simp only [go_sem, h1]
  have h1p := h1; simp only [bnt, decf] at h1p
  exact pure_ret (by rw [dec_f]; intro s; exact h1p s.o) (.refl _)
 try simp only [go_sem, h1]
 have h1p := h1; simp only [bnf, dect] at h1p
 refine ⟨fun h2 => At.mk ?_, fun h2 => At.mk ?_⟩
 rotate_left
 ·try simp only [go_sem, h2]
  have h2p := h2; simp only [decide_eq_true_eq] at h2p
  exact pure_ret (by rw [dec_f]; intro s; have := s.m; omega) (.refl _)
 try simp only [go_sem, reduceAdd, reduceLeDiff, h2]
 have h2p := h2; simp only [decide_eq_false_iff_not, Int.not_lt] at h2p
 have h2q : c.frm.length ≤ 40 := by omega
 refine ⟨fun h3 => At.mk ?_, fun h3 => At.mk ?_⟩
 rotate_left
 ·try simp only [go_sem, h3]
  have h3p := h3; simp only [bnt, decide_eq_false_iff_not] at h3p
  exact pure_ret (by rw [dec_f]; intro s; exact h3p s.tol) (.refl _)
 try simp only [go_sem, reduceAdd, reduceLeDiff, h3]
 have h3p := h3; simp only [bnf, decide_eq_true_eq] at h3p
 refine ⟨_, (within_ok B c.frm c.objs (by omega)).run, ?_⟩
 try simp only [go_sem]
 refine ⟨fun h4 => At.mk ?_, fun h4 => At.mk ?_⟩
 rotate_left
 ·try simp only [go_sem, h4]
  have h4p := h4; simp only [bnt, decf] at h4p
  exact pure_ret (by rw [dec_f]; intro s; exact h4p s.frm) (.refl _)
 try simp only [go_sem, reduceAdd, reduceLeDiff, h4]
 have h4p := h4; simp only [bnf, dect] at h4p
 refine ⟨_, (within_ok B c.to c.objs (by omega)).run, ?_⟩
 try simp only [go_sem]
 refine ⟨fun h5 => At.mk ?_, fun h5 => At.mk ?_⟩
 ·try simp only [go_sem, h5]
  have h5p := h5; simp only [bnt, decf] at h5p
  exact pure_ret (by rw [dec_f]; intro s; exact h5p s.to) (.refl _)
 try simp only [go_sem, reduceAdd, reduceLeDiff, h5]
 have h5p := h5; simp only [bnf, dect] at h5p
 refine ⟨fun h6 => At.mk ?_, fun h6 => At.mk ?_⟩
 rotate_left
 ·try simp only [go_sem, h6]
  have h6p := h6; simp only [bnt, decide_eq_false_iff_not] at h6p
  exact pure_ret (by rw [dec_f]; intro s; exact h6p s.il) (.refl _)
 try simp only [go_sem, reduceAdd, reduceLeDiff, h6]
 have h6p := h6; simp only [bnf, decide_eq_true_eq] at h6p
 refine ⟨_, (within_ok B c.idn c.frm.length (by omega)).run, ?_⟩
 try simp only [go_sem]
 refine ⟨fun h7 => At.mk ?_, fun h7 => At.mk ?_⟩
 rotate_left
 ·try simp only [go_sem, h7]
  have h7p := h7; simp only [bnt, decf] at h7p
  exact pure_ret (by rw [dec_f]; intro s; exact h7p s.idn) (.refl _)
 try simp only [go_sem, reduceAdd, reduceLeDiff, h7]
 have h7p := h7; simp only [bnf, dect] at h7p
 refine ⟨fun h8 => At.mk ?_, fun h8 => At.mk ?_⟩
 ·try simp only [go_sem, h8]
  have h8p := h8; simp only [bnt, decide_eq_false_iff_not] at h8p
  exact pure_ret (by rw [dec_f]; intro s; exact h8p s.cl) (.refl _)
 try simp only [go_sem, reduceAdd, reduceLeDiff, h8]
 have h8p := h8; simp only [bnf, decide_eq_true_eq] at h8p
 refine awp_for [0, 3, 86, 87] (fun k _ => [(88, some (.int .i64 (k : Int)))]) (fun k _ H => H = H0 ∧ ∀ i, i < k → ix c.frm (c.idn.getD i default) = i ∧ ix c.to (c.idn.getD i default) = i) c.idn.length () ⟨rfl, by simp⟩ rfl ?_
 rintro k _ H hk ⟨rfl, hall⟩
 try simp only [go_sem]
 refine ⟨fun g1 => At.mk ?_, fun g1 => At.mk ?_⟩
 ·have g1p := g1; simp only [decide_eq_true_eq] at g1p
  have w1 := wsucc (k := k) (by omega)
  have hx := h7p _ (mem_getD.mpr ⟨k, g1p, rfl⟩)
  try simp only [go_sem]
  refine ⟨g1p, (ends_ok B c (c.idn.getD k default) ⟨hx.1, by omega⟩ (by omega)).go fun _ => ?_⟩
  try simp only [go_sem, reduceAdd, reduceLeDiff]
  refine ⟨fun g2 => At.mk ?_, fun g2 => At.mk ?_⟩
  ·try simp only [go_sem, g2]
   have g2p := g2; simp only [bnt, decf] at g2p
   exact pure_ret (by rw [dec_f]; intro s; exact g2p (s.ide k g1p)) (.refl _)
  try simp only [go_sem, g2, w1]
  have g2p := g2; simp only [bnf, dect] at g2p
  exact for_next () g1p ⟨rfl, lt_succ_all hall g2p⟩ rfl
 have g1p := g1; simp only [decide_eq_false_iff_not, Nat.not_lt] at g1p
 have hkk : k = c.idn.length := by omega
 subst hkk
 try simp only [go_sem, reduceAdd, reduceLeDiff]
 refine awp_for [0, 3, 104, 105] (fun k _ => [(106, some (.int .i64 (k : Int)))]) (fun k _ H' => H' = H ∧ ∀ f, f < k → RowOk c f) c.comp.length () ⟨rfl, by simp⟩ rfl ?_
 rintro f _ H' hfm ⟨rfl, hrow⟩
 try simp only [go_sem]
 refine ⟨fun g2 => At.mk ?_, fun g2 => At.mk ?_⟩
 rotate_left
 ·try simp only [go_sem, g2]
  have g2p := g2; simp only [decide_eq_false_iff_not, Nat.not_lt] at g2p
  have hff : f = c.frm.length := by omega
  subst hff
  refine pure_ret ?_ (.refl _)
  rw [dec_t]
  exact ⟨h1p, by omega, h4p, h3p, h5p, h8p, h6p, h7p, hall, fun f hf => (hrow f hf).row, fun f g hf hg => ((hrow f hf).cell g hg).non, fun f g hf hg => ((hrow f hf).cell g hg).yes⟩
 have g2p := g2; simp only [decide_eq_true_eq] at g2p
 have wf := wsucc (k := f) (by omega)
 have hff : f < c.frm.length := by omega
 have hft : f < c.to.length := by omega
 try simp only [go_sem]
 refine ⟨g2p, ?_⟩
 refine ⟨fun g3 => At.mk ?_, fun g3 => At.mk ?_⟩
 ·try simp only [go_sem, g3]
  have g3p := g3; simp only [bnt, decide_eq_false_iff_not] at g3p
  exact pure_ret (by rw [dec_f]; intro s; exact g3p (s.row f hff)) (.refl _)
 try simp only [go_sem, g3]
 have g3p := g3; simp only [bnf, decide_eq_true_eq] at g3p
 refine awp_for [0, 3, 6, 104, 105, 106, 115, 116] (fun k _ => [(117, some (.int .i64 (k : Int)))]) (fun k _ H => H = H' ∧ ∀ g, g < k → CellOk c f g) (c.comp.getD f default).length () ⟨rfl, by simp⟩ rfl ?_
 rintro g _ H hgm ⟨rfl, hcell⟩
 try simp only [go_sem]
 refine ⟨fun g4 => At.mk ?_, fun g4 => At.mk ?_⟩
 rotate_left
 ·try simp only [go_sem, g4, wf]
  have g4p := g4; simp only [decide_eq_false_iff_not, Nat.not_lt] at g4p
  have hge : g = c.frm.length := by omega
  subst hge
  exact for_next () g2p ⟨rfl, lt_succ_all hrow ⟨g3p, hcell⟩⟩ rfl
 have g4p := g4; simp only [decide_eq_true_eq] at g4p
 have wg := wsucc (k := g) (by omega)
 have hgf : g < c.frm.length := by omega
 try simp only [go_sem, reduceAdd, reduceLeDiff]
 refine ⟨g4p, hft, hgf, ?_⟩
 refine ⟨fun g5 => At.mk ?_, fun g5 => At.mk ?_⟩
 ·have g5p := g5; simp only [bnt, decide_eq_false_iff_not] at g5p
  try simp only [go_sem]
  refine ⟨fun g6 => At.mk ?_, fun g6 => At.mk ?_⟩
  ·try simp only [go_sem]
   have g6p := g6; simp only [bnt, decide_eq_false_iff_not] at g6p
   exact pure_ret (by rw [dec_f]; intro s; exact g6p (s.non f g hff hgf g5p)) (.refl _)
  ·have g6p := g6; simp only [bnf, decide_eq_true_eq] at g6p
   try simp only [go_sem, wg]
   exact for_next () g4p ⟨rfl, lt_succ_all hcell ⟨fun _ => g6p, fun e => absurd e g5p⟩⟩ rfl
 have g5p := g5; simp only [bnf, decide_eq_true_eq] at g5p
 have hbad : ¬ ((0 ≤ (c.comp.getD f default).getD g default ∧ (c.comp.getD f default).getD g default < c.frm.length) ∧
  ix c.frm ((c.comp.getD f default).getD g default) = c.frm.getD f default ∧ ix c.to ((c.comp.getD f default).getD g default) = c.to.getD g default) → dec c.Shape = false :=
  fun h => dec_f fun s => h (s.yes f g hff hgf g5p)
 have wn : IntKind.i64.wrap ((c.frm.length : Int) - 1) = (c.frm.length : Int) - 1 := wrap_i64 (by omega) (by omega)
 try simp only [go_sem, wn]
 refine ⟨_, (inRange_ok ..).run, ?_⟩
 try simp only [go_sem]
 refine ⟨fun g6 => At.mk ?_, fun g6 => At.mk ?_⟩
 rotate_left
 ·try simp only [go_sem, g6]
  have g6p := g6; simp only [bnt, decf] at g6p
  exact pure_ret (by rw [hbad]; intro h; omega) (.refl _)
 try simp only [go_sem, reduceAdd, reduceLeDiff, g6]
 have g6p := g6; simp only [bnf, dect] at g6p
 refine ⟨_, (ends_ok B c _ ⟨g6p.1, by omega⟩ (by omega)).run, hff, by omega, ?_⟩
 try simp only [go_sem]
 refine ⟨fun g7 => At.mk ?_, fun g7 => At.mk ?_⟩
 ·try simp only [go_sem, g7]
  have g7p := g7; simp only [bnt, decf] at g7p
  exact pure_ret (by rw [hbad]; intro h; exact g7p h.2) (.refl _)
 try simp only [go_sem, g7, wg]
 have g7p := g7; simp only [bnf, dect] at g7p
 exact for_next () g4p ⟨rfl, lt_succ_all hcell ⟨fun h => absurd g5p h, fun _ => ⟨⟨g6p.1, by omega⟩, g7p⟩⟩⟩ rfl
end Go.Proofs.Shf
namespace Go.Proofs.Shf
open Go.AW Go.Proofs Go.Shf
theorem l02Fault_ok (B : Nat) (c : Cat) (s : c.Shape) (H0 : Heap) : CallH Tryz.prog B 230 [.agg c.cells] H0 (faultK c.Laws H0) := by
 refine c230 (by simp) fun ⟨hf, _⟩ => ?_
 have hm := s.m
 have hcl := s.cl
 have htl := s.tol
 unfold s230
 try simp only [go_sem, reduceAdd, reduceLeDiff]
 refine awp_for [1, 6] (fun k _ => [(7, some (.int .i64 (k : Int)))]) (fun k _ H => H = H0 ∧ ∀ f, f < k → c.IdAt f) c.frm.length () ⟨rfl, by simp⟩ rfl ?_
 rintro f _ H hfm ⟨rfl, hid⟩
 try simp only [go_sem]
 refine ⟨fun g1 => At.mk ?_, fun g1 => At.mk ?_⟩
 ·have g1p := g1; simp only [decide_eq_true_eq] at g1p
  have wf := wsucc (k := f) (by omega)
  have a1 := s.frm' g1p
  have a2 := s.id' a1.2
  have a3 := s.row' a2.2
  have b1 := s.to' g1p
  have b2 := s.id' b1.2
  have b3 := s.row f g1p
  try simp only [go_sem, reduceAdd, reduceLeDiff]
  refine ⟨g1p, a1, ⟨a2.1, by omega⟩, by omega, ?_⟩
  refine ⟨fun g2 => At.mk ?_, fun g2 => At.mk ?_⟩
  rotate_left
  ·try simp only [go_sem, g2]
   have g2p := g2; simp only [bnt, decide_eq_false_iff_not] at g2p
   exact fault_ret (by constructor; (intro h; cases h); intro l; exact absurd (l.idl f g1p).1 g2p) (.refl _)
  try simp only [go_sem, reduceAdd, reduceLeDiff, g2]
  have g2p := g2; simp only [bnf, decide_eq_true_eq] at g2p
  refine ⟨by omega, by omega, b1, ⟨b2.1, by omega⟩, ?_⟩
  refine ⟨fun g3 => At.mk ?_, fun g3 => At.mk ?_⟩
  ·try simp only [go_sem, g3]
   have g3p := g3; simp only [bnt, decide_eq_false_iff_not] at g3p
   exact fault_ret (by constructor; (intro h; cases h); intro l; exact absurd (l.idl f g1p).2 g3p) (.refl _)
  try simp only [go_sem, g3, wf]
  have g3p := g3; simp only [bnf, decide_eq_true_eq] at g3p
  exact for_next () g1p ⟨rfl, lt_succ_all hid ⟨g2p, g3p⟩⟩ rfl
 have g1p := g1; simp only [decide_eq_false_iff_not, Nat.not_lt] at g1p
 have hff : f = c.frm.length := by omega
 subst hff
 try simp only [go_sem]
 refine awp_for [1, 6] (fun k _ => [(8, some (.int .i64 (k : Int)))]) (fun k _ H' => H' = H ∧ ∀ f, f < k → ∀ g, g < c.frm.length → ∀ h, h < c.frm.length → c.AssocAt f g h) c.frm.length () ⟨rfl, by simp⟩ rfl ?_
 rintro f _ H' hfm ⟨rfl, hF⟩
 try simp only [go_sem]
 refine ⟨fun g1 => At.mk ?_, fun g1 => At.mk ?_⟩
 rotate_left
 ·try simp only [go_sem]
  have g1p := g1; simp only [decide_eq_false_iff_not, Nat.not_lt] at g1p
  exact fault_ret (by simp only [true_iff]; exact ⟨hid, fun f g h hf hg hh => hF f (by omega) g hg h hh⟩) (.refl _)
 have g1p := g1; simp only [decide_eq_true_eq] at g1p
 have wf := wsucc (k := f) (by omega)
 have rf := s.row f g1p
 try simp only [go_sem]
 refine awp_for [1, 6, 8] (fun k _ => [(9, some (.int .i64 (k : Int)))]) (fun k _ H => H = H' ∧ ∀ g, g < k → ∀ h, h < c.frm.length → c.AssocAt f g h) c.frm.length () ⟨rfl, by simp⟩ rfl ?_
 rintro g _ H hgm ⟨rfl, hG⟩
 try simp only [go_sem]
 refine ⟨fun g2 => At.mk ?_, fun g2 => At.mk ?_⟩
 rotate_left
 ·try simp only [go_sem, wf]
  have g2p := g2; simp only [decide_eq_false_iff_not, Nat.not_lt] at g2p
  exact for_next () g1p ⟨rfl, lt_succ_all hF fun g hg => hG g (by omega)⟩ rfl
 have g2p := g2; simp only [decide_eq_true_eq] at g2p
 have wg := wsucc (k := g) (by omega)
 have rg := s.row g g2p
 try simp only [go_sem, reduceAdd, reduceLeDiff]
 refine ⟨by omega, g2p, ?_⟩
 refine ⟨fun g3 => At.mk ?_, fun g3 => At.mk ?_⟩
 ·try simp only [go_sem, wg]
  have g3p := g3; simp only [bnt, decide_eq_false_iff_not] at g3p
  exact for_next () g2p ⟨rfl, lt_succ_all hG fun h hh e => absurd e g3p⟩ rfl
 have g3p := g3; simp only [bnf, decide_eq_true_eq] at g3p
 try simp only [go_sem]
 refine awp_for [1, 6, 8, 9] (fun k _ => [(10, some (.int .i64 (k : Int)))]) (fun k _ H' => H' = H ∧ ∀ h, h < k → c.AssocAt f g h) c.frm.length () ⟨rfl, by simp⟩ rfl ?_
 rintro h _ H' hhm ⟨rfl, hA⟩
 try simp only [go_sem]
 refine ⟨fun g4 => At.mk ?_, fun g4 => At.mk ?_⟩
 rotate_left
 ·try simp only [go_sem, wg]
  have g4p := g4; simp only [decide_eq_false_iff_not, Nat.not_lt] at g4p
  exact for_next () g2p ⟨rfl, lt_succ_all hG fun h hh => hA h (by omega)⟩ rfl
 have g4p := g4; simp only [decide_eq_true_eq] at g4p
 have wh := wsucc (k := h) (by omega)
 try simp only [go_sem, reduceAdd, reduceLeDiff]
 refine ⟨by omega, g4p, ?_⟩
 refine ⟨fun g5 => At.mk ?_, fun g5 => At.mk ?_⟩
 ·try simp only [go_sem, reduceAdd, reduceLeDiff, g5]
  have g5p := g5; simp only [decide_eq_true_eq] at g5p
  have c1 := (s.pos g1p g2p).mpr g3p
  have c2 := s.lt g1p g2p
  have c3 := s.row' c2
  have d1 := (s.pos g2p g4p).mpr g5p
  have d2 := s.lt g2p g4p
  refine ⟨by omega, by omega, ⟨c1, by omega⟩, by omega, by omega, by omega, by omega, ⟨d1, by omega⟩, ?_⟩
  refine ⟨fun g6 => At.mk ?_, fun g6 => At.mk ?_⟩
  ·try simp only [go_sem, g6]
   have g6p := g6; simp only [bnt, decide_eq_false_iff_not] at g6p
   exact fault_ret (by constructor; (intro h; cases h); intro l; exact absurd (l.assoc f g h g1p g2p g4p g3p g5p) g6p) (.refl _)
  ·try simp only [go_sem, g6, wh]
   have g6p := g6; simp only [bnf, decide_eq_true_eq] at g6p
   exact for_next () g4p ⟨rfl, lt_succ_all hA fun _ _ => g6p⟩ rfl
 ·try simp only [go_sem, g5, wh]
  have g5p := g5; simp only [decide_eq_false_iff_not] at g5p
  exact for_next () g4p ⟨rfl, lt_succ_all hA fun _ e => absurd e g5p⟩ rfl
theorem l02Is_ok (B : Nat) (c : Cat) : Pur Tryz.prog B 112 [.agg c.cells] (.bool (dec c.Is)) := by
 refine ⟨fun H0 => c112 (by simp) fun hf => ?_⟩
 unfold s112
 try simp only [go_sem, reduceAdd]
 refine (IsShape_ok B c).go fun _ => ?_
 try simp only [go_sem]
 refine ⟨fun h1 => At.mk ?_, fun h1 => At.mk ?_⟩
 ·try simp only [go_sem]
  have h1p := h1; simp only [bnt, decf] at h1p
  exact pure_ret (by rw [dec_f]; intro s; exact h1p s.1) (.refl _)
 have h1p := h1; simp only [bnf, dect] at h1p
 try simp only [go_sem, reduceAdd]
 refine (l02Fault_ok B c h1p H0).mono' ?_
 rintro _ _ _ ⟨rfl, k, a, b, d, rfl, hk⟩
 try simp only [go_sem, reduceAdd, reduceLT]
 exact pure_ret (by rw [decide_dec]; congr 1; exact dec_congr ⟨fun h => ⟨h1p, hk.mp h⟩, fun h => hk.mpr h.2⟩) (.refl _)
end Go.Proofs.Shf
namespace Go.Proofs.Shf
open Go.AW Go.Proofs Go.Shf
theorem ix_nat2 {α : Type} [Inhabited α] (l : List α) (k : Nat) : ix l (k : Int) = l.getD k default := ix_nat l k
theorem fault_ok (B : Nat) (c : Cat) (s : c.Shape) (H0 : Heap) : CallH Tryz.prog B 184 [.ptr c.cells] H0 (faultK c.Laws H0) := by
 refine c184 (by simp) fun ⟨hf, _⟩ => ?_
 have hm := s.m
 have hcl := s.cl
 have htl := s.tol
 unfold s184
 try simp only [go_sem, reduceAdd]
 refine (arrows_ok B c).go fun _ => ?_
 try simp only [go_sem]
 refine awp_for [0, 6] (fun k _ => [(7, some (.int .i64 (k : Int)))]) (fun k _ H => H = H0 ∧ ∀ f, f < k → c.IdAt f) c.frm.length () ⟨rfl, by simp⟩ rfl ?_
 rintro f _ H hfm ⟨rfl, hid⟩
 try simp only [go_sem]
 refine ⟨fun g1 => At.mk ?_, fun g1 => At.mk ?_⟩
 ·have g1p := g1; simp only [decide_eq_true_eq] at g1p
  have wf := wsucc (k := f) (by omega)
  have a1 := s.frm' g1p
  have a2 := s.id' a1.2
  have a3 := s.row' a2.2
  have b1 := s.to' g1p
  have b2 := s.id' b1.2
  have b3 := s.row f g1p
  try simp only [go_sem, reduceAdd, reduceLeDiff]
  refine ⟨g1p, a1, _, (catThen_ok B c _ _ ⟨a2.1, by omega⟩ ⟨by omega, by omega⟩).run, ?_⟩
  try simp only [go_sem]
  refine ⟨fun g2 => At.mk ?_, fun g2 => At.mk ?_⟩
  rotate_left
  ·try simp only [go_sem, g2]
   have g2p := g2; simp only [bnt, decide_eq_false_iff_not] at g2p
   exact fault_ret (by constructor; (intro h; cases h); intro l; exact absurd (l.idl f g1p).1 g2p) (.refl _)
  try simp only [go_sem, reduceAdd, reduceLeDiff, g2]
  have g2p := g2; simp only [bnf, decide_eq_true_eq] at g2p
  refine ⟨by omega, b1, _, (catThen_ok B c f _ ⟨by omega, by omega⟩ ⟨b2.1, by rw [ix_nat2]; omega⟩).run, ?_⟩
  try simp only [go_sem]
  refine ⟨fun g3 => At.mk ?_, fun g3 => At.mk ?_⟩
  ·try simp only [go_sem, g3]
   have g3p := g3; simp only [bnt, decide_eq_false_iff_not] at g3p
   exact fault_ret (by constructor; (intro h; cases h); intro l; exact absurd (l.idl f g1p).2 g3p) (.refl _)
  try simp only [go_sem, g3, wf]
  have g3p := g3; simp only [bnf, decide_eq_true_eq] at g3p
  exact for_next () g1p ⟨rfl, lt_succ_all hid ⟨g2p, g3p⟩⟩ rfl
 have g1p := g1; simp only [decide_eq_false_iff_not, Nat.not_lt] at g1p
 have hff : f = c.frm.length := by omega
 subst hff
 try simp only [go_sem]
 refine awp_for [0, 6] (fun k _ => [(8, some (.int .i64 (k : Int)))]) (fun k _ H' => H' = H ∧ ∀ f, f < k → ∀ g, g < c.frm.length → ∀ h, h < c.frm.length → c.AssocAt f g h) c.frm.length () ⟨rfl, by simp⟩ rfl ?_
 rintro f _ H' hfm ⟨rfl, hF⟩
 try simp only [go_sem]
 refine ⟨fun g1 => At.mk ?_, fun g1 => At.mk ?_⟩
 rotate_left
 ·try simp only [go_sem]
  have g1p := g1; simp only [decide_eq_false_iff_not, Nat.not_lt] at g1p
  exact fault_ret (by simp only [true_iff]; exact ⟨hid, fun f g h hf hg hh => hF f (by omega) g hg h hh⟩) (.refl _)
 have g1p := g1; simp only [decide_eq_true_eq] at g1p
 have wf := wsucc (k := f) (by omega)
 have rf := s.row f g1p
 try simp only [go_sem]
 refine awp_for [0, 6, 8] (fun k _ => [(9, some (.int .i64 (k : Int)))]) (fun k _ H => H = H' ∧ ∀ g, g < k → ∀ h, h < c.frm.length → c.AssocAt f g h) c.frm.length () ⟨rfl, by simp⟩ rfl ?_
 rintro g _ H hgm ⟨rfl, hG⟩
 try simp only [go_sem]
 refine ⟨fun g2 => At.mk ?_, fun g2 => At.mk ?_⟩
 rotate_left
 ·try simp only [go_sem, wf]
  have g2p := g2; simp only [decide_eq_false_iff_not, Nat.not_lt] at g2p
  exact for_next () g1p ⟨rfl, lt_succ_all hF fun g hg => hG g (by omega)⟩ rfl
 have g2p := g2; simp only [decide_eq_true_eq] at g2p
 have wg := wsucc (k := g) (by omega)
 have rg := s.row g g2p
 try simp only [go_sem]
 refine (catThen_ok B c f g ⟨by omega, by omega⟩ ⟨by omega, by rw [ix_nat2]; omega⟩).go fun _ => ?_
 try simp only [go_sem]
 refine ⟨fun g3 => At.mk ?_, fun g3 => At.mk ?_⟩
 ·try simp only [go_sem, wg]
  have g3p := g3; simp only [decide_eq_true_eq] at g3p
  exact for_next () g2p ⟨rfl, lt_succ_all hG fun h hh e => by have := (s.pos g1p g2p).mpr e; omega⟩ rfl
 have g3p := g3; simp only [decide_eq_false_iff_not, Int.not_lt] at g3p
 have g3q := (s.pos g1p g2p).mp g3p
 try simp only [go_sem]
 refine awp_for [0, 6, 8, 9] (fun k _ => [(10, some (.int .i64 (k : Int)))]) (fun k _ H' => H' = H ∧ ∀ h, h < k → c.AssocAt f g h) c.frm.length () ⟨rfl, by simp⟩ rfl ?_
 rintro h _ H' hhm ⟨rfl, hA⟩
 try simp only [go_sem]
 refine ⟨fun g4 => At.mk ?_, fun g4 => At.mk ?_⟩
 rotate_left
 ·try simp only [go_sem, wg]
  have g4p := g4; simp only [decide_eq_false_iff_not, Nat.not_lt] at g4p
  exact for_next () g2p ⟨rfl, lt_succ_all hG fun h hh => hA h (by omega)⟩ rfl
 have g4p := g4; simp only [decide_eq_true_eq] at g4p
 have wh := wsucc (k := h) (by omega)
 try simp only [go_sem]
 refine (catThen_ok B c g h ⟨by omega, by omega⟩ ⟨by omega, by rw [ix_nat2]; omega⟩).go fun _ => ?_
 try simp only [go_sem]
 refine ⟨fun g5 => At.mk ?_, fun g5 => At.mk ?_⟩
 ·try simp only [go_sem, g5]
  have g5p := g5; simp only [decide_eq_true_eq] at g5p
  have g5q := (s.pos g2p g4p).mp g5p
  have c2 := s.lt g1p g2p
  have c3 := s.row' c2
  have d2 := s.lt g2p g4p
  refine (catThen_ok B c f g ⟨by omega, by omega⟩ ⟨by omega, by rw [ix_nat2]; omega⟩).go fun _ => ?_
  try simp only [go_sem]
  refine (catThen_ok B c _ h ⟨g3p, by omega⟩ ⟨by omega, by omega⟩).go fun _ => ?_
  try simp only [go_sem]
  refine (catThen_ok B c g h ⟨by omega, by omega⟩ ⟨by omega, by rw [ix_nat2]; omega⟩).go fun _ => ?_
  try simp only [go_sem]
  refine (catThen_ok B c f _ ⟨by omega, by omega⟩ ⟨g5p, by rw [ix_nat2]; omega⟩).go fun _ => ?_
  try simp only [go_sem]
  refine ⟨fun g6 => At.mk ?_, fun g6 => At.mk ?_⟩
  ·try simp only [go_sem, g6]
   have g6p := g6; simp only [bnt, decide_eq_false_iff_not] at g6p
   exact fault_ret (by constructor; (intro h; cases h); intro l; exact absurd (l.assoc f g h g1p g2p g4p g3q g5q) g6p) (.refl _)
  ·try simp only [go_sem, g6, wh]
   have g6p := g6; simp only [bnf, decide_eq_true_eq] at g6p
   exact for_next () g4p ⟨rfl, lt_succ_all hA fun _ _ => g6p⟩ rfl
 ·try simp only [go_sem, g5, wh]
  have g5p := g5; simp only [decide_eq_false_iff_not, Int.not_le] at g5p
  exact for_next () g4p ⟨rfl, lt_succ_all hA fun _ e => by have := (s.pos g2p g4p).mpr e; omega⟩ rfl
theorem isCategory_ok (B : Nat) (c : Cat) : Pur Tryz.prog B 85 [.ptr c.cells] (.bool (dec c.Is)) := by
 refine ⟨fun H0 => c85 (by simp) fun hf => ?_⟩
 unfold s85
 try simp only [go_sem, reduceAdd]
 refine (isShape_ok B c).go fun _ => ?_
 try simp only [go_sem]
 refine ⟨fun h1 => At.mk ?_, fun h1 => At.mk ?_⟩
 ·try simp only [go_sem]
  have h1p := h1; simp only [bnt, decf] at h1p
  exact pure_ret (by rw [dec_f]; intro s; exact h1p s.1) (.refl _)
 have h1p := h1; simp only [bnf, dect] at h1p
 try simp only [go_sem]
 refine (fault_ok B c h1p H0).mono' ?_
 rintro _ _ _ ⟨rfl, k, a, b, d, rfl, hk⟩
 try simp only [go_sem, reduceAdd, reduceLT]
 exact pure_ret (by rw [decide_dec]; congr 1; exact dec_congr ⟨fun h => ⟨h1p, hk.mp h⟩, fun h => hk.mpr h.2⟩) (.refl _)
end Go.Proofs.Shf
namespace Go.Proofs.Shf
open Go.AW Go.Proofs Go.Shf
end Go.Proofs.Shf
namespace Go.Proofs.Shf
open Go.AW Go.Proofs Go.Shf
end Go.Proofs.Shf
