/- Contracts of functions over abstract values, part 1. -/
import Derived.Test.YtllfbkdekhemeaaGreatA4
import Derived.Test.YtllfbkdekhemeaaGreatC
set_option linter.unusedVariables false
set_option linter.unusedSimpArgs false
set_option linter.unusedSectionVars false
open Nat (reduceEqDiff reduceAdd reduceMul reduceLeDiff reduceLT)
namespace Go.Proofs.Shf
open Go.AW Go.Proofs
theorem szInt64S_ok (B : Nat) (a : AV) (n : Nat) (left : Int) (h : lenE (some a) = some (True, .int .i64 n)) (hn : n ≤ 140737488355328) (h0 : 0 ≤ left) (h1 : left ≤ 1048576) :
  Pur Tryz.prog B 40 [a, .int .i64 left] (.int .i64 (if left - n < 0 then -1 else left - n)) := by
 refine ⟨fun H0 => c40 (by simp) fun _ => ?_⟩; have w : IntKind.i64.wrap (left - n) = left - n := wrap_i64 (by omega) (by omega); unfold s40; simp only [go_sem, reduceAdd, *]; refine ⟨fun h => At.mk ?_, fun h => At.mk ?_⟩ <;> (simp only [go_sem, *]) <;> simp at h
 ·exact pure_ret (by simp; omega) (.refl _)
 ·exact pure_ret (by simp; omega) (.refl _)
theorem inRange_ok (B : Nat) (n lo hi : Int) : Pur Tryz.prog B 181 [.int .i64 n, .int .i64 lo, .int .i64 hi] (.bool (dec (lo ≤ n ∧ n ≤ hi))) := by
 refine ⟨fun H => c181 (by simp) fun _ => ?_⟩; unfold s181; simp only [go_sem, reduceAdd, *]; refine ⟨fun h1 => At.mk ?_, fun h1 => At.mk ?_⟩
 all_goals (simp only [go_sem, *])
 ·exact pure_ret (by rw [← decide_dec]; simp at h1; simp [h1]) (.refl _)
 ·exact pure_ret (by rw [← decide_dec]; simp at h1; simp; omega) (.refl _)
theorem l01In_ok (B : Nat) (n lo hi : Int) : Pur Tryz.prog B 152 [.int .i64 n, .int .i64 lo, .int .i64 hi] (.bool (dec (lo ≤ n ∧ n ≤ hi))) := by
 refine ⟨fun H => c152 (by simp) fun _ => ?_⟩; unfold s152; simp only [go_sem, reduceAdd, *]; refine ⟨fun h1 => At.mk ?_, fun h1 => At.mk ?_⟩
 all_goals (simp only [go_sem, *])
 ·exact pure_ret (by rw [← decide_dec]; simp at h1; simp [h1]) (.refl _)
 ·exact pure_ret (by rw [← decide_dec]; simp at h1; simp; omega) (.refl _)
theorem within_ok (B : Nat) (l : List Int) (n : Int) (hn : -9223372036854775808 < n ∧ n ≤ 9223372036854775807): Pur Tryz.prog B 163 [iL l, .int .i64 n] (.bool (dec (∀ y, y ∈ l → 0 ≤ y ∧ y < n))) := by
 refine ⟨fun H0 => c163 (by simp) fun ⟨hf, _⟩ => ?_⟩; have hl := fine_mL_le hf; simp only [maxL] at hl; have w : IntKind.i64.wrap (n - 1) = n - 1 := wrap_i64 (by omega) (by omega); unfold s163; simp only [go_sem, reduceAdd, *]; refine awp_for [1, 7, 8] (fun k _ => [(9, some (.int .i64 (k : Int)))]) (fun k _ H => H = H0 ∧ ∀ i, i < k → 0 ≤ l.getD i default ∧ l.getD i default < n) l.length () ⟨rfl, by simp⟩ rfl ?_; rintro k _ H hk ⟨rfl, hall⟩; simp only [go_sem, *]; refine ⟨fun h1 => At.mk ?_, fun h1 => At.mk ?_⟩
 ·have h1 := of_decide h1; have w1 := wsucc (k := k) (by omega); simp only [go_sem, *]; refine (inRange_ok ..).go fun _ => ?_; simp only [go_sem, *]; refine ⟨fun h2 => At.mk ?_, fun h2 => At.mk ?_⟩
  ·simp only [go_sem, *]; have h2p := h2; simp only [bnt, decf] at h2p; refine pure_ret ?_ (.refl _); rw [dec_f]; intro h; have := h _ (mem_getD.mpr ⟨k, h1, rfl⟩); omega
  ·simp only [go_sem, *]; have h2p := h2; simp only [bnf, dect] at h2p; exact for_next () (by omega) ⟨rfl, lt_succ_all hall (by omega)⟩ rfl
 ·simp only [go_sem, *]; have h1 := of_ndecide h1; exact pure_ret (by rw [dec_t]; exact all_getD.mpr fun i hi => hall i (by omega)) (.refl _)
theorem l01Map_ok (B : Nat) (l : List Int) (n : Int) : Pur Tryz.prog B 149 [.int .i64 n, iL l] (.bool (dec (∀ y, y ∈ l → 0 ≤ y ∧ y < n))) := by
 refine ⟨fun H0 => c149 (by simp) fun ⟨_, hf, _⟩ => ?_⟩; have hl := fine_mL_le hf; simp only [maxL] at hl; unfold s149; simp only [go_sem, reduceAdd, *]; refine awp_for [0, 1] (fun k _ => [(5, some (.int .i64 (k : Int)))]) (fun k _ H => H = H0 ∧ ∀ i, i < k → 0 ≤ l.getD i default ∧ l.getD i default < n) l.length () ⟨rfl, by simp⟩ rfl ?_; rintro k _ H hk ⟨rfl, hall⟩; simp only [go_sem, *]; refine ⟨fun h1 => At.mk ?_, fun h1 => At.mk ?_⟩
 ·have h1 := of_decide h1; have w1 := wsucc (k := k) (by omega); simp only [go_sem, *]; have hn : l.getD k default < 0 ∨ n ≤ l.getD k default → ¬ ∀ y, y ∈ l → 0 ≤ y ∧ y < n := fun hc h => by
   have := h _ (mem_getD.mpr ⟨k, h1, rfl⟩); omega
  refine ⟨fun h2 => At.mk ?_, fun h2 => At.mk ?_⟩
  ·simp only [go_sem, *]; refine ⟨fun h3 => At.mk ?_, fun h3 => At.mk ?_⟩
   ·simp only [go_sem, *]; have h3p := h3; simp only [dT] at h3p; exact pure_ret (by rw [dec_f (hn (.inr h3p))]) (.refl _)
   ·simp only [go_sem, *]; have h2p := h2; simp only [dF, Int.not_lt] at h2p; have h3p := h3; simp only [dF, Int.not_le] at h3p; exact for_next () (by omega) ⟨rfl, lt_succ_all hall (by omega)⟩ rfl
  ·simp only [go_sem, *]; have h2p := h2; simp only [dT] at h2p; exact pure_ret (by rw [dec_f (hn (.inl h2p))]) (.refl _)
 ·simp only [go_sem, *]; have h1 := of_ndecide h1; exact pure_ret (by rw [dec_t]; exact all_getD.mpr fun i hi => hall i (by omega)) (.refl _)
theorem has_ok (B : Nat) (l : List Int) (n : Int) : Pur Tryz.prog B 143 [iL l, .int .i64 n] (.bool (dec (n ∈ l))) := by
 refine ⟨fun H0 => c143 (by simp) fun ⟨hf, _⟩ => ?_⟩; have hl := fine_mL_le hf; simp only [maxL] at hl; unfold s143; simp only [go_sem, reduceAdd, *]; refine awp_for [1, 7, 8] (fun k _ => [(9, some (.int .i64 (k : Int)))]) (fun k _ H => H = H0 ∧ ∀ i, i < k → l.getD i default ≠ n) l.length () ⟨rfl, by simp⟩ rfl ?_; rintro k _ H hk ⟨rfl, hall⟩; simp only [go_sem, *]; refine ⟨fun h1 => At.mk ?_, fun h1 => At.mk ?_⟩
 ·have h1 := of_decide h1; have w1 := wsucc (k := k) (by omega); simp only [go_sem, *]; refine ⟨fun h2 => At.mk ?_, fun h2 => At.mk ?_⟩
  ·simp only [go_sem, *]; exact pure_ret (by rw [dec_t]; exact mem_getD.mpr ⟨k, h1, of_decide h2⟩) (.refl _)
  ·simp only [go_sem, *]; exact for_next () h1 ⟨rfl, lt_succ_all hall (of_ndecide h2)⟩ rfl
 ·simp only [go_sem, *]; have h1 := of_ndecide h1; exact pure_ret (by rw [dec_f]; intro h; obtain ⟨i, hi, e⟩ := mem_getD.mp h; exact hall i (by omega) e) (.refl _)
theorem l01Has_ok (B : Nat) (l : List Int) (n : Int) : Pur Tryz.prog B 85 [iL l, .int .i64 n] (.bool (dec (n ∈ l))) := by
 refine ⟨fun H0 => c85 (by simp) fun ⟨hf, _⟩ => ?_⟩; have hl := fine_mL_le hf; simp only [maxL] at hl; unfold s85; simp only [go_sem, reduceAdd, *]; refine awp_for [0, 1] (fun k _ => [(5, some (.int .i64 (k : Int)))]) (fun k _ H => H = H0 ∧ ∀ i, i < k → l.getD i default ≠ n) l.length () ⟨rfl, by simp⟩ rfl ?_; rintro k _ H hk ⟨rfl, hall⟩; simp only [go_sem, *]; refine ⟨fun h1 => At.mk ?_, fun h1 => At.mk ?_⟩
 ·have h1 := of_decide h1; have w1 := wsucc (k := k) (by omega); simp only [go_sem, *]; refine ⟨fun h2 => At.mk ?_, fun h2 => At.mk ?_⟩
  ·simp only [go_sem, *]; exact pure_ret (by rw [dec_t]; exact mem_getD.mpr ⟨k, h1, of_decide h2⟩) (.refl _)
  ·simp only [go_sem, *]; exact for_next () h1 ⟨rfl, lt_succ_all hall (of_ndecide h2)⟩ rfl
 ·simp only [go_sem, *]; have h1 := of_ndecide h1; exact pure_ret (by rw [dec_f]; intro h; obtain ⟨i, hi, e⟩ := mem_getD.mp h; exact hall i (by omega) e) (.refl _)
theorem l01Index_ok (B : Nat) (l : List Int) (n : Int) : Pur Tryz.prog B 138 [iL l, .int .i64 n] (.int .i64 (indexOf l n)) := by
 refine ⟨fun H0 => c138 (by simp) fun ⟨hf, _⟩ => ?_⟩; have hl := fine_mL_le hf; simp only [maxL] at hl; unfold s138; simp only [go_sem, reduceAdd, *]; refine awp_for [0, 1] (fun k _ => [(5, some (.int .i64 (k : Int)))]) (fun k _ H => H = H0 ∧ ∀ i, i < k → l.getD i default ≠ n) l.length () ⟨rfl, by simp⟩ rfl ?_; rintro k _ H hk ⟨rfl, hall⟩; simp only [go_sem, *]; refine ⟨fun h1 => At.mk ?_, fun h1 => At.mk ?_⟩
 ·have h1 := of_decide h1; have w1 := wsucc (k := k) (by omega); simp only [go_sem, *]; refine ⟨fun h2 => At.mk ?_, fun h2 => At.mk ?_⟩
  ·simp only [go_sem, *]; exact pure_ret (by rw [indexOf_hit h1 hall (of_decide h2)]) (.refl _)
  ·simp only [go_sem, *]; exact for_next () h1 ⟨rfl, lt_succ_all hall (of_ndecide h2)⟩ rfl
 ·simp only [go_sem, *]; have h1 := of_ndecide h1; exact pure_ret (by rw [indexOf_miss fun i hi => hall i (by omega)]) (.refl _)
theorem slIndex_ok (B : Nat) (l : List Int) (n : Int) : Pur Tryz.prog B 144 [iL l, .int .i64 n] (.int .i64 (indexOf l n)) := by
 refine ⟨fun H0 => c144 (by simp) fun ⟨hf, _⟩ => ?_⟩; have hl := fine_mL_le hf; simp only [maxL] at hl; unfold s144; simp only [go_sem, reduceAdd, *]; refine awp_for [0, 1, 7] (fun k _ => [(8, some (.int .i64 (k : Int)))]) (fun k _ H => H = H0 ∧ ∀ i, i < k → l.getD i default ≠ n) l.length () ⟨rfl, by simp⟩ rfl ?_; rintro k _ H hk ⟨rfl, hall⟩; simp only [go_sem, *]; refine ⟨fun h1 => At.mk ?_, fun h1 => At.mk ?_⟩
 ·have h1 := of_decide h1; have w1 := wsucc (k := k) (by omega); simp only [go_sem, *]; refine ⟨fun h2 => At.mk ?_, fun h2 => At.mk ?_⟩
  ·simp only [go_sem, *]; exact pure_ret (by rw [indexOf_hit h1 hall (of_decide h2).symm]) (.refl _)
  ·simp only [go_sem, *]; exact for_next () h1 ⟨rfl, lt_succ_all hall fun e => of_ndecide h2 e.symm⟩ rfl
 ·simp only [go_sem, *]; have h1 := of_ndecide h1; exact pure_ret (by rw [indexOf_miss fun i hi => hall i (by omega)]) (.refl _)
theorem index_ok (B : Nat) (l : List Int) (n : Int) : Pur Tryz.prog B 102 [iL l, .int .i64 n] (.int .i64 (indexOf l n)) := by
 refine ⟨fun H0 => c102 (by simp) fun ⟨hf, _⟩ => ?_⟩; unfold s102; simp only [go_sem, reduceAdd, *]; refine (slIndex_ok ..).go fun _ => ?_; have hl := fine_mL_le hf; simp only [maxL] at hl; have hb := indexOf_bd l n; have w : IntKind.i64.wrap (indexOf l n) = indexOf l n := wrap_i64 (by omega) (by omega); simp only [go_sem, *]; exact pure_ret rfl (.refl _)
theorem clone_ok (B : Nat) (l : List Int) : Pur Tryz.prog B 141 [iL l] (iL l) := by
 refine ⟨fun H0 => c141 (by simp) fun ⟨hf, _⟩ => ?_⟩; have hl := fine_mL_le hf; unfold s141; simp only [go_sem, reduceAdd, *]; refine new_list iI (.nil _) fun id H o => ?_; simp only [go_sem, *]; refine app_list o rfl (by simpa using hl) fun id H o => ?_; simp only [go_sem, *]; refine fz_own o rfl fun H o => ?_; simp only [go_sem, *]; exact pure_ret (by simp) o.sub
theorem l01Own_ok (B : Nat) (l : List Int) : Pur Tryz.prog B 140 [iL l] (iL l) := by
 refine ⟨fun H0 => c140 (by simp) fun ⟨hf, _⟩ => ?_⟩; have hl := fine_mL_le hf; unfold s140; simp only [go_sem, reduceAdd, *]; refine new_list iI (.nil _) fun id H o => ?_; simp only [go_sem, *]; refine app_list o rfl (by simpa using hl) fun id H o => ?_; simp only [go_sem, *]; refine fz_own o rfl fun H o => ?_; simp only [go_sem, *]; exact pure_ret (by simp) o.sub
end Go.Proofs.Shf
namespace Go.Proofs.Shf
open Go.AW Go.Proofs Go.Shf
theorem rising_ok (B : Nat) (l : List Int) : Pur Tryz.prog B 162 [iL l] (.bool (dec (Rising l))) := by
 refine ⟨fun H0 => c162 (by simp) fun ⟨hf, _⟩ => ?_⟩; have hl := fine_mL_le hf; simp only [maxL] at hl; unfold s162; simp only [go_sem, reduceAdd, *]; refine awp_for [0] (fun k _ => [(3, some (.int .i64 ((k + 1 : Nat) : Int)))]) (fun k _ H => H = H0 ∧ ∀ i, i < k → i + 1 < l.length ∧ l.getD i default < l.getD (i + 1) default) l.length () ⟨rfl, by simp⟩ rfl ?_; rintro k _ H hk ⟨rfl, hall⟩; simp only [go_sem, *]; refine ⟨fun h1 => At.mk ?_, fun h1 => At.mk ?_⟩
 ·have h1 := of_decide h1; have w1 := wsucc (k := k + 1) (by omega); have w2 := wpred (k := k + 1) (by omega) (by omega); rw [Nat.add_sub_cancel] at w2; simp only [go_sem, w1, w2]; refine ⟨by omega, by omega, ?_⟩; refine ⟨fun h2 => At.mk ?_, fun h2 => At.mk ?_⟩
  ·simp only [go_sem, *]; have h2p := h2; simp only [dT] at h2p; refine pure_ret ?_ (.refl _); rw [dec_f]; intro h; have := h (k + 1) (by omega) h1; simp only [Nat.add_sub_cancel] at this; omega
  ·simp only [go_sem, w1, w2]; have h2p := h2; simp only [dF, Int.not_le] at h2p; exact for_next () (by omega) ⟨rfl, lt_succ_all hall ⟨h1, by omega⟩⟩ rfl
 ·simp only [go_sem, *]; have h1 := of_ndecide h1; refine pure_ret ?_ (.refl _); rw [dec_t]; intro i h0 hi; obtain ⟨j, rfl⟩ : ∃ j, i = j + 1 := ⟨i - 1, by omega⟩; exact (hall j (by omega)).2
theorem l02Rises_ok (B : Nat) (l : List Int) : Pur Tryz.prog B 148 [iL l] (.bool (dec (Rising l))) := by
 refine ⟨fun H0 => c148 (by simp) fun ⟨hf, _⟩ => ?_⟩; have hl := fine_mL_le hf; simp only [maxL] at hl; unfold s148; simp only [go_sem, reduceAdd, *]; refine awp_for [0] (fun k _ => [(3, some (.int .i64 ((k + 1 : Nat) : Int)))]) (fun k _ H => H = H0 ∧ ∀ i, i < k → i + 1 < l.length ∧ l.getD i default < l.getD (i + 1) default) l.length () ⟨rfl, by simp⟩ rfl ?_; rintro k _ H hk ⟨rfl, hall⟩; simp only [go_sem, *]; refine ⟨fun h1 => At.mk ?_, fun h1 => At.mk ?_⟩
 ·have h1 := of_decide h1; have w1 := wsucc (k := k + 1) (by omega); have w2 := wpred (k := k + 1) (by omega) (by omega); rw [Nat.add_sub_cancel] at w2; simp only [go_sem, w1, w2]; refine ⟨by omega, by omega, ?_⟩; refine ⟨fun h2 => At.mk ?_, fun h2 => At.mk ?_⟩
  ·simp only [go_sem, *]; have h2p := h2; simp only [dT] at h2p; refine pure_ret ?_ (.refl _); rw [dec_f]; intro h; have := h (k + 1) (by omega) h1; simp only [Nat.add_sub_cancel] at this; omega
  ·simp only [go_sem, w1, w2]; have h2p := h2; simp only [dF, Int.not_le] at h2p; exact for_next () (by omega) ⟨rfl, lt_succ_all hall ⟨h1, by omega⟩⟩ rfl
 ·simp only [go_sem, *]; have h1 := of_ndecide h1; refine pure_ret ?_ (.refl _); rw [dec_t]; intro i h0 hi; obtain ⟨j, rfl⟩ : ∃ j, i = j + 1 := ⟨i - 1, by omega⟩; exact (hall j (by omega)).2
theorem compare_ok (B : Nat) (a b : List Int) : Pur Tryz.prog B 129 [iL a, iL b] (.int .i64 (cmp a b)) := by
 refine ⟨fun H0 => c129 (by simp) fun ⟨hf, hg, _⟩ => ?_⟩; have hl := fine_mL_le hf; have hl2 := fine_mL_le hg; simp only [maxL] at hl hl2; unfold s129; simp only [go_sem, reduceAdd]; refine awp_for [0, 1, 7] (fun k _ => [(8, some (.int .i64 (k : Int)))]) (fun k _ H => H = H0 ∧ k ≤ b.length ∧ cmp a b = cmp (a.drop k) (b.drop k)) a.length () ⟨rfl, by simp, by simp⟩ rfl ?_; rintro k _ H hk ⟨rfl, hkb, hc⟩; simp only [go_sem]; refine ⟨fun h1 => At.mk ?_, fun h1 => At.mk ?_⟩
 ·have h1 := of_decide h1; have w1 := wsucc (k := k) (by omega); have da := drop_cons a h1; rw [da] at hc; simp only [go_sem]; refine ⟨fun h2 => At.mk ?_, fun h2 => At.mk ?_⟩
  ·simp only [go_sem]; have h2 := of_decide h2; refine pure_ret ?_ (.refl _); rw [hc, List.drop_of_length_le (show b.length ≤ k by omega)]; rfl
  ·have h2 := of_ndecide h2; have h3 : k < b.length := by omega
   have db := drop_cons b h3; rw [db] at hc; simp only [go_sem]; refine ⟨h1, h3, ?_⟩; refine ⟨fun h4 => At.mk ?_, fun h4 => At.mk ?_⟩
   ·have h4p : a.getD k default ≠ b.getD k default := by simpa using h4
    simp only [go_sem]; refine ⟨h1, h3, ?_⟩; refine ⟨fun h5 => At.mk ?_, fun h5 => At.mk ?_⟩
    ·simp only [go_sem]; have h5 := of_decide h5; refine pure_ret ?_ (.refl _); rw [hc, cmp, if_neg h4p, if_pos h5]
    ·simp only [go_sem]; have h5 := of_ndecide h5; refine pure_ret ?_ (.refl _); rw [hc, cmp, if_neg h4p, if_neg h5]
   ·have h4p : a.getD k default = b.getD k default := by simpa using h4
    simp only [go_sem, w1]; refine for_next () (by omega) ⟨rfl, by omega, ?_⟩ rfl; rw [hc, cmp, if_pos h4p]
 ·simp only [go_sem]; have h1 := of_ndecide h1; rw [List.drop_of_length_le (by omega)] at hc; refine ⟨fun h2 => At.mk ?_, fun h2 => At.mk ?_⟩
  ·simp only [go_sem]; have h2 := of_decide h2; refine pure_ret ?_ (.refl _); rw [hc, drop_cons b (by omega)]; rfl
  ·simp only [go_sem]; have h2 := of_ndecide h2; refine pure_ret ?_ (.refl _); rw [hc, List.drop_of_length_le (by omega)]; rfl
theorem same_ok (B : Nat) (a b : List Int) : Pur Tryz.prog B 169 [iL a, iL b] (.bool (dec (a = b))) := by
 refine ⟨fun H0 => c169 (by simp) fun _ => ?_⟩; unfold s169; simp only [go_sem, reduceAdd, *]; refine (compare_ok ..).go fun _ => ?_; simp only [go_sem, *]; exact pure_ret (by rw [decide_dec, dec_congr cmp_zero]) (.refl _)
theorem l01Same_ok (B : Nat) (a b : List Int) : Pur Tryz.prog B 122 [iL a, iL b] (.bool (dec (a = b))) := by
 refine ⟨fun H0 => c122 (by simp) fun ⟨hf, hg, _⟩ => ?_⟩; have hl := fine_mL_le hf; have hl2 := fine_mL_le hg; simp only [maxL] at hl hl2; unfold s122; simp only [go_sem, reduceAdd]; refine ⟨fun h0 => At.mk ?_, fun h0 => At.mk ?_⟩
 ·simp only [go_sem]; have h0p : a.length ≠ b.length := by simpa using h0
  exact pure_ret (by rw [dec_f]; rintro rfl; exact h0p rfl) (.refl _)
 have h0p : a.length = b.length := by simpa using h0
 simp only [go_sem]; refine awp_for [0, 1] (fun k _ => [(5, some (.int .i64 (k : Int)))]) (fun k _ H => H = H0 ∧ ∀ i, i < k → a.getD i default = b.getD i default) a.length () ⟨rfl, by simp⟩ rfl ?_; rintro k _ H hk ⟨rfl, hall⟩; simp only [go_sem]; refine ⟨fun h1 => At.mk ?_, fun h1 => At.mk ?_⟩
 ·have h1 := of_decide h1; have w1 := wsucc (k := k) (by omega); simp only [go_sem]; refine ⟨h1, by omega, ?_⟩; refine ⟨fun h2 => At.mk ?_, fun h2 => At.mk ?_⟩
  ·simp only [go_sem]; have h2p : a.getD k default ≠ b.getD k default := by simpa using h2
   exact pure_ret (by rw [dec_f]; rintro rfl; exact h2p rfl) (.refl _)
  ·simp only [go_sem, w1]; have h2p : a.getD k default = b.getD k default := by simpa using h2
   exact for_next () (by omega) ⟨rfl, lt_succ_all hall h2p⟩ rfl
 ·simp only [go_sem]; have h1 := of_ndecide h1; refine pure_ret ?_ (.refl _); rw [dec_t]; refine List.ext_getElem h0p fun i hi hj => ?_; have := hall i (by omega); simpa [gQ, hi, hj] using this
theorem eqInt64S_ok (B : Nat) (a b : List Int) : Pur Tryz.prog B 53 [iL a, iL b] (.bool (dec (a = b))) := by
 refine ⟨fun H0 => c53 (by simp) fun ⟨hf, hg, _⟩ => ?_⟩; have hl := fine_mL_le hf; have hl2 := fine_mL_le hg; simp only [maxL] at hl hl2; unfold s53; simp only [go_sem, reduceAdd]; refine ⟨fun h0 => At.mk ?_, fun h0 => At.mk ?_⟩
 ·simp only [go_sem]; have h0p : a.length ≠ b.length := by simpa using h0
  exact pure_ret (by rw [dec_f]; rintro rfl; exact h0p rfl) (.refl _)
 have h0p : a.length = b.length := by simpa using h0
 simp only [go_sem]; refine awp_for [0, 1] (fun k _ => [(5, some (.int .i64 (k : Int)))]) (fun k _ H => H = H0 ∧ ∀ i, i < k → a.getD i default = b.getD i default) a.length () ⟨rfl, by simp⟩ rfl ?_; rintro k _ H hk ⟨rfl, hall⟩; simp only [go_sem]; refine ⟨fun h1 => At.mk ?_, fun h1 => At.mk ?_⟩
 ·have h1 := of_decide h1; have w1 := wsucc (k := k) (by omega); simp only [go_sem]; refine ⟨h1, by omega, ?_⟩; refine ⟨fun h2 => At.mk ?_, fun h2 => At.mk ?_⟩
  ·simp only [go_sem]; have h2p : a.getD k default ≠ b.getD k default := by simpa using h2
   exact pure_ret (by rw [dec_f]; rintro rfl; exact h2p rfl) (.refl _)
  ·simp only [go_sem, w1]; have h2p : a.getD k default = b.getD k default := by simpa using h2
   exact for_next () (by omega) ⟨rfl, lt_succ_all hall h2p⟩ rfl
 ·simp only [go_sem]; have h1 := of_ndecide h1; refine pure_ret ?_ (.refl _); rw [dec_t]; refine List.ext_getElem h0p fun i hi hj => ?_; have := hall i (by omega); simpa [gQ, hi, hj] using this
theorem l01Same2_ok (B : Nat) (a b : List (List Int)) : Pur Tryz.prog B 123 [iLL a, iLL b] (.bool (dec (a = b))) := by
 refine ⟨fun H0 => c123 (by simp) fun ⟨hf, hg, _⟩ => ?_⟩; have hl := fine_mL_le hf; have hl2 := fine_mL_le hg; simp only [maxL] at hl hl2; unfold s123; simp only [go_sem, reduceAdd]; refine ⟨fun h0 => At.mk ?_, fun h0 => At.mk ?_⟩
 ·simp only [go_sem]; have h0p : a.length ≠ b.length := by simpa using h0
  exact pure_ret (by rw [dec_f]; rintro rfl; exact h0p rfl) (.refl _)
 have h0p : a.length = b.length := by simpa using h0
 simp only [go_sem]; refine awp_for [0, 1] (fun k _ => [(5, some (.int .i64 (k : Int)))]) (fun k _ H => H = H0 ∧ ∀ i, i < k → a.getD i default = b.getD i default) a.length () ⟨rfl, by simp⟩ rfl ?_; rintro k _ H hk ⟨rfl, hall⟩; simp only [go_sem]; refine ⟨fun h1 => At.mk ?_, fun h1 => At.mk ?_⟩
 ·have h1 := of_decide h1; have w1 := wsucc (k := k) (by omega); simp only [go_sem]; refine ⟨h1, by omega, _, (l01Same_ok ..).run, ?_⟩; simp only [go_sem]; refine ⟨fun h2 => At.mk ?_, fun h2 => At.mk ?_⟩
  ·simp only [go_sem]; have h2p := h2; simp only [bnt, decf] at h2p; exact pure_ret (by rw [dec_f]; rintro rfl; exact h2p rfl) (.refl _)
  ·simp only [go_sem, w1]; have h2p := h2; simp only [bnf, dect] at h2p; exact for_next () (by omega) ⟨rfl, lt_succ_all hall h2p⟩ rfl
 ·simp only [go_sem]; have h1 := of_ndecide h1; refine pure_ret ?_ (.refl _); rw [dec_t]; refine List.ext_getElem h0p fun i hi hj => ?_; have := hall i (by omega); simpa [gQ, hi, hj] using this
theorem eqInt64SS_ok (B : Nat) (a b : List (List Int)) : Pur Tryz.prog B 54 [iLL a, iLL b] (.bool (dec (a = b))) := by
 refine ⟨fun H0 => c54 (by simp) fun ⟨hf, hg, _⟩ => ?_⟩; have hl := fine_mL_le hf; have hl2 := fine_mL_le hg; simp only [maxL] at hl hl2; unfold s54; simp only [go_sem, reduceAdd]; refine ⟨fun h0 => At.mk ?_, fun h0 => At.mk ?_⟩
 ·simp only [go_sem]; have h0p : a.length ≠ b.length := by simpa using h0
  exact pure_ret (by rw [dec_f]; rintro rfl; exact h0p rfl) (.refl _)
 have h0p : a.length = b.length := by simpa using h0
 simp only [go_sem]; refine awp_for [0, 1] (fun k _ => [(5, some (.int .i64 (k : Int)))]) (fun k _ H => H = H0 ∧ ∀ i, i < k → a.getD i default = b.getD i default) a.length () ⟨rfl, by simp⟩ rfl ?_; rintro k _ H hk ⟨rfl, hall⟩; simp only [go_sem]; refine ⟨fun h1 => At.mk ?_, fun h1 => At.mk ?_⟩
 ·have h1 := of_decide h1; have w1 := wsucc (k := k) (by omega); simp only [go_sem]; refine ⟨h1, by omega, _, (eqInt64S_ok ..).run, ?_⟩; simp only [go_sem]; refine ⟨fun h2 => At.mk ?_, fun h2 => At.mk ?_⟩
  ·simp only [go_sem]; have h2p := h2; simp only [bnt, decf] at h2p; exact pure_ret (by rw [dec_f]; rintro rfl; exact h2p rfl) (.refl _)
  ·simp only [go_sem, w1]; have h2p := h2; simp only [bnf, dect] at h2p; exact for_next () (by omega) ⟨rfl, lt_succ_all hall h2p⟩ rfl
 ·simp only [go_sem]; have h1 := of_ndecide h1; refine pure_ret ?_ (.refl _); rw [dec_t]; refine List.ext_getElem h0p fun i hi hj => ?_; have := hall i (by omega); simpa [gQ, hi, hj] using this
theorem eqInt64SSS_ok (B : Nat) (a b : List (List (List Int))) : Pur Tryz.prog B 52 [iLLL a, iLLL b] (.bool (dec (a = b))) := by
 refine ⟨fun H0 => c52 (by simp) fun ⟨hf, hg, _⟩ => ?_⟩; have hl := fine_mL_le hf; have hl2 := fine_mL_le hg; simp only [maxL] at hl hl2; unfold s52; simp only [go_sem, reduceAdd]; refine ⟨fun h0 => At.mk ?_, fun h0 => At.mk ?_⟩
 ·simp only [go_sem]; have h0p : a.length ≠ b.length := by simpa using h0
  exact pure_ret (by rw [dec_f]; rintro rfl; exact h0p rfl) (.refl _)
 have h0p : a.length = b.length := by simpa using h0
 simp only [go_sem]; refine awp_for [0, 1] (fun k _ => [(5, some (.int .i64 (k : Int)))]) (fun k _ H => H = H0 ∧ ∀ i, i < k → a.getD i default = b.getD i default) a.length () ⟨rfl, by simp⟩ rfl ?_; rintro k _ H hk ⟨rfl, hall⟩; simp only [go_sem]; refine ⟨fun h1 => At.mk ?_, fun h1 => At.mk ?_⟩
 ·have h1 := of_decide h1; have w1 := wsucc (k := k) (by omega); simp only [go_sem]; refine ⟨h1, by omega, _, (eqInt64SS_ok ..).run, ?_⟩; simp only [go_sem]; refine ⟨fun h2 => At.mk ?_, fun h2 => At.mk ?_⟩
  ·simp only [go_sem]; have h2p := h2; simp only [bnt, decf] at h2p; exact pure_ret (by rw [dec_f]; rintro rfl; exact h2p rfl) (.refl _)
  ·simp only [go_sem, w1]; have h2p := h2; simp only [bnf, dect] at h2p; exact for_next () (by omega) ⟨rfl, lt_succ_all hall h2p⟩ rfl
 ·simp only [go_sem]; have h1 := of_ndecide h1; refine pure_ret ?_ (.refl _); rw [dec_t]; refine List.ext_getElem h0p fun i hi hj => ?_; have := hall i (by omega); simpa [gQ, hi, hj] using this
theorem l09Find_ok (B : Nat) (l : List (List Int)) (x : List Int) : Pur Tryz.prog B 97 [iLL l, iL x] (.int .i64 (indexOf l x)) := by
 refine ⟨fun H0 => c97 (by simp) fun ⟨hf, _⟩ => ?_⟩; have hl := fine_mL_le hf; simp only [maxL] at hl; unfold s97; simp only [go_sem, reduceAdd]; refine awp_for [0, 1] (fun k _ => [(5, some (.int .i64 (k : Int)))]) (fun k _ H => H = H0 ∧ ∀ i, i < k → l.getD i default ≠ x) l.length () ⟨rfl, by simp⟩ rfl ?_; rintro k _ H hk ⟨rfl, hall⟩; simp only [go_sem]; refine ⟨fun h1 => At.mk ?_, fun h1 => At.mk ?_⟩
 ·have h1 := of_decide h1; have w1 := wsucc (k := k) (by omega); simp only [go_sem]; refine ⟨h1, (l01Same_ok ..).go fun _ => ?_⟩; simp only [go_sem]; refine ⟨fun h2 => At.mk ?_, fun h2 => At.mk ?_⟩
  ·simp only [go_sem]; have h2p := h2; simp only [dect] at h2p; exact pure_ret (by rw [indexOf_hit h1 hall h2p]) (.refl _)
  ·simp only [go_sem, w1]; have h2p := h2; simp only [decf] at h2p; exact for_next () (by omega) ⟨rfl, lt_succ_all hall h2p⟩ rfl
 ·simp only [go_sem]; have h1 := of_ndecide h1; exact pure_ret (by rw [indexOf_miss fun i hi => hall i (by omega)]) (.refl _)
theorem l05Place_ok (B : Nat) (l : List (List Int)) (x : List Int) : Pur Tryz.prog B 191 [iLL l, iL x] (.int .i64 (indexOf l x)) := by
 refine ⟨fun H0 => c191 (by simp) fun ⟨hf, _⟩ => ?_⟩; have hl := fine_mL_le hf; simp only [maxL] at hl; unfold s191; simp only [go_sem, reduceAdd]; refine awp_for [0, 1] (fun k _ => [(5, some (.int .i64 (k : Int)))]) (fun k _ H => H = H0 ∧ ∀ i, i < k → l.getD i default ≠ x) l.length () ⟨rfl, by simp⟩ rfl ?_; rintro k _ H hk ⟨rfl, hall⟩; simp only [go_sem]; refine ⟨fun h1 => At.mk ?_, fun h1 => At.mk ?_⟩
 ·have h1 := of_decide h1; have w1 := wsucc (k := k) (by omega); simp only [go_sem]; refine ⟨h1, (l01Same_ok ..).go fun _ => ?_⟩; simp only [go_sem]; refine ⟨fun h2 => At.mk ?_, fun h2 => At.mk ?_⟩
  ·simp only [go_sem]; have h2p := h2; simp only [dect] at h2p; exact pure_ret (by rw [indexOf_hit h1 hall h2p]) (.refl _)
  ·simp only [go_sem, w1]; have h2p := h2; simp only [decf] at h2p; exact for_next () (by omega) ⟨rfl, lt_succ_all hall h2p⟩ rfl
 ·simp only [go_sem]; have h1 := of_ndecide h1; exact pure_ret (by rw [indexOf_miss fun i hi => hall i (by omega)]) (.refl _)
theorem l01Less_ok (B : Nat) (a b : List Int) : Pur Tryz.prog B 112 [iL a, iL b] (.bool (dec (cmp a b < 0))) := by
 refine ⟨fun H0 => c112 (by simp) fun ⟨hf, hg, _⟩ => ?_⟩; have hl := fine_mL_le hf; have hl2 := fine_mL_le hg; simp only [maxL] at hl hl2; unfold s112; simp only [go_sem, reduceAdd]; refine awp_for [0, 1] (fun k _ => [(5, some (.int .i64 (k : Int)))]) (fun k _ H => H = H0 ∧ k ≤ b.length ∧ cmp a b = cmp (a.drop k) (b.drop k)) a.length () ⟨rfl, by simp, by simp⟩ rfl ?_; rintro k _ H hk ⟨rfl, hkb, hc⟩; simp only [go_sem]; refine ⟨fun h1 => At.mk ?_, fun h1 => At.mk ?_⟩
 ·have h1p := of_decide h1; have w1 := wsucc (k := k) (by omega); simp only [go_sem, h1]; refine ⟨fun h2 => At.mk ?_, fun h2 => At.mk ?_⟩
  ·have h2 := of_decide h2; simp only [go_sem]; refine ⟨h1p, h2, ?_⟩; rw [drop_cons a h1p, drop_cons b h2] at hc; refine ⟨fun h4 => At.mk ?_, fun h4 => At.mk ?_⟩
   ·have h4p : a.getD k default ≠ b.getD k default := by simpa using h4
    simp only [go_sem]; refine ⟨h1p, h2, ?_⟩; refine pure_ret ?_ (.refl _); rw [hc, cmp, if_neg h4p, decide_dec]
    congr 1
    refine dec_congr ?_
    split <;> omega
   ·have h4p : a.getD k default = b.getD k default := by simpa using h4
    simp only [go_sem, w1]; refine for_next () (by omega) ⟨rfl, by omega, ?_⟩ rfl; rw [hc, cmp, if_pos h4p]
  ·have h2 := of_ndecide h2; simp only [go_sem]; refine pure_ret ?_ (.refl _); rw [hc, drop_cons a h1p, List.drop_of_length_le (show b.length ≤ k by omega), decide_dec]
   congr 1
   refine dec_congr ?_; simp only [cmp]; omega
 ·have h1p := of_ndecide h1; simp only [go_sem, h1]; refine pure_ret ?_ (.refl _); rw [hc, List.drop_of_length_le (show a.length ≤ k by omega), decide_dec]
  congr 1
  refine dec_congr ?_; by_cases h : a.length < b.length
  ·rw [drop_cons b (by omega)]; simp only [cmp]; omega
  ·rw [List.drop_of_length_le (by omega)]; simp only [cmp]; omega
theorem clones_ok (B : Nat) (l : List (List Int)) : Pur Tryz.prog B 106 [mL (mL iI) l] (mL (mL iI) l) := by
 refine ⟨fun H0 => c106 (by simp) fun ⟨hf, _⟩ => ?_⟩; have hl := fine_mL_le hf; simp only [maxL] at hl; unfold s106; simp only [go_sem, reduceAdd]; refine ⟨⟨by omega, by simp [maxL] <;> omega⟩, new_list (mL iI) (.nil _) fun id H o => ?_⟩; simp only [go_sem]; refine awp_for [9, 10] (G := Nat × List (List Int)) (fun k g => [(3, some (.buf g.1 g.2.length)), (11, some (.int .i64 (k : Int)))]) (fun k g H => g.2 = (l.take k) ∧ Owns H0 H [(g.1, .cells 1 (g.2.map (mL iI)) 0)]) l.length (id, []) ⟨by simp, o⟩ rfl ?_; rintro k ⟨id, out⟩ H hk ⟨hout, o⟩; replace hout : out = (l.take k) := hout; simp only [go_sem]; refine ⟨fun h1 => At.mk ?_, fun h1 => At.mk ?_⟩
 ·have h1 := of_decide h1; have w1 := wsucc (k := k) (by omega); simp only [go_sem]; refine ⟨h1, (clone_ok ..).go fun _ => ?_⟩; simp only [go_sem, reduceAdd]; refine app_own (l.getD k default) o rfl rfl (by rw [hout]; simp [maxL] <;> omega) fun id H o => ?_; simp only [go_sem, w1]; exact for_next (_, _) (by omega) ⟨by rw [hout, take_succ' l h1], o⟩ rfl
 ·simp only [go_sem]; have h1 := of_ndecide h1; refine fz_own o rfl fun H o => ?_; simp only [go_sem]; exact pure_ret (by rw [hout, List.take_of_length_le (by omega)]) o.sub
theorem l01Own2_ok (B : Nat) (l : List (List Int)) : Pur Tryz.prog B 96 [mL (mL iI) l] (mL (mL iI) l) := by
 refine ⟨fun H0 => c96 (by simp) fun ⟨hf, _⟩ => ?_⟩; have hl := fine_mL_le hf; simp only [maxL] at hl; unfold s96; simp only [go_sem, reduceAdd]; refine new_list (mL iI) (.nil _) fun id H o => ?_; simp only [go_sem]; refine awp_for [0] (G := Nat × List (List Int)) (fun k g => [(3, some (.buf g.1 g.2.length)), (4, some (.int .i64 (k : Int)))]) (fun k g H => g.2 = (l.take k) ∧ Owns H0 H [(g.1, .cells 1 (g.2.map (mL iI)) 0)]) l.length (id, []) ⟨by simp, o⟩ rfl ?_; rintro k ⟨id, out⟩ H hk ⟨hout, o⟩; replace hout : out = (l.take k) := hout; simp only [go_sem]; refine ⟨fun h1 => At.mk ?_, fun h1 => At.mk ?_⟩
 ·have h1 := of_decide h1; have w1 := wsucc (k := k) (by omega); simp only [go_sem]; refine ⟨h1, (l01Own_ok ..).go fun _ => ?_⟩; simp only [go_sem, reduceAdd]; refine app_own (l.getD k default) o rfl rfl (by rw [hout]; simp [maxL] <;> omega) fun id H o => ?_; simp only [go_sem, w1]; exact for_next (_, _) (by omega) ⟨by rw [hout, take_succ' l h1], o⟩ rfl
 ·simp only [go_sem]; have h1 := of_ndecide h1; refine fz_own o rfl fun H o => ?_; simp only [go_sem]; exact pure_ret (by rw [hout, List.take_of_length_le (by omega)]) o.sub
theorem outOf_ok (B : Nat) (c : Cat) (x : Int) : Pur Tryz.prog B 142 [.ptr c.cells, .int .i64 x] (iL (outs c x)) := by
 refine ⟨fun H0 => c142 (by simp) fun ⟨hf, _⟩ => ?_⟩; have hl := fine_mL_le (hf.ptr (c := iL c.frm) (by simp [Cat.cells])); simp only [maxL] at hl; unfold s142; simp only [go_sem, reduceAdd]; refine new_list iI (.nil _) fun id H o => ?_; simp only [go_sem, reduceAdd, reduceLeDiff]; refine awp_for [1, 12, 13] (G := Nat × List (Int)) (fun k g => [(5, some (.buf g.1 g.2.length)), (14, some (.int .i64 (k : Int)))]) (fun k g H => g.2 = (((List.range k).filter fun i => c.frm.getD i default = x).map Int.ofNat) ∧ Owns H0 H [(g.1, .cells 1 (g.2.map iI) 0)]) c.frm.length (id, []) ⟨by simp, o⟩ rfl ?_; rintro k ⟨id, out⟩ H hk ⟨hout, o⟩; replace hout : out = (((List.range k).filter fun i => c.frm.getD i default = x).map Int.ofNat) := hout; simp only [go_sem]; refine ⟨fun h1 => At.mk ?_, fun h1 => At.mk ?_⟩
 ·have h1 := of_decide h1; have w1 := wsucc (k := k) (by omega); simp only [go_sem]; refine ⟨h1, ?_⟩; have hlen : out.length ≤ k := by rw [hout, List.length_map]; exact Nat.le_trans (List.length_filter_le _ _) (by simp)
  refine ⟨fun h2 => At.mk ?_, fun h2 => At.mk ?_⟩
  ·simp only [go_sem, reduceAdd]; have h2p : c.frm.getD k default = x := of_decide h2; refine app_own (k : Int) o rfl rfl (by simp only [maxL]; omega) fun id H o => ?_; simp only [go_sem, w1]; exact for_next (_, _) (by omega) ⟨by rw [hout, range_succ_filter, if_pos h2, List.map_append]; rfl, o⟩ rfl
  ·simp only [go_sem, w1]; have h2p : ¬ c.frm.getD k default = x := of_ndecide h2; exact for_next (_, _) (by omega) ⟨by rw [hout, range_succ_filter, if_neg (Bool.eq_false_iff.mp h2), List.map_append]; simp, o⟩ rfl
 ·simp only [go_sem]; have h1 := of_ndecide h1; refine fz_own o rfl fun H o => ?_; simp only [go_sem]; exact pure_ret (by rw [hout, show k = c.frm.length by omega]; rfl) o.sub
theorem l25Out_ok (B : Nat) (c : Cat) (x : Int) : Pur Tryz.prog B 84 [.agg c.cells, .int .i64 x] (iL (outs c x)) := by
 refine ⟨fun H0 => c84 (by simp) fun ⟨hf, _⟩ => ?_⟩; have hl := fine_mL_le (hf.agg (c := iL c.frm) (by simp [Cat.cells])); simp only [maxL] at hl; unfold s84; simp only [go_sem, reduceAdd]; refine new_list iI (.nil _) fun id H o => ?_; simp only [go_sem]; refine awp_for [1, 2] (G := Nat × List (Int)) (fun k g => [(5, some (.buf g.1 g.2.length)), (6, some (.int .i64 (k : Int)))]) (fun k g H => g.2 = (((List.range k).filter fun i => c.frm.getD i default = x).map Int.ofNat) ∧ Owns H0 H [(g.1, .cells 1 (g.2.map iI) 0)]) c.frm.length (id, []) ⟨by simp, o⟩ rfl ?_; rintro k ⟨id, out⟩ H hk ⟨hout, o⟩; replace hout : out = (((List.range k).filter fun i => c.frm.getD i default = x).map Int.ofNat) := hout; simp only [go_sem, reduceAdd, reduceLeDiff]; refine ⟨fun h1 => At.mk ?_, fun h1 => At.mk ?_⟩
 ·have h1 := of_decide h1; have w1 := wsucc (k := k) (by omega); simp only [go_sem, reduceAdd, reduceLeDiff]; refine ⟨h1, ?_⟩; have hlen : out.length ≤ k := by rw [hout, List.length_map]; exact Nat.le_trans (List.length_filter_le _ _) (by simp)
  refine ⟨fun h2 => At.mk ?_, fun h2 => At.mk ?_⟩
  ·simp only [go_sem, reduceAdd]; have h2p : c.frm.getD k default = x := of_decide h2; refine app_own (k : Int) o rfl rfl (by simp only [maxL]; omega) fun id H o => ?_; simp only [go_sem, w1]; exact for_next (_, _) (by omega) ⟨by rw [hout, range_succ_filter, if_pos h2, List.map_append]; rfl, o⟩ rfl
  ·simp only [go_sem, w1]; have h2p : ¬ c.frm.getD k default = x := of_ndecide h2; exact for_next (_, _) (by omega) ⟨by rw [hout, range_succ_filter, if_neg (Bool.eq_false_iff.mp h2), List.map_append]; simp, o⟩ rfl
 ·simp only [go_sem]; have h1 := of_ndecide h1; refine fz_own o rfl fun H o => ?_; simp only [go_sem]; exact pure_ret (by rw [hout, show k = c.frm.length by omega]; rfl) o.sub
theorem l23Count_ok (B : Nat) (n : Nat) (hn : n ≤ 1048576) : Pur Tryz.prog B 125 [.int .i64 (n : Int)] (iL ((List.range n).map Int.ofNat)) := by
 refine ⟨fun H0 => c125 (by simp) fun ⟨_, _⟩ => ?_⟩; unfold s125; simp only [go_sem, reduceAdd]; refine new_list iI (.nil _) fun id H o => ?_; simp only [go_sem]; refine awp_for [0] (G := Nat × List (Int)) (fun k g => [(3, some (.buf g.1 g.2.length)), (4, some (.int .i64 (k : Int)))]) (fun k g H => g.2 = ((List.range k).map Int.ofNat) ∧ Owns H0 H [(g.1, .cells 1 (g.2.map iI) 0)]) n (id, []) ⟨by simp, o⟩ rfl ?_; rintro k ⟨id, out⟩ H hk ⟨hout, o⟩; replace hout : out = ((List.range k).map Int.ofNat) := hout; simp only [go_sem]; refine ⟨fun h1 => At.mk ?_, fun h1 => At.mk ?_⟩
 ·have h1 := of_decide h1; have w1 := wsucc (k := k) (by omega); simp only [go_sem, reduceAdd]; refine app_own (k : Int) o rfl rfl (by rw [hout]; simp [maxL] <;> omega) fun id H o => ?_; simp only [go_sem, w1]; exact for_next (_, _) (by omega) ⟨by rw [hout, List.range_succ]; simp, o⟩ rfl
 ·simp only [go_sem]; have h1 := of_ndecide h1; refine fz_own o rfl fun H o => ?_; simp only [go_sem]; exact pure_ret (by rw [hout, show k = n by omega]) o.sub
theorem l22Repeat_ok (B : Nat) (x : Int) (n : Nat) (hn : n ≤ 1048576) : Pur Tryz.prog B 159 [.int .i64 x, .int .i64 (n : Int)] (iL (List.replicate n x)) := by
 refine ⟨fun H0 => c159 (by simp) fun ⟨_, _⟩ => ?_⟩; unfold s159; simp only [go_sem, reduceAdd]; refine new_list iI (.nil _) fun id H o => ?_; simp only [go_sem]; refine awp_for [0, 1] (G := Nat × List (Int)) (fun k g => [(5, some (.buf g.1 g.2.length)), (6, some (.int .i64 (k : Int)))]) (fun k g H => g.2 = (List.replicate k x) ∧ Owns H0 H [(g.1, .cells 1 (g.2.map iI) 0)]) n (id, []) ⟨by simp, o⟩ rfl ?_; rintro k ⟨id, out⟩ H hk ⟨hout, o⟩; replace hout : out = (List.replicate k x) := hout; simp only [go_sem]; refine ⟨fun h1 => At.mk ?_, fun h1 => At.mk ?_⟩
 ·have h1 := of_decide h1; have w1 := wsucc (k := k) (by omega); simp only [go_sem, reduceAdd]; refine app_own x o rfl rfl (by rw [hout, List.length_replicate]; simp only [maxL]; omega) fun id H o => ?_; simp only [go_sem, w1]; exact for_next (_, _) (by omega) ⟨by rw [hout, List.replicate_succ'], o⟩ rfl
 ·simp only [go_sem]; have h1 := of_ndecide h1; refine fz_own o rfl fun H o => ?_; simp only [go_sem]; exact pure_ret (by rw [hout, show k = n by omega]) o.sub
theorem marked_ok (B : Nat) (l : List Bool) : Pur Tryz.prog B 213 [bL l] (iL (((List.range l.length).filter fun i => l.getD i default).map Int.ofNat)) := by
 refine ⟨fun H0 => c213 (by simp) fun ⟨hf, _⟩ => ?_⟩; have hl := fine_mL_le hf; simp only [maxL] at hl; unfold s213; simp only [go_sem, reduceAdd]; refine new_list iI (.nil _) fun id H o => ?_; simp only [go_sem]; refine awp_for [7, 8] (G := Nat × List (Int)) (fun k g => [(3, some (.buf g.1 g.2.length)), (9, some (.int .i64 (k : Int)))]) (fun k g H => g.2 = (((List.range k).filter fun i => l.getD i default).map Int.ofNat) ∧ Owns H0 H [(g.1, .cells 1 (g.2.map iI) 0)]) l.length (id, []) ⟨by simp, o⟩ rfl ?_; rintro k ⟨id, out⟩ H hk ⟨hout, o⟩; replace hout : out = (((List.range k).filter fun i => l.getD i default).map Int.ofNat) := hout; simp only [go_sem]; refine ⟨fun h1 => At.mk ?_, fun h1 => At.mk ?_⟩
 ·have h1 := of_decide h1; have w1 := wsucc (k := k) (by omega); simp only [go_sem]; refine ⟨h1, ?_⟩; have hlen : out.length ≤ k := by rw [hout, List.length_map]; exact Nat.le_trans (List.length_filter_le _ _) (by simp)
  refine ⟨fun h2 => At.mk ?_, fun h2 => At.mk ?_⟩
  ·simp only [go_sem, reduceAdd]; refine app_own (k : Int) o rfl rfl (by simp only [maxL]; omega) fun id H o => ?_; simp only [go_sem, w1]; exact for_next (_, _) (by omega) ⟨by rw [hout, range_succ_filter, if_pos h2, List.map_append]; rfl, o⟩ rfl
  ·simp only [go_sem, w1]; exact for_next (_, _) (by omega) ⟨by rw [hout, range_succ_filter, if_neg (Bool.eq_false_iff.mp h2), List.map_append]; simp, o⟩ rfl
 ·simp only [go_sem]; have h1 := of_ndecide h1; refine fz_own o rfl fun H o => ?_; simp only [go_sem]; exact pure_ret (by rw [hout, show k = l.length by omega]) o.sub
theorem toInt64S_ok (B : Nat) (l : List (Int)) : Pur Tryz.prog B 47 [mL iI l] (mL iI l) := by
 refine ⟨fun H0 => c47 (by simp) fun ⟨hf, _⟩ => ?_⟩; have hl := fine_mL_le hf; simp only [maxL] at hl; unfold s47; simp only [go_sem, reduceAdd]; refine ⟨by simp [maxL] <;> omega, ?_⟩; refine mks_own iI (.nil _) fun id H o => ?_; simp only [go_sem]; refine awp_for [0, 3] (fun k _ => [(4, some (.int .i64 (k : Int)))]) (fun k _ H => Owns H0 H [(id, .cells 1 ((l.take k).map iI ++ List.replicate (l.length - k) (.int .i64 0)) 0)]) l.length () o rfl ?_; rintro k _ H hk o; have hlen : (l.take k).length = k := by simp; omega
 simp only [go_sem]; refine ⟨fun h1 => At.mk ?_, fun h1 => At.mk ?_⟩
 ·have h1 := of_decide h1; have w1 := wsucc (k := k) (by omega); have hsub : l.length - k = (l.length - (k + 1)) + 1 := by omega
  rw [hsub] at o; simp only [go_sem]; refine ⟨h1, ?_⟩; refine ⟨by omega, ?_⟩; refine st_own (l.getD k default) o rfl (by omega) fun H o => ?_; simp only [go_sem, w1]; exact for_next () (by omega) (by rw [take_succ' l h1]; exact o) rfl
 ·simp only [go_sem]; have h1 := of_ndecide h1; have hsub : l.length - k = 0 := by omega
  rw [hsub] at o; refine fz_made o (by omega) fun H o => ?_; simp only [go_sem]; exact pure_ret (by rw [List.take_of_length_le (by omega)]) o.sub
theorem toInt64SS_ok (B : Nat) (l : List (List Int)) : Pur Tryz.prog B 48 [mL iL l] (mL iL l) := by
 refine ⟨fun H0 => c48 (by simp) fun ⟨hf, _⟩ => ?_⟩; have hl := fine_mL_le hf; simp only [maxL] at hl; unfold s48; simp only [go_sem, reduceAdd]; refine ⟨by simp [maxL] <;> omega, ?_⟩; refine mks_own iL (.nil _) fun id H o => ?_; simp only [go_sem]; refine awp_for [0, 3] (fun k _ => [(4, some (.int .i64 (k : Int)))]) (fun k _ H => Owns H0 H [(id, .cells 1 ((l.take k).map iL ++ List.replicate (l.length - k) .nilsl) 0)]) l.length () o rfl ?_; rintro k _ H hk o; have hlen : (l.take k).length = k := by simp; omega
 simp only [go_sem]; refine ⟨fun h1 => At.mk ?_, fun h1 => At.mk ?_⟩
 ·have h1 := of_decide h1; have w1 := wsucc (k := k) (by omega); have hsub : l.length - k = (l.length - (k + 1)) + 1 := by omega
  rw [hsub] at o; simp only [go_sem]; refine ⟨h1, (toInt64S_ok ..).go fun _ => ?_⟩; simp only [go_sem]; refine ⟨by omega, ?_⟩; refine st_own (l.getD k default) o rfl (by omega) fun H o => ?_; simp only [go_sem, w1]; exact for_next () (by omega) (by rw [take_succ' l h1]; exact o) rfl
 ·simp only [go_sem]; have h1 := of_ndecide h1; have hsub : l.length - k = 0 := by omega
  rw [hsub] at o; refine fz_made o (by omega) fun H o => ?_; simp only [go_sem]; exact pure_ret (by rw [List.take_of_length_le (by omega)]) o.sub
theorem toInt64SSS_ok (B : Nat) (l : List (List (List Int))) : Pur Tryz.prog B 46 [mL iLL l] (mL iLL l) := by
 refine ⟨fun H0 => c46 (by simp) fun ⟨hf, _⟩ => ?_⟩; have hl := fine_mL_le hf; simp only [maxL] at hl; unfold s46; simp only [go_sem, reduceAdd]; refine ⟨by simp [maxL] <;> omega, ?_⟩; refine mks_own iLL (.nil _) fun id H o => ?_; simp only [go_sem]; refine awp_for [0, 3] (fun k _ => [(4, some (.int .i64 (k : Int)))]) (fun k _ H => Owns H0 H [(id, .cells 1 ((l.take k).map iLL ++ List.replicate (l.length - k) .nilsl) 0)]) l.length () o rfl ?_; rintro k _ H hk o; have hlen : (l.take k).length = k := by simp; omega
 simp only [go_sem]; refine ⟨fun h1 => At.mk ?_, fun h1 => At.mk ?_⟩
 ·have h1 := of_decide h1; have w1 := wsucc (k := k) (by omega); have hsub : l.length - k = (l.length - (k + 1)) + 1 := by omega
  rw [hsub] at o; simp only [go_sem]; refine ⟨h1, (toInt64SS_ok ..).go fun _ => ?_⟩; simp only [go_sem]; refine ⟨by omega, ?_⟩; refine st_own (l.getD k default) o rfl (by omega) fun H o => ?_; simp only [go_sem, w1]; exact for_next () (by omega) (by rw [take_succ' l h1]; exact o) rfl
 ·simp only [go_sem]; have h1 := of_ndecide h1; have hsub : l.length - k = 0 := by omega
  rw [hsub] at o; refine fz_made o (by omega) fun H o => ?_; simp only [go_sem]; exact pure_ret (by rw [List.take_of_length_le (by omega)]) o.sub
theorem toCategory_ok (B : Nat) (c : Cat) : Pur Tryz.prog B 45 [.agg c.cells] (.agg c.cells) := by
 refine ⟨fun H0 => c45 (by simp) fun hf => ?_⟩; unfold s45; simp only [go_sem, reduceAdd]; refine ⟨by simp [maxL], fun i1 n1 => ?_⟩; simp only [go_sem, reduceAdd]; refine ⟨by simp [maxL], fun i2 n2 => ?_⟩; obtain ⟨ne, n2⟩ := get_set_none n2; have en := fun (H : Heap) (o : MObj) => Heap.get_set_ne H o (Ne.symm ne); simp only [go_sem, reduceAdd, reduceLeDiff]; refine (toInt64S_ok ..).go fun _ => ?_; simp only [go_sem, reduceAdd, reduceLeDiff, en]; refine (toInt64S_ok ..).go fun _ => ?_; simp only [go_sem, reduceAdd, reduceLeDiff, en]; refine (toInt64S_ok ..).go fun _ => ?_; simp only [go_sem, reduceAdd, reduceLeDiff, en]; refine (toInt64SS_ok ..).go fun _ => ?_; simp only [go_sem, ↓reduceIte, reduceAdd, reduceLeDiff, en]; refine pure_ret rfl ?_
 repeat (first | exact .refl _ | refine sub_set ?_ n1 | refine sub_set ?_ n2)
theorem toTopology_ok (B : Nat) (j : Top) : Pur Tryz.prog B 13 [.agg j.cells] (.agg j.cells) := by
 refine ⟨fun H0 => c13 (by simp) fun hf => ?_⟩; unfold s13; simp only [go_sem, reduceAdd]; refine ⟨by simp [maxL], fun i1 n1 => ?_⟩; simp only [go_sem, reduceAdd]; refine ⟨by simp [maxL], fun i2 n2 => ?_⟩; obtain ⟨ne, n2⟩ := get_set_none n2; have en := fun (H : Heap) (o : MObj) => Heap.get_set_ne H o (Ne.symm ne); simp only [go_sem, reduceAdd, reduceLeDiff]; refine (toCategory_ok B j.shape).go fun _ => ?_; simp only [go_sem, reduceAdd, reduceLeDiff, en]; refine (toInt64SSS_ok ..).go fun _ => ?_; simp only [go_sem, ↓reduceIte, reduceAdd, reduceLeDiff, en]; refine pure_ret rfl ?_
 repeat (first | exact .refl _ | refine sub_set ?_ n1 | refine sub_set ?_ n2)
theorem toSetFunctor_ok (B : Nat) (f : SF) : Pur Tryz.prog B 14 [.agg f.cells] (.agg f.cells) := by
 refine ⟨fun H0 => c14 (by simp) fun hf => ?_⟩; unfold s14; simp only [go_sem, reduceAdd]; refine ⟨by simp [maxL], fun i1 n1 => ?_⟩; simp only [go_sem, reduceAdd]; refine ⟨by simp [maxL], fun i2 n2 => ?_⟩; obtain ⟨ne, n2⟩ := get_set_none n2; have en := fun (H : Heap) (o : MObj) => Heap.get_set_ne H o (Ne.symm ne); simp only [go_sem, reduceAdd, reduceLeDiff]; refine (toCategory_ok B f.shape).go fun _ => ?_; simp only [go_sem, reduceAdd, reduceLeDiff, en]; refine (toInt64S_ok ..).go fun _ => ?_; simp only [go_sem, reduceAdd, reduceLeDiff, en]; refine (toInt64SS_ok ..).go fun _ => ?_; simp only [go_sem, ↓reduceIte, reduceAdd, reduceLeDiff, en]; refine pure_ret rfl ?_
 repeat (first | exact .refl _ | refine sub_set ?_ n1 | refine sub_set ?_ n2)
theorem toSetMap_ok (B : Nat) (m : SM) : Pur Tryz.prog B 34 [.agg m.cells] (.agg m.cells) := by
 refine ⟨fun H0 => c34 (by simp) fun hf => ?_⟩; unfold s34; simp only [go_sem, reduceAdd]; refine ⟨by simp [maxL], fun i1 n1 => ?_⟩; simp only [go_sem, reduceAdd]; refine ⟨by simp [maxL], fun i2 n2 => ?_⟩; obtain ⟨ne, n2⟩ := get_set_none n2; have en := fun (H : Heap) (o : MObj) => Heap.get_set_ne H o (Ne.symm ne); simp only [go_sem, reduceAdd, reduceLeDiff]; refine (toSetFunctor_ok B m.src).go fun _ => ?_; simp only [go_sem, reduceAdd, reduceLeDiff, en]; refine (toSetFunctor_ok B m.tgt).go fun _ => ?_; simp only [go_sem, reduceAdd, reduceLeDiff, en]; refine (toInt64SS_ok ..).go fun _ => ?_; simp only [go_sem, ↓reduceIte, reduceAdd, reduceLeDiff, en]; refine pure_ret rfl ?_
 repeat (first | exact .refl _ | refine sub_set ?_ n1 | refine sub_set ?_ n2)
theorem l02Own_ok (B : Nat) (c : Cat) : Pur Tryz.prog B 137 [.agg c.cells] (.agg c.cells) := by
 refine ⟨fun H0 => c137 (by simp) fun hf => ?_⟩; unfold s137; simp only [go_sem, reduceAdd]; refine ⟨by simp [maxL], fun i1 n1 => ?_⟩; simp only [go_sem, reduceAdd, reduceLeDiff]; refine ⟨_, (l01Own_ok ..).run, ?_⟩; simp only [go_sem, reduceAdd, reduceLeDiff]; refine ⟨_, (l01Own_ok ..).run, ?_⟩; simp only [go_sem, reduceAdd, reduceLeDiff]; refine ⟨_, (l01Own_ok ..).run, ?_⟩; simp only [go_sem, reduceAdd, reduceLeDiff]; refine ⟨_, (l01Own2_ok ..).run, ?_⟩; simp only [go_sem, ↓reduceIte, reduceAdd, reduceLeDiff]; refine pure_ret rfl ?_
 repeat (first | exact .refl _ | refine sub_set ?_ n1)
theorem catCopy_ok (B : Nat) (c : Cat) : Pur Tryz.prog B 99 [.ptr c.cells] (.agg c.cells) := by
 refine ⟨fun H0 => c99 (by simp) fun hf => ?_⟩; unfold s99; simp only [go_sem, reduceAdd]; refine ⟨by simp [maxL], fun i1 n1 => ?_⟩; simp only [go_sem, reduceAdd, reduceLeDiff]; refine ⟨_, (clone_ok ..).run, ?_⟩; simp only [go_sem, reduceAdd, reduceLeDiff]; refine ⟨_, (clone_ok ..).run, ?_⟩; simp only [go_sem, reduceAdd, reduceLeDiff]; refine ⟨_, (clone_ok ..).run, ?_⟩; simp only [go_sem, reduceAdd, reduceLeDiff]; refine ⟨_, (clones_ok ..).run, ?_⟩; simp only [go_sem, ↓reduceIte, reduceAdd, reduceLeDiff]; refine pure_ret rfl ?_
 repeat (first | exact .refl _ | refine sub_set ?_ n1)
theorem l19Own_ok (B : Nat) (f : SF) : Pur Tryz.prog B 95 [.agg f.cells] (.agg f.cells) := by
 refine ⟨fun H0 => c95 (by simp) fun hf => ?_⟩; unfold s95; simp only [go_sem, reduceAdd]; refine ⟨by simp [maxL], fun i1 n1 => ?_⟩; simp only [go_sem, reduceAdd, reduceLeDiff]; refine ⟨_, (l02Own_ok B f.shape).run, ?_⟩; simp only [go_sem, reduceAdd, reduceLeDiff]; refine ⟨_, (l01Own_ok ..).run, ?_⟩; simp only [go_sem, reduceAdd, reduceLeDiff]; refine ⟨_, (l01Own2_ok ..).run, ?_⟩; simp only [go_sem, ↓reduceIte, reduceAdd, reduceLeDiff]; refine pure_ret rfl ?_
 repeat (first | exact .refl _ | refine sub_set ?_ n1)
theorem l19Make_ok (B : Nat) (f g : SF) (p : List (List Int)) : Pur Tryz.prog B 64 [.agg f.cells, .agg g.cells, iLL p] (.agg (SM.cells ⟨f, g, p⟩)) := by
 refine ⟨fun H0 => c64 (by simp) fun hf => ?_⟩; unfold s64; simp only [go_sem, reduceAdd]; refine ⟨by simp [maxL], fun i1 n1 => ?_⟩; simp only [go_sem, reduceAdd, reduceLeDiff]; refine ⟨_, (l19Own_ok B f).run, ?_⟩; simp only [go_sem, reduceAdd, reduceLeDiff]; refine ⟨_, (l19Own_ok B g).run, ?_⟩; simp only [go_sem, reduceAdd, reduceLeDiff]; refine ⟨_, (l01Own2_ok ..).run, ?_⟩; simp only [go_sem, ↓reduceIte, reduceAdd, reduceLeDiff]; refine pure_ret rfl ?_
 repeat (first | exact .refl _ | refine sub_set ?_ n1)
theorem ends_ok (B : Nat) (c : Cat) (f : Int) (h1 : 0 ≤ f ∧ f.toNat < c.frm.length) (h2 : f.toNat < c.to.length) : Pur Tryz.prog B 182 [.ptr c.cells, .int .i64 f] (.agg [.int .i64 (ix c.frm f), .int .i64 (ix c.to f)]) := by
 refine ⟨fun H0 => c182 (by simp) fun hf => ?_⟩; unfold s182; simp only [go_sem, reduceAdd]; refine fun i1 n1 => ?_; simp only [go_sem, ↓reduceIte, reduceAdd, reduceLeDiff]; refine ⟨h1, ⟨h1.1, h2⟩, ?_⟩; refine pure_ret rfl ?_
 repeat (first | exact .refl _ | refine sub_set ?_ n1)
theorem arrows_ok (B : Nat) (c : Cat) : Pur Tryz.prog B 164 [.ptr c.cells] (.int .i64 c.frm.length) := by
 refine ⟨fun H0 => c164 (by simp) fun hf => ?_⟩; unfold s164; simp only [go_sem, reduceAdd, reduceLeDiff]; exact pure_ret rfl (.refl _)
theorem catThen_ok (B : Nat) (c : Cat) (f g : Int) (h1 : 0 ≤ f ∧ f.toNat < c.comp.length) (h2 : 0 ≤ g ∧ g.toNat < (ix c.comp f).length) :
  Pur Tryz.prog B 103 [.ptr c.cells, .int .i64 f, .int .i64 g] (.int .i64 (ix (ix c.comp f) g)) := by
 refine ⟨fun H0 => c103 (by simp) fun hf => ?_⟩; unfold s103; simp only [go_sem, reduceAdd, reduceLeDiff]; exact ⟨h1, h2, pure_ret rfl (.refl _)⟩
theorem l02Then_ok (B : Nat) (c : Cat) (f g : Int) (h1 : 0 ≤ f ∧ f.toNat < c.comp.length) (h2 : 0 ≤ g ∧ g.toNat < (ix c.comp f).length) :
  Pur Tryz.prog B 139 [.agg c.cells, .int .i64 f, .int .i64 g] (.int .i64 (ix (ix c.comp f) g)) := by
 refine ⟨fun H0 => c139 (by simp) fun hf => ?_⟩; unfold s139; simp only [go_sem, reduceAdd, reduceLeDiff]; exact ⟨h1, h2, pure_ret rfl (.refl _)⟩
theorem l02Ends_ok (B : Nat) (l : List Int) (m : Nat) (n : Int) : Pur Tryz.prog B 173 [iL l, .int .i64 (m : Int), .int .i64 n] (.bool (dec (l.length = m ∧ ∀ y, y ∈ l → 0 ≤ y ∧ y < n))) := by
 refine ⟨fun H0 => c173 (by simp) fun hf => ?_⟩; unfold s173; simp only [go_sem, reduceAdd]; refine ⟨fun h1 => At.mk ?_, fun h1 => At.mk ?_⟩
 ·simp only [go_sem, h1]; have h1p : l.length = m := of_decide h1; refine (l01Map_ok ..).go fun _ => ?_; simp only [go_sem]; exact pure_ret (by congr 1; exact dec_congr ⟨fun h => ⟨h1p, h⟩, fun h => h.2⟩) (.refl _)
 ·simp only [go_sem, h1]; have h1p : ¬ l.length = m := of_ndecide h1; exact pure_ret (by rw [dec_f (fun h => h1p h.1)]) (.refl _)
theorem isMapOf_ok (B : Nat) (l : List Int) (m n : Int) (hn : -9223372036854775808 < n ∧ n ≤ 9223372036854775807) : Pur Tryz.prog B 183 [iL l, .int .i64 m, .int .i64 n] (.bool (dec ((l.length : Int) = m ∧ ∀ y, y ∈ l → 0 ≤ y ∧ y < n))) := by
 refine ⟨fun H0 => c183 (by simp) fun hf => ?_⟩; unfold s183; simp only [go_sem, reduceAdd]; refine ⟨fun h1 => At.mk ?_, fun h1 => At.mk ?_⟩
 ·simp only [go_sem, h1]; have h1p : (l.length : Int) = m := of_decide h1; refine (within_ok B l n hn).go fun _ => ?_; simp only [go_sem]; exact pure_ret (by congr 1; exact dec_congr ⟨fun h => ⟨h1p, h⟩, fun h => h.2⟩) (.refl _)
 ·simp only [go_sem, h1]; have h1p : ¬ (l.length : Int) = m := of_ndecide h1; exact pure_ret (by rw [dec_f (fun h => h1p h.1)]) (.refl _)
theorem eqCategory_ok (B : Nat) (a b : Cat) : Pur Tryz.prog B 51 [.agg a.cells, .agg b.cells] (.bool (dec (a = b))) := by
 refine ⟨fun H0 => c51 (by simp) fun hf => ?_⟩; unfold s51; simp only [go_sem, reduceAdd, reduceLeDiff]; refine ⟨fun h0 => At.mk ?_, fun h0 => At.mk ?_⟩
 ·simp only [go_sem]; have h0p := h0; simp only [bnt, dF] at h0p; exact pure_ret (by rw [dec_f]; rintro rfl; exact h0p rfl) (.refl _)
 have h0p := h0; simp only [bnf, dT] at h0p; simp only [go_sem, reduceAdd, reduceLeDiff]; refine (eqInt64S_ok B a.frm b.frm).go fun _ => ?_; simp only [go_sem]; refine ⟨fun h1 => At.mk ?_, fun h1 => At.mk ?_⟩
 ·simp only [go_sem]; have h1p := h1; simp only [bnt, decf] at h1p; exact pure_ret (by rw [dec_f]; rintro rfl; exact h1p rfl) (.refl _)
 have h1p := h1; simp only [bnf, dect] at h1p; simp only [go_sem, reduceAdd, reduceLeDiff]; refine (eqInt64S_ok B a.to b.to).go fun _ => ?_; simp only [go_sem]; refine ⟨fun h2 => At.mk ?_, fun h2 => At.mk ?_⟩
 ·simp only [go_sem]; have h2p := h2; simp only [bnt, decf] at h2p; exact pure_ret (by rw [dec_f]; rintro rfl; exact h2p rfl) (.refl _)
 have h2p := h2; simp only [bnf, dect] at h2p; simp only [go_sem, reduceAdd, reduceLeDiff]; refine (eqInt64S_ok B a.idn b.idn).go fun _ => ?_; simp only [go_sem]; refine ⟨fun h3 => At.mk ?_, fun h3 => At.mk ?_⟩
 ·simp only [go_sem]; have h3p := h3; simp only [bnt, decf] at h3p; exact pure_ret (by rw [dec_f]; rintro rfl; exact h3p rfl) (.refl _)
 have h3p := h3; simp only [bnf, dect] at h3p; simp only [go_sem, reduceAdd, reduceLeDiff]; refine (eqInt64SS_ok B a.comp b.comp).go fun _ => ?_; simp only [go_sem]; refine ⟨fun h4 => At.mk ?_, fun h4 => At.mk ?_⟩
 ·simp only [go_sem]; have h4p := h4; simp only [bnt, decf] at h4p; exact pure_ret (by rw [dec_f]; rintro rfl; exact h4p rfl) (.refl _)
 have h4p := h4; simp only [bnf, dect] at h4p; simp only [go_sem]; exact pure_ret (by rw [dec_t]; cases a; cases b; simp_all) (.refl _)
theorem eqTopology_ok (B : Nat) (a b : Top) : Pur Tryz.prog B 16 [.agg a.cells, .agg b.cells] (.bool (dec (a = b))) := by
 refine ⟨fun H0 => c16 (by simp) fun hf => ?_⟩; unfold s16; simp only [go_sem, reduceAdd, reduceLeDiff]; refine (eqCategory_ok B a.shape b.shape).go fun _ => ?_; simp only [go_sem]; refine ⟨fun h0 => At.mk ?_, fun h0 => At.mk ?_⟩
 ·simp only [go_sem]; have h0p := h0; simp only [bnt, decf] at h0p; exact pure_ret (by rw [dec_f]; rintro rfl; exact h0p rfl) (.refl _)
 have h0p := h0; simp only [bnf, dect] at h0p; simp only [go_sem, reduceAdd, reduceLeDiff]; refine (eqInt64SSS_ok B a.covers b.covers).go fun _ => ?_; simp only [go_sem]; refine ⟨fun h1 => At.mk ?_, fun h1 => At.mk ?_⟩
 ·simp only [go_sem]; have h1p := h1; simp only [bnt, decf] at h1p; exact pure_ret (by rw [dec_f]; rintro rfl; exact h1p rfl) (.refl _)
 have h1p := h1; simp only [bnf, dect] at h1p; simp only [go_sem]; exact pure_ret (by rw [dec_t]; cases a; cases b; simp_all) (.refl _)
theorem eqSetFunctor_ok (B : Nat) (a b : SF) : Pur Tryz.prog B 17 [.agg a.cells, .agg b.cells] (.bool (dec (a = b))) := by
 refine ⟨fun H0 => c17 (by simp) fun hf => ?_⟩; unfold s17; simp only [go_sem, reduceAdd, reduceLeDiff]; refine (eqCategory_ok B a.shape b.shape).go fun _ => ?_; simp only [go_sem]; refine ⟨fun h0 => At.mk ?_, fun h0 => At.mk ?_⟩
 ·simp only [go_sem]; have h0p := h0; simp only [bnt, decf] at h0p; exact pure_ret (by rw [dec_f]; rintro rfl; exact h0p rfl) (.refl _)
 have h0p := h0; simp only [bnf, dect] at h0p; simp only [go_sem, reduceAdd, reduceLeDiff]; refine (eqInt64S_ok B a.sizes b.sizes).go fun _ => ?_; simp only [go_sem]; refine ⟨fun h1 => At.mk ?_, fun h1 => At.mk ?_⟩
 ·simp only [go_sem]; have h1p := h1; simp only [bnt, decf] at h1p; exact pure_ret (by rw [dec_f]; rintro rfl; exact h1p rfl) (.refl _)
 have h1p := h1; simp only [bnf, dect] at h1p; simp only [go_sem, reduceAdd, reduceLeDiff]; refine (eqInt64SS_ok B a.acts b.acts).go fun _ => ?_; simp only [go_sem]; refine ⟨fun h2 => At.mk ?_, fun h2 => At.mk ?_⟩
 ·simp only [go_sem]; have h2p := h2; simp only [bnt, decf] at h2p; exact pure_ret (by rw [dec_f]; rintro rfl; exact h2p rfl) (.refl _)
 have h2p := h2; simp only [bnf, dect] at h2p; simp only [go_sem]; exact pure_ret (by rw [dec_t]; cases a; cases b; simp_all) (.refl _)
theorem eqSetMap_ok (B : Nat) (a b : SM) : Pur Tryz.prog B 27 [.agg a.cells, .agg b.cells] (.bool (dec (a = b))) := by
 refine ⟨fun H0 => c27 (by simp) fun hf => ?_⟩; unfold s27; simp only [go_sem, reduceAdd, reduceLeDiff]; refine (eqSetFunctor_ok B a.src b.src).go fun _ => ?_; simp only [go_sem]; refine ⟨fun h0 => At.mk ?_, fun h0 => At.mk ?_⟩
 ·simp only [go_sem]; have h0p := h0; simp only [bnt, decf] at h0p; exact pure_ret (by rw [dec_f]; rintro rfl; exact h0p rfl) (.refl _)
 have h0p := h0; simp only [bnf, dect] at h0p; simp only [go_sem, reduceAdd, reduceLeDiff]; refine (eqSetFunctor_ok B a.tgt b.tgt).go fun _ => ?_; simp only [go_sem]; refine ⟨fun h1 => At.mk ?_, fun h1 => At.mk ?_⟩
 ·simp only [go_sem]; have h1p := h1; simp only [bnt, decf] at h1p; exact pure_ret (by rw [dec_f]; rintro rfl; exact h1p rfl) (.refl _)
 have h1p := h1; simp only [bnf, dect] at h1p; simp only [go_sem, reduceAdd, reduceLeDiff]; refine (eqInt64SS_ok B a.parts b.parts).go fun _ => ?_; simp only [go_sem]; refine ⟨fun h2 => At.mk ?_, fun h2 => At.mk ?_⟩
 ·simp only [go_sem]; have h2p := h2; simp only [bnt, decf] at h2p; exact pure_ret (by rw [dec_f]; rintro rfl; exact h2p rfl) (.refl _)
 have h2p := h2; simp only [bnf, dect] at h2p; simp only [go_sem]; exact pure_ret (by rw [dec_t]; cases a; cases b; simp_all) (.refl _)
structure CellOk (c : Cat) (f g : Nat) : Prop where
 non : c.to.getD f default ≠ c.frm.getD g default → (c.comp.getD f default).getD g default = -1
 yes : c.to.getD f default = c.frm.getD g default →
  (0 ≤ (c.comp.getD f default).getD g default ∧ (c.comp.getD f default).getD g default < c.frm.length) ∧
  ix c.frm ((c.comp.getD f default).getD g default) = c.frm.getD f default ∧ ix c.to ((c.comp.getD f default).getD g default) = c.to.getD g default
structure RowOk (c : Cat) (f : Nat) : Prop where
 row : (c.comp.getD f default).length = c.frm.length
 cell : ∀ g, g < c.frm.length → CellOk c f g
theorem IsShape_ok (B : Nat) (c : Cat) : Pur Tryz.prog B 146 [.agg c.cells] (.bool (dec c.Shape)) := by
 refine ⟨fun H0 => c146 (by simp) fun ⟨hf, _⟩ => ?_⟩; have hl := fine_mL_le (hf.agg (c := iL c.frm) (by simp [Cat.cells])); have hl2 := fine_mL_le (hf.agg (c := iL c.idn) (by simp [Cat.cells])); simp only [maxL] at hl hl2; unfold s146; simp only [go_sem, reduceAdd, reduceLeDiff]; refine (l01In_ok ..).go fun _ => ?_; simp only [go_sem]; refine ⟨fun h1 => At.mk ?_, fun h1 => At.mk ?_⟩; rotate_left
 ·simp only [go_sem, h1]; have h1p := h1; simp only [bnt, decf] at h1p; exact pure_ret (by rw [dec_f]; intro s; exact h1p s.o) (.refl _)
 simp only [go_sem, h1]; have h1p := h1; simp only [bnf, dect] at h1p; refine ⟨fun h2 => At.mk ?_, fun h2 => At.mk ?_⟩; rotate_left
 ·simp only [go_sem, h2]; have h2p := h2; simp only [dT] at h2p; exact pure_ret (by rw [dec_f]; intro s; have := s.m; omega) (.refl _)
 simp only [go_sem, reduceAdd, reduceLeDiff, h2]; have h2p := h2; simp only [dF, Int.not_lt] at h2p; have h2q : c.frm.length ≤ 40 := by omega
 refine (l02Ends_ok ..).go fun _ => ?_; simp only [go_sem]; refine ⟨fun h3 => At.mk ?_, fun h3 => At.mk ?_⟩; rotate_left
 ·simp only [go_sem, h3]; have h3p := h3; simp only [bnt, decf] at h3p; exact pure_ret (by rw [dec_f]; intro s; exact h3p s.frm) (.refl _)
 simp only [go_sem, reduceAdd, reduceLeDiff, h3]; have h3p := h3; simp only [bnf, dect] at h3p; refine (l02Ends_ok ..).go fun _ => ?_; simp only [go_sem]; refine ⟨fun h4 => At.mk ?_, fun h4 => At.mk ?_⟩; rotate_left
 ·simp only [go_sem, h4]; have h4p := h4; simp only [bnt, decf] at h4p; exact pure_ret (by rw [dec_f]; intro s; exact h4p ⟨s.tol, s.to⟩) (.refl _)
 simp only [go_sem, reduceAdd, reduceLeDiff, h4]; have h4p := h4; simp only [bnf, dect] at h4p; refine ⟨fun h5 => At.mk ?_, fun h5 => At.mk ?_⟩
 ·simp only [go_sem, h5]; have h5p := h5; simp only [bnt, dF] at h5p; exact pure_ret (by rw [dec_f]; intro s; exact h5p s.cl) (.refl _)
 simp only [go_sem, reduceAdd, reduceLeDiff, h5]; have h5p := h5; simp only [bnf, dT] at h5p; refine ⟨fun h6 => At.mk ?_, fun h6 => At.mk ?_⟩; rotate_left
 ·simp only [go_sem, h6]; have h6p := h6; simp only [bnt, dF] at h6p; exact pure_ret (by rw [dec_f]; intro s; exact h6p s.il) (.refl _)
 simp only [go_sem, reduceAdd, reduceLeDiff, h6]; have h6p := h6; simp only [bnf, dT] at h6p; refine (l01Map_ok ..).go fun _ => ?_; simp only [go_sem]; refine ⟨fun h7 => At.mk ?_, fun h7 => At.mk ?_⟩
 ·simp only [go_sem, h7]; have h7p := h7; simp only [bnt, decf] at h7p; exact pure_ret (by rw [dec_f]; intro s; exact h7p s.idn) (.refl _)
 simp only [go_sem, h7]; have h7p := h7; simp only [bnf, dect] at h7p; refine awp_for [1, 3] (fun k _ => [(4, some (.int .i64 (k : Int)))]) (fun k _ H => H = H0 ∧ ∀ i, i < k → ix c.frm (c.idn.getD i default) = i ∧ ix c.to (c.idn.getD i default) = i) c.idn.length () ⟨rfl, by simp⟩ rfl ?_; rintro k _ H hk ⟨rfl, hall⟩; simp only [go_sem, reduceAdd, reduceLeDiff]; refine ⟨fun g1 => At.mk ?_, fun g1 => At.mk ?_⟩
 ·have g1p := g1; simp only [dT] at g1p; have w1 := wsucc (k := k) (by omega); have hk1 : k < c.idn.length := by omega
  have hx := h7p _ (mem_getD.mpr ⟨k, hk1, rfl⟩); simp only [go_sem, reduceAdd, reduceLeDiff]; refine ⟨hk1, ⟨hx.1, by omega⟩, ?_⟩; refine ⟨fun g2 => At.mk ?_, fun g2 => At.mk ?_⟩; rotate_left
  ·simp only [go_sem, g2]; have g2p := g2; simp only [bnt, dF] at g2p; exact pure_ret (by rw [dec_f]; intro s; exact g2p (s.ide k hk1).1) (.refl _)
  simp only [go_sem, reduceAdd, reduceLeDiff, g2]; have g2p := g2; simp only [bnf, dT] at g2p; refine ⟨hk1, ⟨hx.1, by omega⟩, ?_⟩; refine ⟨fun g3 => At.mk ?_, fun g3 => At.mk ?_⟩
  ·simp only [go_sem, g3]; have g3p := g3; simp only [bnt, dF] at g3p; exact pure_ret (by rw [dec_f]; intro s; exact g3p (s.ide k hk1).2) (.refl _)
  simp only [go_sem, g3, w1]; have g3p := g3; simp only [bnf, dT] at g3p; exact for_next () hk1 ⟨rfl, lt_succ_all hall ⟨g2p, g3p⟩⟩ rfl
 have g1p := g1; simp only [dF, Int.not_lt] at g1p; have hkk : k = c.idn.length := by omega
 subst hkk; simp only [go_sem]; refine awp_for [1, 3] (fun k _ => [(5, some (.int .i64 (k : Int)))]) (fun k _ H' => H' = H ∧ ∀ f, f < k → RowOk c f) c.frm.length () ⟨rfl, by simp⟩ rfl ?_; rintro f _ H' hfm ⟨rfl, hrow⟩; simp only [go_sem]; refine ⟨fun g2 => At.mk ?_, fun g2 => At.mk ?_⟩; rotate_left
 ·simp only [go_sem, g2]; have g2p := g2; simp only [dF, Nat.not_lt] at g2p; have hff : f = c.frm.length := by omega
  subst hff; refine pure_ret ?_ (.refl _); rw [dec_t]; exact ⟨h1p, by omega, h3p, h4p.1, h4p.2, h5p, h6p, h7p, hall, fun f hf => (hrow f hf).row, fun f g hf hg => ((hrow f hf).cell g hg).non, fun f g hf hg => ((hrow f hf).cell g hg).yes⟩
 have g2p := g2; simp only [dT] at g2p; have wf := wsucc (k := f) (by omega); have hfc : f < c.comp.length := by omega
 have hft : f < c.to.length := by omega
 simp only [go_sem, reduceAdd, reduceLeDiff]; refine ⟨hfc, ?_⟩; refine ⟨fun g3 => At.mk ?_, fun g3 => At.mk ?_⟩
 ·simp only [go_sem, g3]; have g3p := g3; simp only [bnt, dF] at g3p; exact pure_ret (by rw [dec_f]; intro s; exact g3p (s.row f g2p)) (.refl _)
 simp only [go_sem, g3]; have g3p := g3; simp only [bnf, dT] at g3p; refine awp_for [1, 3, 5] (fun k _ => [(6, some (.int .i64 (k : Int)))]) (fun k _ H => H = H' ∧ ∀ g, g < k → CellOk c f g) c.frm.length () ⟨rfl, by simp⟩ rfl ?_; rintro g _ H hgm ⟨rfl, hcell⟩; simp only [go_sem]; refine ⟨fun g4 => At.mk ?_, fun g4 => At.mk ?_⟩; rotate_left
 ·simp only [go_sem, g4, wf]; have g4p := g4; simp only [dF, Nat.not_lt] at g4p; have hff : g = c.frm.length := by omega
  subst hff; exact for_next () g2p ⟨rfl, lt_succ_all hrow ⟨g3p, hcell⟩⟩ rfl
 have g4p := g4; simp only [dT] at g4p; have wg := wsucc (k := g) (by omega); have hgr : g < (c.comp.getD f default).length := by omega
 simp only [go_sem, reduceAdd, reduceLeDiff]; refine ⟨hfc, hgr, hft, g4p, ?_⟩; refine ⟨fun g5 => At.mk ?_, fun g5 => At.mk ?_⟩
 ·have g5p := g5; simp only [bnt, dF] at g5p; simp only [go_sem]; refine ⟨fun g6 => At.mk ?_, fun g6 => At.mk ?_⟩
  ·simp only [go_sem]; have g6p := g6; simp only [bnt, dF] at g6p; exact pure_ret (by rw [dec_f]; intro s; exact g6p (s.non f g g2p g4p g5p)) (.refl _)
  ·have g6p := g6; simp only [bnf, dT] at g6p; simp only [go_sem, wg]; exact for_next () g4p ⟨rfl, lt_succ_all hcell ⟨fun _ => g6p, fun e => absurd e g5p⟩⟩ rfl
 have g5p := g5; simp only [bnf, dT] at g5p; have hbad : ¬ ((0 ≤ (c.comp.getD f default).getD g default ∧ (c.comp.getD f default).getD g default < c.frm.length) ∧
  ix c.frm ((c.comp.getD f default).getD g default) = c.frm.getD f default ∧ ix c.to ((c.comp.getD f default).getD g default) = c.to.getD g default) → dec c.Shape = false :=
  fun h => dec_f fun s => h (s.yes f g g2p g4p g5p)
 simp only [go_sem]; refine ⟨fun g6 => At.mk ?_, fun g6 => At.mk ?_⟩; rotate_left
 ·simp only [go_sem, g6]; have g6p := g6; simp only [dT] at g6p; exact pure_ret (by rw [hbad]; intro h; omega) (.refl _)
 simp only [go_sem, g6]; have g6p := g6; simp only [dF, Int.not_lt] at g6p; refine ⟨fun g7 => At.mk ?_, fun g7 => At.mk ?_⟩; rotate_left
 ·simp only [go_sem, g7]; have g7p := g7; simp only [dT] at g7p; exact pure_ret (by rw [hbad]; intro h; omega) (.refl _)
 simp only [go_sem, reduceAdd, reduceLeDiff, g7]; have g7p := g7; simp only [dF, Int.not_le] at g7p; refine ⟨⟨g6p, by omega⟩, g2p, ?_⟩; refine ⟨fun g8 => At.mk ?_, fun g8 => At.mk ?_⟩; rotate_left
 ·simp only [go_sem, g8]; have g8p := g8; simp only [bnt, dF] at g8p; exact pure_ret (by rw [hbad]; intro h; exact g8p h.2.1) (.refl _)
 simp only [go_sem, reduceAdd, reduceLeDiff, g8]; have g8p := g8; simp only [bnf, dT] at g8p; refine ⟨⟨g6p, by omega⟩, by omega, ?_⟩; refine ⟨fun g9 => At.mk ?_, fun g9 => At.mk ?_⟩
 ·simp only [go_sem, g9]; have g9p := g9; simp only [bnt, dF] at g9p; exact pure_ret (by rw [hbad]; intro h; exact g9p h.2.2) (.refl _)
 simp only [go_sem, g9, wg]; have g9p := g9; simp only [bnf, dT] at g9p; exact for_next () g4p ⟨rfl, lt_succ_all hcell ⟨fun h => absurd g5p h, fun _ => ⟨⟨g6p, by omega⟩, g8p, g9p⟩⟩⟩ rfl
theorem isShape_ok (B : Nat) (c : Cat) : Pur Tryz.prog B 160 [.ptr c.cells] (.bool (dec c.Shape)) := by
 refine ⟨fun H0 => c160 (by simp) fun ⟨hf, _⟩ => ?_⟩; have hl := fine_mL_le (hf.ptr (c := iL c.frm) (by simp [Cat.cells])); have hl2 := fine_mL_le (hf.ptr (c := iL c.idn) (by simp [Cat.cells])); have hl3 := fine_mL_le (hf.ptr (c := iLL c.comp) (by simp [Cat.cells])); simp only [maxL] at hl hl2 hl3; unfold s160; simp only [go_sem, reduceAdd]; refine (arrows_ok B c).go fun _ => ?_; simp only [go_sem, reduceAdd, reduceLeDiff]; refine ⟨_, (inRange_ok ..).run, ?_⟩; simp only [go_sem]; refine ⟨fun h1 => At.mk ?_, fun h1 => At.mk ?_⟩; rotate_left
 ·simp only [go_sem, h1]; have h1p := h1; simp only [bnt, decf] at h1p; exact pure_ret (by rw [dec_f]; intro s; exact h1p s.o) (.refl _)
 simp only [go_sem, h1]; have h1p := h1; simp only [bnf, dect] at h1p; refine ⟨fun h2 => At.mk ?_, fun h2 => At.mk ?_⟩; rotate_left
 ·simp only [go_sem, h2]; have h2p := h2; simp only [dT] at h2p; exact pure_ret (by rw [dec_f]; intro s; have := s.m; omega) (.refl _)
 simp only [go_sem, reduceAdd, reduceLeDiff, h2]; have h2p := h2; simp only [dF, Int.not_lt] at h2p; have h2q : c.frm.length ≤ 40 := by omega
 refine ⟨fun h3 => At.mk ?_, fun h3 => At.mk ?_⟩; rotate_left
 ·simp only [go_sem, h3]; have h3p := h3; simp only [bnt, dF] at h3p; exact pure_ret (by rw [dec_f]; intro s; exact h3p s.tol) (.refl _)
 simp only [go_sem, reduceAdd, reduceLeDiff, h3]; have h3p := h3; simp only [bnf, dT] at h3p; refine ⟨_, (within_ok B c.frm c.objs (by omega)).run, ?_⟩; simp only [go_sem]; refine ⟨fun h4 => At.mk ?_, fun h4 => At.mk ?_⟩; rotate_left
 ·simp only [go_sem, h4]; have h4p := h4; simp only [bnt, decf] at h4p; exact pure_ret (by rw [dec_f]; intro s; exact h4p s.frm) (.refl _)
 simp only [go_sem, reduceAdd, reduceLeDiff, h4]; have h4p := h4; simp only [bnf, dect] at h4p; refine ⟨_, (within_ok B c.to c.objs (by omega)).run, ?_⟩; simp only [go_sem]; refine ⟨fun h5 => At.mk ?_, fun h5 => At.mk ?_⟩
 ·simp only [go_sem, h5]; have h5p := h5; simp only [bnt, decf] at h5p; exact pure_ret (by rw [dec_f]; intro s; exact h5p s.to) (.refl _)
 simp only [go_sem, reduceAdd, reduceLeDiff, h5]; have h5p := h5; simp only [bnf, dect] at h5p; refine ⟨fun h6 => At.mk ?_, fun h6 => At.mk ?_⟩; rotate_left
 ·simp only [go_sem, h6]; have h6p := h6; simp only [bnt, dF] at h6p; exact pure_ret (by rw [dec_f]; intro s; exact h6p s.il) (.refl _)
 simp only [go_sem, reduceAdd, reduceLeDiff, h6]; have h6p := h6; simp only [bnf, dT] at h6p; refine ⟨_, (within_ok B c.idn c.frm.length (by omega)).run, ?_⟩; simp only [go_sem]; refine ⟨fun h7 => At.mk ?_, fun h7 => At.mk ?_⟩; rotate_left
 ·simp only [go_sem, h7]; have h7p := h7; simp only [bnt, decf] at h7p; exact pure_ret (by rw [dec_f]; intro s; exact h7p s.idn) (.refl _)
 simp only [go_sem, reduceAdd, reduceLeDiff, h7]; have h7p := h7; simp only [bnf, dect] at h7p; refine ⟨fun h8 => At.mk ?_, fun h8 => At.mk ?_⟩
 ·simp only [go_sem, h8]; have h8p := h8; simp only [bnt, dF] at h8p; exact pure_ret (by rw [dec_f]; intro s; exact h8p s.cl) (.refl _)
 simp only [go_sem, reduceAdd, reduceLeDiff, h8]; have h8p := h8; simp only [bnf, dT] at h8p; refine awp_for [0, 3, 86, 87] (fun k _ => [(88, some (.int .i64 (k : Int)))]) (fun k _ H => H = H0 ∧ ∀ i, i < k → ix c.frm (c.idn.getD i default) = i ∧ ix c.to (c.idn.getD i default) = i) c.idn.length () ⟨rfl, by simp⟩ rfl ?_; rintro k _ H hk ⟨rfl, hall⟩; simp only [go_sem]; refine ⟨fun g1 => At.mk ?_, fun g1 => At.mk ?_⟩
 ·have g1p := g1; simp only [dT] at g1p; have w1 := wsucc (k := k) (by omega); have hx := h7p _ (mem_getD.mpr ⟨k, g1p, rfl⟩); simp only [go_sem]; refine ⟨g1p, (ends_ok B c (c.idn.getD k default) ⟨hx.1, by omega⟩ (by omega)).go fun _ => ?_⟩; simp only [go_sem, reduceAdd, reduceLeDiff]; refine ⟨fun g2 => At.mk ?_, fun g2 => At.mk ?_⟩
  ·simp only [go_sem, g2]; have g2p := g2; simp only [bnt, decf] at g2p; exact pure_ret (by rw [dec_f]; intro s; exact g2p (s.ide k g1p)) (.refl _)
  simp only [go_sem, g2, w1]; have g2p := g2; simp only [bnf, dect] at g2p; exact for_next () g1p ⟨rfl, lt_succ_all hall g2p⟩ rfl
 have g1p := g1; simp only [dF, Nat.not_lt] at g1p; have hkk : k = c.idn.length := by omega
 subst hkk; simp only [go_sem, reduceAdd, reduceLeDiff]; refine awp_for [0, 3, 104, 105] (fun k _ => [(106, some (.int .i64 (k : Int)))]) (fun k _ H' => H' = H ∧ ∀ f, f < k → RowOk c f) c.comp.length () ⟨rfl, by simp⟩ rfl ?_; rintro f _ H' hfm ⟨rfl, hrow⟩; simp only [go_sem]; refine ⟨fun g2 => At.mk ?_, fun g2 => At.mk ?_⟩; rotate_left
 ·simp only [go_sem, g2]; have g2p := g2; simp only [dF, Nat.not_lt] at g2p; have hff : f = c.frm.length := by omega
  subst hff; refine pure_ret ?_ (.refl _); rw [dec_t]; exact ⟨h1p, by omega, h4p, h3p, h5p, h8p, h6p, h7p, hall, fun f hf => (hrow f hf).row, fun f g hf hg => ((hrow f hf).cell g hg).non, fun f g hf hg => ((hrow f hf).cell g hg).yes⟩
 have g2p := g2; simp only [dT] at g2p; have wf := wsucc (k := f) (by omega); have hff : f < c.frm.length := by omega
 have hft : f < c.to.length := by omega
 simp only [go_sem]; refine ⟨g2p, ?_⟩; refine ⟨fun g3 => At.mk ?_, fun g3 => At.mk ?_⟩
 ·simp only [go_sem, g3]; have g3p := g3; simp only [bnt, dF] at g3p; exact pure_ret (by rw [dec_f]; intro s; exact g3p (s.row f hff)) (.refl _)
 simp only [go_sem, g3]; have g3p := g3; simp only [bnf, dT] at g3p; refine awp_for [0, 3, 6, 104, 105, 106, 115, 116] (fun k _ => [(117, some (.int .i64 (k : Int)))]) (fun k _ H => H = H' ∧ ∀ g, g < k → CellOk c f g) (c.comp.getD f default).length () ⟨rfl, by simp⟩ rfl ?_; rintro g _ H hgm ⟨rfl, hcell⟩; simp only [go_sem]; refine ⟨fun g4 => At.mk ?_, fun g4 => At.mk ?_⟩; rotate_left
 ·simp only [go_sem, g4, wf]; have g4p := g4; simp only [dF, Nat.not_lt] at g4p; have hge : g = c.frm.length := by omega
  subst hge; exact for_next () g2p ⟨rfl, lt_succ_all hrow ⟨g3p, hcell⟩⟩ rfl
 have g4p := g4; simp only [dT] at g4p; have wg := wsucc (k := g) (by omega); have hgf : g < c.frm.length := by omega
 simp only [go_sem, reduceAdd, reduceLeDiff]; refine ⟨g4p, hft, hgf, ?_⟩; refine ⟨fun g5 => At.mk ?_, fun g5 => At.mk ?_⟩
 ·have g5p := g5; simp only [bnt, dF] at g5p; simp only [go_sem]; refine ⟨fun g6 => At.mk ?_, fun g6 => At.mk ?_⟩
  ·simp only [go_sem]; have g6p := g6; simp only [bnt, dF] at g6p; exact pure_ret (by rw [dec_f]; intro s; exact g6p (s.non f g hff hgf g5p)) (.refl _)
  ·have g6p := g6; simp only [bnf, dT] at g6p; simp only [go_sem, wg]; exact for_next () g4p ⟨rfl, lt_succ_all hcell ⟨fun _ => g6p, fun e => absurd e g5p⟩⟩ rfl
 have g5p := g5; simp only [bnf, dT] at g5p; have hbad : ¬ ((0 ≤ (c.comp.getD f default).getD g default ∧ (c.comp.getD f default).getD g default < c.frm.length) ∧
  ix c.frm ((c.comp.getD f default).getD g default) = c.frm.getD f default ∧ ix c.to ((c.comp.getD f default).getD g default) = c.to.getD g default) → dec c.Shape = false :=
  fun h => dec_f fun s => h (s.yes f g hff hgf g5p)
 have wn : IntKind.i64.wrap ((c.frm.length : Int) - 1) = (c.frm.length : Int) - 1 := wrap_i64 (by omega) (by omega); simp only [go_sem, wn]; refine ⟨_, (inRange_ok ..).run, ?_⟩; simp only [go_sem]; refine ⟨fun g6 => At.mk ?_, fun g6 => At.mk ?_⟩; rotate_left
 ·simp only [go_sem, g6]; have g6p := g6; simp only [bnt, decf] at g6p; exact pure_ret (by rw [hbad]; intro h; omega) (.refl _)
 simp only [go_sem, reduceAdd, reduceLeDiff, g6]; have g6p := g6; simp only [bnf, dect] at g6p; refine ⟨_, (ends_ok B c _ ⟨g6p.1, by omega⟩ (by omega)).run, hff, by omega, ?_⟩; simp only [go_sem]; refine ⟨fun g7 => At.mk ?_, fun g7 => At.mk ?_⟩
 ·simp only [go_sem, g7]; have g7p := g7; simp only [bnt, decf] at g7p; exact pure_ret (by rw [hbad]; intro h; exact g7p h.2) (.refl _)
 simp only [go_sem, g7, wg]; have g7p := g7; simp only [bnf, dect] at g7p; exact for_next () g4p ⟨rfl, lt_succ_all hcell ⟨fun h => absurd g5p h, fun _ => ⟨⟨g6p.1, by omega⟩, g7p⟩⟩⟩ rfl
theorem l02Fault_ok (B : Nat) (c : Cat) (s : c.Shape) (H0 : Heap) : CallH Tryz.prog B 147 [.agg c.cells] H0 (faultK c.Laws H0) := by
 refine c147 (by simp) fun ⟨hf, _⟩ => ?_; have hm := s.m; have hcl := s.cl; have htl := s.tol; unfold s147; simp only [go_sem, reduceAdd, reduceLeDiff]; refine awp_for [1, 6] (fun k _ => [(7, some (.int .i64 (k : Int)))]) (fun k _ H => H = H0 ∧ ∀ f, f < k → c.IdAt f) c.frm.length () ⟨rfl, by simp⟩ rfl ?_; rintro f _ H hfm ⟨rfl, hid⟩; simp only [go_sem]; refine ⟨fun g1 => At.mk ?_, fun g1 => At.mk ?_⟩
 ·have g1p := g1; simp only [dT] at g1p; have wf := wsucc (k := f) (by omega); have a1 := s.frm' g1p; have a2 := s.id' a1.2; have a3 := s.row' a2.2; have b1 := s.to' g1p; have b2 := s.id' b1.2; have b3 := s.row f g1p; simp only [go_sem, reduceAdd, reduceLeDiff]; refine ⟨g1p, a1, ⟨a2.1, by omega⟩, by omega, ?_⟩; refine ⟨fun g2 => At.mk ?_, fun g2 => At.mk ?_⟩; rotate_left
  ·simp only [go_sem, g2]; have g2p := g2; simp only [bnt, dF] at g2p; exact fault_ret (by constructor; (intro h; cases h); intro l; exact absurd (l.idl f g1p).1 g2p) (.refl _)
  simp only [go_sem, reduceAdd, reduceLeDiff, g2]; have g2p := g2; simp only [bnf, dT] at g2p; refine ⟨by omega, by omega, b1, ⟨b2.1, by omega⟩, ?_⟩; refine ⟨fun g3 => At.mk ?_, fun g3 => At.mk ?_⟩
  ·simp only [go_sem, g3]; have g3p := g3; simp only [bnt, dF] at g3p; exact fault_ret (by constructor; (intro h; cases h); intro l; exact absurd (l.idl f g1p).2 g3p) (.refl _)
  simp only [go_sem, g3, wf]; have g3p := g3; simp only [bnf, dT] at g3p; exact for_next () g1p ⟨rfl, lt_succ_all hid ⟨g2p, g3p⟩⟩ rfl
 have g1p := g1; simp only [dF, Nat.not_lt] at g1p; have hff : f = c.frm.length := by omega
 subst hff; simp only [go_sem]; refine awp_for [1, 6] (fun k _ => [(8, some (.int .i64 (k : Int)))]) (fun k _ H' => H' = H ∧ ∀ f, f < k → ∀ g, g < c.frm.length → ∀ h, h < c.frm.length → c.AssocAt f g h) c.frm.length () ⟨rfl, by simp⟩ rfl ?_; rintro f _ H' hfm ⟨rfl, hF⟩; simp only [go_sem]; refine ⟨fun g1 => At.mk ?_, fun g1 => At.mk ?_⟩; rotate_left
 ·simp only [go_sem]; have g1p := g1; simp only [dF, Nat.not_lt] at g1p; exact fault_ret (by simp only [true_iff]; exact ⟨hid, fun f g h hf hg hh => hF f (by omega) g hg h hh⟩) (.refl _)
 have g1p := g1; simp only [dT] at g1p; have wf := wsucc (k := f) (by omega); have rf := s.row f g1p; simp only [go_sem]; refine awp_for [1, 6, 8] (fun k _ => [(9, some (.int .i64 (k : Int)))]) (fun k _ H => H = H' ∧ ∀ g, g < k → ∀ h, h < c.frm.length → c.AssocAt f g h) c.frm.length () ⟨rfl, by simp⟩ rfl ?_; rintro g _ H hgm ⟨rfl, hG⟩; simp only [go_sem]; refine ⟨fun g2 => At.mk ?_, fun g2 => At.mk ?_⟩; rotate_left
 ·simp only [go_sem, wf]; have g2p := g2; simp only [dF, Nat.not_lt] at g2p; exact for_next () g1p ⟨rfl, lt_succ_all hF fun g hg => hG g (by omega)⟩ rfl
 have g2p := g2; simp only [dT] at g2p; have wg := wsucc (k := g) (by omega); have rg := s.row g g2p; simp only [go_sem, reduceAdd, reduceLeDiff]; refine ⟨by omega, g2p, ?_⟩; refine ⟨fun g3 => At.mk ?_, fun g3 => At.mk ?_⟩
 ·simp only [go_sem, wg]; have g3p := g3; simp only [bnt, dF] at g3p; exact for_next () g2p ⟨rfl, lt_succ_all hG fun h hh e => absurd e g3p⟩ rfl
 have g3p := g3; simp only [bnf, dT] at g3p; simp only [go_sem]; refine awp_for [1, 6, 8, 9] (fun k _ => [(10, some (.int .i64 (k : Int)))]) (fun k _ H' => H' = H ∧ ∀ h, h < k → c.AssocAt f g h) c.frm.length () ⟨rfl, by simp⟩ rfl ?_; rintro h _ H' hhm ⟨rfl, hA⟩; simp only [go_sem]; refine ⟨fun g4 => At.mk ?_, fun g4 => At.mk ?_⟩; rotate_left
 ·simp only [go_sem, wg]; have g4p := g4; simp only [dF, Nat.not_lt] at g4p; exact for_next () g2p ⟨rfl, lt_succ_all hG fun h hh => hA h (by omega)⟩ rfl
 have g4p := g4; simp only [dT] at g4p; have wh := wsucc (k := h) (by omega); simp only [go_sem, reduceAdd, reduceLeDiff]; refine ⟨by omega, g4p, ?_⟩; refine ⟨fun g5 => At.mk ?_, fun g5 => At.mk ?_⟩
 ·simp only [go_sem, reduceAdd, reduceLeDiff, g5]; have g5p := g5; simp only [dT] at g5p; have c1 := (s.pos g1p g2p).mpr g3p; have c2 := s.lt g1p g2p; have c3 := s.row' c2; have d1 := (s.pos g2p g4p).mpr g5p; have d2 := s.lt g2p g4p; refine ⟨by omega, by omega, ⟨c1, by omega⟩, by omega, by omega, by omega, by omega, ⟨d1, by omega⟩, ?_⟩; refine ⟨fun g6 => At.mk ?_, fun g6 => At.mk ?_⟩
  ·simp only [go_sem, g6]; have g6p := g6; simp only [bnt, dF] at g6p; exact fault_ret (by constructor; (intro h; cases h); intro l; exact absurd (l.assoc f g h g1p g2p g4p g3p g5p) g6p) (.refl _)
  ·simp only [go_sem, g6, wh]; have g6p := g6; simp only [bnf, dT] at g6p; exact for_next () g4p ⟨rfl, lt_succ_all hA fun _ _ => g6p⟩ rfl
 ·simp only [go_sem, g5, wh]; have g5p := g5; simp only [dF] at g5p; exact for_next () g4p ⟨rfl, lt_succ_all hA fun _ e => absurd e g5p⟩ rfl
theorem l02Is_ok (B : Nat) (c : Cat) : Pur Tryz.prog B 110 [.agg c.cells] (.bool (dec c.Is)) := by
 refine ⟨fun H0 => c110 (by simp) fun hf => ?_⟩; unfold s110; simp only [go_sem, reduceAdd]; refine (IsShape_ok B c).go fun _ => ?_; simp only [go_sem]; refine ⟨fun h1 => At.mk ?_, fun h1 => At.mk ?_⟩
 ·simp only [go_sem]; have h1p := h1; simp only [bnt, decf] at h1p; exact pure_ret (by rw [dec_f]; intro s; exact h1p s.1) (.refl _)
 have h1p := h1; simp only [bnf, dect] at h1p; simp only [go_sem, reduceAdd]; refine (l02Fault_ok B c h1p H0).mono' ?_; rintro _ _ _ ⟨rfl, k, a, b, d, rfl, hk⟩; simp only [go_sem, reduceAdd, reduceLT]; exact pure_ret (by rw [decide_dec]; congr 1; exact dec_congr ⟨fun h => ⟨h1p, hk.mp h⟩, fun h => hk.mpr h.2⟩) (.refl _)
theorem ix_nat2 {α : Type} [Inhabited α] (l : List α) (k : Nat) : ix l (k : Int) = l.getD k default := ix_nat l k
theorem fault_ok (B : Nat) (c : Cat) (s : c.Shape) (H0 : Heap) : CallH Tryz.prog B 161 [.ptr c.cells] H0 (faultK c.Laws H0) := by
 refine c161 (by simp) fun ⟨hf, _⟩ => ?_; have hm := s.m; have hcl := s.cl; have htl := s.tol; unfold s161; simp only [go_sem, reduceAdd]; refine (arrows_ok B c).go fun _ => ?_; simp only [go_sem]; refine awp_for [0, 6] (fun k _ => [(7, some (.int .i64 (k : Int)))]) (fun k _ H => H = H0 ∧ ∀ f, f < k → c.IdAt f) c.frm.length () ⟨rfl, by simp⟩ rfl ?_; rintro f _ H hfm ⟨rfl, hid⟩; simp only [go_sem]; refine ⟨fun g1 => At.mk ?_, fun g1 => At.mk ?_⟩
 ·have g1p := g1; simp only [dT] at g1p; have wf := wsucc (k := f) (by omega); have a1 := s.frm' g1p; have a2 := s.id' a1.2; have a3 := s.row' a2.2; have b1 := s.to' g1p; have b2 := s.id' b1.2; have b3 := s.row f g1p; simp only [go_sem, reduceAdd, reduceLeDiff]; refine ⟨g1p, a1, _, (catThen_ok B c _ _ ⟨a2.1, by omega⟩ ⟨by omega, by omega⟩).run, ?_⟩; simp only [go_sem]; refine ⟨fun g2 => At.mk ?_, fun g2 => At.mk ?_⟩; rotate_left
  ·simp only [go_sem, g2]; have g2p := g2; simp only [bnt, dF] at g2p; exact fault_ret (by constructor; (intro h; cases h); intro l; exact absurd (l.idl f g1p).1 g2p) (.refl _)
  simp only [go_sem, reduceAdd, reduceLeDiff, g2]; have g2p := g2; simp only [bnf, dT] at g2p; refine ⟨by omega, b1, _, (catThen_ok B c f _ ⟨by omega, by omega⟩ ⟨b2.1, by rw [ix_nat2]; omega⟩).run, ?_⟩; simp only [go_sem]; refine ⟨fun g3 => At.mk ?_, fun g3 => At.mk ?_⟩
  ·simp only [go_sem, g3]; have g3p := g3; simp only [bnt, dF] at g3p; exact fault_ret (by constructor; (intro h; cases h); intro l; exact absurd (l.idl f g1p).2 g3p) (.refl _)
  simp only [go_sem, g3, wf]; have g3p := g3; simp only [bnf, dT] at g3p; exact for_next () g1p ⟨rfl, lt_succ_all hid ⟨g2p, g3p⟩⟩ rfl
 have g1p := g1; simp only [dF, Nat.not_lt] at g1p; have hff : f = c.frm.length := by omega
 subst hff; simp only [go_sem]; refine awp_for [0, 6] (fun k _ => [(8, some (.int .i64 (k : Int)))]) (fun k _ H' => H' = H ∧ ∀ f, f < k → ∀ g, g < c.frm.length → ∀ h, h < c.frm.length → c.AssocAt f g h) c.frm.length () ⟨rfl, by simp⟩ rfl ?_; rintro f _ H' hfm ⟨rfl, hF⟩; simp only [go_sem]; refine ⟨fun g1 => At.mk ?_, fun g1 => At.mk ?_⟩; rotate_left
 ·simp only [go_sem]; have g1p := g1; simp only [dF, Nat.not_lt] at g1p; exact fault_ret (by simp only [true_iff]; exact ⟨hid, fun f g h hf hg hh => hF f (by omega) g hg h hh⟩) (.refl _)
 have g1p := g1; simp only [dT] at g1p; have wf := wsucc (k := f) (by omega); have rf := s.row f g1p; simp only [go_sem]; refine awp_for [0, 6, 8] (fun k _ => [(9, some (.int .i64 (k : Int)))]) (fun k _ H => H = H' ∧ ∀ g, g < k → ∀ h, h < c.frm.length → c.AssocAt f g h) c.frm.length () ⟨rfl, by simp⟩ rfl ?_; rintro g _ H hgm ⟨rfl, hG⟩; simp only [go_sem]; refine ⟨fun g2 => At.mk ?_, fun g2 => At.mk ?_⟩; rotate_left
 ·simp only [go_sem, wf]; have g2p := g2; simp only [dF, Nat.not_lt] at g2p; exact for_next () g1p ⟨rfl, lt_succ_all hF fun g hg => hG g (by omega)⟩ rfl
 have g2p := g2; simp only [dT] at g2p; have wg := wsucc (k := g) (by omega); have rg := s.row g g2p; simp only [go_sem]; refine (catThen_ok B c f g ⟨by omega, by omega⟩ ⟨by omega, by rw [ix_nat2]; omega⟩).go fun _ => ?_; simp only [go_sem]; refine ⟨fun g3 => At.mk ?_, fun g3 => At.mk ?_⟩
 ·simp only [go_sem, wg]; have g3p := g3; simp only [dT] at g3p; exact for_next () g2p ⟨rfl, lt_succ_all hG fun h hh e => by have := (s.pos g1p g2p).mpr e; omega⟩ rfl
 have g3p := g3; simp only [dF, Int.not_lt] at g3p; have g3q := (s.pos g1p g2p).mp g3p; simp only [go_sem]; refine awp_for [0, 6, 8, 9] (fun k _ => [(10, some (.int .i64 (k : Int)))]) (fun k _ H' => H' = H ∧ ∀ h, h < k → c.AssocAt f g h) c.frm.length () ⟨rfl, by simp⟩ rfl ?_; rintro h _ H' hhm ⟨rfl, hA⟩; simp only [go_sem]; refine ⟨fun g4 => At.mk ?_, fun g4 => At.mk ?_⟩; rotate_left
 ·simp only [go_sem, wg]; have g4p := g4; simp only [dF, Nat.not_lt] at g4p; exact for_next () g2p ⟨rfl, lt_succ_all hG fun h hh => hA h (by omega)⟩ rfl
 have g4p := g4; simp only [dT] at g4p; have wh := wsucc (k := h) (by omega); simp only [go_sem]; refine (catThen_ok B c g h ⟨by omega, by omega⟩ ⟨by omega, by rw [ix_nat2]; omega⟩).go fun _ => ?_; simp only [go_sem]; refine ⟨fun g5 => At.mk ?_, fun g5 => At.mk ?_⟩
 ·simp only [go_sem, g5]; have g5p := g5; simp only [dT] at g5p; have g5q := (s.pos g2p g4p).mp g5p; have c2 := s.lt g1p g2p; have c3 := s.row' c2; have d2 := s.lt g2p g4p; refine (catThen_ok B c f g ⟨by omega, by omega⟩ ⟨by omega, by rw [ix_nat2]; omega⟩).go fun _ => ?_; simp only [go_sem]; refine (catThen_ok B c _ h ⟨g3p, by omega⟩ ⟨by omega, by omega⟩).go fun _ => ?_; simp only [go_sem]; refine (catThen_ok B c g h ⟨by omega, by omega⟩ ⟨by omega, by rw [ix_nat2]; omega⟩).go fun _ => ?_; simp only [go_sem]; refine (catThen_ok B c f _ ⟨by omega, by omega⟩ ⟨g5p, by rw [ix_nat2]; omega⟩).go fun _ => ?_; simp only [go_sem]; refine ⟨fun g6 => At.mk ?_, fun g6 => At.mk ?_⟩
  ·simp only [go_sem, g6]; have g6p := g6; simp only [bnt, dF] at g6p; exact fault_ret (by constructor; (intro h; cases h); intro l; exact absurd (l.assoc f g h g1p g2p g4p g3q g5q) g6p) (.refl _)
  ·simp only [go_sem, g6, wh]; have g6p := g6; simp only [bnf, dT] at g6p; exact for_next () g4p ⟨rfl, lt_succ_all hA fun _ _ => g6p⟩ rfl
 ·simp only [go_sem, g5, wh]; have g5p := g5; simp only [dF, Int.not_le] at g5p; exact for_next () g4p ⟨rfl, lt_succ_all hA fun _ e => by have := (s.pos g2p g4p).mpr e; omega⟩ rfl
theorem isCategory_ok (B : Nat) (c : Cat) : Pur Tryz.prog B 127 [.ptr c.cells] (.bool (dec c.Is)) := by
 refine ⟨fun H0 => c127 (by simp) fun hf => ?_⟩; unfold s127; simp only [go_sem, reduceAdd]; refine (isShape_ok B c).go fun _ => ?_; simp only [go_sem]; refine ⟨fun h1 => At.mk ?_, fun h1 => At.mk ?_⟩
 ·simp only [go_sem]; have h1p := h1; simp only [bnt, decf] at h1p; exact pure_ret (by rw [dec_f]; intro s; exact h1p s.1) (.refl _)
 have h1p := h1; simp only [bnf, dect] at h1p; simp only [go_sem]; refine (fault_ok B c h1p H0).mono' ?_; rintro _ _ _ ⟨rfl, k, a, b, d, rfl, hk⟩; simp only [go_sem, reduceAdd, reduceLT]; exact pure_ret (by rw [decide_dec]; congr 1; exact dec_congr ⟨fun h => ⟨h1p, hk.mp h⟩, fun h => hk.mpr h.2⟩) (.refl _)
theorem l25Sieve_ok (B : Nat) (c : Cat) (s : c.Shape) (x : Int) (l : List Int) : Pur Tryz.prog B 111 [.agg c.cells, .int .i64 x, iL l] (.bool (dec (c.Sieve x l))) := by
 refine ⟨fun H0 => c111 (by simp) fun ⟨_, _, hf, _⟩ => ?_⟩; have hl := fine_mL_le hf; simp only [maxL] at hl; have hm := s.m; have hcl := s.cl; have htl := s.tol; unfold s111; simp only [go_sem, reduceAdd]; refine (l02Rises_ok ..).go fun _ => ?_; simp only [go_sem]; refine ⟨fun h1 => At.mk ?_, fun h1 => At.mk ?_⟩; rotate_left
 ·simp only [go_sem, h1]; have h1p := h1; simp only [bnt, decf] at h1p; exact pure_ret (by rw [dec_f]; intro s; exact h1p s.ris) (.refl _)
 simp only [go_sem, reduceAdd, reduceLeDiff, h1]; have h1p := h1; simp only [bnf, dect] at h1p; refine (l01Map_ok ..).go fun _ => ?_; simp only [go_sem]; refine ⟨fun h2 => At.mk ?_, fun h2 => At.mk ?_⟩
 ·simp only [go_sem, h2]; have h2p := h2; simp only [bnt, decf] at h2p; exact pure_ret (by rw [dec_f]; intro s; exact h2p s.ran) (.refl _)
 simp only [go_sem, h2]; have h2p := h2; simp only [bnf, dect] at h2p; refine awp_for [1, 2, 3] (fun k _ => [(7, some (.int .i64 (k : Int)))]) (fun k _ H => H = H0 ∧ ∀ i, i < k → ix c.frm (l.getD i default) = x ∧
  ∀ b : Nat, b < c.frm.length → ix c.to (l.getD i default) = c.frm.getD b default → (ix c.comp (l.getD i default)).getD b default ∈ l) l.length () ⟨rfl, by simp⟩ rfl ?_
 rintro k _ H hk ⟨rfl, hall⟩; simp only [go_sem]; refine ⟨fun g1 => At.mk ?_, fun g1 => At.mk ?_⟩; rotate_left
 ·simp only [go_sem]; have g1p := g1; simp only [dF, Nat.not_lt] at g1p; refine pure_ret ?_ (.refl _); rw [dec_t]; have := all_getD (l := l) (p := fun a => ix c.frm a = x ∧ ∀ b : Nat, b < c.frm.length → ix c.to a = c.frm.getD b default → (ix c.comp a).getD b default ∈ l) |>.mpr fun i hi => hall i (by omega); exact ⟨h1p, h2p, fun y hy => (this y hy).1, fun y hy => (this y hy).2⟩
 have g1p := g1; simp only [dT] at g1p; have w1 := wsucc (k := k) (by omega); have hx := h2p _ (mem_getD.mpr ⟨k, g1p, rfl⟩); simp only [go_sem, reduceAdd, reduceLeDiff]; refine ⟨g1p, ⟨hx.1, by omega⟩, ?_⟩; refine ⟨fun g2 => At.mk ?_, fun g2 => At.mk ?_⟩
 ·simp only [go_sem]; have g2p := g2; simp only [bnt, dF] at g2p; exact pure_ret (by rw [dec_f]; intro s; exact g2p (s.src _ (mem_getD.mpr ⟨k, g1p, rfl⟩))) (.refl _)
 have g2p := g2; simp only [bnf, dT] at g2p; simp only [go_sem]; refine awp_for [1, 2, 3, 7] (fun k _ => [(8, some (.int .i64 (k : Int)))]) (fun b' _ H' => H' = H ∧
  ∀ b : Nat, b < b' → ix c.to (l.getD k default) = c.frm.getD b default → (ix c.comp (l.getD k default)).getD b default ∈ l) c.frm.length () ⟨rfl, by simp⟩ rfl ?_
 rintro b _ H' hb ⟨rfl, hall2⟩; simp only [go_sem, reduceAdd, reduceLeDiff]; refine ⟨fun g3 => At.mk ?_, fun g3 => At.mk ?_⟩; rotate_left
 ·simp only [go_sem, w1]; have g3p := g3; simp only [dF, Nat.not_lt] at g3p; exact for_next () g1p ⟨rfl, lt_succ_all hall ⟨g2p, fun b hb => hall2 b (by omega)⟩⟩ rfl
 have g3p := g3; simp only [dT] at g3p; have wb := wsucc (k := b) (by omega); have hr := s.row' (a := l.getD k default) (by omega); simp only [go_sem, reduceAdd, reduceLeDiff]; refine ⟨g1p, ⟨hx.1, by omega⟩, g3p, ?_⟩; refine ⟨fun g4 => At.mk ?_, fun g4 => At.mk ?_⟩; rotate_left
 ·simp only [go_sem, g4, wb]; have g4p := g4; simp only [dF] at g4p; exact for_next () g3p ⟨rfl, lt_succ_all hall2 fun e => absurd e g4p⟩ rfl
 simp only [go_sem, reduceAdd, g4]; have g4p := g4; simp only [dT] at g4p; refine ⟨g1p, _, (l02Then_ok B c (l.getD k default) b ⟨hx.1, by omega⟩ ⟨by omega, by omega⟩).run, ?_⟩; simp only [go_sem]; refine ⟨_, (l01Has_ok ..).run, ?_⟩; simp only [go_sem]; refine ⟨fun g5 => At.mk ?_, fun g5 => At.mk ?_⟩
 ·simp only [go_sem]; have g5p := g5; simp only [bnt, decf] at g5p; exact pure_ret (by rw [dec_f]; intro s; exact g5p (s.cls _ (mem_getD.mpr ⟨k, g1p, rfl⟩) b g3p g4p)) (.refl _)
 ·simp only [go_sem, wb]; have g5p := g5; simp only [bnf, dect] at g5p; exact for_next () g3p ⟨rfl, lt_succ_all hall2 fun _ => g5p⟩ rfl
theorem isSieve_ok (B : Nat) (c : Cat) (s : c.Shape) (x : Int) (l : List Int) : Pur Tryz.prog B 128 [.ptr c.cells, .int .i64 x, iL l] (.bool (dec (c.Sieve x l))) := by
 refine ⟨fun H0 => c128 (by simp) fun ⟨_, _, hf, _⟩ => ?_⟩; have hl := fine_mL_le hf; simp only [maxL] at hl; have hm := s.m; have hcl := s.cl; have htl := s.tol; unfold s128; simp only [go_sem, reduceAdd]; refine (rising_ok ..).go fun _ => ?_; simp only [go_sem]; refine ⟨fun h1 => At.mk ?_, fun h1 => At.mk ?_⟩; rotate_left
 ·simp only [go_sem, h1]; have h1p := h1; simp only [bnt, decf] at h1p; exact pure_ret (by rw [dec_f]; intro s; exact h1p s.ris) (.refl _)
 simp only [go_sem, h1]; have h1p := h1; simp only [bnf, dect] at h1p; refine (arrows_ok B c).go fun _ => ?_; simp only [go_sem]; refine (within_ok B l c.frm.length (by omega)).go fun _ => ?_; simp only [go_sem]; refine ⟨fun h2 => At.mk ?_, fun h2 => At.mk ?_⟩
 ·simp only [go_sem, h2]; have h2p := h2; simp only [bnt, decf] at h2p; exact pure_ret (by rw [dec_f]; intro s; exact h2p s.ran) (.refl _)
 simp only [go_sem, h2]; have h2p := h2; simp only [bnf, dect] at h2p; refine awp_for [0, 1, 2, 21, 22] (fun k _ => [(23, some (.int .i64 (k : Int)))]) (fun k _ H => H = H0 ∧ ∀ i, i < k → ix c.frm (l.getD i default) = x ∧
  ∀ b : Nat, b < c.frm.length → ix c.to (l.getD i default) = c.frm.getD b default → (ix c.comp (l.getD i default)).getD b default ∈ l) l.length () ⟨rfl, by simp⟩ rfl ?_
 rintro k _ H hk ⟨rfl, hall⟩; simp only [go_sem]; refine ⟨fun g1 => At.mk ?_, fun g1 => At.mk ?_⟩; rotate_left
 ·simp only [go_sem]; have g1p := g1; simp only [dF, Nat.not_lt] at g1p; refine pure_ret ?_ (.refl _); rw [dec_t]; have := all_getD (l := l) (p := fun a => ix c.frm a = x ∧ ∀ b : Nat, b < c.frm.length → ix c.to a = c.frm.getD b default → (ix c.comp a).getD b default ∈ l) |>.mpr fun i hi => hall i (by omega); exact ⟨h1p, h2p, fun y hy => (this y hy).1, fun y hy => (this y hy).2⟩
 have g1p := g1; simp only [dT] at g1p; have w1 := wsucc (k := k) (by omega); have hx := h2p _ (mem_getD.mpr ⟨k, g1p, rfl⟩); simp only [go_sem, reduceAdd, reduceLeDiff]; refine ⟨g1p, ⟨hx.1, by omega⟩, ?_⟩; refine ⟨fun g2 => At.mk ?_, fun g2 => At.mk ?_⟩
 ·simp only [go_sem]; have g2p := g2; simp only [bnt, dF] at g2p; exact pure_ret (by rw [dec_f]; intro s; exact g2p (s.src _ (mem_getD.mpr ⟨k, g1p, rfl⟩))) (.refl _)
 have g2p := g2; simp only [bnf, dT] at g2p; simp only [go_sem, reduceAdd, reduceLeDiff]; refine ⟨⟨hx.1, by omega⟩, (outOf_ok B c _).go fun hfo => ?_⟩; have hlo := fine_mL_le hfo; simp only [maxL] at hlo; generalize ho : outs c (ix c.to (l.getD k default)) = ou at *; simp only [go_sem]; refine awp_for [0, 1, 2, 8, 21, 22, 23, 44, 45] (fun k _ => [(46, some (.int .i64 (k : Int)))]) (fun b' _ H' => H' = H ∧
  ∀ b : Nat, b < b' → ix (ix c.comp (l.getD k default)) (ou.getD b default) ∈ l) ou.length () ⟨rfl, by simp⟩ rfl ?_
 rintro b _ H' hb ⟨rfl, hall2⟩; simp only [go_sem]; refine ⟨fun g3 => At.mk ?_, fun g3 => At.mk ?_⟩; rotate_left
 ·simp only [go_sem, w1]; have g3p := g3; simp only [dF, Nat.not_lt] at g3p; refine for_next () g1p ⟨rfl, lt_succ_all hall ⟨g2p, fun b hb e => ?_⟩⟩ rfl; have hmem : (b : Int) ∈ ou := by rw [← ho]; exact mem_outs.mpr ⟨by omega, by omega, by rw [ix_nat2]; exact e.symm⟩
  obtain ⟨i, hi, e2⟩ := mem_getD.mp hmem; have := hall2 i (by omega); rw [e2, ix_nat2] at this; exact this
 have g3p := g3; simp only [dT] at g3p; have wb := wsucc (k := b) (by omega); have hr := s.row' (a := l.getD k default) (by omega); have hmem : ou.getD b default ∈ ou := mem_getD.mpr ⟨b, g3p, rfl⟩; rw [show (ou.getD b default ∈ ou) = (ou.getD b default ∈ outs c (ix c.to (l.getD k default))) by rw [ho], mem_outs] at hmem; simp only [go_sem]; refine ⟨g3p, (catThen_ok B c (l.getD k default) (ou.getD b default) ⟨hx.1, by omega⟩ ⟨hmem.1, by omega⟩).go fun _ => ?_⟩; simp only [go_sem]; refine (has_ok ..).go fun _ => ?_; simp only [go_sem]; refine ⟨fun g5 => At.mk ?_, fun g5 => At.mk ?_⟩
 ·simp only [go_sem]; have g5p := g5; simp only [bnt, decf] at g5p; refine pure_ret ?_ (.refl _); rw [dec_f]; intro s; exact g5p (s.cls _ (mem_getD.mpr ⟨k, g1p, rfl⟩) _ hmem.2.1 hmem.2.2.symm)
 ·simp only [go_sem, wb]; have g5p := g5; simp only [bnf, dect] at g5p; exact for_next () g3p ⟨rfl, lt_succ_all hall2 g5p⟩ rfl
theorem l27Shape_ok (B : Nat) (j : Top) : Pur Tryz.prog B 72 [.agg j.cells] (.bool (dec j.Form)) := by
 refine ⟨fun H0 => c72 (by simp) fun ⟨hf, _⟩ => ?_⟩; have hfc := hf.agg (c := iLLL j.covers) (by simp [Top.cells]); have hl := fine_mL_le hfc; simp only [maxL] at hl; unfold s72; simp only [go_sem, reduceAdd, reduceLeDiff]; refine (l02Is_ok B j.shape).go fun _ => ?_; simp only [go_sem]; refine ⟨fun h1 => At.mk ?_, fun h1 => At.mk ?_⟩; rotate_left
 ·simp only [go_sem, h1]; have h1p := h1; simp only [bnt, decf] at h1p; exact pure_ret (by rw [dec_f]; intro s; exact h1p s.is) (.refl _)
 simp only [go_sem, reduceAdd, reduceLeDiff, h1]; have h1p := h1; simp only [bnf, dect] at h1p; have hs := h1p.1; refine ⟨fun h2 => At.mk ?_, fun h2 => At.mk ?_⟩
 ·simp only [go_sem, h2]; have h2p := h2; simp only [bnt, dF] at h2p; exact pure_ret (by rw [dec_f]; intro s; exact h2p s.len) (.refl _)
 simp only [go_sem, h2]; have h2p := h2; simp only [bnf, dT] at h2p; refine awp_for [1] (fun k _ => [(3, some (.int .i64 (k : Int)))]) (fun k _ H => H = H0 ∧ ∀ x : Nat, x < k → ∀ k : Nat, k < (j.covers.getD x default).length → j.shape.Sieve x ((j.covers.getD x default).getD k default) ∧
   (0 < k → cmp ((j.covers.getD x default).getD (k - 1) default) ((j.covers.getD x default).getD k default) < 0)) j.covers.length () ⟨rfl, by simp⟩ rfl ?_
 rintro x _ H hx ⟨rfl, hall⟩; simp only [go_sem, reduceAdd, reduceLeDiff]; refine ⟨fun g1 => At.mk ?_, fun g1 => At.mk ?_⟩; rotate_left
 ·simp only [go_sem]; have g1p := g1; simp only [dF, Nat.not_lt] at g1p; refine pure_ret ?_ (.refl _); rw [dec_t]; exact ⟨h1p, h2p, fun x hx k hk => (hall x (by omega) k hk).1, fun x hx k hk => (hall x (by omega) (k + 1) hk).2 (by omega)⟩
 have g1p := g1; simp only [dT] at g1p; have wx := wsucc (k := x) (by omega); have hlx := fine_mL_le (fine_mL_mem hfc (mem_getD.mpr ⟨x, g1p, rfl⟩)); simp only [maxL] at hlx; simp only [go_sem]; refine awp_for [1, 3] (fun k _ => [(4, some (.int .i64 (k : Int)))]) (fun k' _ H' => H' = H ∧ ∀ k : Nat, k < k' → j.shape.Sieve x ((j.covers.getD x default).getD k default) ∧
   (0 < k → cmp ((j.covers.getD x default).getD (k - 1) default) ((j.covers.getD x default).getD k default) < 0)) (j.covers.getD x default).length () ⟨rfl, by simp⟩ rfl ?_
 rintro k _ H' hk ⟨rfl, hk2⟩; simp only [go_sem, reduceAdd, reduceLeDiff]; refine ⟨g1p, ?_⟩; refine ⟨fun g2 => At.mk ?_, fun g2 => At.mk ?_⟩; rotate_left
 ·simp only [go_sem, wx]; have g2p := g2; simp only [dF, Nat.not_lt] at g2p; exact for_next () g1p ⟨rfl, lt_succ_all hall fun k hk => hk2 k (by omega)⟩ rfl
 have g2p := g2; simp only [dT] at g2p; have wk := wsucc (k := k) (by omega); simp only [go_sem, reduceAdd, reduceLeDiff]; refine ⟨g1p, g2p, _, (l25Sieve_ok B j.shape hs x _).run, ?_⟩; simp only [go_sem]; refine ⟨fun g3 => At.mk ?_, fun g3 => At.mk ?_⟩; rotate_left
 ·simp only [go_sem, g3]; have g3p := g3; simp only [bnt, decf] at g3p; exact pure_ret (by rw [dec_f]; intro s; exact g3p (s.sv x g1p k g2p)) (.refl _)
 simp only [go_sem, g3]; have g3p := g3; simp only [bnf, dect] at g3p; refine ⟨fun g4 => At.mk ?_, fun g4 => At.mk ?_⟩; rotate_left
 ·simp only [go_sem, g3, g4, wk]; have g4p := g4; simp only [dF, Int.not_lt] at g4p; exact for_next () g2p ⟨rfl, lt_succ_all hk2 ⟨g3p, fun h => absurd h (by omega)⟩⟩ rfl
 have g4q : 0 < k := by have := of_decide g4; omega
 have wp := wpred (k := k) g4q (by omega); simp only [go_sem, reduceAdd, reduceLeDiff, g3, g4, wp]; refine ⟨g1p, by omega, g1p, g2p, _, (l01Less_ok ..).run, ?_⟩; simp only [go_sem]; refine ⟨fun g5 => At.mk ?_, fun g5 => At.mk ?_⟩
 ·simp only [go_sem]; have g5p := g5; simp only [bnt, decf, Int.not_lt] at g5p; refine pure_ret ?_ (.refl _); rw [dec_f]; intro s; have := s.ord x g1p (k - 1) (by omega); rw [show k - 1 + 1 = k by omega] at this; omega
 ·simp only [go_sem, wk]; have g5p := g5; simp only [bnf, dect] at g5p; exact for_next () g2p ⟨rfl, lt_succ_all hk2 ⟨g3p, fun _ => by omega⟩⟩ rfl
theorem hasForm_ok (B : Nat) (j : Top) : Pur Tryz.prog B 86 [.ptr j.cells] (.bool (dec j.Form)) := by
 refine ⟨fun H0 => c86 (by simp) fun ⟨hf, _⟩ => ?_⟩; have hfc := hf.ptr (c := iLLL j.covers) (by simp [Top.cells]); have hl := fine_mL_le hfc; simp only [maxL] at hl; unfold s86; simp only [go_sem, reduceAdd, reduceLeDiff]; refine ⟨_, (isCategory_ok B j.shape).run, ?_⟩; simp only [go_sem]; refine ⟨fun h1 => At.mk ?_, fun h1 => At.mk ?_⟩; rotate_left
 ·simp only [go_sem, h1]; have h1p := h1; simp only [bnt, decf] at h1p; exact pure_ret (by rw [dec_f]; intro s; exact h1p s.is) (.refl _)
 simp only [go_sem, reduceAdd, reduceLeDiff, h1]; have h1p := h1; simp only [bnf, dect] at h1p; have hs := h1p.1; refine ⟨fun h2 => At.mk ?_, fun h2 => At.mk ?_⟩
 ·simp only [go_sem, h2]; have h2p := h2; simp only [bnt, dF] at h2p; exact pure_ret (by rw [dec_f]; intro s; exact h2p s.len) (.refl _)
 simp only [go_sem, reduceAdd, reduceLeDiff, h2]; have h2p := h2; simp only [bnf, dT] at h2p; refine awp_for [3, 29, 30] (fun k _ => [(31, some (.int .i64 (k : Int)))]) (fun k _ H => H = H0 ∧ ∀ x : Nat, x < k → ∀ k : Nat, k < (j.covers.getD x default).length → j.shape.Sieve x ((j.covers.getD x default).getD k default) ∧
   (0 < k → cmp ((j.covers.getD x default).getD (k - 1) default) ((j.covers.getD x default).getD k default) < 0)) j.covers.length () ⟨rfl, by simp⟩ rfl ?_
 rintro x _ H hx ⟨rfl, hall⟩; simp only [go_sem]; refine ⟨fun g1 => At.mk ?_, fun g1 => At.mk ?_⟩; rotate_left
 ·simp only [go_sem]; have g1p := g1; simp only [dF, Nat.not_lt] at g1p; refine pure_ret ?_ (.refl _); rw [dec_t]; exact ⟨h1p, h2p, fun x hx k hk => (hall x (by omega) k hk).1, fun x hx k hk => (hall x (by omega) (k + 1) hk).2 (by omega)⟩
 have g1p := g1; simp only [dT] at g1p; have wx := wsucc (k := x) (by omega); have hlx := fine_mL_le (fine_mL_mem hfc (mem_getD.mpr ⟨x, g1p, rfl⟩)); simp only [maxL] at hlx; simp only [go_sem]; refine ⟨g1p, ?_⟩; refine awp_for [3, 4, 5, 29, 30, 31, 36, 37] (fun k _ => [(38, some (.int .i64 (k : Int)))]) (fun k' _ H' => H' = H ∧ ∀ k : Nat, k < k' → j.shape.Sieve x ((j.covers.getD x default).getD k default) ∧
   (0 < k → cmp ((j.covers.getD x default).getD (k - 1) default) ((j.covers.getD x default).getD k default) < 0)) (j.covers.getD x default).length () ⟨rfl, by simp⟩ rfl ?_
 rintro k _ H' hk ⟨rfl, hk2⟩; simp only [go_sem]; refine ⟨fun g2 => At.mk ?_, fun g2 => At.mk ?_⟩; rotate_left
 ·simp only [go_sem, wx]; have g2p := g2; simp only [dF, Nat.not_lt] at g2p; exact for_next () g1p ⟨rfl, lt_succ_all hall fun k hk => hk2 k (by omega)⟩ rfl
 have g2p := g2; simp only [dT] at g2p; have wk := wsucc (k := k) (by omega); simp only [go_sem]; refine ⟨g2p, (isSieve_ok B j.shape hs x _).go fun _ => ?_⟩; simp only [go_sem]; refine ⟨fun g3 => At.mk ?_, fun g3 => At.mk ?_⟩; rotate_left
 ·simp only [go_sem, g3]; have g3p := g3; simp only [bnt, decf] at g3p; exact pure_ret (by rw [dec_f]; intro s; exact g3p (s.sv x g1p k g2p)) (.refl _)
 simp only [go_sem, g3]; have g3p := g3; simp only [bnf, dect] at g3p; refine ⟨fun g4 => At.mk ?_, fun g4 => At.mk ?_⟩; rotate_left
 ·simp only [go_sem, g3, g4, wk]; have g4p := g4; simp only [dF, Int.not_lt] at g4p; exact for_next () g2p ⟨rfl, lt_succ_all hk2 ⟨g3p, fun h => absurd h (by omega)⟩⟩ rfl
 have g4q : 0 < k := by have := of_decide g4; omega
 have wp := wpred (k := k) g4q (by omega); simp only [go_sem, g3, g4, wp]; refine ⟨by omega, (compare_ok ..).go fun _ => ?_⟩; simp only [go_sem]; refine ⟨fun g5 => At.mk ?_, fun g5 => At.mk ?_⟩
 ·simp only [go_sem]; have g5p := g5; simp only [dT] at g5p; refine pure_ret ?_ (.refl _); rw [dec_f]; intro s; have := s.ord x g1p (k - 1) (by omega); rw [show k - 1 + 1 = k by omega] at this; omega
 ·simp only [go_sem, wk]; have g5p := g5; simp only [dF, Int.not_le] at g5p; exact for_next () g2p ⟨rfl, lt_succ_all hk2 ⟨g3p, fun _ => by omega⟩⟩ rfl
theorem l19Shape_ok (B : Nat) (f : SF) : Pur Tryz.prog B 118 [.agg f.cells] (.bool (dec f.Shape)) := by
 refine ⟨fun H0 => c118 (by simp) fun ⟨hf, _⟩ => ?_⟩; have hl := fine_mL_le (hf.agg (c := iL f.sizes) (by simp [SF.cells])); have hl2 := fine_mL_le (hf.agg (c := iLL f.acts) (by simp [SF.cells])); simp only [maxL] at hl hl2; unfold s118; simp only [go_sem, reduceAdd, reduceLeDiff]; refine (l02Is_ok B f.shape).go fun _ => ?_; simp only [go_sem]; refine ⟨fun h1 => At.mk ?_, fun h1 => At.mk ?_⟩; rotate_left
 ·simp only [go_sem, h1]; have h1p := h1; simp only [bnt, decf] at h1p; exact pure_ret (by rw [dec_f]; intro s; exact h1p s.is) (.refl _)
 simp only [go_sem, reduceAdd, reduceLeDiff, h1]; have h1p := h1; simp only [bnf, dect] at h1p; have hs := h1p.1; have htl := hs.tol; refine ⟨fun h2 => At.mk ?_, fun h2 => At.mk ?_⟩; rotate_left
 ·simp only [go_sem, h2]; have h2p := h2; simp only [bnt, dF] at h2p; exact pure_ret (by rw [dec_f]; intro s; exact h2p s.sl) (.refl _)
 simp only [go_sem, reduceAdd, reduceLeDiff, h2]; have h2p := h2; simp only [bnf, dT] at h2p; refine ⟨fun h3 => At.mk ?_, fun h3 => At.mk ?_⟩
 ·simp only [go_sem, h3]; have h3p := h3; simp only [bnt, dF] at h3p; exact pure_ret (by rw [dec_f]; intro s; exact h3p s.al) (.refl _)
 simp only [go_sem, h3]; have h3p := h3; simp only [bnf, dT] at h3p; refine awp_for [1] (fun k _ => [(3, some (.int .i64 (k : Int)))]) (fun k _ H => H = H0 ∧ ∀ x, x < k → 0 ≤ f.sizes.getD x default ∧ f.sizes.getD x default < 17) f.sizes.length () ⟨rfl, by simp⟩ rfl ?_; rintro x _ H hx ⟨rfl, hall⟩; simp only [go_sem, reduceAdd, reduceLeDiff]; refine ⟨fun g1 => At.mk ?_, fun g1 => At.mk ?_⟩
 ·have g1p := g1; simp only [dT] at g1p; have wx := wsucc (k := x) (by omega); simp only [go_sem, reduceAdd, reduceLeDiff]; refine ⟨g1p, (l01In_ok ..).go fun _ => ?_⟩; simp only [go_sem]; refine ⟨fun g2 => At.mk ?_, fun g2 => At.mk ?_⟩
  ·simp only [go_sem]; have g2p := g2; simp only [bnt, decf] at g2p; exact pure_ret (by rw [dec_f]; intro s; have := s.sz _ (mem_getD.mpr ⟨x, g1p, rfl⟩); omega) (.refl _)
  ·simp only [go_sem, wx]; have g2p := g2; simp only [bnf, dect] at g2p; exact for_next () g1p ⟨rfl, lt_succ_all hall (by omega)⟩ rfl
 have g1p := g1; simp only [dF, Nat.not_lt] at g1p; have hsz : ∀ y, y ∈ f.sizes → 0 ≤ y ∧ y < 17 := all_getD.mpr fun i hi => hall i (by omega); simp only [go_sem]; refine awp_for [1] (fun k _ => [(4, some (.int .i64 (k : Int)))]) (fun k _ H' => H' = H ∧ ∀ a, a < k → ((f.acts.getD a default).length : Int) = ix f.sizes (f.shape.frm.getD a default) ∧
  ∀ y, y ∈ f.acts.getD a default → 0 ≤ y ∧ y < ix f.sizes (f.shape.to.getD a default)) f.acts.length () ⟨rfl, by simp⟩ rfl ?_
 rintro a _ H' ha ⟨rfl, hact⟩; simp only [go_sem, reduceAdd, reduceLeDiff]; refine ⟨fun g2 => At.mk ?_, fun g2 => At.mk ?_⟩; rotate_left
 ·simp only [go_sem]; have g2p := g2; simp only [dF, Nat.not_lt] at g2p; exact pure_ret (by rw [dec_t]; exact ⟨h1p, h2p, h3p, hsz, fun a h => hact a (by omega)⟩) (.refl _)
 have g2p := g2; simp only [dT] at g2p; have wa := wsucc (k := a) (by omega); have haf : a < f.shape.frm.length := by omega
 have f1 := hs.frm' haf; have f2 := hs.to' haf; have hil := hs.il; simp only [go_sem, reduceAdd, reduceLeDiff]; refine ⟨g2p, haf, ⟨f1.1, by omega⟩, ?_⟩; refine ⟨fun g3 => At.mk ?_, fun g3 => At.mk ?_⟩; rotate_left
 ·simp only [go_sem, g3]; have g3p := g3; simp only [bnt, dF] at g3p; exact pure_ret (by rw [dec_f]; intro s; exact g3p (s.act a g2p).1) (.refl _)
 simp only [go_sem, reduceAdd, reduceLeDiff, g3]; have g3p := g3; simp only [bnf, dT] at g3p; refine ⟨by omega, ⟨f2.1, by omega⟩, g2p, _, (l01Map_ok ..).run, ?_⟩; simp only [go_sem]; refine ⟨fun g4 => At.mk ?_, fun g4 => At.mk ?_⟩
 ·simp only [go_sem]; have g4p := g4; simp only [bnt, decf] at g4p; exact pure_ret (by rw [dec_f]; intro s; exact g4p (s.act a g2p).2) (.refl _)
 ·simp only [go_sem, wa]; have g4p := g4; simp only [bnf, dect] at g4p; exact for_next () g2p ⟨rfl, lt_succ_all hact ⟨g3p, g4p⟩⟩ rfl
theorem sfIsShape_ok (B : Nat) (f : SF) : Pur Tryz.prog B 165 [.ptr f.cells] (.bool (dec f.Shape)) := by
 refine ⟨fun H0 => c165 (by simp) fun ⟨hf, _⟩ => ?_⟩; have hl := fine_mL_le (hf.ptr (c := iL f.sizes) (by simp [SF.cells])); have hl2 := fine_mL_le (hf.ptr (c := iLL f.acts) (by simp [SF.cells])); simp only [maxL] at hl hl2; unfold s165; simp only [go_sem, reduceAdd, reduceLeDiff]; refine ⟨_, (isCategory_ok B f.shape).run, ?_⟩; simp only [go_sem]; refine ⟨fun h1 => At.mk ?_, fun h1 => At.mk ?_⟩; rotate_left
 ·simp only [go_sem, h1]; have h1p := h1; simp only [bnt, decf] at h1p; exact pure_ret (by rw [dec_f]; intro s; exact h1p s.is) (.refl _)
 simp only [go_sem, reduceAdd, reduceLeDiff, h1]; have h1p := h1; simp only [bnf, dect] at h1p; have hs := h1p.1; have htl := hs.tol; refine ⟨fun h2 => At.mk ?_, fun h2 => At.mk ?_⟩; rotate_left
 ·simp only [go_sem, h2]; have h2p := h2; simp only [bnt, dF] at h2p; exact pure_ret (by rw [dec_f]; intro s; exact h2p s.sl) (.refl _)
 simp only [go_sem, reduceAdd, reduceLeDiff, h2]; have h2p := h2; simp only [bnf, dT] at h2p; refine ⟨_, (within_ok B f.sizes 17 (by omega)).run, ?_⟩; simp only [go_sem]; refine ⟨fun h3 => At.mk ?_, fun h3 => At.mk ?_⟩; rotate_left
 ·simp only [go_sem, h3]; have h3p := h3; simp only [bnt, decf] at h3p; exact pure_ret (by rw [dec_f]; intro s; exact h3p s.sz) (.refl _)
 simp only [go_sem, reduceAdd, reduceLeDiff, h3]; have h3p := h3; simp only [bnf, dect] at h3p; refine ⟨_, (arrows_ok B f.shape).run, ?_⟩; simp only [go_sem]; refine ⟨fun h4 => At.mk ?_, fun h4 => At.mk ?_⟩
 ·simp only [go_sem, h4]; have h4p := h4; simp only [bnt, dF] at h4p; exact pure_ret (by rw [dec_f]; intro s; exact h4p s.al) (.refl _)
 simp only [go_sem, reduceAdd, reduceLeDiff, h4]; have h4p := h4; simp only [bnf, dT] at h4p; refine awp_for [0, 3, 45, 46] (fun k _ => [(47, some (.int .i64 (k : Int)))]) (fun k _ H' => H' = H0 ∧ ∀ a, a < k → ((f.acts.getD a default).length : Int) = ix f.sizes (f.shape.frm.getD a default) ∧
  ∀ y, y ∈ f.acts.getD a default → 0 ≤ y ∧ y < ix f.sizes (f.shape.to.getD a default)) f.acts.length () ⟨rfl, by simp⟩ rfl ?_
 rintro a _ H' ha ⟨rfl, hact⟩; simp only [go_sem]; refine ⟨fun g2 => At.mk ?_, fun g2 => At.mk ?_⟩; rotate_left
 ·simp only [go_sem]; have g2p := g2; simp only [dF, Nat.not_lt] at g2p; exact pure_ret (by rw [dec_t]; exact ⟨h1p, h2p, h4p, h3p, fun a h => hact a (by omega)⟩) (.refl _)
 have g2p := g2; simp only [dT] at g2p; have wa := wsucc (k := a) (by omega); have haf : a < f.shape.frm.length := by omega
 have f1 := hs.frm' haf; have f2 := hs.to' haf; have hil := hs.il; have hto := h3p _ (ix_mem (l := f.sizes) (i := f.shape.to.getD a default) (by omega)); simp only [go_sem, reduceAdd, reduceLeDiff]; refine ⟨g2p, haf, ⟨f1.1, by omega⟩, by omega, ⟨f2.1, by omega⟩, _, (isMapOf_ok B _ _ _ (by omega)).run, ?_⟩; simp only [go_sem]; refine ⟨fun g4 => At.mk ?_, fun g4 => At.mk ?_⟩
 ·simp only [go_sem]; have g4p := g4; simp only [bnt, decf] at g4p; exact pure_ret (by rw [dec_f]; intro s; exact g4p (s.act a g2p)) (.refl _)
 ·simp only [go_sem, wa]; have g4p := g4; simp only [bnf, dect] at g4p; exact for_next () g2p ⟨rfl, lt_succ_all hact g4p⟩ rfl
theorem l19Fault_ok (B : Nat) (f : SF) (s : f.Shape) (H0 : Heap) : CallH Tryz.prog B 119 [.agg f.cells] H0 (faultK f.Laws H0) := by
 refine c119 (by simp) fun ⟨hf, _⟩ => ?_; have hs := s.is.1; have hm := hs.m; have hcl := hs.cl; have htl := hs.tol; have hil := hs.il; have hal := s.al; have hsl := s.sl; have hob := hs.o; unfold s119; simp only [go_sem, reduceAdd, reduceLeDiff]; refine ⟨by simp [maxL], fun i1 n1 => ?_⟩; simp only [go_sem, reduceAdd, reduceLeDiff]; generalize hH : ((H0.set i1 _).set i1 _) = H1; have hg : H1.get i1 = some (.cells 5 [iI f.shape.objs, iL f.shape.frm, iL f.shape.to, iL f.shape.idn, iLL f.shape.comp] 0) := by rw [← hH]; simp
 have hsub : H0.sub H1 := by rw [← hH]; exact sub_set (sub_set (.refl _) n1) n1
 clear hH; refine awp_for [1, 6] (fun k _ => [(7, some (.int .i64 (k : Int)))]) (fun k _ H => H = H1 ∧ ∀ x, x < k → ∀ e : Nat, e < (ix f.acts (f.shape.idn.getD x default)).length → (ix f.acts (f.shape.idn.getD x default)).getD e default = e) f.shape.idn.length () ⟨rfl, by simp⟩ rfl ?_; rintro x _ H hx ⟨rfl, hall⟩; simp only [go_sem, reduceAdd, reduceLT, hg]; refine ⟨fun g1 => At.mk ?_, fun g1 => At.mk ?_⟩
 ·have g1p := g1; simp only [dT] at g1p; have hxi : x < f.shape.idn.length := by omega
  have wx := wsucc (k := x) (by omega); have hid := hs.idn _ (mem_getD.mpr ⟨x, hxi, rfl⟩); have hlen := s.idLen hxi; simp only [go_sem, hg]; refine awp_for [1, 6, 7] (fun k _ => [(8, some (.int .i64 (k : Int)))]) (fun k _ H' => H' = H ∧ ∀ e : Nat, e < k → (ix f.acts (f.shape.idn.getD x default)).getD e default = e) (ix f.acts (f.shape.idn.getD x default)).length () ⟨rfl, by simp⟩ rfl ?_; rintro e _ H' he ⟨rfl, hall2⟩; simp only [go_sem, reduceAdd, reduceLeDiff, hg]; refine ⟨by omega, ?_⟩; refine ⟨fun g2 => At.mk ?_, fun g2 => At.mk ?_⟩; rotate_left
  ·simp only [go_sem, wx]; have g2p := g2; simp only [dF, Int.not_lt] at g2p; exact for_next () hxi ⟨rfl, lt_succ_all hall fun e he => hall2 e (by omega)⟩ rfl
  have g2p := g2; simp only [dT] at g2p; have hel : e < (ix f.acts (f.shape.idn.getD x default)).length := by omega
  have hz : f.sizes.getD x default < 17 := (s.sz _ (mem_getD.mpr ⟨x, by omega, rfl⟩)).2; have we := wsucc (k := e) (by omega); simp only [go_sem, reduceAdd, reduceLeDiff, reduceLT, hg]; refine ⟨hxi, ⟨hid.1, by omega⟩, hel, ?_⟩; refine ⟨fun g3 => At.mk ?_, fun g3 => At.mk ?_⟩
  ·simp only [go_sem]; have g3p := g3; simp only [bnt, dF] at g3p; exact fault_ret (by constructor; (intro h; cases h); intro l; exact absurd (l.idl x hxi e hel) g3p) hsub
  ·simp only [go_sem, we]; have g3p := g3; simp only [bnf, dT] at g3p; exact for_next () hel ⟨rfl, lt_succ_all hall2 g3p⟩ rfl
 have g1p := g1; simp only [dF, Int.not_lt] at g1p; have hidl : ∀ x : Nat, x < f.shape.idn.length → ∀ e : Nat, e < (ix f.acts (f.shape.idn.getD x default)).length → (ix f.acts (f.shape.idn.getD x default)).getD e default = e := fun x hx => hall x (by omega); simp only [go_sem]; refine awp_for [1, 6] (fun k _ => [(9, some (.int .i64 (k : Int)))]) (fun k _ H' => H' = H ∧ ∀ a, a < k → ∀ b, b < f.shape.frm.length → f.CompAt a b) f.shape.frm.length () ⟨rfl, by simp⟩ rfl ?_; rintro a _ H' ha ⟨rfl, hA⟩; simp only [go_sem, reduceAdd, reduceLT, hg]; refine ⟨fun g1 => At.mk ?_, fun g1 => At.mk ?_⟩; rotate_left
 ·simp only [go_sem]; have g1p := g1; simp only [dF, Nat.not_lt] at g1p; exact fault_ret (by simp only [true_iff]; exact ⟨hidl, fun a b ha hb => hA a (by omega) b hb⟩) hsub
 have g1p := g1; simp only [dT] at g1p; have wa := wsucc (k := a) (by omega); have ra := hs.row a g1p; have fa := hs.frm' g1p; have la := s.actLen (a := (a : Int)) (by omega); rw [ix_nat2, ix_nat2] at la; have za := s.sz _ (ix_mem (l := f.sizes) (i := f.shape.frm.getD a default) (by omega)); simp only [go_sem, hg]; refine awp_for [1, 6, 9] (fun k _ => [(10, some (.int .i64 (k : Int)))]) (fun k _ H => H = H' ∧ ∀ b, b < k → f.CompAt a b) f.shape.frm.length () ⟨rfl, by simp⟩ rfl ?_; rintro b _ H hb ⟨rfl, hB⟩; simp only [go_sem, reduceAdd, reduceLT, hg]; refine ⟨fun g2 => At.mk ?_, fun g2 => At.mk ?_⟩; rotate_left
 ·simp only [go_sem, wa]; have g2p := g2; simp only [dF, Nat.not_lt] at g2p; exact for_next () g1p ⟨rfl, lt_succ_all hA fun b hb => hB b (by omega)⟩ rfl
 have g2p := g2; simp only [dT] at g2p; have wb := wsucc (k := b) (by omega); simp only [go_sem, reduceAdd, reduceLT, hg]; refine ⟨by omega, g2p, ?_⟩; refine ⟨fun g3 => At.mk ?_, fun g3 => At.mk ?_⟩
 ·simp only [go_sem, wb]; have g3p := g3; simp only [bnt, dF] at g3p; exact for_next () g2p ⟨rfl, lt_succ_all hB fun e => absurd e g3p⟩ rfl
 have g3p := g3; simp only [bnf, dT] at g3p; have hy := hs.yes a b g1p g2p g3p; have lc := s.actLen (a := (f.shape.comp.getD a default).getD b default) (by omega); rw [hy.2.1] at lc; have lb := s.actLen (a := (b : Int)) (by omega); rw [ix_nat2, ix_nat2] at lb; simp only [go_sem, hg]; refine awp_for [1, 6, 9, 10] (fun k _ => [(11, some (.int .i64 (k : Int)))]) (fun k _ H' => H' = H ∧ ∀ e : Nat, e < k →
  (ix f.acts ((f.shape.comp.getD a default).getD b default)).getD e default = ix (f.acts.getD b default) ((f.acts.getD a default).getD e default)) (f.acts.getD a default).length () ⟨rfl, by simp⟩ rfl ?_
 rintro e _ H' he ⟨rfl, hE⟩; simp only [go_sem, reduceAdd, reduceLeDiff, reduceLT, hg]; refine ⟨g1p, ⟨fa.1, by omega⟩, ?_⟩; refine ⟨fun g4 => At.mk ?_, fun g4 => At.mk ?_⟩; rotate_left
 ·simp only [go_sem, wb]; have g4p := g4; simp only [dF, Int.not_lt] at g4p; exact for_next () g2p ⟨rfl, lt_succ_all hB fun _ e he => hE e (by omega)⟩ rfl
 have g4p := g4; simp only [dT] at g4p; have we := wsucc (k := e) (by omega); have hel : e < (f.acts.getD a default).length := by omega
 have hv := (s.act a (by omega)).2 _ (mem_getD.mpr ⟨e, hel, rfl⟩); rw [g3p] at hv; simp only [go_sem, reduceAdd, reduceLeDiff, reduceLT, hg]; refine ⟨by omega, by omega, ⟨hy.1.1, by omega⟩, by omega, by omega, by omega, hel, ⟨hv.1, by omega⟩, ?_⟩; refine ⟨fun g5 => At.mk ?_, fun g5 => At.mk ?_⟩
 ·simp only [go_sem]; have g5p := g5; simp only [bnt, dF] at g5p; exact fault_ret (by constructor; (intro h; cases h); intro l; exact absurd (l.comp a b g1p g2p g3p e hel) g5p) hsub
 ·simp only [go_sem, we]; have g5p := g5; simp only [bnf, dT] at g5p; exact for_next () hel ⟨rfl, lt_succ_all hE g5p⟩ rfl
end Go.Proofs.Shf
