/- Contracts, part 2. -/
import Derived.Test.YtadpkiiglobmpaaGreatF1
set_option linter.unusedVariables false
set_option linter.unusedSimpArgs false
set_option linter.unusedSectionVars false
open Nat (reduceEqDiff reduceAdd reduceMul reduceLeDiff reduceLT)
namespace Go.Proofs.Shf
open Go.AW Go.Proofs Go.Shf
theorem l25Close_ok (B : Nat) (c : Cat) (hs : c.Shape) (l : List Int) (hl : ∀ a, a ∈ l → 0 ≤ a ∧ a.toNat < c.frm.length) : Pur Tryz.prog B 202 [.agg c.cells, iL l] (iL (closeS c l)) := by
  refine ⟨fun H0 => c202 (by simp) fun ⟨_, hf, _⟩ => ?_⟩
  have hll := fine_mL_le hf
  simp only [maxL] at hll
  have hm := hs.m
  have hcl := hs.cl
  have htl := hs.tol
  unfold s202
  (try simp only [go_sem, ↓reduceIte, reduceEqDiff, reduceAdd, reduceMul, reduceLeDiff, reduceLT])
  refine ⟨⟨by omega, by simp only [maxL]; omega⟩, mks_list AV.bool false rfl (.nil _) fun id H o => ?_⟩
  (try simp only [go_sem, ↓reduceIte, reduceEqDiff, reduceAdd, reduceMul, reduceLeDiff, reduceLT])
  refine awp_for [1, 2, 5] (fun k _ => [(6, some (.int .i64 (k : Int)))]) (fun k A H => CloseI c l k 0 A ∧ Owns H0 H [(id, .cells 1 (A.map AV.bool) 0)]) l.length _ ⟨CloseI.zero c l, o⟩ rfl ?_
  rintro k A H hk ⟨hI, o⟩
  (try simp only [go_sem, ↓reduceIte, reduceEqDiff, reduceAdd, reduceMul, reduceLeDiff, reduceLT])
  refine ⟨fun h1 => At.mk ?_, fun h1 => At.mk ?_⟩
  · (try simp only [go_sem, ↓reduceIte, reduceEqDiff, reduceAdd, reduceMul, reduceLeDiff, reduceLT])
    have h1p := h1; simp only [bnt, bnf, decide_eq_true_eq, decide_eq_false_iff_not, dect, decf, Int.not_lt, Int.not_le, Nat.not_lt, Decidable.not_not, ne_eq, Bool.true_eq_false, Bool.false_eq_true] at h1p
    have w1 := wsucc (k := k) (by omega)
    have ha := hl _ (mem_getD.mpr ⟨k, h1p, rfl⟩)
    have hr := hs.row' (a := l.getD k default) ha.2
    refine awp_for [1, 2, 5, 6] (fun b _ => [(7, some (.int .i64 (b : Int)))]) (fun b A H => CloseI c l k b A ∧ Owns H0 H [(id, .cells 1 (A.map AV.bool) 0)]) c.frm.length A ⟨hI, o⟩ rfl ?_
    rintro b A H hb ⟨hI, o⟩
    (try simp only [go_sem, ↓reduceIte, reduceEqDiff, reduceAdd, reduceMul, reduceLeDiff, reduceLT])
    refine ⟨fun h2 => At.mk ?_, fun h2 => At.mk ?_⟩
    · (try simp only [go_sem, ↓reduceIte, reduceEqDiff, reduceAdd, reduceMul, reduceLeDiff, reduceLT])
      have h2p := h2; simp only [bnt, bnf, decide_eq_true_eq, decide_eq_false_iff_not, dect, decf, Int.not_lt, Int.not_le, Nat.not_lt, Decidable.not_not, ne_eq, Bool.true_eq_false, Bool.false_eq_true] at h2p
      have w2 := wsucc (k := b) (by omega)
      refine ⟨h1p, ⟨ha.1, by omega⟩, h2p, ?_⟩
      refine ⟨fun h3 => At.mk ?_, fun h3 => At.mk ?_⟩
      · (try simp only [go_sem, ↓reduceIte, reduceEqDiff, reduceAdd, reduceMul, reduceLeDiff, reduceLT])
        have h3p := h3; simp only [bnt, bnf, decide_eq_true_eq, decide_eq_false_iff_not, dect, decf, Int.not_lt, Int.not_le, Nat.not_lt, Decidable.not_not, ne_eq, Bool.true_eq_false, Bool.false_eq_true] at h3p
        have hc := hs.comp ha ⟨Int.natCast_nonneg b, by simpa using h2p⟩ (by simpa [ix] using h3p)
        simp only [ix_nat] at hc
        refine ⟨h1p, _, (l02Then_ok B c (l.getD k default) b ⟨ha.1, by omega⟩ ⟨by omega, by omega⟩).run, ?_⟩
        (try simp only [go_sem, ↓reduceIte, reduceEqDiff, reduceAdd, reduceMul, reduceLeDiff, reduceLT])
        refine ⟨⟨hc.1.1, by omega⟩, ?_⟩
        refine set_own true o rfl (by rw [hI.1]; omega) fun H o => ?_
        (try simp only [go_sem, ↓reduceIte, reduceEqDiff, reduceAdd, reduceMul, reduceLeDiff, reduceLT, w2])
        exact for_next _ (by omega) ⟨hI.set h3p hc.1.1, o⟩ rfl
      · (try simp only [go_sem, ↓reduceIte, reduceEqDiff, reduceAdd, reduceMul, reduceLeDiff, reduceLT, w2])
        have h3p := h3; simp only [bnt, bnf, decide_eq_true_eq, decide_eq_false_iff_not, dect, decf, Int.not_lt, Int.not_le, Nat.not_lt, Decidable.not_not, ne_eq, Bool.true_eq_false, Bool.false_eq_true] at h3p
        exact for_next _ (by omega) ⟨hI.skip h3p, o⟩ rfl
    · (try simp only [go_sem, ↓reduceIte, reduceEqDiff, reduceAdd, reduceMul, reduceLeDiff, reduceLT, w1])
      have h2p := h2; simp only [bnt, bnf, decide_eq_true_eq, decide_eq_false_iff_not, dect, decf, Int.not_lt, Int.not_le, Nat.not_lt, Decidable.not_not, ne_eq, Bool.true_eq_false, Bool.false_eq_true] at h2p
      obtain rfl : b = c.frm.length := by omega
      exact for_next _ (by omega) ⟨hI.row, o⟩ rfl
  · (try simp only [go_sem, ↓reduceIte, reduceEqDiff, reduceAdd, reduceMul, reduceLeDiff, reduceLT])
    have h1p := h1; simp only [bnt, bnf, decide_eq_true_eq, decide_eq_false_iff_not, dect, decf, Int.not_lt, Int.not_le, Nat.not_lt, Decidable.not_not, ne_eq, Bool.true_eq_false, Bool.false_eq_true] at h1p
    have hd := hI.done (by omega)
    refine new_list iI o fun id2 H o => ?_
    (try simp only [go_sem, ↓reduceIte, reduceEqDiff, reduceAdd, reduceMul, reduceLeDiff, reduceLT])
    refine awp_for [5] (G := Nat × List Int) (fun k g => [(8, some (.buf g.1 g.2.length)), (9, some (.int .i64 (k : Int)))]) (fun k g H => g.2 = nats (fun i => A.getD i default) k ∧ Owns H0 H [(g.1, .cells 1 (g.2.map iI) 0), (id, .cells 1 (A.map AV.bool) 0)]) A.length (id2, []) ⟨rfl, o⟩ rfl ?_
    rintro k ⟨id2, out⟩ H hk ⟨hout, o⟩
    replace hout : out = nats (fun i => A.getD i default) k := hout
    have hlen : out.length ≤ k := by rw [hout]; exact nats_len _ _
    have hAl := hI.1
    (try simp only [go_sem, ↓reduceIte, reduceEqDiff, reduceAdd, reduceMul, reduceLeDiff, reduceLT])
    rw [← hAl]
    refine ⟨fun h2 => At.mk ?_, fun h2 => At.mk ?_⟩
    · (try simp only [go_sem, ↓reduceIte, reduceEqDiff, reduceAdd, reduceMul, reduceLeDiff, reduceLT])
      have h2p := h2; simp only [bnt, bnf, decide_eq_true_eq, decide_eq_false_iff_not, dect, decf, Int.not_lt, Int.not_le, Nat.not_lt, Decidable.not_not, ne_eq, Bool.true_eq_false, Bool.false_eq_true] at h2p
      have w2 := wsucc (k := k) (by omega)
      refine ⟨by omega, ?_⟩
      refine rd_own o.swap h2p ?_
      (try simp only [go_sem, ↓reduceIte, reduceEqDiff, reduceAdd, reduceMul, reduceLeDiff, reduceLT])
      refine ⟨fun h3 => At.mk ?_, fun h3 => At.mk ?_⟩
      · (try simp only [go_sem, ↓reduceIte, reduceEqDiff, reduceAdd, reduceMul, reduceLeDiff, reduceLT])
        refine app_own (k : Int) o rfl rfl (by simp only [maxL]; omega) fun id2 H o => ?_
        (try simp only [go_sem, ↓reduceIte, reduceEqDiff, reduceAdd, reduceMul, reduceLeDiff, reduceLT, w2])
        exact for_next (_, _) (by omega) ⟨by rw [hout, nats_t h3], o⟩ rfl
      · (try simp only [go_sem, ↓reduceIte, reduceEqDiff, reduceAdd, reduceMul, reduceLeDiff, reduceLT, w2])
        exact for_next (_, _) (by omega) ⟨by rw [hout, nats_f h3], o⟩ rfl
    · (try simp only [go_sem, ↓reduceIte, reduceEqDiff, reduceAdd, reduceMul, reduceLeDiff, reduceLT])
      have h2p := h2; simp only [bnt, bnf, decide_eq_true_eq, decide_eq_false_iff_not, dect, decf, Int.not_lt, Int.not_le, Nat.not_lt, Decidable.not_not, ne_eq, Bool.true_eq_false, Bool.false_eq_true] at h2p
      refine fz_own o rfl fun H o => ?_
      (try simp only [go_sem, ↓reduceIte, reduceEqDiff, reduceAdd, reduceMul, reduceLeDiff, reduceLT])
      exact pure_ret (by rw [hout, ← hd, show k = A.length by omega]) o.sub
theorem sieveOf_ok (B : Nat) (c : Cat) (hs : c.Shape) (l : List Int) (hl : ∀ a, a ∈ l → 0 ≤ a ∧ a.toNat < c.frm.length) : Pur Tryz.prog B 209 [.ptr c.cells, iL l] (iL (closeS c l)) := by
  refine ⟨fun H0 => c209p (by simp) fun ⟨_, hf, _⟩ => ?_⟩
  have hll := fine_mL_le hf
  simp only [maxL] at hll
  have hm := hs.m
  have hcl := hs.cl
  have htl := hs.tol
  unfold s209p
  (try simp only [go_sem, ↓reduceIte, reduceEqDiff, reduceAdd, reduceMul, reduceLeDiff, reduceLT])
  refine (arrows_ok B c).go fun _ => ?_
  (try simp only [go_sem, ↓reduceIte, reduceEqDiff, reduceAdd, reduceMul, reduceLeDiff, reduceLT])
  refine ⟨⟨by omega, by simp only [maxL]; omega⟩, mks_list AV.bool false rfl (.nil _) fun id H o => ?_⟩
  (try simp only [go_sem, ↓reduceIte, reduceEqDiff, reduceAdd, reduceMul, reduceLeDiff, reduceLT])
  refine awp_for [0, 5, 13, 14] (fun k _ => [(15, some (.int .i64 (k : Int)))]) (fun k A H => CloseI c l k 0 A ∧ Owns H0 H [(id, .cells 1 (A.map AV.bool) 0)]) l.length _ ⟨CloseI.zero c l, o⟩ rfl ?_
  rintro k A H hk ⟨hI, o⟩
  (try simp only [go_sem, ↓reduceIte, reduceEqDiff, reduceAdd, reduceMul, reduceLeDiff, reduceLT])
  refine ⟨fun h1 => At.mk ?_, fun h1 => At.mk ?_⟩
  · (try simp only [go_sem, ↓reduceIte, reduceEqDiff, reduceAdd, reduceMul, reduceLeDiff, reduceLT])
    have h1p := h1; simp only [bnt, bnf, decide_eq_true_eq, decide_eq_false_iff_not, dect, decf, Int.not_lt, Int.not_le, Nat.not_lt, Decidable.not_not, ne_eq, Bool.true_eq_false, Bool.false_eq_true] at h1p
    have w1 := wsucc (k := k) (by omega)
    have ha := hl _ (mem_getD.mpr ⟨k, h1p, rfl⟩)
    have hr := hs.row' (a := l.getD k default) ha.2
    refine ⟨h1p, ⟨ha.1, by omega⟩, (outOf_ok B c _).go fun hfo => ?_⟩
    have hlo := fine_mL_le hfo
    simp only [maxL] at hlo
    have hI := hI.out
    (try simp only [go_sem, ↓reduceIte, reduceEqDiff, reduceAdd, reduceMul, reduceLeDiff, reduceLT])
    refine awp_for [0, 5, 7, 13, 14, 15, 27, 28] (fun b _ => [(29, some (.int .i64 (b : Int)))]) (fun b A H => CloseO c l k b A ∧ Owns H0 H [(id, .cells 1 (A.map AV.bool) 0)]) (outs c (ix c.to (l.getD k default))).length A ⟨hI, o⟩ rfl ?_
    rintro b A H hb ⟨hI, o⟩
    (try simp only [go_sem, ↓reduceIte, reduceEqDiff, reduceAdd, reduceMul, reduceLeDiff, reduceLT])
    refine ⟨fun h2 => At.mk ?_, fun h2 => At.mk ?_⟩
    · (try simp only [go_sem, ↓reduceIte, reduceEqDiff, reduceAdd, reduceMul, reduceLeDiff, reduceLT])
      have h2p := h2; simp only [bnt, bnf, decide_eq_true_eq, decide_eq_false_iff_not, dect, decf, Int.not_lt, Int.not_le, Nat.not_lt, Decidable.not_not, ne_eq, Bool.true_eq_false, Bool.false_eq_true] at h2p
      have w2 := wsucc (k := b) (by omega)
      have hmem : (outs c (ix c.to (l.getD k default))).getD b default ∈ outs c (ix c.to (l.getD k default)) := mem_getD.mpr ⟨b, h2p, rfl⟩
      rw [mem_outs] at hmem
      have hc := hs.comp ha ⟨hmem.1, hmem.2.1⟩ hmem.2.2.symm
      refine ⟨h2p, (catThen_ok B c _ _ ⟨ha.1, by omega⟩ ⟨hmem.1, by omega⟩).go fun _ => ?_⟩
      (try simp only [go_sem, ↓reduceIte, reduceEqDiff, reduceAdd, reduceMul, reduceLeDiff, reduceLT])
      refine ⟨⟨hc.1.1, by omega⟩, ?_⟩
      refine set_own true o rfl (by rw [hI.1]; omega) fun H o => ?_
      (try simp only [go_sem, ↓reduceIte, reduceEqDiff, reduceAdd, reduceMul, reduceLeDiff, reduceLT, w2])
      exact for_next _ (by omega) ⟨hI.set h2p hc.1.1, o⟩ rfl
    · (try simp only [go_sem, ↓reduceIte, reduceEqDiff, reduceAdd, reduceMul, reduceLeDiff, reduceLT, w1])
      have h2p := h2; simp only [bnt, bnf, decide_eq_true_eq, decide_eq_false_iff_not, dect, decf, Int.not_lt, Int.not_le, Nat.not_lt, Decidable.not_not, ne_eq, Bool.true_eq_false, Bool.false_eq_true] at h2p
      exact for_next _ (by omega) ⟨hI.row (by omega), o⟩ rfl
  · (try simp only [go_sem, ↓reduceIte, reduceEqDiff, reduceAdd, reduceMul, reduceLeDiff, reduceLT])
    have h1p := h1; simp only [bnt, bnf, decide_eq_true_eq, decide_eq_false_iff_not, dect, decf, Int.not_lt, Int.not_le, Nat.not_lt, Decidable.not_not, ne_eq, Bool.true_eq_false, Bool.false_eq_true] at h1p
    have hd := hI.done (by omega)
    rw [← hI.1]
    refine fz_own o rfl fun H o => ?_
    (try simp only [go_sem, ↓reduceIte, reduceEqDiff, reduceAdd, reduceMul, reduceLeDiff, reduceLT])
    refine (marked_ok B A).go fun _ => ?_
    (try simp only [go_sem, ↓reduceIte, reduceEqDiff, reduceAdd, reduceMul, reduceLeDiff, reduceLT])
    exact pure_ret (by rw [← hd]; rfl) o.sub
theorem indexFunc_ok (B : Nat) (l : List (List Int)) (fn : FuncId) (ca : List AV) (p : List Int → Bool) (hp : ∀ t, t ∈ l → PureF Tryz.prog B fn (iL t :: ca) (.bool (p t))) :
    Pur Tryz.prog B 245 [iLL l, .fn (.func fn) ca] (.int .i64 (match l.findIdx? p with | some i => (i : Int) | none => -1)) := by
  refine ⟨fun H0 => c245 (by simp) fun ⟨hf, _⟩ => ?_⟩
  have hll := fine_mL_le hf
  simp only [maxL] at hll
  unfold s245
  (try simp only [go_sem, ↓reduceIte, reduceEqDiff, reduceAdd, reduceMul, reduceLeDiff, reduceLT])
  refine awp_for [0, 1, 7] (fun k _ => [(8, some (.int .i64 (k : Int)))]) (fun k _ H => H = H0 ∧ ∀ i, i < k → p (l.getD i default) = false) l.length () ⟨rfl, by simp⟩ rfl ?_
  rintro k _ H hk ⟨rfl, hall⟩
  (try simp only [go_sem, ↓reduceIte, reduceEqDiff, reduceAdd, reduceMul, reduceLeDiff, reduceLT])
  refine ⟨fun h1 => At.mk ?_, fun h1 => At.mk ?_⟩
  · (try simp only [go_sem, ↓reduceIte, reduceEqDiff, reduceAdd, reduceMul, reduceLeDiff, reduceLT])
    have h1p := h1; simp only [bnt, bnf, decide_eq_true_eq, decide_eq_false_iff_not, dect, decf, Int.not_lt, Int.not_le, Nat.not_lt, Decidable.not_not, ne_eq, Bool.true_eq_false, Bool.false_eq_true] at h1p
    have w1 := wsucc (k := k) (by omega)
    refine ⟨h1p, (hp _ (mem_getD.mpr ⟨k, h1p, rfl⟩)).go fun _ => ?_⟩
    (try simp only [go_sem, ↓reduceIte, reduceEqDiff, reduceAdd, reduceMul, reduceLeDiff, reduceLT])
    refine ⟨fun h2 => At.mk ?_, fun h2 => At.mk ?_⟩
    · (try simp only [go_sem, ↓reduceIte, reduceEqDiff, reduceAdd, reduceMul, reduceLeDiff, reduceLT])
      refine pure_ret ?_ (.refl _)
      have : l.findIdx? p = some k := by
        rw [List.findIdx?_eq_some_iff_getElem]
        refine ⟨h1p, by simpa [List.getD_eq_getElem?_getD, h1p] using h2, fun j hj => ?_⟩
        have := hall j hj
        simpa [List.getD_eq_getElem?_getD, show j < l.length by omega] using this
      rw [this]
    · (try simp only [go_sem, ↓reduceIte, reduceEqDiff, reduceAdd, reduceMul, reduceLeDiff, reduceLT, w1])
      exact for_next () (by omega) ⟨rfl, lt_succ_all hall h2⟩ rfl
  · (try simp only [go_sem, ↓reduceIte, reduceEqDiff, reduceAdd, reduceMul, reduceLeDiff, reduceLT])
    have h1p := h1; simp only [bnt, bnf, decide_eq_true_eq, decide_eq_false_iff_not, dect, decf, Int.not_lt, Int.not_le, Nat.not_lt, Decidable.not_not, ne_eq, Bool.true_eq_false, Bool.false_eq_true] at h1p
    refine pure_ret ?_ (.refl _)
    have : l.findIdx? p = none := by
      rw [List.findIdx?_eq_none_iff]
      intro x hx
      obtain ⟨i, hi, rfl⟩ := mem_getD.mp hx
      exact hall i (by omega)
    rw [this]
theorem same2_ok (B : Nat) (s t : List Int) : Pur Tryz.prog B 211 [iL t, .ptr [iL s]] (.bool (dec (s = t))) := by
  refine ⟨fun H0 => c211 (by simp) fun _ => ?_⟩
  unfold s211
  (try simp only [go_sem, ↓reduceIte, reduceEqDiff, reduceAdd, reduceMul, reduceLeDiff, reduceLT])
  refine (same_ok ..).go fun _ => ?_
  (try simp only [go_sem, ↓reduceIte, reduceEqDiff, reduceAdd, reduceMul, reduceLeDiff, reduceLT])
  exact pure_ret rfl (.refl _)
theorem cmp2_ok (B : Nat) (s t : List Int) : Pur Tryz.prog B 213 [iL s, iL t] (.int .i64 (cmp s t)) := by
  refine ⟨fun H0 => c213 (by simp) fun _ => ?_⟩
  unfold s213
  (try simp only [go_sem, ↓reduceIte, reduceEqDiff, reduceAdd, reduceMul, reduceLeDiff, reduceLT])
  refine (compare_ok ..).go fun _ => ?_
  (try simp only [go_sem, ↓reduceIte, reduceEqDiff, reduceAdd, reduceMul, reduceLeDiff, reduceLT])
  exact pure_ret rfl (.refl _)
theorem findIdx_same {α : Type} [DecidableEq α] (l : List α) (s : α) : (match l.findIdx? fun t => dec (s = t) with | some i => (i : Int) | none => -1) = indexOf l s := by
  rw [indexOf, List.idxOf?]
  have : (fun t => dec (s = t)) = fun t => t == s := by
    funext t; rw [← decide_dec, Bool.eq_iff_iff, decide_eq_true_eq, beq_iff_eq, eq_comm]
  rw [this]; rfl
theorem indexOf_mem {α : Type} [DecidableEq α] [Inhabited α] (l : List α) (s : α) : 0 ≤ indexOf l s ↔ s ∈ l := by
  constructor
  · intro h
    apply Classical.byContradiction; intro hn
    rw [indexOf_miss fun i hi e => hn (mem_getD.mpr ⟨i, hi, e⟩)] at h
    omega
  · intro h
    unfold indexOf
    split
    · omega
    · rename_i e; rw [List.idxOf?_eq_none_iff] at e; exact absurd h e
theorem containsFunc_ok (B : Nat) (l : List (List Int)) (s : List Int) : Pur Tryz.prog B 210 [iLL l, .fn (.func 211) [.ptr [iL s]]] (.bool (dec (s ∈ l))) := by
  refine ⟨fun H0 => c210 (by simp) fun _ => ?_⟩
  unfold s210
  (try simp only [go_sem, ↓reduceIte, reduceEqDiff, reduceAdd, reduceMul, reduceLeDiff, reduceLT])
  refine (indexFunc_ok B l 211 _ _ fun t _ => (same2_ok B s t).run).go fun _ => ?_
  rw [findIdx_same]
  (try simp only [go_sem, ↓reduceIte, reduceEqDiff, reduceAdd, reduceMul, reduceLeDiff, reduceLT])
  refine pure_ret ?_ (.refl _)
  congr 1
  rw [decide_dec]; exact dec_congr (indexOf_mem l s)
end Go.Proofs.Shf
namespace Go.Proofs.Shf
open Go.AW Go.Proofs Go.Shf
def OwnK {α : Type} (f : α → AV) (H0 : Heap) (l : List (Nat × MObj)) (Q : List α → Prop) : Kont := fun r H' => ∃ id A, r = .buf id A.length ∧ Owns H0 H' ((id, .cells 1 (A.map f) 0) :: l) ∧ Q A
theorem own_ret {α : Type} {f : α → AV} {H0 H : Heap} {l : List (Nat × MObj)} {Q : List α → Prop} {id n : Nat} {A : List α} (o : Owns H0 H ((id, .cells 1 (A.map f) 0) :: l)) (hn : n = A.length) (hq : Q A) :
    subW (OwnK f H0 l Q) (.buf id n) H := ⟨H, .refl H, id, A, by rw [hn], o, hq⟩
end Go.Proofs.Shf
namespace Go.AW
open Go.Proofs Go.Shf Go.Proofs.Shf
theorem CallH.own {P : Program} {α : Type} {f : α → AV} {B : Nat} {fn : FuncId} {args : List AV} {H0 H : Heap} {l : List (Nat × MObj)} {Q : List α → Prop} {K : Kont} (h : CallH P B fn args H (OwnK f H0 l Q))
    (hk : ∀ id A H', Owns H0 H' ((id, .cells 1 (A.map f) 0) :: l) → Q A → K (.buf id A.length) H') : CallH P B fn args H K :=
  h.mono fun r H' ⟨id, A, e, o, q⟩ => by subst e; exact hk id A H' o q
end Go.AW
namespace Go.Proofs.Shf
open Go.AW Go.Proofs Go.Shf
theorem l01Own_own (B : Nat) (l : List Int) (H0 H : Heap) (r : List (Nat × MObj)) (o : Owns H0 H r) : CallH Tryz.prog B 114 [iL l] H (OwnK iI H0 r (· = l)) := by
  refine c114p (by simp) fun ⟨hf, _⟩ => ?_
  have hl := fine_mL_le hf
  unfold s114p
  (try simp only [go_sem, ↓reduceIte, reduceEqDiff, reduceAdd, reduceMul, reduceLeDiff, reduceLT])
  refine new_list iI o fun id H o => ?_
  (try simp only [go_sem, ↓reduceIte, reduceEqDiff, reduceAdd, reduceMul, reduceLeDiff, reduceLT])
  refine app_list (f := iI) o rfl (by simpa using hl) fun id H o => ?_
  (try simp only [go_sem, ↓reduceIte, reduceEqDiff, reduceAdd, reduceMul, reduceLeDiff, reduceLT])
  exact own_ret o rfl rfl
theorem clone_own (B : Nat) (l : List Int) (H0 H : Heap) (r : List (Nat × MObj)) (o : Owns H0 H r) : CallH Tryz.prog B 189 [iL l] H (OwnK iI H0 r (· = l)) := by
  refine c189p (by simp) fun ⟨hf, _⟩ => ?_
  have hl := fine_mL_le hf
  unfold s189p
  (try simp only [go_sem, ↓reduceIte, reduceEqDiff, reduceAdd, reduceMul, reduceLeDiff, reduceLT])
  refine new_list iI o fun id H o => ?_
  (try simp only [go_sem, ↓reduceIte, reduceEqDiff, reduceAdd, reduceMul, reduceLeDiff, reduceLT])
  refine app_list (f := iI) o rfl (by simpa using hl) fun id H o => ?_
  (try simp only [go_sem, ↓reduceIte, reduceEqDiff, reduceAdd, reduceMul, reduceLeDiff, reduceLT])
  exact own_ret o rfl rfl
end Go.Proofs.Shf
namespace Go.Proofs.Shf
open Go.AW Go.Proofs Go.Shf
end Go.Proofs.Shf
namespace Go.Proofs.Shf
open Go.AW Go.Proofs Go.Shf
end Go.Proofs.Shf
namespace Go.AW
open Go.Proofs Go.Shf Go.Proofs.Shf
theorem Owns.rc {H0 H : Heap} {l : List (Nat × MObj)} {id sz fr : Nat} {cs : List AV} (o : Owns H0 H ((id, .cells sz cs fr) :: l)) (n off : Nat) (h : off + n ≤ cs.length) : rc1 (some n) off (H.get id) = some (.agg ((cs.drop off).take n)) := by
  have h0 := o.h0
  simp only at h0
  rw [h0, rc1_n, if_pos h]
end Go.AW
namespace Go.Proofs.Shf
open Go.AW Go.Proofs Go.Shf
end Go.Proofs.Shf
namespace Go.Proofs.Shf
open Go.AW Go.Proofs Go.Shf
end Go.Proofs.Shf
namespace Go.Proofs.Shf
open Go.AW Go.Proofs Go.Shf
end Go.Proofs.Shf
namespace Go.Proofs.Shf
open Go.AW Go.Proofs Go.Shf
end Go.Proofs.Shf
namespace Go.Proofs.Shf
open Go.AW Go.Proofs Go.Shf
theorem sfIsShape_ok (B : Nat) (f : SF) : Pur Tryz.prog B 175 [.ptr f.cells] (.bool (dec f.Shape)) := by
  refine ⟨fun H0 => c175 (by simp) fun ⟨hf, _⟩ => ?_⟩
  have hl := fine_mL_le (hf.ptr (c := iL f.sizes) (by simp [SF.cells]))
  have hl2 := fine_mL_le (hf.ptr (c := iLL f.acts) (by simp [SF.cells]))
  simp only [maxL] at hl hl2
  unfold s175
  (try simp only [go_sem, ↓reduceIte, reduceEqDiff, reduceAdd, reduceMul, reduceLeDiff, reduceLT])
  refine ⟨_, (isCategory_ok B f.shape).run, ?_⟩
  (try simp only [go_sem, ↓reduceIte, reduceEqDiff, reduceAdd, reduceMul, reduceLeDiff, reduceLT])
  refine ⟨fun h1 => At.mk ?_, fun h1 => At.mk ?_⟩
  rotate_left
  · (try simp only [go_sem, ↓reduceIte, reduceEqDiff, reduceAdd, reduceMul, reduceLeDiff, reduceLT, h1])
    have h1p := h1; simp only [bnt, bnf, decide_eq_true_eq, decide_eq_false_iff_not, dect, decf, Int.not_lt, Int.not_le, Nat.not_lt, Decidable.not_not, ne_eq, Bool.true_eq_false, Bool.false_eq_true] at h1p
    exact pure_ret (by rw [dec_f]; intro s; exact h1p s.is) (.refl _)
  (try simp only [go_sem, ↓reduceIte, reduceEqDiff, reduceAdd, reduceMul, reduceLeDiff, reduceLT, h1])
  have h1p := h1; simp only [bnt, bnf, decide_eq_true_eq, decide_eq_false_iff_not, dect, decf, Int.not_lt, Int.not_le, Nat.not_lt, Decidable.not_not, ne_eq, Bool.true_eq_false, Bool.false_eq_true] at h1p
  have hs := h1p.1
  have htl := hs.tol
  refine ⟨fun h2 => At.mk ?_, fun h2 => At.mk ?_⟩
  rotate_left
  · (try simp only [go_sem, ↓reduceIte, reduceEqDiff, reduceAdd, reduceMul, reduceLeDiff, reduceLT, h2])
    have h2p := h2; simp only [bnt, bnf, decide_eq_true_eq, decide_eq_false_iff_not, dect, decf, Int.not_lt, Int.not_le, Nat.not_lt, Decidable.not_not, ne_eq, Bool.true_eq_false, Bool.false_eq_true] at h2p
    exact pure_ret (by rw [dec_f]; intro s; exact h2p s.sl) (.refl _)
  (try simp only [go_sem, ↓reduceIte, reduceEqDiff, reduceAdd, reduceMul, reduceLeDiff, reduceLT, h2])
  have h2p := h2; simp only [bnt, bnf, decide_eq_true_eq, decide_eq_false_iff_not, dect, decf, Int.not_lt, Int.not_le, Nat.not_lt, Decidable.not_not, ne_eq, Bool.true_eq_false, Bool.false_eq_true] at h2p
  refine ⟨_, (within_ok B f.sizes 17 (by omega)).run, ?_⟩
  (try simp only [go_sem, ↓reduceIte, reduceEqDiff, reduceAdd, reduceMul, reduceLeDiff, reduceLT])
  refine ⟨fun h3 => At.mk ?_, fun h3 => At.mk ?_⟩
  rotate_left
  · (try simp only [go_sem, ↓reduceIte, reduceEqDiff, reduceAdd, reduceMul, reduceLeDiff, reduceLT, h3])
    have h3p := h3; simp only [bnt, bnf, decide_eq_true_eq, decide_eq_false_iff_not, dect, decf, Int.not_lt, Int.not_le, Nat.not_lt, Decidable.not_not, ne_eq, Bool.true_eq_false, Bool.false_eq_true] at h3p
    exact pure_ret (by rw [dec_f]; intro s; exact h3p s.sz) (.refl _)
  (try simp only [go_sem, ↓reduceIte, reduceEqDiff, reduceAdd, reduceMul, reduceLeDiff, reduceLT, h3])
  have h3p := h3; simp only [bnt, bnf, decide_eq_true_eq, decide_eq_false_iff_not, dect, decf, Int.not_lt, Int.not_le, Nat.not_lt, Decidable.not_not, ne_eq, Bool.true_eq_false, Bool.false_eq_true] at h3p
  refine ⟨_, (arrows_ok B f.shape).run, ?_⟩
  (try simp only [go_sem, ↓reduceIte, reduceEqDiff, reduceAdd, reduceMul, reduceLeDiff, reduceLT])
  refine ⟨fun h4 => At.mk ?_, fun h4 => At.mk ?_⟩
  · (try simp only [go_sem, ↓reduceIte, reduceEqDiff, reduceAdd, reduceMul, reduceLeDiff, reduceLT, h4])
    have h4p := h4; simp only [bnt, bnf, decide_eq_true_eq, decide_eq_false_iff_not, dect, decf, Int.not_lt, Int.not_le, Nat.not_lt, Decidable.not_not, ne_eq, Bool.true_eq_false, Bool.false_eq_true] at h4p
    exact pure_ret (by rw [dec_f]; intro s; exact h4p s.al) (.refl _)
  (try simp only [go_sem, ↓reduceIte, reduceEqDiff, reduceAdd, reduceMul, reduceLeDiff, reduceLT, h4])
  have h4p := h4; simp only [bnt, bnf, decide_eq_true_eq, decide_eq_false_iff_not, dect, decf, Int.not_lt, Int.not_le, Nat.not_lt, Decidable.not_not, ne_eq, Bool.true_eq_false, Bool.false_eq_true] at h4p
  refine awp_for [0, 3, 45, 46] (fun k _ => [(47, some (.int .i64 (k : Int)))]) (fun k _ H' => H' = H0 ∧ ∀ a, a < k → ((f.acts.getD a default).length : Int) = ix f.sizes (f.shape.frm.getD a default) ∧
    ∀ y, y ∈ f.acts.getD a default → 0 ≤ y ∧ y < ix f.sizes (f.shape.to.getD a default)) f.acts.length () ⟨rfl, by simp⟩ rfl ?_
  rintro a _ H' ha ⟨rfl, hact⟩
  (try simp only [go_sem, ↓reduceIte, reduceEqDiff, reduceAdd, reduceMul, reduceLeDiff, reduceLT])
  refine ⟨fun g2 => At.mk ?_, fun g2 => At.mk ?_⟩
  rotate_left
  · (try simp only [go_sem, ↓reduceIte, reduceEqDiff, reduceAdd, reduceMul, reduceLeDiff, reduceLT])
    have g2p := g2; simp only [bnt, bnf, decide_eq_true_eq, decide_eq_false_iff_not, dect, decf, Int.not_lt, Int.not_le, Nat.not_lt, Decidable.not_not, ne_eq, Bool.true_eq_false, Bool.false_eq_true] at g2p
    exact pure_ret (by rw [dec_t]; exact ⟨h1p, h2p, h4p, h3p, fun a h => hact a (by omega)⟩) (.refl _)
  have g2p := g2; simp only [bnt, bnf, decide_eq_true_eq, decide_eq_false_iff_not, dect, decf, Int.not_lt, Int.not_le, Nat.not_lt, Decidable.not_not, ne_eq, Bool.true_eq_false, Bool.false_eq_true] at g2p
  have wa := wsucc (k := a) (by omega)
  have haf : a < f.shape.frm.length := by omega
  have f1 := hs.frm' haf
  have f2 := hs.to' haf
  have hil := hs.il
  have hto := h3p _ (ix_mem (l := f.sizes) (i := f.shape.to.getD a default) (by omega))
  (try simp only [go_sem, ↓reduceIte, reduceEqDiff, reduceAdd, reduceMul, reduceLeDiff, reduceLT])
  refine ⟨g2p, haf, ⟨f1.1, by omega⟩, by omega, ⟨f2.1, by omega⟩, _, (isMapOf_ok B _ _ _ (by omega)).run, ?_⟩
  (try simp only [go_sem, ↓reduceIte, reduceEqDiff, reduceAdd, reduceMul, reduceLeDiff, reduceLT])
  refine ⟨fun g4 => At.mk ?_, fun g4 => At.mk ?_⟩
  · (try simp only [go_sem, ↓reduceIte, reduceEqDiff, reduceAdd, reduceMul, reduceLeDiff, reduceLT])
    have g4p := g4; simp only [bnt, bnf, decide_eq_true_eq, decide_eq_false_iff_not, dect, decf, Int.not_lt, Int.not_le, Nat.not_lt, Decidable.not_not, ne_eq, Bool.true_eq_false, Bool.false_eq_true] at g4p
    exact pure_ret (by rw [dec_f]; intro s; exact g4p (s.act a g2p)) (.refl _)
  · (try simp only [go_sem, ↓reduceIte, reduceEqDiff, reduceAdd, reduceMul, reduceLeDiff, reduceLT, wa])
    have g4p := g4; simp only [bnt, bnf, decide_eq_true_eq, decide_eq_false_iff_not, dect, decf, Int.not_lt, Int.not_le, Nat.not_lt, Decidable.not_not, ne_eq, Bool.true_eq_false, Bool.false_eq_true] at g4p
    exact for_next () g2p ⟨rfl, lt_succ_all hact g4p⟩ rfl
end Go.Proofs.Shf
namespace Go.Proofs.Shf
open Go.AW Go.Proofs Go.Shf
end Go.Proofs.Shf
