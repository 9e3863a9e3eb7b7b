/- Contracts, part 4. -/
import Derived.Test.YtadpkiiglobmpaaGreatF3
set_option linter.unusedVariables false
set_option linter.unusedSimpArgs false
set_option linter.unusedSectionVars false
open Nat (reduceEqDiff reduceAdd reduceMul reduceLeDiff reduceLT)
namespace Go.Proofs.Shf
open Go.AW Go.Proofs Go.Shf
end Go.Proofs.Shf
namespace Go.Proofs.Shf
open Go.AW Go.Proofs Go.Shf
@[go_sem] noncomputable def stepCells (f : SF) (V : List (List Int)) : List AV := [iI f.shape.objs, iL f.shape.frm, iL f.shape.to, iL f.shape.idn, iLL f.shape.comp, iL (stepSizes f V), iLL (stepActs f V), iLLL (famsOf f V)]
end Go.Proofs.Shf
namespace Go.Proofs.Shf
open Go.AW Go.Proofs Go.Shf
end Go.Proofs.Shf
namespace Go.AW
open Go.Proofs Go.Proofs.Shf
theorem Owns.subl {H0 H : Heap} {l l' : List (Nat × MObj)} (h : Owns H0 H l) (k : l'.Sublist l) : Owns H0 H l' :=
  ⟨h.sub, fun x hx => h.get x (k.subset hx), h.nd.sublist (k.map _), fun x hx => h.out x (k.subset hx)⟩
end Go.AW
namespace Go.Proofs.Shf
open Go.AW Go.Proofs Go.Shf
end Go.Proofs.Shf
namespace Go.AW
def iB (b : UInt8) : AV := .int .u8 (b.toNat : Int)
instance : One iB := ⟨fun _ => rfl, fun _ => rfl⟩
structure Src where
  code : List UInt8
  pl : Int
  hash : Int
def Src.cells (s : Src) : List AV := [mL iB s.code, .int .i64 s.pl, .int .u64 s.hash]
def Src.Ok (s : Src) : Prop := 0 ≤ s.pl ∧ s.code.length ≤ maxL
def Src.obj (s : Src) : MObj := .cells 3 s.cells 0
def SrcK (id : Nat) (H0 : Heap) (Q : AV → Prop) : Kont := fun r H' => Q r ∧ ∃ s' : Src, s'.Ok ∧ Owns H0 H' [(id, s'.obj)]
theorem Owns.self {H0 H : Heap} {id : Nat} {o : MObj} {l : List (Nat × MObj)} (h : Owns H0 H ((id, o) :: l)) : Owns (H.del id) H [(id, o)] where
  sub := fun i x hx => by
    by_cases e : i = id
    · subst e; rw [Heap.get_del_same] at hx; cases hx
    · rwa [Heap.get_del_ne _ e] at hx
  get := fun x hx => by
    rw [List.mem_singleton] at hx; subst hx
    exact h.get _ (by simp)
  nd := by simp
  out := fun x hx => by
    rw [List.mem_singleton] at hx; subst hx
    exact Heap.get_del_same _ _
end Go.AW
namespace Go.Proofs.Shf
open Go.AW Go.Proofs Go.Shf
theorem masked_ran {a x : Int} (h : IntKind.i64.wrap (IntKind.u64.wrap ((BitVec.ofInt IntKind.u64.bits a &&& BitVec.ofInt IntKind.u64.bits 16777215).toNat : Int)) = x) : 0 ≤ x ∧ x ≤ 16777215 := by
  have h1 : (BitVec.ofInt IntKind.u64.bits a &&& BitVec.ofInt IntKind.u64.bits 16777215).toNat ≤ 16777215 := by
    rw [BitVec.toNat_and]
    have : (BitVec.ofInt IntKind.u64.bits 16777215).toNat = 16777215 := rfl
    rw [this]
    exact Nat.and_le_right
  generalize (BitVec.ofInt IntKind.u64.bits a &&& BitVec.ofInt IntKind.u64.bits 16777215).toNat = m at h h1
  have e : IntKind.u64.wrap (m : Int) = m := by
    have : IntKind.u64.wrap (m : Int) = (m : Int) % 18446744073709551616 := by simp only [IntKind.wrap]; rfl
    omega
  rw [e, wrap_i64 (by omega) (by omega)] at h
  omega
def Rd (B : Nat) (fn : FuncId) (args : List AV) (Q : AV → Prop) : Prop :=
  ∀ (id : Nat) (s : Src) (H0 H : Heap), s.Ok → Owns H0 H [(id, s.obj)] → CallH Tryz.prog B fn (.ref id 0 :: args) H (SrcK id H0 Q)
theorem Rd.go {B : Nat} {fn : FuncId} {args : List AV} {Q : AV → Prop} {id : Nat} {s : Src} {H0 H : Heap} {l : List (Nat × MObj)} {K : Kont} (h : Rd B fn args Q) (hs : s.Ok) (o : Owns H0 H ((id, s.obj) :: l))
    (hk : ∀ (r : AV) (s' : Src) (H' : Heap), r.fine → Q r → s'.Ok → Owns H0 H' ((id, s'.obj) :: l) → K r H') : CallH Tryz.prog B fn (.ref id 0 :: args) H K :=
  (h id s _ H hs o.self).mono' fun r H' hf ⟨q, s', hs', o'⟩ => hk r s' H' hf q hs' (o.del.trans o')
theorem src_ret {id : Nat} {s : Src} {H0 H : Heap} {l : List (Nat × MObj)} {Q : AV → Prop} {v : AV} (q : Q v) (hs : s.Ok) (o : Owns H0 H ((id, s.obj) :: l)) : subW (SrcK id H0 Q) v H :=
  ⟨H, .refl H, q, s, hs, o.subl (by simp)⟩
def Rets (B : Nat) (fn : FuncId) (args : List AV) (Q : AV → Prop) : Prop := ∀ H, CallH Tryz.prog B fn args H fun r H' => Q r ∧ H' = H
theorem Rets.go {B : Nat} {fn : FuncId} {args : List AV} {Q : AV → Prop} {H : Heap} {K : Kont} (h : Rets B fn args Q) (hk : ∀ r, r.fine → Q r → K r H) : CallH Tryz.prog B fn args H K :=
  (h H).mono' fun r H' hf ⟨q, e⟩ => by subst e; exact hk r hf q
theorem rets_ret {H0 H : Heap} {Q : AV → Prop} {v : AV} (q : Q v) (h : H0.sub H) : subW (fun r H' => Q r ∧ H' = H0) v H := ⟨H0, h, q, rfl⟩
theorem l01Next_ok (B : Nat) (n : Int) : Rd B 75 [iI n] fun r => ∃ k : Int, r = iI k ∧ 0 ≤ k ∧ (1 ≤ n → k < n) ∧ (n < 1 → k = 0) := by
  intro id s H0 H hs o
  refine c75 (by simp) fun hf => ?_
  unfold s75
  (try simp only [go_sem, ↓reduceIte, reduceEqDiff, reduceAdd, reduceMul, reduceLeDiff, reduceLT])
  refine ⟨fun h1 => At.mk ?_, fun h1 => At.mk ?_⟩
  · have h1p := of_decide h1
    (try simp only [go_sem, ↓reduceIte, reduceEqDiff, reduceAdd, reduceMul, reduceLeDiff, reduceLT])
    exact src_ret ⟨0, rfl, by omega, by omega, fun _ => rfl⟩ hs o
  · have h1p := of_ndecide h1
    (try simp only [go_sem, ↓reduceIte, reduceEqDiff, reduceAdd, reduceMul, reduceLeDiff, reduceLT])
    obtain ⟨code, pl, hash⟩ := s
    simp only [Src.obj, Src.cells] at o
    simp only [Src.Ok, maxL] at hs
    refine rd_cells o (by simp) ?_
    (try simp only [go_sem, ↓reduceIte, reduceEqDiff, reduceAdd, reduceMul, reduceLeDiff, reduceLT])
    refine st_cells o (by simp) (by (try simp only [go_sem]); (try simp)) (by first | (simp only [go_sem]; done) | ((try simp only [go_sem]); simp [AV.one, one_mL])) fun H o => ?_
    simp only [wr_cons, wr_nil, List.set_cons_zero, List.set_cons_succ] at o
    (try simp only [go_sem, ↓reduceIte, reduceEqDiff, reduceAdd, reduceMul, reduceLeDiff, reduceLT])
    refine rd_cells o (by simp) ?_
    (try simp only [go_sem, ↓reduceIte, reduceEqDiff, reduceAdd, reduceMul, reduceLeDiff, reduceLT])
    generalize hx : IntKind.i64.wrap (IntKind.u64.wrap _) = x
    have hx2 := masked_ran hx
    clear hx
    refine ⟨by omega, rd_cells o (by simp) ?_⟩
    (try simp only [go_sem, ↓reduceIte, reduceEqDiff, reduceAdd, reduceMul, reduceLeDiff, reduceLT])
    refine rd_cells o (by simp) ?_
    (try simp only [go_sem, ↓reduceIte, reduceEqDiff, reduceAdd, reduceMul, reduceLeDiff, reduceLT])
    refine ⟨fun h2 => At.mk ?_, fun h2 => At.mk ?_⟩
    · have h2p := of_decide h2
      (try simp only [go_sem, ↓reduceIte, reduceEqDiff, reduceAdd, reduceMul, reduceLeDiff, reduceLT])
      refine rd_cells o (by simp) ?_
      (try simp only [go_sem, ↓reduceIte, reduceEqDiff, reduceAdd, reduceMul, reduceLeDiff, reduceLT])
      refine rd_cells o (by simp) ?_
      (try simp only [go_sem, ↓reduceIte, reduceEqDiff, reduceAdd, reduceMul, reduceLeDiff, reduceLT])
      refine ⟨⟨hs.1, by omega⟩, ?_⟩
      have hb := (ix code pl).toNat_lt
      (try simp only [go_sem, ↓reduceIte, reduceEqDiff, reduceAdd, reduceMul, reduceLeDiff, reduceLT, iB])
      generalize (ix code pl).toNat = b at hb ⊢
      have e1 : IntKind.i64.wrap (b : Int) = b := wrap_i64 (by omega) (by omega)
      have e2 : IntKind.i64.wrap (x + b) = x + b := wrap_i64 (by omega) (by omega)
      have e3 : IntKind.i64.wrap (pl + 1) = pl + 1 := wrap_i64 (by omega) (by omega)
      (try simp only [go_sem, ↓reduceIte, reduceEqDiff, reduceAdd, reduceMul, reduceLeDiff, reduceLT, e1, e2])
      refine rd_cells o (by simp) ?_
      (try simp only [go_sem, ↓reduceIte, reduceEqDiff, reduceAdd, reduceMul, reduceLeDiff, reduceLT, e3])
      refine st_cells o (by simp) (by (try simp only [go_sem]); (try simp)) (by first | (simp only [go_sem]; done) | ((try simp only [go_sem]); simp [AV.one, one_mL])) fun H o => ?_
      simp only [wr_cons, wr_nil, List.set_cons_zero, List.set_cons_succ] at o
      (try simp only [go_sem, ↓reduceIte, reduceEqDiff, reduceAdd, reduceMul, reduceLeDiff, reduceLT])
      refine ⟨by omega, src_ret (s := ⟨code, pl + 1, _⟩) ⟨(x + b).tmod n, rfl, ?_, ?_, ?_⟩ ⟨by show 0 ≤ pl + 1; omega, hs.2⟩ o⟩
      · exact Int.tmod_nonneg _ (by omega)
      · intro h; exact Int.tmod_lt_of_pos _ (by omega)
      · intro h; omega
    · (try simp only [go_sem, ↓reduceIte, reduceEqDiff, reduceAdd, reduceMul, reduceLeDiff, reduceLT])
      refine ⟨by omega, src_ret (s := ⟨code, pl, _⟩) ⟨x.tmod n, rfl, ?_, ?_, ?_⟩ hs o⟩
      · exact Int.tmod_nonneg _ (by omega)
      · intro h; exact Int.tmod_lt_of_pos _ (by omega)
      · intro h; omega
theorem below_ok (B : Nat) (n : Int) : Rd B 34 [iI n] fun r => ∃ k : Int, r = iI k ∧ 0 ≤ k ∧ (1 ≤ n → k < n) ∧ (n < 1 → k = 0) := by
  intro id s H0 H hs o
  refine c34 (by simp) fun hf => ?_
  unfold s34
  (try simp only [go_sem, ↓reduceIte, reduceEqDiff, reduceAdd, reduceMul, reduceLeDiff, reduceLT])
  refine ⟨fun h1 => At.mk ?_, fun h1 => At.mk ?_⟩
  · have h1p := of_decide h1
    (try simp only [go_sem, ↓reduceIte, reduceEqDiff, reduceAdd, reduceMul, reduceLeDiff, reduceLT])
    exact src_ret ⟨0, rfl, by omega, by omega, fun _ => rfl⟩ hs o
  · have h1p := of_ndecide h1
    (try simp only [go_sem, ↓reduceIte, reduceEqDiff, reduceAdd, reduceMul, reduceLeDiff, reduceLT])
    obtain ⟨code, pl, hash⟩ := s
    simp only [Src.obj, Src.cells] at o
    simp only [Src.Ok, maxL] at hs
    refine rd_cells o (by simp) ?_
    (try simp only [go_sem, ↓reduceIte, reduceEqDiff, reduceAdd, reduceMul, reduceLeDiff, reduceLT])
    refine st_cells o (by simp) (by (try simp only [go_sem]); (try simp)) (by first | (simp only [go_sem]; done) | ((try simp only [go_sem]); simp [AV.one, one_mL])) fun H o => ?_
    simp only [wr_cons, wr_nil, List.set_cons_zero, List.set_cons_succ] at o
    (try simp only [go_sem, ↓reduceIte, reduceEqDiff, reduceAdd, reduceMul, reduceLeDiff, reduceLT])
    refine rd_cells o (by simp) ?_
    (try simp only [go_sem, ↓reduceIte, reduceEqDiff, reduceAdd, reduceMul, reduceLeDiff, reduceLT])
    generalize hx : IntKind.i64.wrap (IntKind.u64.wrap _) = x
    have hx2 := masked_ran hx
    clear hx
    refine ⟨by omega, rd_cells o (by simp) ?_⟩
    (try simp only [go_sem, ↓reduceIte, reduceEqDiff, reduceAdd, reduceMul, reduceLeDiff, reduceLT])
    refine rd_cells o (by simp) ?_
    (try simp only [go_sem, ↓reduceIte, reduceEqDiff, reduceAdd, reduceMul, reduceLeDiff, reduceLT])
    refine ⟨fun h2 => At.mk ?_, fun h2 => At.mk ?_⟩
    · have h2p := of_decide h2
      (try simp only [go_sem, ↓reduceIte, reduceEqDiff, reduceAdd, reduceMul, reduceLeDiff, reduceLT])
      refine rd_cells o (by simp) ?_
      (try simp only [go_sem, ↓reduceIte, reduceEqDiff, reduceAdd, reduceMul, reduceLeDiff, reduceLT])
      refine rd_cells o (by simp) ?_
      (try simp only [go_sem, ↓reduceIte, reduceEqDiff, reduceAdd, reduceMul, reduceLeDiff, reduceLT])
      refine ⟨⟨hs.1, by omega⟩, ?_⟩
      have hb := (ix code pl).toNat_lt
      (try simp only [go_sem, ↓reduceIte, reduceEqDiff, reduceAdd, reduceMul, reduceLeDiff, reduceLT, iB])
      generalize (ix code pl).toNat = b at hb ⊢
      have e1 : IntKind.i64.wrap (b : Int) = b := wrap_i64 (by omega) (by omega)
      have e2 : IntKind.i64.wrap (x + b) = x + b := wrap_i64 (by omega) (by omega)
      have e3 : IntKind.i64.wrap (pl + 1) = pl + 1 := wrap_i64 (by omega) (by omega)
      (try simp only [go_sem, ↓reduceIte, reduceEqDiff, reduceAdd, reduceMul, reduceLeDiff, reduceLT, e1, e2])
      refine rd_cells o (by simp) ?_
      (try simp only [go_sem, ↓reduceIte, reduceEqDiff, reduceAdd, reduceMul, reduceLeDiff, reduceLT, e3])
      refine st_cells o (by simp) (by (try simp only [go_sem]); (try simp)) (by first | (simp only [go_sem]; done) | ((try simp only [go_sem]); simp [AV.one, one_mL])) fun H o => ?_
      simp only [wr_cons, wr_nil, List.set_cons_zero, List.set_cons_succ] at o
      (try simp only [go_sem, ↓reduceIte, reduceEqDiff, reduceAdd, reduceMul, reduceLeDiff, reduceLT])
      refine ⟨by omega, src_ret (s := ⟨code, pl + 1, _⟩) ⟨(x + b).tmod n, rfl, ?_, ?_, ?_⟩ ⟨by show 0 ≤ pl + 1; omega, hs.2⟩ o⟩
      · exact Int.tmod_nonneg _ (by omega)
      · intro h; exact Int.tmod_lt_of_pos _ (by omega)
      · intro h; omega
    · (try simp only [go_sem, ↓reduceIte, reduceEqDiff, reduceAdd, reduceMul, reduceLeDiff, reduceLT])
      refine ⟨by omega, src_ret (s := ⟨code, pl, _⟩) ⟨x.tmod n, rfl, ?_, ?_, ?_⟩ hs o⟩
      · exact Int.tmod_nonneg _ (by omega)
      · intro h; exact Int.tmod_lt_of_pos _ (by omega)
      · intro h; omega
theorem l01Pick_ok (B : Nat) (l : List Int) (hl : l ≠ []) : Rd B 275 [iL l] fun r => ∃ k : Int, r = iI k ∧ k ∈ l := by
  intro id s H0 H hs o
  refine c275 (by simp) fun hf => ?_
  have hp : 0 < l.length := List.length_pos_iff.mpr hl
  unfold s275
  (try simp only [go_sem, ↓reduceIte, reduceEqDiff, reduceAdd, reduceMul, reduceLeDiff, reduceLT])
  refine (l01Next_ok B l.length).go hs o fun r s' H hr ⟨k, e, h0, h1, _⟩ hs o => ?_
  subst e
  have h1 := h1 (by omega)
  (try simp only [go_sem, ↓reduceIte, reduceEqDiff, reduceAdd, reduceMul, reduceLeDiff, reduceLT])
  refine ⟨⟨h0, by omega⟩, ?_⟩
  (try simp only [go_sem, ↓reduceIte, reduceEqDiff, reduceAdd, reduceMul, reduceLeDiff, reduceLT])
  exact src_ret ⟨_, rfl, ix_mem (by omega)⟩ hs o
theorem l02Number_ok (B : Nat) (n : Int) : Rd B 199 [iI n] fun r => ∃ k : Int, r = iI k := by
  intro id s H0 H hs o
  refine c199 (by simp) fun hf => ?_
  unfold s199
  (try simp only [go_sem, ↓reduceIte, reduceEqDiff, reduceAdd, reduceMul, reduceLeDiff, reduceLT])
  refine (l01Next_ok B 40).go hs o fun r s' H hr ⟨k, e, h0, h1, _⟩ hs o => ?_
  subst e
  (try simp only [go_sem, ↓reduceIte, reduceEqDiff, reduceAdd, reduceMul, reduceLeDiff, reduceLT])
  refine ⟨fun h1 => At.mk ?_, fun h1 => At.mk ?_⟩
  · (try simp only [go_sem, ↓reduceIte, reduceEqDiff, reduceAdd, reduceMul, reduceLeDiff, reduceLT])
    refine ⟨?_, ?_⟩
    · simp [maxL]
    refine (l01Pick_ok B [-1, n, 9223372036854775807, -9223372036854775808] (by simp)).go hs o fun r s' H hr ⟨k, e, _⟩ hs o => ?_
    subst e
    (try simp only [go_sem, ↓reduceIte, reduceEqDiff, reduceAdd, reduceMul, reduceLeDiff, reduceLT])
    exact src_ret ⟨_, rfl⟩ hs o
  · (try simp only [go_sem, ↓reduceIte, reduceEqDiff, reduceAdd, reduceMul, reduceLeDiff, reduceLT])
    refine (l01Next_ok B n).go hs o fun r s' H hr ⟨k, e, h0, h1, _⟩ hs o => ?_
    subst e
    (try simp only [go_sem, ↓reduceIte, reduceEqDiff, reduceAdd, reduceMul, reduceLeDiff, reduceLT])
    exact src_ret ⟨_, rfl⟩ hs o
def MadeK (H0 : Heap) : Kont := fun r H' => ∃ (id : Nat) (s : Src), r = .ref id 0 ∧ s.Ok ∧ Owns H0 H' [(id, s.obj)]
theorem l01From_ok (B : Nat) (code : List UInt8) (H0 : Heap) : CallH Tryz.prog B 65 [mL iB code] H0 (MadeK H0) := by
  refine c65p (by simp) fun ⟨hf, _⟩ => ?_
  have hl := fine_mL_le hf
  have hl' := hl
  simp only [maxL] at hl'
  unfold s65p
  (try simp only [go_sem, ↓reduceIte, reduceEqDiff, reduceAdd, reduceMul, reduceLeDiff, reduceLT])
  refine ⟨by simp [maxL], newRef_own (.nil _) fun id H o => ?_⟩
  (try simp only [go_sem, ↓reduceIte, reduceEqDiff, reduceAdd, reduceMul, reduceLeDiff, reduceLT])
  refine awp_for [0, 3] (G := Int) (fun k _ => [(4, some (.int .i64 (k : Int)))]) (fun k h H => Owns H0 H [(id, .cells 3 [mL iB code, .int .i64 0, .int .u64 h] 0)]) code.length _ o rfl ?_
  clear o
  rintro k h H hk o
  have o : Owns H0 H [(id, .cells 3 [mL iB code, .int .i64 0, .int .u64 h] 0)] := o
  have hend : MadeK H0 (.ref id 0) H := ⟨id, ⟨code, 0, h⟩, rfl, ⟨Int.le_refl 0, hl⟩, o⟩
  (try simp only [go_sem, ↓reduceIte, reduceEqDiff, reduceAdd, reduceMul, reduceLeDiff, reduceLT])
  refine ⟨fun h1 => At.mk ?_, fun h1 => At.mk ?_⟩
  · have h1p := of_decide h1
    (try simp only [go_sem, ↓reduceIte, reduceEqDiff, reduceAdd, reduceMul, reduceLeDiff, reduceLT, h1])
    refine ⟨fun h2 => At.mk ?_, fun h2 => At.mk ?_⟩
    · (try simp only [go_sem, ↓reduceIte, reduceEqDiff, reduceAdd, reduceMul, reduceLeDiff, reduceLT])
      refine rd_cells o (by simp) ?_
      have w := wsucc (k := k) (by omega)
      (try simp only [go_sem, ↓reduceIte, reduceEqDiff, reduceAdd, reduceMul, reduceLeDiff, reduceLT, iB])
      refine ⟨by omega, ?_⟩
      (try simp only [go_sem, ↓reduceIte, reduceEqDiff, reduceAdd, reduceMul, reduceLeDiff, reduceLT, iB])
      refine st_cells o (by simp) (by (try simp only [go_sem]); (try simp)) (by first | (simp only [go_sem]; done) | ((try simp only [go_sem]); simp [AV.one, one_mL])) fun H o => ?_
      simp only [wr_cons, wr_nil, List.set_cons_zero, List.set_cons_succ] at o
      (try simp only [go_sem, ↓reduceIte, reduceEqDiff, reduceAdd, reduceMul, reduceLeDiff, reduceLT, w])
      exact for_next _ (by omega) o rfl
    · (try simp only [go_sem, ↓reduceIte, reduceEqDiff, reduceAdd, reduceMul, reduceLeDiff, reduceLT])
      exact ⟨H, .refl H, hend⟩
  · (try simp only [go_sem, ↓reduceIte, reduceEqDiff, reduceAdd, reduceMul, reduceLeDiff, reduceLT, h1])
    exact ⟨H, .refl H, hend⟩
theorem roll_ok (B : Nat) (code : List UInt8) (z : Int) (H0 : Heap) : CallH Tryz.prog B 33 [mL iB code, .int .u64 z] H0 (MadeK H0) := by
  refine c33p (by simp) fun ⟨hf, _⟩ => ?_
  have hl := fine_mL_le hf
  have hl' := hl
  simp only [maxL] at hl'
  unfold s33p
  (try simp only [go_sem, ↓reduceIte, reduceEqDiff, reduceAdd, reduceMul, reduceLeDiff, reduceLT])
  refine ⟨by simp [maxL], newRef_own (.nil _) fun id H o => ?_⟩
  (try simp only [go_sem, ↓reduceIte, reduceEqDiff, reduceAdd, reduceMul, reduceLeDiff, reduceLT])
  refine awp_for [0, 5] (G := Int) (fun k _ => [(6, some (.int .i64 (k : Int)))]) (fun k h H => Owns H0 H [(id, .cells 3 [mL iB code, .int .i64 0, .int .u64 h] 0)]) code.length _ o rfl ?_
  clear o
  rintro k h H hk o
  have o : Owns H0 H [(id, .cells 3 [mL iB code, .int .i64 0, .int .u64 h] 0)] := o
  have hend : MadeK H0 (.ref id 0) H := ⟨id, ⟨code, 0, h⟩, rfl, ⟨Int.le_refl 0, hl⟩, o⟩
  (try simp only [go_sem, ↓reduceIte, reduceEqDiff, reduceAdd, reduceMul, reduceLeDiff, reduceLT])
  refine ⟨fun h1 => At.mk ?_, fun h1 => At.mk ?_⟩
  · have h1p := of_decide h1
    (try simp only [go_sem, ↓reduceIte, reduceEqDiff, reduceAdd, reduceMul, reduceLeDiff, reduceLT])
    refine rd_cells o (by simp) ?_
    have w := wsucc (k := k) (by omega)
    (try simp only [go_sem, ↓reduceIte, reduceEqDiff, reduceAdd, reduceMul, reduceLeDiff, reduceLT, iB])
    refine ⟨by omega, ?_⟩
    (try simp only [go_sem, ↓reduceIte, reduceEqDiff, reduceAdd, reduceMul, reduceLeDiff, reduceLT, iB])
    refine st_cells o (by simp) (by (try simp only [go_sem]); (try simp)) (by first | (simp only [go_sem]; done) | ((try simp only [go_sem]); simp [AV.one, one_mL])) fun H o => ?_
    simp only [wr_cons, wr_nil, List.set_cons_zero, List.set_cons_succ] at o
    (try simp only [go_sem, ↓reduceIte, reduceEqDiff, reduceAdd, reduceMul, reduceLeDiff, reduceLT, w])
    exact for_next _ (by omega) o rfl
  · (try simp only [go_sem, ↓reduceIte, reduceEqDiff, reduceAdd, reduceMul, reduceLeDiff, reduceLT])
    exact ⟨H, .refl H, hend⟩
theorem big_ok (B : Nat) (code : List UInt8) : Pur Tryz.prog B 10 [mL iB code] (.bool (decide (4096 < code.length))) := by
  refine ⟨fun H0 => c10 (by simp) fun hf => ?_⟩
  unfold s10
  (try simp only [go_sem, ↓reduceIte, reduceEqDiff, reduceAdd, reduceMul, reduceLeDiff, reduceLT])
  refine pure_ret ?_ (.refl _)
  congr 1
  exact decide_eq_decide.mpr (by omega)
theorem hasInt_ok (B : Nat) (l : List Int) (n : Int) : Pur Tryz.prog B 32 [iL l, .int .i64 n] (.bool (dec (n ∈ l))) := by
  refine ⟨fun H0 => c32 (by simp) fun ⟨hf, _⟩ => ?_⟩
  have hl := fine_mL_le hf
  simp only [maxL] at hl
  unfold s32
  (try simp only [go_sem, ↓reduceIte, reduceEqDiff, reduceAdd, reduceMul, reduceLeDiff, reduceLT, *])
  refine awp_for [0, 1] (fun k _ => [(5, some (.int .i64 (k : Int)))]) (fun k _ H => H = H0 ∧ ∀ i, i < k → l.getD i default ≠ n) l.length () ⟨rfl, by simp⟩ rfl ?_
  rintro k _ H hk ⟨rfl, hall⟩
  (try simp only [go_sem, ↓reduceIte, reduceEqDiff, reduceAdd, reduceMul, reduceLeDiff, reduceLT, *])
  refine ⟨fun h1 => At.mk ?_, fun h1 => At.mk ?_⟩
  · have h1 := of_decide h1
    have w1 := wsucc (k := k) (by omega)
    (try simp only [go_sem, ↓reduceIte, reduceEqDiff, reduceAdd, reduceMul, reduceLeDiff, reduceLT, *])
    refine ⟨fun h2 => At.mk ?_, fun h2 => At.mk ?_⟩
    · (try simp only [go_sem, ↓reduceIte, reduceEqDiff, reduceAdd, reduceMul, reduceLeDiff, reduceLT, *])
      exact pure_ret (by rw [dec_t]; exact mem_getD.mpr ⟨k, h1, of_decide h2⟩) (.refl _)
    · (try simp only [go_sem, ↓reduceIte, reduceEqDiff, reduceAdd, reduceMul, reduceLeDiff, reduceLT, *])
      exact for_next () h1 ⟨rfl, lt_succ_all hall (of_ndecide h2)⟩ rfl
  · (try simp only [go_sem, ↓reduceIte, reduceEqDiff, reduceAdd, reduceMul, reduceLeDiff, reduceLT, *])
    have h1 := of_ndecide h1
    exact pure_ret (by rw [dec_f]; intro h; obtain ⟨i, hi, e⟩ := mem_getD.mp h; exact hall i (by omega) e) (.refl _)
theorem then9_ok (B : Nat) (c : Cat) (f g : Int) (h1 : 0 ≤ f ∧ f.toNat < c.comp.length) (h2 : 0 ≤ g ∧ g.toNat < (ix c.comp f).length) : Pur Tryz.prog B 36 [.agg c.cells, .int .i64 f, .int .i64 g] (.int .i64 (ix (ix c.comp f) g)) := by
  refine ⟨fun H0 => c36 (by simp) fun hf => ?_⟩
  unfold s36
  have d1 : decide (f < 0) = false := decide_eq_false (by omega)
  have d2 : decide (g < 0) = false := decide_eq_false (by omega)
  have d3 : decide ((c.comp.length : Int) ≤ f) = false := decide_eq_false (by omega)
  have d4 : decide (((ix c.comp f).length : Int) ≤ g) = false := decide_eq_false (by omega)
  (try simp only [go_sem, ↓reduceIte, reduceEqDiff, reduceAdd, reduceMul, reduceLeDiff, reduceLT, Cat.cells, d1, d2, d3, d4])
  exact ⟨h1, h1, h2, pure_ret rfl (.refl _)⟩
theorem likeInts_ok (B : Nat) (a b : List Int) : Pur Tryz.prog B 16 [iL a, iL b] (.bool (dec (a = b))) := by
  refine ⟨fun H0 => c16 (by simp) fun ⟨hf, hg, _⟩ => ?_⟩
  have hl := fine_mL_le hf
  have hl2 := fine_mL_le hg
  simp only [maxL] at hl hl2
  unfold s16
  (try simp only [go_sem, ↓reduceIte, reduceEqDiff, reduceAdd, reduceMul, reduceLeDiff, reduceLT])
  refine ⟨fun h0 => At.mk ?_, fun h0 => At.mk ?_⟩
  · (try simp only [go_sem, ↓reduceIte, reduceEqDiff, reduceAdd, reduceMul, reduceLeDiff, reduceLT])
    have h0p : a.length ≠ b.length := by simpa using h0
    exact pure_ret (by rw [dec_f]; rintro rfl; exact h0p rfl) (.refl _)
  have h0p : a.length = b.length := by simpa using h0
  (try simp only [go_sem, ↓reduceIte, reduceEqDiff, reduceAdd, reduceMul, reduceLeDiff, reduceLT])
  refine awp_for [0, 1] (fun k _ => [(5, some (.int .i64 (k : Int)))]) (fun k _ H => H = H0 ∧ ∀ i, i < k → a.getD i default = b.getD i default) a.length () ⟨rfl, by simp⟩ rfl ?_
  rintro k _ H hk ⟨rfl, hall⟩
  (try simp only [go_sem, ↓reduceIte, reduceEqDiff, reduceAdd, reduceMul, reduceLeDiff, reduceLT])
  refine ⟨fun h1 => At.mk ?_, fun h1 => At.mk ?_⟩
  · have h1 := of_decide h1
    have w1 := wsucc (k := k) (by omega)
    (try simp only [go_sem, ↓reduceIte, reduceEqDiff, reduceAdd, reduceMul, reduceLeDiff, reduceLT])
    refine ⟨h1, by omega, ?_⟩
    (try simp only [go_sem, ↓reduceIte, reduceEqDiff, reduceAdd, reduceMul, reduceLeDiff, reduceLT])
    refine ⟨fun h2 => At.mk ?_, fun h2 => At.mk ?_⟩
    · (try simp only [go_sem, ↓reduceIte, reduceEqDiff, reduceAdd, reduceMul, reduceLeDiff, reduceLT])
      have h2p : a.getD k default ≠ b.getD k default := by simpa using h2
      exact pure_ret (by rw [dec_f]; rintro rfl; exact h2p rfl) (.refl _)
    · (try simp only [go_sem, ↓reduceIte, reduceEqDiff, reduceAdd, reduceMul, reduceLeDiff, reduceLT, w1])
      have h2p : a.getD k default = b.getD k default := by simpa using h2
      exact for_next () (by omega) ⟨rfl, lt_succ_all hall h2p⟩ rfl
  · (try simp only [go_sem, ↓reduceIte, reduceEqDiff, reduceAdd, reduceMul, reduceLeDiff, reduceLT])
    have h1 := of_ndecide h1
    refine pure_ret ?_ (.refl _)
    rw [dec_t]
    refine List.ext_getElem h0p fun i hi hj => ?_
    have := hall i (by omega)
    simpa [List.getD_eq_getElem?_getD, hi, hj] using this
end Go.Proofs.Shf
namespace Go.AW
@[go_sem] theorem cells_emsl : AV.emsl.cells = [.emsl] := rfl
@[go_sem] theorem one_emsl : AV.emsl.one = true := rfl
@[go_sem] theorem le_maxL3 : (3 ≤ maxL) = True := by simp [maxL]
@[go_sem] theorem le_maxL4 : (4 ≤ maxL) = True := by simp [maxL]
@[go_sem] theorem le_maxL5 : (5 ≤ maxL) = True := by simp [maxL]
theorem permC {l r : Ob} (h : ∀ x, @List.count _ (@instBEqOfDecidableEq _ (Classical.typeDecidableEq _)) x l = @List.count _ (@instBEqOfDecidableEq _ (Classical.typeDecidableEq _)) x r) : l.Perm r := by
  letI : DecidableEq (Nat × MObj) := Classical.typeDecidableEq _
  exact List.perm_iff_count.mpr h
def EmP {α : Type} (f : α → AV) (p : List (Nat × MObj)) (X : AV) (A : List α) : Prop :=
  (p = [] ∧ X = .emsl ∧ A = []) ∨ ∃ id, p = [(id, .cells 1 (A.map f) 0)] ∧ X = .buf id A.length
theorem EmP.o {α : Type} {f : α → AV} {H0 H : Heap} {l p : List (Nat × MObj)} {X : AV} {A : List α} (h : EmP f p X A) (o : Owns H0 H (p ++ l)) : EmO f H0 H l X A := by
  rcases h with ⟨rfl, h1, h2⟩ | ⟨id, rfl, h1⟩
  · exact .inl ⟨h1, h2, o⟩
  · exact .inr ⟨id, h1, o⟩
theorem wk_emc {F : Env → Heap → Prop} {σ : Env} {H0 H : Heap} {l : List (Nat × MObj)} {id sz fr : Nat} {cs : List AV} (k : Nat)
    (o : Owns H0 H ((id, .cells sz cs fr) :: l)) (hc : cs[k]? = some .emsl) (hk : ∀ H', Owns H0 H' ((id, .cells sz (cs.set k (.sl [])) fr) :: l) → wkW F σ H') : wkW F σ H := by
  have h1 := o.h0
  simp only at h1
  refine wkW_step (σ1 := σ) ?_ (hk _ (o.put (.cells sz (cs.set k (.sl [])) fr)))
  intro g B w tm hW hE
  refine ⟨g, .refl g, hW.recell h1 (by simp) fun j v hj hv => ?_, hE⟩
  by_cases e : j = k
  · subst e
    have e1 : cs.getD j nv = .emsl := by rw [List.getD_eq_getElem?_getD, hc]; rfl
    have e2 : (cs.set j (.sl [])).getD j nv = .sl [] := by simp [List.getD_eq_getElem?_getD, hj]
    rw [e1] at hv; rw [e2]
    cases hv; exact .slnil _ 0
  · have e2 : (cs.set k (.sl [])).getD j nv = cs.getD j nv := by
      rw [List.getD_eq_getElem?_getD, List.getElem?_set_ne (by omega), ← List.getD_eq_getElem?_getD]
    rw [e2]; exact hv
theorem wk_em {α : Type} [Inhabited α] {f : α → AV} [One f] {F : Env → Heap → Prop} {σ : Env} {H0 H : Heap} {l p : List (Nat × MObj)} {id sz fr : Nat} {cs : List AV} {X : AV} {A : List α} (k : Nat)
    (h : EmP f p X A) (o : Owns H0 H (p ++ ((id, .cells sz cs fr) :: l))) (hc : cs[k]? = some X)
    (hk : ∀ H', Owns H0 H' ((id, .cells sz (cs.set k (mL f A)) fr) :: l) → wkW F σ H') : wkW F σ H := by
  rcases h with ⟨rfl, rfl, rfl⟩ | ⟨id2, rfl, rfl⟩
  · exact wk_emc k o hc hk
  · exact wk_cell k o.swap hc rfl hk
end Go.AW
namespace Go.Shf
open Go.AW
structure Cat.Sh (N : Nat) (c : Cat) : Prop where
  ob : 0 ≤ c.objs ∧ c.objs ≤ N
  il : (c.idn.length : Int) = c.objs
  ml : c.frm.length ≤ N
  tl : c.to.length = c.frm.length
  cl : c.comp.length = c.frm.length
  row : ∀ f : Nat, f < c.frm.length → (c.comp.getD f default).length = c.frm.length
theorem Cat.Sh.mono {N M : Nat} {c : Cat} (h : c.Sh N) (hm : N ≤ M) : c.Sh M := ⟨by have := h.ob; omega, h.il, by have := h.ml; omega, h.tl, h.cl, h.row⟩
def CatQ (N : Nat) (r : AV) : Prop := ∃ c : Cat, r = .agg c.cells ∧ c.Sh N
def SqT (n : Nat) (T : List (List Int)) : Prop := T.length ≤ n ∧ ∀ i, i < T.length → (T.getD i default).length = T.length
def SqQ (n : Nat) (r : AV) : Prop := ∃ T : List (List Int), r = iLL T ∧ SqT n T
end Go.Shf
namespace Go.Proofs.Shf
open Go.AW Go.Proofs Go.Shf
theorem l02Monoid_ok (B : Nat) : Rd B 350 [] (SqQ 4) := by
  intro id s H0 H hs o
  refine c350 (by simp) fun hf => ?_
  unfold s350
  (try simp only [go_sem, ↓reduceIte, reduceEqDiff, reduceAdd, reduceMul, reduceLeDiff, reduceLT])
  refine (l01Next_ok B 8).go hs o fun r s' H hr ⟨k, e, h0, h1, _⟩ hs o => ?_
  subst e
  (try simp only [go_sem, ↓reduceIte, reduceEqDiff, reduceAdd, reduceMul, reduceLeDiff, reduceLT])
  refine ⟨fun q0 => At.mk ?_, fun q0 => At.mk ?_⟩
  · (try simp only [go_sem, ↓reduceIte, reduceEqDiff, reduceAdd, reduceMul, reduceLeDiff, reduceLT])
    exact src_ret ⟨[[0]], rfl, by decide, by decide⟩ hs o
  (try simp only [go_sem, ↓reduceIte, reduceEqDiff, reduceAdd, reduceMul, reduceLeDiff, reduceLT])
  refine ⟨fun q1 => At.mk ?_, fun q1 => At.mk ?_⟩
  · (try simp only [go_sem, ↓reduceIte, reduceEqDiff, reduceAdd, reduceMul, reduceLeDiff, reduceLT])
    exact src_ret ⟨[[0, 1], [1, 0]], rfl, by decide, by decide⟩ hs o
  (try simp only [go_sem, ↓reduceIte, reduceEqDiff, reduceAdd, reduceMul, reduceLeDiff, reduceLT])
  refine ⟨fun q2 => At.mk ?_, fun q2 => At.mk ?_⟩
  · (try simp only [go_sem, ↓reduceIte, reduceEqDiff, reduceAdd, reduceMul, reduceLeDiff, reduceLT])
    exact src_ret ⟨[[0, 1], [1, 1]], rfl, by decide, by decide⟩ hs o
  (try simp only [go_sem, ↓reduceIte, reduceEqDiff, reduceAdd, reduceMul, reduceLeDiff, reduceLT])
  refine ⟨fun q3 => At.mk ?_, fun q3 => At.mk ?_⟩
  · (try simp only [go_sem, ↓reduceIte, reduceEqDiff, reduceAdd, reduceMul, reduceLeDiff, reduceLT])
    exact src_ret ⟨[[0, 1, 2], [1, 2, 0], [2, 0, 1]], rfl, by decide, by decide⟩ hs o
  (try simp only [go_sem, ↓reduceIte, reduceEqDiff, reduceAdd, reduceMul, reduceLeDiff, reduceLT])
  refine ⟨fun q4 => At.mk ?_, fun q4 => At.mk ?_⟩
  · (try simp only [go_sem, ↓reduceIte, reduceEqDiff, reduceAdd, reduceMul, reduceLeDiff, reduceLT])
    exact src_ret ⟨[[0, 1, 2], [1, 1, 2], [2, 2, 2]], rfl, by decide, by decide⟩ hs o
  (try simp only [go_sem, ↓reduceIte, reduceEqDiff, reduceAdd, reduceMul, reduceLeDiff, reduceLT])
  refine ⟨fun q5 => At.mk ?_, fun q5 => At.mk ?_⟩
  · (try simp only [go_sem, ↓reduceIte, reduceEqDiff, reduceAdd, reduceMul, reduceLeDiff, reduceLT])
    exact src_ret ⟨[[0, 1, 2], [1, 1, 2], [2, 1, 2]], rfl, by decide, by decide⟩ hs o
  (try simp only [go_sem, ↓reduceIte, reduceEqDiff, reduceAdd, reduceMul, reduceLeDiff, reduceLT])
  refine ⟨fun q6 => At.mk ?_, fun q6 => At.mk ?_⟩
  · (try simp only [go_sem, ↓reduceIte, reduceEqDiff, reduceAdd, reduceMul, reduceLeDiff, reduceLT])
    exact src_ret ⟨[[0, 1, 2, 3], [1, 0, 2, 3], [2, 3, 2, 3], [3, 2, 2, 3]], rfl, by decide, by decide⟩ hs o
  (try simp only [go_sem, ↓reduceIte, reduceEqDiff, reduceAdd, reduceMul, reduceLeDiff, reduceLT])
  exact src_ret ⟨[[0, 1, 2], [1, 2, 2], [2, 2, 2]], rfl, by decide, by decide⟩ hs o
theorem l02Split_ok (B : Nat) : Rets B 351 [] (CatQ 6) := by
  intro H0
  refine c351 (by simp) fun hf => ?_
  unfold s351
  (try simp only [go_sem, ↓reduceIte, reduceEqDiff, reduceAdd, reduceMul, reduceLeDiff, reduceLT])
  refine fun i1 n1 => ?_
  (try simp only [go_sem, ↓reduceIte, reduceEqDiff, reduceAdd, reduceMul, reduceLeDiff, reduceLT])
  refine rets_ret ⟨⟨2, [0, 1, 0, 0, 1], [0, 1, 0, 1, 0], [0, 1], [[0, -1, 2, 3, -1], [-1, 1, -1, -1, 4], [2, -1, 2, 3, -1], [-1, 3, -1, -1, 2], [4, -1, 4, 1, -1]]⟩, rfl, by decide, by decide, by decide, by decide, by decide, by decide⟩ ?_
  repeat (first | exact .refl _ | refine sub_set ?_ n1)
theorem l02Fits_ok (B : Nat) (c : Cat) : Pur Tryz.prog B 316 [.agg c.cells] (.bool (dec (c.objs ≤ 8 ∧ c.frm.length ≤ 40))) := by
  refine ⟨fun H0 => c316 (by simp) fun hf => ?_⟩
  unfold s316
  (try simp only [go_sem, ↓reduceIte, reduceEqDiff, reduceAdd, reduceMul, reduceLeDiff, reduceLT])
  refine ⟨fun h1 => At.mk ?_, fun h1 => At.mk ?_⟩
  · (try simp only [go_sem, ↓reduceIte, reduceEqDiff, reduceAdd, reduceMul, reduceLeDiff, reduceLT, h1])
    exact pure_ret (by
      have h1p := of_decide h1
      congr 1
      rw [decide_dec]
      exact dec_congr ⟨fun h => ⟨h1p, by omega⟩, fun h => by have := h.2; omega⟩) (.refl _)
  · (try simp only [go_sem, ↓reduceIte, reduceEqDiff, reduceAdd, reduceMul, reduceLeDiff, reduceLT, h1])
    exact pure_ret (by rw [dec_f (fun h => of_ndecide h1 h.1)]) (.refl _)
theorem l03Monoid_ok (B : Nat) (T : List (List Int)) (hT : SqT 4 T) : Rets B 349 [iLL T] (CatQ 4) := by
  intro H0
  refine c349p (by simp) fun hf => ?_
  unfold s349p
  (try simp only [go_sem, ↓reduceIte, reduceEqDiff, reduceAdd, reduceMul, reduceLeDiff, reduceLT])
  refine newRef_own (.nil _) fun id H o => ?_
  (try simp only [go_sem, ↓reduceIte, reduceEqDiff, reduceAdd, reduceMul, reduceLeDiff, reduceLT])
  refine ⟨_, (l01Own2_ok ..).run, ?_⟩
  (try simp only [go_sem, ↓reduceIte, reduceEqDiff, reduceAdd, reduceMul, reduceLeDiff, reduceLT])
  have hT4 := hT.1
  have hc : (T.length : Int) ≤ T.length ∧ T.length ≤ maxL ∧ T.length ≤ maxL := ⟨by omega, by simp only [maxL]; omega, by simp only [maxL]; omega⟩
  refine ⟨?_, ?_⟩
  · refine ⟨hc, mks_list iI 0 rfl o fun i7 H o => ?_⟩
    (try simp only [go_sem, ↓reduceIte, reduceEqDiff, reduceAdd, reduceMul, reduceLeDiff, reduceLT])
    refine ⟨hc, mks_list iI 0 rfl o fun i9 H o => ?_⟩
    (try simp only [go_sem, ↓reduceIte, reduceEqDiff, reduceAdd, reduceMul, reduceLeDiff, reduceLT])
    have o := o.pull [_, _]
    simp only [List.cons_append, List.nil_append] at o
    refine st_cells o (by simp) (by (try simp only [go_sem]); (try simp)) (by first | (simp only [go_sem]; done) | ((try simp only [go_sem]); simp [AV.one, one_mL])) fun H o => ?_
    simp only [wr_cons, wr_nil, List.set_cons_zero, List.set_cons_succ] at o
    (try simp only [go_sem, ↓reduceIte, reduceEqDiff, reduceAdd, reduceMul, reduceLeDiff, reduceLT])
    refine wk_cell 2 o rfl (by simp) fun H o => ?_
    simp only [List.set_cons_zero, List.set_cons_succ] at o
    refine wk_cell 1 o rfl (by simp) fun H o => wkW_done ?_
    simp only [List.set_cons_zero, List.set_cons_succ] at o
    (try simp only [go_sem, ↓reduceIte, reduceEqDiff, reduceAdd, reduceMul, reduceLeDiff, reduceLT])
    have hr := o.rc 5 0 (by simp)
    simp only [List.drop_zero] at hr
    rw [hr]
    (try simp only [go_sem, ↓reduceIte, reduceEqDiff, reduceAdd, reduceMul, reduceLeDiff, reduceLT])
    exact rets_ret ⟨⟨1, List.replicate T.length 0, List.replicate T.length 0, [0], T⟩, rfl, by simp, by simp, by simpa using hT4, by simp, by simp, fun f hf => by simpa using hT.2 f (by simpa using hf)⟩ o.sub
  · refine ⟨hc, mks_list iI 0 rfl o fun i9 H o => ?_⟩
    (try simp only [go_sem, ↓reduceIte, reduceEqDiff, reduceAdd, reduceMul, reduceLeDiff, reduceLT])
    refine ⟨hc, mks_list iI 0 rfl o fun i7 H o => ?_⟩
    (try simp only [go_sem, ↓reduceIte, reduceEqDiff, reduceAdd, reduceMul, reduceLeDiff, reduceLT])
    have o := o.pull [_, _]
    simp only [List.cons_append, List.nil_append] at o
    refine st_cells o (by simp) (by (try simp only [go_sem]); (try simp)) (by first | (simp only [go_sem]; done) | ((try simp only [go_sem]); simp [AV.one, one_mL])) fun H o => ?_
    simp only [wr_cons, wr_nil, List.set_cons_zero, List.set_cons_succ] at o
    (try simp only [go_sem, ↓reduceIte, reduceEqDiff, reduceAdd, reduceMul, reduceLeDiff, reduceLT])
    refine wk_cell 1 o rfl (by simp) fun H o => ?_
    simp only [List.set_cons_zero, List.set_cons_succ] at o
    refine wk_cell 2 o rfl (by simp) fun H o => wkW_done ?_
    simp only [List.set_cons_zero, List.set_cons_succ] at o
    (try simp only [go_sem, ↓reduceIte, reduceEqDiff, reduceAdd, reduceMul, reduceLeDiff, reduceLT])
    have hr := o.rc 5 0 (by simp)
    simp only [List.drop_zero] at hr
    rw [hr]
    (try simp only [go_sem, ↓reduceIte, reduceEqDiff, reduceAdd, reduceMul, reduceLeDiff, reduceLT])
    exact rets_ret ⟨⟨1, List.replicate T.length 0, List.replicate T.length 0, [0], T⟩, rfl, by simp, by simp, by simpa using hT4, by simp, by simp, fun f hf => by simpa using hT.2 f (by simpa using hf)⟩ o.sub
theorem l03Op_ok (B : Nat) (N : Nat) (hN : N ≤ 4096) (c : Cat) (hc : c.Sh N) : Rets B 352 [.agg c.cells] (CatQ N) := by
  intro H0
  refine c352p (by simp) fun hf => ?_
  have hob := hc.ob
  have hml := hc.ml
  have htl := hc.tl
  have hcl := hc.cl
  have hrow := hc.row
  unfold s352p
  (try simp only [go_sem, ↓reduceIte, reduceEqDiff, reduceAdd, reduceMul, reduceLeDiff, reduceLT])
  refine newRef_own (.nil _) fun id2 H o => ?_
  (try simp only [go_sem, ↓reduceIte, reduceEqDiff, reduceAdd, reduceMul, reduceLeDiff, reduceLT])
  refine ⟨_, (l01Own_ok ..).run, ?_⟩
  (try simp only [go_sem, ↓reduceIte, reduceEqDiff, reduceAdd, reduceMul, reduceLeDiff, reduceLT])
  refine ⟨_, (l01Own_ok ..).run, ?_⟩
  (try simp only [go_sem, ↓reduceIte, reduceEqDiff, reduceAdd, reduceMul, reduceLeDiff, reduceLT])
  refine ⟨_, (l01Own_ok ..).run, ?_⟩
  (try simp only [go_sem, ↓reduceIte, reduceEqDiff, reduceAdd, reduceMul, reduceLeDiff, reduceLT])
  refine newRef_own o fun id3 H o => ?_
  (try simp only [go_sem, ↓reduceIte, reduceEqDiff, reduceAdd, reduceMul, reduceLeDiff, reduceLT])
  refine st_cells o (by simp) (by (try simp only [go_sem]); (try simp)) (by first | (simp only [go_sem]; done) | ((try simp only [go_sem]); simp [AV.one, one_mL])) fun H o => ?_
  simp only [wr_cons, wr_nil, List.set_cons_zero, List.set_cons_succ] at o
  (try simp only [go_sem, ↓reduceIte, reduceEqDiff, reduceAdd, reduceMul, reduceLeDiff, reduceLT])
  refine awp_for [1, 2, 3] (G := AV × Ob × List (List Int)) (fun k _ => [(4, some (.int .i64 (k : Int)))])
    (fun k g H => EmP iL g.2.1 g.1 g.2.2 ∧ g.2.2.length = k ∧ (∀ r, r ∈ g.2.2 → r.length = c.frm.length) ∧ Owns H0 H (g.2.1 ++ [(id3, MObj.cells 5 [iI c.objs, iL c.to, iL c.frm, iL c.idn, g.1] 0), (id2, MObj.cells 5 [iI 0, .nilsl, .nilsl, .nilsl, .nilsl] 0)])) c.frm.length (.emsl, [], [])
    ⟨.inl ⟨rfl, rfl, rfl⟩, rfl, by simp, o⟩ rfl ?_
  clear o
  rintro k ⟨X, p, A⟩ H hk ⟨hX, hA, hr, o⟩
  replace hX : EmP iL p X A := hX
  replace hA : A.length = k := hA
  replace hr : ∀ r, r ∈ A → r.length = c.frm.length := hr
  replace o : Owns H0 H (p ++ [(id3, MObj.cells 5 [iI c.objs, iL c.to, iL c.frm, iL c.idn, X] 0), (id2, MObj.cells 5 [iI 0, .nilsl, .nilsl, .nilsl, .nilsl] 0)]) := o
  (try simp only [go_sem, ↓reduceIte, reduceEqDiff, reduceAdd, reduceMul, reduceLeDiff, reduceLT])
  refine ⟨fun h1 => At.mk ?_, fun h1 => At.mk ?_⟩
  · have h1p := of_decide h1
    (try simp only [go_sem, ↓reduceIte, reduceEqDiff, reduceAdd, reduceMul, reduceLeDiff, reduceLT])
    refine newBuf_own o fun idr H o => ?_
    (try simp only [go_sem, ↓reduceIte, reduceEqDiff, reduceAdd, reduceMul, reduceLeDiff, reduceLT])
    refine awp_for [1, 2, 3, 4] (G := Nat × List Int) (fun j g => [(5, some (.buf g.1 g.2.length)), (6, some (.int .i64 (j : Int)))])
      (fun j g H => g.2.length = j ∧ Owns H0 H ((g.1, .cells 1 (g.2.map iI) 0) :: (p ++ [(id3, MObj.cells 5 [iI c.objs, iL c.to, iL c.frm, iL c.idn, X] 0), (id2, MObj.cells 5 [iI 0, .nilsl, .nilsl, .nilsl, .nilsl] 0)]))) c.frm.length (idr, []) ⟨rfl, o⟩ rfl ?_
    clear o
    rintro j ⟨idr, row⟩ H hj ⟨hrl, o⟩
    replace hrl : row.length = j := hrl
    replace o : Owns H0 H ((idr, .cells 1 (row.map iI) 0) :: (p ++ [(id3, MObj.cells 5 [iI c.objs, iL c.to, iL c.frm, iL c.idn, X] 0), (id2, MObj.cells 5 [iI 0, .nilsl, .nilsl, .nilsl, .nilsl] 0)])) := o
    (try simp only [go_sem, ↓reduceIte, reduceEqDiff, reduceAdd, reduceMul, reduceLeDiff, reduceLT])
    refine ⟨fun h2 => At.mk ?_, fun h2 => At.mk ?_⟩
    · have h2p := of_decide h2
      have w := wsucc (k := j) (by omega)
      have hrj := hrow j h2p
      (try simp only [go_sem, ↓reduceIte, reduceEqDiff, reduceAdd, reduceMul, reduceLeDiff, reduceLT])
      refine ⟨by omega, by omega, ?_⟩
      refine app_own _ o rfl rfl (by simp only [maxL]; omega) fun idr H o => ?_
      (try simp only [go_sem, ↓reduceIte, reduceEqDiff, reduceAdd, reduceMul, reduceLeDiff, reduceLT, w])
      exact for_next (idr, _) h2p ⟨by simp [hrl], o⟩ rfl
    · have h2p := of_ndecide h2
      (try simp only [go_sem, ↓reduceIte, reduceEqDiff, reduceAdd, reduceMul, reduceLeDiff, reduceLT])
      refine fz_own o rfl fun H o => ?_
      (try simp only [go_sem, ↓reduceIte, reduceEqDiff, reduceAdd, reduceMul, reduceLeDiff, reduceLT])
      refine rd_get (o.get (id3, MObj.cells 5 [iI c.objs, iL c.to, iL c.frm, iL c.idn, X] 0) (by simp)) (by simp) ?_
      (try simp only [go_sem, ↓reduceIte, reduceEqDiff, reduceAdd, reduceMul, reduceLeDiff, reduceLT])
      refine (hX.o o).app row rfl (by simp only [maxL]; omega) fun id' H o => ?_
      (try simp only [go_sem, ↓reduceIte, reduceEqDiff, reduceAdd, reduceMul, reduceLeDiff, reduceLT])
      refine st_cells o.swap (by simp) (by (try simp only [go_sem]); (try simp)) (by first | (simp only [go_sem]; done) | ((try simp only [go_sem]); simp [AV.one, one_mL])) fun H o => ?_
      simp only [wr_cons, wr_nil, List.set_cons_zero, List.set_cons_succ] at o
      have w := wsucc (k := k) (by omega)
      (try simp only [go_sem, ↓reduceIte, reduceEqDiff, reduceAdd, reduceMul, reduceLeDiff, reduceLT, w])
      exact for_next (_, [(id', .cells 1 ((A ++ [row]).map iL) 0)], A ++ [row]) h1p ⟨.inr ⟨id', rfl, rfl⟩, by simp [hA], by
        intro r hr'
        rcases List.mem_append.mp hr' with h | h
        · exact hr r h
        · rw [List.mem_singleton] at h; subst h; omega, o.swap⟩ rfl
  · have h1p := of_ndecide h1
    (try simp only [go_sem, ↓reduceIte, reduceEqDiff, reduceAdd, reduceMul, reduceLeDiff, reduceLT])
    refine wk_em 4 hX o rfl fun H o => wkW_done ?_
    simp only [List.set_cons_zero, List.set_cons_succ] at o
    (try simp only [go_sem, ↓reduceIte, reduceEqDiff, reduceAdd, reduceMul, reduceLeDiff, reduceLT])
    refine rd_celln o (by simp) ?_
    (try simp only [go_sem, ↓reduceIte, reduceEqDiff, reduceAdd, reduceMul, reduceLeDiff, reduceLT])
    refine st_cells o.swap (by simp) (by (try simp only [go_sem]); (try simp)) (by first | (simp only [go_sem]; done) | ((try simp only [go_sem]); simp [AV.one, one_mL])) fun H o => ?_
    simp only [wr_cons, wr_nil, List.set_cons_zero, List.set_cons_succ] at o
    (try simp only [go_sem, ↓reduceIte, reduceEqDiff, reduceAdd, reduceMul, reduceLeDiff, reduceLT])
    have hr2 := o.rc 5 0 (by simp)
    simp only [List.drop_zero] at hr2
    rw [hr2]
    (try simp only [go_sem, ↓reduceIte, reduceEqDiff, reduceAdd, reduceMul, reduceLeDiff, reduceLT])
    exact rets_ret ⟨⟨c.objs, c.to, c.frm, c.idn, A⟩, rfl, hob, hc.il, by show c.to.length ≤ N; omega, by show c.frm.length = c.to.length; omega, by show A.length = c.to.length; omega, fun f hf => by
      show (A.getD f default).length = c.to.length
      rw [hr _ (mem_getD.mpr ⟨f, by have : f < c.to.length := hf; omega, rfl⟩)]; omega⟩ o.sub
end Go.Proofs.Shf
namespace Go.Proofs.Shf
open Go.AW Go.Proofs Go.Shf
theorem l03Poset_ok (B : Nat) (R : List (List Int)) (hR : SqT 4 R) : Rets B 77 [iLL R] (CatQ 16) := by
  intro H0
  refine c77p (by simp) fun hf => ?_
  obtain ⟨hR4, hrow⟩ := hR
  unfold s77p
  (try simp only [go_sem, ↓reduceIte, reduceEqDiff, reduceAdd, reduceMul, reduceLeDiff, reduceLT])
  refine newRef_own (.nil _) fun id2 H o => ?_
  (try simp only [go_sem, ↓reduceIte, reduceEqDiff, reduceAdd, reduceMul, reduceLeDiff, reduceLT])
  refine newBuf_own o fun idN H o => ?_
  (try simp only [go_sem, ↓reduceIte, reduceEqDiff, reduceAdd, reduceMul, reduceLeDiff, reduceLT])
  refine newBuf_own o fun a H o => ?_
  (try simp only [go_sem, ↓reduceIte, reduceEqDiff, reduceAdd, reduceMul, reduceLeDiff, reduceLT])
  refine newBuf_own o fun b H o => ?_
  (try simp only [go_sem, ↓reduceIte, reduceEqDiff, reduceAdd, reduceMul, reduceLeDiff, reduceLT])
  refine newBuf_own o fun i H o => ?_
  (try simp only [go_sem, ↓reduceIte, reduceEqDiff, reduceAdd, reduceMul, reduceLeDiff, reduceLT])
  refine newBuf_own o fun d H o => ?_
  (try simp only [go_sem, ↓reduceIte, reduceEqDiff, reduceAdd, reduceMul, reduceLeDiff, reduceLT])
  refine newRef_own o fun id5 H o => ?_
  (try simp only [go_sem, ↓reduceIte, reduceEqDiff, reduceAdd, reduceMul, reduceLeDiff, reduceLT])
  refine st_cells o (by simp) (by (try simp only [go_sem]); (try simp)) (by first | (simp only [go_sem]; done) | ((try simp only [go_sem]); simp [AV.one, one_mL])) fun H o => ?_
  simp only [wr_cons, wr_nil, List.set_cons_zero, List.set_cons_succ] at o
  (try simp only [go_sem, ↓reduceIte, reduceEqDiff, reduceAdd, reduceMul, reduceLeDiff, reduceLT])
  generalize hn : R.length = n at *
  refine awp_for [0, 2, 3, 5] (G := (Nat × List Int) × (Nat × List Int) × (Nat × List (List Int))) (fun k g => [(4, some (.buf g.2.2.1 g.2.2.2.length)), (6, some (.int .i64 (k : Int)))])
    (fun k g H => g.2.1.2.length = g.1.2.length ∧ g.1.2.length ≤ k * n ∧ (∀ y, y ∈ g.1.2 → 0 ≤ y ∧ y < n) ∧ (∀ y, y ∈ g.2.1.2 → 0 ≤ y ∧ y < n) ∧ g.2.2.2.length = k ∧ (∀ r, r ∈ g.2.2.2 → r.length = n) ∧
      Owns H0 H [(id5, MObj.cells 5 [iI n, .buf g.1.1 g.1.2.length, .buf g.2.1.1 g.2.1.2.length, .buf i 0, .buf d 0] 0), (g.1.1, MObj.cells 1 (g.1.2.map iI) 0), (g.2.1.1, MObj.cells 1 (g.2.1.2.map iI) 0), (g.2.2.1, MObj.cells 1 (g.2.2.2.map iL) 0),
        (i, MObj.cells 1 [] 0), (d, MObj.cells 1 [] 0), (id2, MObj.cells 5 [iI 0, .nilsl, .nilsl, .nilsl, .nilsl] 0)]) n ((a, []), (b, []), (idN, []))
    ⟨rfl, by simp, by simp, by simp, rfl, by simp, o.perm (permC fun x => by (try dsimp only); simp only [List.append_eq, List.count_append, List.count_cons, List.count_nil, List.map_nil, List.length_nil, List.length_append, List.length_cons, List.length_set, Nat.zero_add, List.nil_append, iI, iL]; omega)⟩ rfl ?_
  clear o
  rintro k ⟨⟨a, A⟩, ⟨b, C⟩, ⟨idN, rows⟩⟩ H hk ⟨hC, hA, hAr, hCr, hrl, hrr, o⟩
  replace hC : C.length = A.length := hC
  replace hA : A.length ≤ k * n := hA
  replace hAr : ∀ y, y ∈ A → 0 ≤ y ∧ y < (n : Int) := hAr
  replace hCr : ∀ y, y ∈ C → 0 ≤ y ∧ y < (n : Int) := hCr
  replace hrl : rows.length = k := hrl
  replace hrr : ∀ r, r ∈ rows → r.length = n := hrr
  replace o : Owns H0 H [(id5, MObj.cells 5 [iI n, .buf a A.length, .buf b C.length, .buf i 0, .buf d 0] 0), (a, MObj.cells 1 (A.map iI) 0), (b, MObj.cells 1 (C.map iI) 0), (idN, MObj.cells 1 (rows.map iL) 0),
        (i, MObj.cells 1 [] 0), (d, MObj.cells 1 [] 0), (id2, MObj.cells 5 [iI 0, .nilsl, .nilsl, .nilsl, .nilsl] 0)] := o
  (try simp only [go_sem, ↓reduceIte, reduceEqDiff, reduceAdd, reduceMul, reduceLeDiff, reduceLT])
  refine ⟨fun h1 => At.mk ?_, fun h1 => At.mk ?_⟩
  · have h1p := of_decide h1
    (try simp only [go_sem, ↓reduceIte, reduceEqDiff, reduceAdd, reduceMul, reduceLeDiff, reduceLT])
    refine newBuf_own o fun idr H o => ?_
    (try simp only [go_sem, ↓reduceIte, reduceEqDiff, reduceAdd, reduceMul, reduceLeDiff, reduceLT])
    have hkn : k * n + n ≤ 16 := by
      have : (k + 1) * n ≤ 4 * 4 := Nat.mul_le_mul (by omega) (by omega)
      rw [Nat.succ_mul] at this; omega
    refine awp_for [0, 2, 3, 4, 5, 6] (G := (Nat × List Int) × (Nat × List Int) × (Nat × List Int)) (fun j g => [(7, some (.buf g.1.1 g.1.2.length)), (8, some (.int .i64 (j : Int)))])
      (fun j g H => g.1.2.length = j ∧ g.2.2.2.length = g.2.1.2.length ∧ g.2.1.2.length ≤ k * n + j ∧ (∀ y, y ∈ g.2.1.2 → 0 ≤ y ∧ y < n) ∧ (∀ y, y ∈ g.2.2.2 → 0 ≤ y ∧ y < n) ∧
        Owns H0 H [(g.1.1, MObj.cells 1 (g.1.2.map iI) 0), (id5, MObj.cells 5 [iI n, .buf g.2.1.1 g.2.1.2.length, .buf g.2.2.1 g.2.2.2.length, .buf i 0, .buf d 0] 0), (g.2.1.1, MObj.cells 1 (g.2.1.2.map iI) 0), (g.2.2.1, MObj.cells 1 (g.2.2.2.map iI) 0), (idN, MObj.cells 1 (rows.map iL) 0),
        (i, MObj.cells 1 [] 0), (d, MObj.cells 1 [] 0), (id2, MObj.cells 5 [iI 0, .nilsl, .nilsl, .nilsl, .nilsl] 0)]) n ((idr, []), (a, A), (b, C))
      ⟨rfl, hC, by omega, hAr, hCr, o⟩ rfl ?_
    clear o hA hAr hCr hC
    rintro j ⟨⟨idr, row⟩, ⟨a, A⟩, ⟨b, C⟩⟩ H hj ⟨hrow', hC, hA, hAr, hCr, o⟩
    replace hrow' : row.length = j := hrow'
    replace hC : C.length = A.length := hC
    replace hA : A.length ≤ k * n + j := hA
    replace hAr : ∀ y, y ∈ A → 0 ≤ y ∧ y < (n : Int) := hAr
    replace hCr : ∀ y, y ∈ C → 0 ≤ y ∧ y < (n : Int) := hCr
    replace o : Owns H0 H [(idr, MObj.cells 1 (row.map iI) 0), (id5, MObj.cells 5 [iI n, .buf a A.length, .buf b C.length, .buf i 0, .buf d 0] 0), (a, MObj.cells 1 (A.map iI) 0), (b, MObj.cells 1 (C.map iI) 0), (idN, MObj.cells 1 (rows.map iL) 0),
        (i, MObj.cells 1 [] 0), (d, MObj.cells 1 [] 0), (id2, MObj.cells 5 [iI 0, .nilsl, .nilsl, .nilsl, .nilsl] 0)] := o
    (try simp only [go_sem, ↓reduceIte, reduceEqDiff, reduceAdd, reduceMul, reduceLeDiff, reduceLT])
    refine ⟨fun h2 => At.mk ?_, fun h2 => At.mk ?_⟩
    · have h2p := of_decide h2
      have w := wsucc (k := j) (by omega)
      (try simp only [go_sem, ↓reduceIte, reduceEqDiff, reduceAdd, reduceMul, reduceLeDiff, reduceLT])
      refine rd_cells o.tl (by simp) ?_
      (try simp only [go_sem, ↓reduceIte, reduceEqDiff, reduceAdd, reduceMul, reduceLeDiff, reduceLT])
      refine app_own _ o rfl rfl (by simp only [maxL]; omega) fun idr H o => ?_
      have hR1 := hrow k (by omega)
      (try simp only [go_sem, ↓reduceIte, reduceEqDiff, reduceAdd, reduceMul, reduceLeDiff, reduceLT])
      refine ⟨by omega, by omega, ?_⟩
      refine ⟨fun h3 => At.mk ?_, fun h3 => At.mk ?_⟩
      · (try simp only [go_sem, ↓reduceIte, reduceEqDiff, reduceAdd, reduceMul, reduceLeDiff, reduceLT])
        refine rd_cells o.tl (by simp) ?_
        (try simp only [go_sem, ↓reduceIte, reduceEqDiff, reduceAdd, reduceMul, reduceLeDiff, reduceLT])
        refine app_own _ (o.pull [_, _]) rfl rfl (by simp only [maxL]; omega) fun a H o => ?_
        (try simp only [go_sem, ↓reduceIte, reduceEqDiff, reduceAdd, reduceMul, reduceLeDiff, reduceLT])
        refine st_cells (o.pull [_, _]) (by simp) (by (try simp only [go_sem]); (try simp)) (by first | (simp only [go_sem]; done) | ((try simp only [go_sem]); simp [AV.one, one_mL])) fun H o => ?_
        simp only [wr_cons, wr_nil, List.set_cons_zero, List.set_cons_succ] at o
        (try simp only [go_sem, ↓reduceIte, reduceEqDiff, reduceAdd, reduceMul, reduceLeDiff, reduceLT])
        refine rd_cells o (by simp) ?_
        (try simp only [go_sem, ↓reduceIte, reduceEqDiff, reduceAdd, reduceMul, reduceLeDiff, reduceLT])
        refine app_own _ (o.pull [_, _, _]) rfl rfl (by simp only [maxL]; omega) fun b H o => ?_
        (try simp only [go_sem, ↓reduceIte, reduceEqDiff, reduceAdd, reduceMul, reduceLeDiff, reduceLT])
        refine st_cells o.swap (by simp) (by (try simp only [go_sem]); (try simp)) (by first | (simp only [go_sem]; done) | ((try simp only [go_sem]); simp [AV.one, one_mL])) fun H o => ?_
        simp only [wr_cons, wr_nil, List.set_cons_zero, List.set_cons_succ] at o
        (try simp only [go_sem, ↓reduceIte, reduceEqDiff, reduceAdd, reduceMul, reduceLeDiff, reduceLT, w])
        refine for_next ((idr, _), (a, A ++ [(k : Int)]), (b, C ++ [(j : Int)])) h2p ⟨by simp [hrow'], by simp [hC], by simp; omega, ?_, ?_, o.perm (permC fun x => by (try dsimp only); simp only [List.append_eq, List.count_append, List.count_cons, List.count_nil, List.map_nil, List.length_nil, List.length_append, List.length_cons, List.length_set, Nat.zero_add, List.nil_append, iI, iL]; omega)⟩ rfl
        · intro y hy
          rcases List.mem_append.mp hy with h | h
          · exact hAr y h
          · rw [List.mem_singleton] at h; subst h; omega
        · intro y hy
          rcases List.mem_append.mp hy with h | h
          · exact hCr y h
          · rw [List.mem_singleton] at h; subst h; omega
      · (try simp only [go_sem, ↓reduceIte, reduceEqDiff, reduceAdd, reduceMul, reduceLeDiff, reduceLT, w])
        exact for_next ((idr, _), (a, A), (b, C)) h2p ⟨by simp [hrow'], hC, by show A.length ≤ _; omega, hAr, hCr, o⟩ rfl
    · have h2p := of_ndecide h2
      (try simp only [go_sem, ↓reduceIte, reduceEqDiff, reduceAdd, reduceMul, reduceLeDiff, reduceLT])
      refine fz_own o rfl fun H o => ?_
      (try simp only [go_sem, ↓reduceIte, reduceEqDiff, reduceAdd, reduceMul, reduceLeDiff, reduceLT])
      refine app_own row (o.pull [_, _, _]) rfl rfl (by simp only [maxL]; omega) fun idN H o => ?_
      have w := wsucc (k := k) (by omega)
      (try simp only [go_sem, ↓reduceIte, reduceEqDiff, reduceAdd, reduceMul, reduceLeDiff, reduceLT, w])
      refine for_next ((a, A), (b, C), (idN, rows ++ [row])) h1p ⟨hC, by show A.length ≤ _; rw [Nat.succ_mul]; omega, hAr, hCr, by simp [hrl], ?_, o.perm (permC fun x => by (try dsimp only); simp only [List.append_eq, List.count_append, List.count_cons, List.count_nil, List.map_nil, List.length_nil, List.length_append, List.length_cons, List.length_set, Nat.zero_add, List.nil_append, iI, iL]; omega)⟩ rfl
      intro r hr
      rcases List.mem_append.mp hr with h | h
      · exact hrr r h
      · rw [List.mem_singleton] at h; subst h; omega
  · have h1p := of_ndecide h1
    have hkn : k = n := by omega
    subst hkn
    have hA16 : A.length ≤ 16 := Nat.le_trans hA (Nat.mul_le_mul hR4 hR4)
    (try simp only [go_sem, ↓reduceIte, reduceEqDiff, reduceAdd, reduceMul, reduceLeDiff, reduceLT])
    refine fz_own (o.pull [_, _, _]) rfl fun H o => ?_
    (try simp only [go_sem, ↓reduceIte, reduceEqDiff, reduceAdd, reduceMul, reduceLeDiff, reduceLT])
    refine awp_for [2, 3, 4, 5] (G := (Nat × List Int)) (fun j g => [(9, some (.int .i64 (j : Int)))])
      (fun j g H => g.2.length = j ∧ Owns H0 H [(id5, MObj.cells 5 [iI k, .buf a A.length, .buf b C.length, .buf g.1 g.2.length, .buf d 0] 0), (g.1, MObj.cells 1 (g.2.map iI) 0), (a, MObj.cells 1 (A.map iI) 0), (b, MObj.cells 1 (C.map iI) 0),
        (d, MObj.cells 1 [] 0), (id2, MObj.cells 5 [iI 0, .nilsl, .nilsl, .nilsl, .nilsl] 0)]) k (i, []) ⟨rfl, o.perm (permC fun x => by (try dsimp only); simp only [List.append_eq, List.count_append, List.count_cons, List.count_nil, List.map_nil, List.length_nil, List.length_append, List.length_cons, List.length_set, Nat.zero_add, List.nil_append, iI, iL]; omega)⟩ rfl ?_
    clear o
    rintro j ⟨i, I⟩ H hj ⟨hI, o⟩
    replace hI : I.length = j := hI
    replace o : Owns H0 H [(id5, MObj.cells 5 [iI k, .buf a A.length, .buf b C.length, .buf i I.length, .buf d 0] 0), (i, MObj.cells 1 (I.map iI) 0), (a, MObj.cells 1 (A.map iI) 0), (b, MObj.cells 1 (C.map iI) 0),
        (d, MObj.cells 1 [] 0), (id2, MObj.cells 5 [iI 0, .nilsl, .nilsl, .nilsl, .nilsl] 0)] := o
    (try simp only [go_sem, ↓reduceIte, reduceEqDiff, reduceAdd, reduceMul, reduceLeDiff, reduceLT])
    refine ⟨fun h2 => At.mk ?_, fun h2 => At.mk ?_⟩
    · have h2p := of_decide h2
      have w := wsucc (k := j) (by omega)
      have hrj := hrr (rows.getD j default) (mem_getD.mpr ⟨j, by omega, rfl⟩)
      (try simp only [go_sem, ↓reduceIte, reduceEqDiff, reduceAdd, reduceMul, reduceLeDiff, reduceLT])
      refine rd_cells o (by simp) ?_
      (try simp only [go_sem, ↓reduceIte, reduceEqDiff, reduceAdd, reduceMul, reduceLeDiff, reduceLT])
      refine ⟨by omega, by omega, ?_⟩
      (try simp only [go_sem, ↓reduceIte, reduceEqDiff, reduceAdd, reduceMul, reduceLeDiff, reduceLT])
      refine app_own _ o.swap rfl rfl (by simp only [maxL]; omega) fun i H o => ?_
      (try simp only [go_sem, ↓reduceIte, reduceEqDiff, reduceAdd, reduceMul, reduceLeDiff, reduceLT])
      refine st_cells o.swap (by simp) (by (try simp only [go_sem]); (try simp)) (by first | (simp only [go_sem]; done) | ((try simp only [go_sem]); simp [AV.one, one_mL])) fun H o => ?_
      simp only [wr_cons, wr_nil, List.set_cons_zero, List.set_cons_succ] at o
      (try simp only [go_sem, ↓reduceIte, reduceEqDiff, reduceAdd, reduceMul, reduceLeDiff, reduceLT, w])
      exact for_next (i, _) h2p ⟨by simp [hI], o⟩ rfl
    · have h2p := of_ndecide h2
      have hIk : I.length = k := by omega
      (try simp only [go_sem, ↓reduceIte, reduceEqDiff, reduceAdd, reduceMul, reduceLeDiff, reduceLT])
      refine wk_cell 3 o rfl rfl fun H o => ?_
      simp only [List.set_cons_zero, List.set_cons_succ] at o
      refine wk_cell 1 o rfl rfl fun H o => ?_
      simp only [List.set_cons_zero, List.set_cons_succ] at o
      refine wk_cell 2 o rfl rfl fun H o => wkW_done ?_
      simp only [List.set_cons_zero, List.set_cons_succ] at o
      clear h2 h2p hj hI
      (try simp only [go_sem, ↓reduceIte, reduceEqDiff, reduceAdd, reduceMul, reduceLeDiff, reduceLT])
      refine awp_for [2, 4, 5] (G := (Nat × List (List Int))) (fun j g => [(10, some (.int .i64 (j : Int)))])
        (fun j g H => g.2.length = j ∧ (∀ r, r ∈ g.2 → r.length = A.length) ∧ Owns H0 H [(id5, MObj.cells 5 [iI k, iL A, iL C, iL I, .buf g.1 g.2.length] 0), (g.1, MObj.cells 1 (g.2.map iL) 0), (id2, MObj.cells 5 [iI 0, .nilsl, .nilsl, .nilsl, .nilsl] 0)]) A.length (d, []) ⟨rfl, by simp, o⟩ rfl ?_
      clear o
      rintro f ⟨d, D⟩ H hf' ⟨hD, hDr, o⟩
      replace hD : D.length = f := hD
      replace hDr : ∀ r, r ∈ D → r.length = A.length := hDr
      replace o : Owns H0 H [(id5, MObj.cells 5 [iI k, iL A, iL C, iL I, .buf d D.length] 0), (d, MObj.cells 1 (D.map iL) 0), (id2, MObj.cells 5 [iI 0, .nilsl, .nilsl, .nilsl, .nilsl] 0)] := o
      (try simp only [go_sem, ↓reduceIte, reduceEqDiff, reduceAdd, reduceMul, reduceLeDiff, reduceLT])
      refine rd_cells o (by simp) ?_
      (try simp only [go_sem, ↓reduceIte, reduceEqDiff, reduceAdd, reduceMul, reduceLeDiff, reduceLT])
      refine ⟨fun h2 => At.mk ?_, fun h2 => At.mk ?_⟩
      · have h2p := of_decide h2
        (try simp only [go_sem, ↓reduceIte, reduceEqDiff, reduceAdd, reduceMul, reduceLeDiff, reduceLT])
        refine newBuf_own o fun idr H o => ?_
        (try simp only [go_sem, ↓reduceIte, reduceEqDiff, reduceAdd, reduceMul, reduceLeDiff, reduceLT])
        refine awp_for [2, 4, 5, 10] (G := Nat × List Int) (fun g r => [(11, some (.buf r.1 r.2.length)), (12, some (.int .i64 (g : Int)))])
          (fun g r H => r.2.length = g ∧ Owns H0 H [(r.1, MObj.cells 1 (r.2.map iI) 0), (id5, MObj.cells 5 [iI k, iL A, iL C, iL I, .buf d D.length] 0), (d, MObj.cells 1 (D.map iL) 0), (id2, MObj.cells 5 [iI 0, .nilsl, .nilsl, .nilsl, .nilsl] 0)]) A.length (idr, []) ⟨rfl, o⟩ rfl ?_
        clear o
        rintro g ⟨idr, row⟩ H hg ⟨hrl', o⟩
        replace hrl' : row.length = g := hrl'
        replace o : Owns H0 H [(idr, MObj.cells 1 (row.map iI) 0), (id5, MObj.cells 5 [iI k, iL A, iL C, iL I, .buf d D.length] 0), (d, MObj.cells 1 (D.map iL) 0), (id2, MObj.cells 5 [iI 0, .nilsl, .nilsl, .nilsl, .nilsl] 0)] := o
        (try simp only [go_sem, ↓reduceIte, reduceEqDiff, reduceAdd, reduceMul, reduceLeDiff, reduceLT])
        refine rd_cells o.tl (by simp) ?_
        (try simp only [go_sem, ↓reduceIte, reduceEqDiff, reduceAdd, reduceMul, reduceLeDiff, reduceLT])
        refine ⟨fun h3 => At.mk ?_, fun h3 => At.mk ?_⟩
        · have h3p := of_decide h3
          have w := wsucc (k := g) (by omega)
          (try simp only [go_sem, ↓reduceIte, reduceEqDiff, reduceAdd, reduceMul, reduceLeDiff, reduceLT])
          refine rd_cells o.tl (by simp) ?_
          (try simp only [go_sem, ↓reduceIte, reduceEqDiff, reduceAdd, reduceMul, reduceLeDiff, reduceLT])
          refine ⟨by omega, ?_⟩
          refine rd_cells o.tl (by simp) ?_
          (try simp only [go_sem, ↓reduceIte, reduceEqDiff, reduceAdd, reduceMul, reduceLeDiff, reduceLT])
          refine ⟨by omega, ?_⟩
          (try simp only [go_sem, ↓reduceIte, reduceEqDiff, reduceAdd, reduceMul, reduceLeDiff, reduceLT])
          have hAf := hAr (A.getD f default) (mem_getD.mpr ⟨f, h2p, rfl⟩)
          have hCg := hCr (C.getD g default) (mem_getD.mpr ⟨g, by omega, rfl⟩)
          have hrx := hrr (ix rows (A.getD f default)) (ix_mem (by omega))
          refine ⟨fun h4 => At.mk ?_, fun h4 => At.mk ?_⟩
          · (try simp only [go_sem, ↓reduceIte, reduceEqDiff, reduceAdd, reduceMul, reduceLeDiff, reduceLT])
            refine rd_cells o.tl (by simp) ?_
            (try simp only [go_sem, ↓reduceIte, reduceEqDiff, reduceAdd, reduceMul, reduceLeDiff, reduceLT])
            refine ⟨h2p, ⟨by omega, by omega⟩, ?_⟩
            refine rd_cells o.tl (by simp) ?_
            (try simp only [go_sem, ↓reduceIte, reduceEqDiff, reduceAdd, reduceMul, reduceLeDiff, reduceLT])
            refine ⟨by omega, ⟨by omega, by omega⟩, ?_⟩
            refine app_own _ o rfl rfl (by simp only [maxL]; omega) fun idr H o => ?_
            (try simp only [go_sem, ↓reduceIte, reduceEqDiff, reduceAdd, reduceMul, reduceLeDiff, reduceLT, w])
            exact for_next (idr, _) h3p ⟨by simp [hrl'], o⟩ rfl
          · (try simp only [go_sem, ↓reduceIte, reduceEqDiff, reduceAdd, reduceMul, reduceLeDiff, reduceLT])
            refine app_own _ o rfl rfl (by simp only [maxL]; omega) fun idr H o => ?_
            (try simp only [go_sem, ↓reduceIte, reduceEqDiff, reduceAdd, reduceMul, reduceLeDiff, reduceLT, w])
            exact for_next (idr, _) h3p ⟨by simp [hrl'], o⟩ rfl
        · have h3p := of_ndecide h3
          have w := wsucc (k := f) (by omega)
          (try simp only [go_sem, ↓reduceIte, reduceEqDiff, reduceAdd, reduceMul, reduceLeDiff, reduceLT])
          refine fz_own o rfl fun H o => ?_
          (try simp only [go_sem, ↓reduceIte, reduceEqDiff, reduceAdd, reduceMul, reduceLeDiff, reduceLT])
          refine rd_cells o (by simp) ?_
          (try simp only [go_sem, ↓reduceIte, reduceEqDiff, reduceAdd, reduceMul, reduceLeDiff, reduceLT])
          refine app_own row o.swap rfl rfl (by simp only [maxL]; omega) fun d H o => ?_
          (try simp only [go_sem, ↓reduceIte, reduceEqDiff, reduceAdd, reduceMul, reduceLeDiff, reduceLT])
          refine st_cells o.swap (by simp) (by (try simp only [go_sem]); (try simp)) (by first | (simp only [go_sem]; done) | ((try simp only [go_sem]); simp [AV.one, one_mL])) fun H o => ?_
          simp only [wr_cons, wr_nil, List.set_cons_zero, List.set_cons_succ] at o
          (try simp only [go_sem, ↓reduceIte, reduceEqDiff, reduceAdd, reduceMul, reduceLeDiff, reduceLT, w])
          refine for_next (d, D ++ [row]) h2p ⟨by simp [hD], ?_, o⟩ rfl
          intro r hr
          rcases List.mem_append.mp hr with h | h
          · exact hDr r h
          · rw [List.mem_singleton] at h; subst h; omega
      · have h2p := of_ndecide h2
        (try simp only [go_sem, ↓reduceIte, reduceEqDiff, reduceAdd, reduceMul, reduceLeDiff, reduceLT])
        refine wk_cell 4 o rfl rfl fun H o => wkW_done ?_
        simp only [List.set_cons_zero, List.set_cons_succ] at o
        (try simp only [go_sem, ↓reduceIte, reduceEqDiff, reduceAdd, reduceMul, reduceLeDiff, reduceLT])
        refine rd_celln o (by simp) ?_
        (try simp only [go_sem, ↓reduceIte, reduceEqDiff, reduceAdd, reduceMul, reduceLeDiff, reduceLT])
        refine st_cells o.swap (by simp) (by (try simp only [go_sem]); (try simp)) (by first | (simp only [go_sem]; done) | ((try simp only [go_sem]); simp [AV.one, one_mL])) fun H o => ?_
        simp only [wr_cons, wr_nil, List.set_cons_zero, List.set_cons_succ] at o
        (try simp only [go_sem, ↓reduceIte, reduceEqDiff, reduceAdd, reduceMul, reduceLeDiff, reduceLT])
        have hr2 := o.rc 5 0 (by simp)
        simp only [List.drop_zero] at hr2
        rw [hr2]
        (try simp only [go_sem, ↓reduceIte, reduceEqDiff, reduceAdd, reduceMul, reduceLeDiff, reduceLT])
        have hDA : D.length = A.length := by omega
        refine rets_ret ⟨⟨k, A, C, I, D⟩, rfl, ⟨by show (0 : Int) ≤ (k : Int); omega, by show (k : Int) ≤ ((16 : Nat) : Int); omega⟩, by show (I.length : Int) = k; omega, hA16, hC, hDA, fun x hx => ?_⟩ o.sub
        exact hDr _ (mem_getD.mpr ⟨x, by rw [hDA]; exact hx, rfl⟩)
end Go.Proofs.Shf
namespace Go.AW
theorem LsR.inner {α : Type} {f : α → AV} : ∀ (ms : List (Nat × List α)), LsR f (ms.map bufE) (ms.map Prod.snd) (inner f ms)
  | [] => .nil
  | m :: ms => LsR.cons (p := [(m.1, .cells 1 (m.2.map f) 0)]) (.inr ⟨m.1, rfl, rfl⟩) (LsR.inner ms)
theorem app_own' {α : Type} [Inhabited α] {f : α → AV} [One f] {H0 H : Heap} {l : Ob} {K : Kont} {id fr n : Nat} {out : List α} (a : α) {v : AV} (h : Owns H0 H ((id, .cells 1 (out.map f) fr) :: l)) (hv : v = f a) (hn : n = out.length) (hm : out.length + 1 ≤ maxL)
    (hk : ∀ id' H' A, A = out ++ [a] → A.length = out.length + 1 → Owns H0 H' ((id', .cells 1 (A.map f) fr) :: l) → K (.buf id' A.length) H') : appW 1 (some (.buf id n)) (some (.sl [v])) K H :=
  app_own a h hv hn hm fun id' H' o => hk id' H' _ rfl (by simp) o
end Go.AW
namespace Go.Proofs.Shf
open Go.AW Go.Proofs Go.Shf
theorem l01Own2_own (B : Nat) (T : List (List Int)) (H0 H : Heap) (l : Ob) (o : Owns H0 H l) :
    CallH Tryz.prog B 250 [iLL T] H (fun r H' => ∃ d Xs ob, r = .buf d Xs.length ∧ LsR iI Xs T ob ∧ Owns H0 H' ((d, .cells 1 Xs 0) :: (ob ++ l))) := by
  refine c250p (by simp) fun ⟨hf, _⟩ => ?_
  have hl := fine_mL_le hf
  simp only [maxL] at hl
  unfold s250p
  (try simp only [go_sem, ↓reduceIte, reduceEqDiff, reduceAdd, reduceMul, reduceLeDiff, reduceLT])
  refine newBuf_own o fun d H o => ?_
  (try simp only [go_sem, ↓reduceIte, reduceEqDiff, reduceAdd, reduceMul, reduceLeDiff, reduceLT])
  refine awp_for [0] (G := Nat × List (Nat × List Int)) (fun k g => [(3, some (.buf g.1 g.2.length)), (4, some (.int .i64 (k : Int)))])
    (fun k g H => g.2.map Prod.snd = T.take k ∧ Owns H0 H ((g.1, MObj.cells 1 (g.2.map bufE) 0) :: (inner iI g.2 ++ l))) T.length (d, []) ⟨by simp, o⟩ rfl ?_
  clear o
  rintro k ⟨d, ms⟩ H hk ⟨hms, o⟩
  replace hms : ms.map Prod.snd = T.take k := hms
  replace o : Owns H0 H ((d, MObj.cells 1 (ms.map bufE) 0) :: (inner iI ms ++ l)) := o
  have hml : ms.length = k := by
    have := congrArg List.length hms
    simpa [Nat.min_eq_left hk] using this
  (try simp only [go_sem, ↓reduceIte, reduceEqDiff, reduceAdd, reduceMul, reduceLeDiff, reduceLT])
  refine ⟨fun h1 => At.mk ?_, fun h1 => At.mk ?_⟩
  · have h1p := of_decide h1
    have w := wsucc (k := k) (by omega)
    (try simp only [go_sem, ↓reduceIte, reduceEqDiff, reduceAdd, reduceMul, reduceLeDiff, reduceLT])
    refine ⟨h1p, ?_⟩
    refine (l01Own_own B (T.getD k default) H0 H _ o).own fun id A H o hA => ?_
    subst hA
    (try simp only [go_sem, ↓reduceIte, reduceEqDiff, reduceAdd, reduceMul, reduceLeDiff, reduceLT])
    refine app_own (f := bufE) (id, T.getD k default) o.swap rfl rfl (by simp only [maxL]; omega) fun d H o => ?_
    (try simp only [go_sem, ↓reduceIte, reduceEqDiff, reduceAdd, reduceMul, reduceLeDiff, reduceLT, w])
    refine for_next (d, ms ++ [(id, T.getD k default)]) h1p ⟨by rw [List.map_append, hms, take_succ' T h1p]; rfl, ?_⟩ rfl
    refine o.perm (.cons _ ?_)
    simp only [inner, List.map_append, List.map_cons, List.map_nil, List.append_assoc, List.cons_append, List.nil_append]
    exact List.perm_middle.symm
  · have h1p := of_ndecide h1
    obtain rfl : k = T.length := by omega
    rw [List.take_length] at hms
    (try simp only [go_sem, ↓reduceIte, reduceEqDiff, reduceAdd, reduceMul, reduceLeDiff, reduceLT])
    refine ⟨H, .refl H, d, ms.map bufE, inner iI ms, by simp, ?_, o⟩
    rw [← hms]; exact LsR.inner ms
theorem New.go' {P : Program} {B : Nat} {fn : FuncId} {args : List AV} {O : Ob → AV → Prop} {H0 H : Heap} {l : Ob} {K : Kont} (h : New P B fn args O) (o : Owns H0 H l) (hk : ∀ r p H', O p r → Owns H0 H' (p ++ l) → H.sub H' → K r H') : CallH P B fn args H K :=
  (h.run H).mono fun r H' ⟨p, q1, q2⟩ => hk r p H' q1 (o.trans q2) q2.sub
def OLb (l : List Int) (p : Ob) (X : AV) : Prop := ∃ id, X = .buf id l.length ∧ p = [(id, .cells 1 (l.map iI) 0)]
theorem l01Own_new (B : Nat) (l : List Int) : New Tryz.prog B 114 [iL l] (OLb l) :=
  ⟨fun H => (l01Own_own B l H H [] (.nil H)).mono fun r H' ⟨id, A, e, o, q⟩ => by
    subst e q
    exact ⟨_, ⟨id, rfl, rfl⟩, o⟩⟩
def OLLb (T : List (List Int)) (p : Ob) (X : AV) : Prop := ∃ d Xs ob, X = .buf d Xs.length ∧ LsR iI Xs T ob ∧ p = (d, .cells 1 Xs 0) :: ob
theorem l01Own2_new (B : Nat) (T : List (List Int)) : New Tryz.prog B 250 [iLL T] (OLLb T) :=
  ⟨fun H => (l01Own2_own B T H H [] (.nil H)).mono fun r H' ⟨d, Xs, ob, e, h, o⟩ => by
    rw [List.append_nil] at o
    exact ⟨_, ⟨d, Xs, ob, e, h, rfl⟩, o⟩⟩
def OCb (c : Cat) (p : Ob) (X : AV) : Prop := ∃ a b i d Xs ob, X = .agg [iI c.objs, .buf a c.frm.length, .buf b c.to.length, .buf i c.idn.length, .buf d Xs.length] ∧ LsR iI Xs c.comp ob ∧
  p = (a, .cells 1 (c.frm.map iI) 0) :: (b, .cells 1 (c.to.map iI) 0) :: (i, .cells 1 (c.idn.map iI) 0) :: (d, .cells 1 Xs 0) :: ob
theorem l02Own_new (B : Nat) (c : Cat) : New Tryz.prog B 171 [.agg c.cells] (OCb c) := by
  refine ⟨fun H0 => c171p (by simp) fun _ => ?_⟩
  unfold s171p
  (try simp only [go_sem, ↓reduceIte, reduceEqDiff, reduceAdd, reduceMul, reduceLeDiff, reduceLT])
  refine newRef_own (.nil _) fun id H o => ?_
  (try simp only [go_sem, ↓reduceIte, reduceEqDiff, reduceAdd, reduceMul, reduceLeDiff, reduceLT])
  refine New.go' (l01Own_new B c.frm) o fun X1 p1 H ⟨a, e1, e2⟩ o hs => ⟨hs, ?_⟩
  subst e1 e2
  (try simp only [go_sem, ↓reduceIte, reduceEqDiff, reduceAdd, reduceMul, reduceLeDiff, reduceLT])
  refine New.go' (l01Own_new B c.to) o fun X1 p1 H ⟨b, e1, e2⟩ o hs => ⟨hs, ?_⟩
  subst e1 e2
  (try simp only [go_sem, ↓reduceIte, reduceEqDiff, reduceAdd, reduceMul, reduceLeDiff, reduceLT])
  refine New.go' (l01Own_new B c.idn) o fun X1 p1 H ⟨i, e1, e2⟩ o hs => ⟨hs, ?_⟩
  subst e1 e2
  (try simp only [go_sem, ↓reduceIte, reduceEqDiff, reduceAdd, reduceMul, reduceLeDiff, reduceLT])
  refine New.go' (l01Own2_new B c.comp) o fun X1 p1 H ⟨d, Xs, ob, e1, h, e2⟩ o hs => ⟨hs, ?_⟩
  subst e1 e2
  (try simp only [go_sem, ↓reduceIte, reduceEqDiff, reduceAdd, reduceMul, reduceLeDiff, reduceLT])
  have o : Owns H0 H ((id, MObj.cells 5 [iI 0, .nilsl, .nilsl, .nilsl, .nilsl] 0) :: (a, MObj.cells 1 (c.frm.map iI) 0) :: (b, MObj.cells 1 (c.to.map iI) 0) :: (i, MObj.cells 1 (c.idn.map iI) 0) :: (d, MObj.cells 1 Xs 0) :: ob) := o.perm (permC fun x => by (try dsimp only); simp only [List.append_eq, List.count_append, List.count_cons, List.count_nil, List.map_nil, List.length_nil, List.length_append, List.length_cons, List.length_set, Nat.zero_add, List.nil_append, iI, iL]; omega)
  refine st_cells o (by simp) (by (try simp only [go_sem]); (try simp)) (by first | (simp only [go_sem]; done) | ((try simp only [go_sem]); simp [AV.one, one_mL])) fun H o => ?_
  simp only [wr_cons, wr_nil, List.set_cons_zero, List.set_cons_succ] at o
  (try simp only [go_sem, ↓reduceIte, reduceEqDiff, reduceAdd, reduceMul, reduceLeDiff, reduceLT])
  have hr := o.rc 5 0 (by simp)
  simp only [List.drop_zero] at hr
  rw [hr]
  exact ⟨H, .refl H, _, ⟨a, b, i, d, Xs, ob, rfl, h, rfl⟩, o.tl⟩
end Go.Proofs.Shf
namespace Go.AW
theorem LsR.snoc' {α : Type} {f : α → AV} {Xs : List AV} {As : List (List α)} {o p : List (Nat × MObj)} {X : AV} {A : List α} (h : LsR f Xs As o) (hp : LsP f p X A) : LsR f (Xs ++ [X]) (As ++ [A]) (o ++ p) := by
  induction h with
  | nil => simpa using LsR.cons hp .nil
  | cons q _ ih => simpa using LsR.cons q ih
theorem app_raw {H0 H : Heap} {l : Ob} {K : Kont} {id n : Nat} {Xs : List AV} {Y : AV} (o : Owns H0 H ((id, .cells 1 Xs 0) :: l)) (hn : n = Xs.length) (h1 : Y.cells = [Y]) (h2 : Y.one = true) (hm : Xs.length + 1 ≤ maxL)
    (hk : ∀ id' H', Owns H0 H' ((id', .cells 1 (Xs ++ [Y]) 0) :: l) → K (.buf id' (Xs.length + 1)) H') : appW 1 (some (.buf id n)) (some (.sl [Y])) K H := by
  subst hn
  have hok : okEls 1 [Y] := by
    intro e he
    rw [List.mem_singleton] at he; subst he
    rw [h1]
    exact ⟨rfl, fun c hc => by rw [List.mem_singleton] at hc; subst hc; exact h2⟩
  have h0 := o.h0
  simp only at h0
  simp only [appW, h0, srcOf, app2]
  refine ⟨⟨trivial, by simp, by simp; omega, by simp; omega, hok⟩, fun id' hn => ?_⟩
  have hfl : flat [Y] = [Y] := by simp [flat, h1]
  rw [hfl]
  exact hk id' _ (o.mv hn (.cells 1 (Xs ++ [Y]) 0))
end Go.AW
namespace Go.Proofs.Shf
open Go.AW Go.Proofs Go.Shf
@[go_sem] def sumO (id7 id4 : Nat) (x0 : Int) (a : Nat) (A : List Int) (b : Nat) (C : List Int) (i : Nat) (I : List Int) (d : Nat) (Xs : List AV) (ob : Ob) : Ob :=
  (id7, .cells 5 [iI x0, .buf a A.length, .buf b C.length, .buf i I.length, .buf d Xs.length] 0) :: (a, .cells 1 (A.map iI) 0) :: (b, .cells 1 (C.map iI) 0) :: (i, .cells 1 (I.map iI) 0) :: (d, .cells 1 Xs 0) :: (ob ++ [(id4, .cells 5 [iI 0, .nilsl, .nilsl, .nilsl, .nilsl] 0)])
theorem l03Sum_new (B N M : Nat) (hNM : N + M ≤ 4096) (c e : Cat) (hc : c.Sh N) (he : e.Sh M) : New Tryz.prog B 314 [.agg c.cells, .agg e.cells] (fun p X => ∃ c' : Cat, c'.Sh (N + M) ∧ OCb c' p X) := by
  refine ⟨fun H0 => c314p (by simp) fun _ => ?_⟩
  obtain ⟨cob, cil, cml, ctl, ccl, crow⟩ := hc
  obtain ⟨eob, eil, eml, etl, ecl, erow⟩ := he
  unfold s314p
  (try simp only [go_sem, ↓reduceIte, reduceEqDiff, reduceAdd, reduceMul, reduceLeDiff, reduceLT])
  refine newRef_own (.nil _) fun id4 H o => ?_
  (try simp only [go_sem, ↓reduceIte, reduceEqDiff, reduceAdd, reduceMul, reduceLeDiff, reduceLT])
  refine New.go' (l02Own_new B c) o fun X1 p1 H ⟨a, b, i, d, Xs, ob, e1, hX, e2⟩ o _ => ?_
  subst e1 e2
  have hXl := hX.len
  (try simp only [go_sem, ↓reduceIte, reduceEqDiff, reduceAdd, reduceMul, reduceLeDiff, reduceLT])
  refine newRef_own o fun id7 H o => ?_
  (try simp only [go_sem, ↓reduceIte, reduceEqDiff, reduceAdd, reduceMul, reduceLeDiff, reduceLT])
  refine st_cells o (by simp) (by (try simp only [go_sem]); (try simp)) (by first | (simp only [go_sem]; done) | ((try simp only [go_sem]); simp [AV.one, one_mL])) fun H o => ?_
  simp only [wr_cons, wr_nil, List.set_cons_zero, List.set_cons_succ] at o
  (try simp only [go_sem, ↓reduceIte, reduceEqDiff, reduceAdd, reduceMul, reduceLeDiff, reduceLT])
  have wo : IntKind.i64.wrap (c.objs + e.objs) = c.objs + e.objs := wrap_i64 (by omega) (by omega)
  (try simp only [go_sem, ↓reduceIte, reduceEqDiff, reduceAdd, reduceMul, reduceLeDiff, reduceLT, wo])
  refine st_cells o (by simp) (by (try simp only [go_sem]); (try simp)) (by first | (simp only [go_sem]; done) | ((try simp only [go_sem]); simp [AV.one, one_mL])) fun H o => ?_
  simp only [wr_cons, wr_nil, List.set_cons_zero, List.set_cons_succ] at o
  (try simp only [go_sem, ↓reduceIte, reduceEqDiff, reduceAdd, reduceMul, reduceLeDiff, reduceLT])
  have o : Owns H0 H (sumO id7 id4 (c.objs + e.objs) a c.frm b c.to i c.idn d Xs ob) := o
  refine awp_for [3, 4, 5, 6, 7] (G := Nat × List Int) (fun k _ => [(8, some (.int .i64 (k : Int)))])
    (fun k g H => g.2.length = c.idn.length + k ∧ Owns H0 H (sumO id7 id4 (c.objs + e.objs) a c.frm b c.to g.1 g.2 d Xs ob)) e.objs.toNat (i, c.idn) ⟨rfl, o⟩ rfl ?_
  clear o
  rintro k ⟨i, I⟩ H hk ⟨hI, o⟩
  replace hI : I.length = c.idn.length + k := hI
  replace o : Owns H0 H (sumO id7 id4 (c.objs + e.objs) a c.frm b c.to i I d Xs ob) := o
  unfold sumO at o
  (try simp only [go_sem, ↓reduceIte, reduceEqDiff, reduceAdd, reduceMul, reduceLeDiff, reduceLT])
  refine ⟨fun h1 => At.mk ?_, fun h1 => At.mk ?_⟩
  · have h1p := of_decide h1
    have w := wsucc (k := k) (by omega)
    (try simp only [go_sem, ↓reduceIte, reduceEqDiff, reduceAdd, reduceMul, reduceLeDiff, reduceLT])
    refine rd_cells o (by simp) ?_
    (try simp only [go_sem, ↓reduceIte, reduceEqDiff, reduceAdd, reduceMul, reduceLeDiff, reduceLT])
    refine ⟨by omega, ?_⟩
    refine app_own' _ (o.pull [_, _, _]) rfl rfl (by simp only [maxL]; omega) fun i H I2 _ hI2 o => ?_
    (try simp only [go_sem, ↓reduceIte, reduceEqDiff, reduceAdd, reduceMul, reduceLeDiff, reduceLT])
    refine st_cells o.swap (by simp) (by (try simp only [go_sem]); (try simp)) (by first | (simp only [go_sem]; done) | ((try simp only [go_sem]); simp [AV.one, one_mL])) fun H o => ?_
    simp only [wr_cons, wr_nil, List.set_cons_zero, List.set_cons_succ] at o
    (try simp only [go_sem, ↓reduceIte, reduceEqDiff, reduceAdd, reduceMul, reduceLeDiff, reduceLT, w])
    refine for_next (i, I2) (by omega) ⟨by show I2.length = _; omega, ?_⟩ rfl
    try unfold sumO
    exact o.perm (permC fun x => by (try dsimp only); simp only [List.append_eq, List.count_append, List.count_cons, List.count_nil, List.map_nil, List.length_nil, List.length_append, List.length_cons, List.length_set, Nat.zero_add, List.nil_append, iI, iL]; omega)
  · have h1p := of_ndecide h1
    have hIl : I.length = c.idn.length + e.objs.toNat := by omega
    clear h1 h1p hk hI
    (try simp only [go_sem, ↓reduceIte, reduceEqDiff, reduceAdd, reduceMul, reduceLeDiff, reduceLT])
    refine awp_for [3, 4, 5, 6, 7] (G := List AV × Ob × List (List Int)) (fun f _ => [(9, some (.int .i64 (f : Int)))])
      (fun f g H => LsR iI g.1 g.2.2 g.2.1 ∧ g.2.2.length = c.frm.length ∧ (∀ x, x < c.frm.length → (g.2.2.getD x []).length = c.frm.length + if x < f then e.frm.length else 0) ∧
        Owns H0 H (sumO id7 id4 (c.objs + e.objs) a c.frm b c.to i I d g.1 g.2.1)) c.frm.length (Xs, ob, c.comp) ⟨hX, ccl, fun x hx => by rw [if_neg (by omega)]; exact crow x hx, o⟩ rfl ?_
    clear o hX hXl
    rintro f ⟨Xs, ob, As⟩ H hf ⟨hX, hAl, hAr, o⟩
    replace hX : LsR iI Xs As ob := hX
    replace hAl : As.length = c.frm.length := hAl
    replace hAr : ∀ x, x < c.frm.length → (As.getD x []).length = c.frm.length + if x < f then e.frm.length else 0 := hAr
    replace o : Owns H0 H (sumO id7 id4 (c.objs + e.objs) a c.frm b c.to i I d Xs ob) := o
    have hXl := hX.len
    unfold sumO at o
    (try simp only [go_sem, ↓reduceIte, reduceEqDiff, reduceAdd, reduceMul, reduceLeDiff, reduceLT])
    refine rd_cells o (by simp) ?_
    (try simp only [go_sem, ↓reduceIte, reduceEqDiff, reduceAdd, reduceMul, reduceLeDiff, reduceLT])
    refine ⟨fun h1 => At.mk ?_, fun h1 => At.mk ?_⟩
    · have h1p := of_decide h1
      have hf1 : f < c.frm.length := by omega
      clear h1 h1p
      (try simp only [go_sem, ↓reduceIte, reduceEqDiff, reduceAdd, reduceMul, reduceLeDiff, reduceLT])
      refine awp_for [3, 4, 5, 6, 7, 9] (G := List AV × Ob × List (List Int)) (fun j _ => [(10, some (.int .i64 (j : Int)))])
        (fun j g H => LsR iI g.1 g.2.2 g.2.1 ∧ g.2.2.length = c.frm.length ∧ (∀ x, x < c.frm.length → (g.2.2.getD x []).length = c.frm.length + if x < f then e.frm.length else if x = f then j else 0) ∧
          Owns H0 H (sumO id7 id4 (c.objs + e.objs) a c.frm b c.to i I d g.1 g.2.1)) e.frm.length (Xs, ob, As) ⟨hX, hAl, fun x hx => by rw [hAr x hx]; split <;> simp, o⟩ rfl ?_
      clear o hX hXl hAl hAr
      rintro j ⟨Xs, ob, As⟩ H hj ⟨hX, hAl, hAr, o⟩
      replace hX : LsR iI Xs As ob := hX
      replace hAl : As.length = c.frm.length := hAl
      replace hAr : ∀ x, x < c.frm.length → (As.getD x []).length = c.frm.length + if x < f then e.frm.length else if x = f then j else 0 := hAr
      replace o : Owns H0 H (sumO id7 id4 (c.objs + e.objs) a c.frm b c.to i I d Xs ob) := o
      have hXl := hX.len
      unfold sumO at o
      (try simp only [go_sem, ↓reduceIte, reduceEqDiff, reduceAdd, reduceMul, reduceLeDiff, reduceLT])
      refine ⟨fun h2 => At.mk ?_, fun h2 => At.mk ?_⟩
      · have h2p := of_decide h2
        have w := wsucc (k := j) (by omega)
        (try simp only [go_sem, ↓reduceIte, reduceEqDiff, reduceAdd, reduceMul, reduceLeDiff, reduceLT])
        refine ⟨⟨_, _, o.h0⟩, rd_cells o (by simp) ?_⟩
        (try simp only [go_sem, ↓reduceIte, reduceEqDiff, reduceAdd, reduceMul, reduceLeDiff, reduceLT])
        refine ⟨⟨_, _, o.h0⟩, rd_cells o (by simp) ?_⟩
        (try simp only [go_sem, ↓reduceIte, reduceEqDiff, reduceAdd, reduceMul, reduceLeDiff, reduceLT])
        refine ⟨by omega, ?_⟩
        have od := o.pull [_, _, _, _]
        simp only [List.cons_append, List.nil_append] at od
        refine rd_cells od (by omega) ?_
        (try simp only [go_sem, ↓reduceIte, reduceEqDiff, reduceAdd, reduceMul, reduceLeDiff, reduceLT])
        have od2 : Owns H0 H ((d, MObj.cells 1 Xs 0) :: (ob ++ [(id7, MObj.cells 5 [iI (c.objs + e.objs), .buf a c.frm.length, .buf b c.to.length, .buf i I.length, .buf d Xs.length] 0), (a, MObj.cells 1 (c.frm.map iI) 0), (b, MObj.cells 1 (c.to.map iI) 0), (i, MObj.cells 1 (I.map iI) 0), (id4, MObj.cells 5 [iI 0, .nilsl, .nilsl, .nilsl, .nilsl] 0)])) := od.perm (permC fun x => by (try dsimp only); simp only [List.append_eq, List.count_append, List.count_cons, List.count_nil, List.map_nil, List.length_nil, List.length_append, List.length_cons, List.length_set, Nat.zero_add, List.nil_append, iI, iL]; omega)
        have hrow := hAr f hf1
        rw [if_neg (by omega), if_pos rfl] at hrow
        refine rows_app od2 hX (by omega) (-1) rfl (by simp only [maxL]; omega) fun X' ob' H hX1 hX' o => ?_
        (try simp only [go_sem, ↓reduceIte, reduceEqDiff, reduceAdd, reduceMul, reduceLeDiff, reduceLT, AV.cells_one hX1])
        refine ⟨by omega, st_cells o (by omega) (by (try simp only [go_sem]); (try simp)) (by simp [hX1]) fun H o => ?_⟩
        have hw : wr Xs f [X'] = Xs.set f X' := rfl
        rw [hw] at o
        (try simp only [go_sem, ↓reduceIte, reduceEqDiff, reduceAdd, reduceMul, reduceLeDiff, reduceLT, w])
        have hXl2 : (Xs.set f X').length = Xs.length := by simp
        refine for_next (Xs.set f X', ob', As.set f (As.getD f [] ++ [-1])) h2p ⟨hX', by simp [hAl], fun x hx => ?_, ?_⟩ rfl
        · show ((As.set f (As.getD f [] ++ [-1])).getD x []).length = _
          rw [getD_set]
          by_cases hxf : f = x
          · subst hxf
            rw [if_pos ⟨rfl, by omega⟩, List.length_append, hrow, if_neg (by omega), if_pos rfl]; simp; omega
          · rw [if_neg (fun q => hxf q.1), hAr x hx]
            by_cases hx2 : x < f
            · rw [if_pos hx2, if_pos hx2]
            · rw [if_neg hx2, if_neg hx2, if_neg (by omega), if_neg (by omega)]
        · try unfold sumO
          try rw [hXl2]
          exact o.perm (permC fun x => by (try dsimp only); simp only [List.append_eq, List.count_append, List.count_cons, List.count_nil, List.map_nil, List.length_nil, List.length_append, List.length_cons, List.length_set, Nat.zero_add, List.nil_append, iI, iL]; omega)
      · have h2p := of_ndecide h2
        have w := wsucc (k := f) (by omega)
        (try simp only [go_sem, ↓reduceIte, reduceEqDiff, reduceAdd, reduceMul, reduceLeDiff, reduceLT, w])
        refine for_next (Xs, ob, As) hf1 ⟨hX, hAl, fun x hx => ?_, o⟩ rfl
        have := hAr x hx
        show (As.getD x []).length = _
        rw [this]
        by_cases hx2 : x < f
        · rw [if_pos hx2, if_pos (by omega)]
        · by_cases hx3 : x = f
          · rw [if_neg hx2, if_pos hx3, if_pos (by omega)]; omega
          · rw [if_neg hx2, if_neg hx3, if_neg (by omega)]
    · have h1p := of_ndecide h1
      have hAr2 : ∀ x, x < c.frm.length → (As.getD x []).length = c.frm.length + e.frm.length := fun x hx => by rw [hAr x hx, if_pos (by omega)]
      clear h1 h1p hf hAr
      (try simp only [go_sem, ↓reduceIte, reduceEqDiff, reduceAdd, reduceMul, reduceLeDiff, reduceLT])
      refine awp_for [3, 4, 5, 6, 7] (G := (Nat × List Int) × (Nat × List Int) × Nat × List AV × Ob × List (List Int)) (fun f _ => [(11, some (.int .i64 (f : Int)))])
        (fun f g H => g.1.2.length = c.frm.length + f ∧ g.2.1.2.length = c.frm.length + f ∧ LsR iI g.2.2.2.1 g.2.2.2.2.2 g.2.2.2.2.1 ∧ g.2.2.2.2.2.length = c.frm.length + f ∧ (∀ x, x < c.frm.length + f → (g.2.2.2.2.2.getD x []).length = c.frm.length + e.frm.length) ∧
          Owns H0 H (sumO id7 id4 (c.objs + e.objs) g.1.1 g.1.2 g.2.1.1 g.2.1.2 i I g.2.2.1 g.2.2.2.1 g.2.2.2.2.1)) e.frm.length ((a, c.frm), (b, c.to), d, Xs, ob, As) ⟨rfl, ctl, hX, hAl, hAr2, o⟩ rfl ?_
      clear o hX hXl hAl hAr2
      rintro f ⟨⟨a, A⟩, ⟨b, C⟩, d, Xs, ob, As⟩ H hf ⟨hA, hC, hX, hAl, hAr, o⟩
      replace hA : A.length = c.frm.length + f := hA
      replace hC : C.length = c.frm.length + f := hC
      replace hX : LsR iI Xs As ob := hX
      replace hAl : As.length = c.frm.length + f := hAl
      replace hAr : ∀ x, x < c.frm.length + f → (As.getD x []).length = c.frm.length + e.frm.length := hAr
      replace o : Owns H0 H (sumO id7 id4 (c.objs + e.objs) a A b C i I d Xs ob) := o
      have hXl := hX.len
      unfold sumO at o
      (try simp only [go_sem, ↓reduceIte, reduceEqDiff, reduceAdd, reduceMul, reduceLeDiff, reduceLT])
      refine ⟨fun h1 => At.mk ?_, fun h1 => At.mk ?_⟩
      · have h1p := of_decide h1
        (try simp only [go_sem, ↓reduceIte, reduceEqDiff, reduceAdd, reduceMul, reduceLeDiff, reduceLT])
        refine rd_cells o (by simp) ?_
        (try simp only [go_sem, ↓reduceIte, reduceEqDiff, reduceAdd, reduceMul, reduceLeDiff, reduceLT])
        refine ⟨h1p, app_own' _ o.swap rfl rfl (by simp only [maxL]; omega) fun a H A2 _ hA2 o => ?_⟩
        (try simp only [go_sem, ↓reduceIte, reduceEqDiff, reduceAdd, reduceMul, reduceLeDiff, reduceLT])
        refine st_cells o.swap (by simp) (by (try simp only [go_sem]); (try simp)) (by first | (simp only [go_sem]; done) | ((try simp only [go_sem]); simp [AV.one, one_mL])) fun H o => ?_
        simp only [wr_cons, wr_nil, List.set_cons_zero, List.set_cons_succ] at o
        (try simp only [go_sem, ↓reduceIte, reduceEqDiff, reduceAdd, reduceMul, reduceLeDiff, reduceLT])
        refine rd_cells o (by simp) ?_
        (try simp only [go_sem, ↓reduceIte, reduceEqDiff, reduceAdd, reduceMul, reduceLeDiff, reduceLT])
        refine ⟨by omega, app_own' _ (o.pull [_, _]) rfl rfl (by simp only [maxL]; omega) fun b H C2 _ hC2 o => ?_⟩
        (try simp only [go_sem, ↓reduceIte, reduceEqDiff, reduceAdd, reduceMul, reduceLeDiff, reduceLT])
        refine st_cells o.swap (by simp) (by (try simp only [go_sem]); (try simp)) (by first | (simp only [go_sem]; done) | ((try simp only [go_sem]); simp [AV.one, one_mL])) fun H o => ?_
        simp only [wr_cons, wr_nil, List.set_cons_zero, List.set_cons_succ] at o
        (try simp only [go_sem, ↓reduceIte, reduceEqDiff, reduceAdd, reduceMul, reduceLeDiff, reduceLT])
        have o : Owns H0 H (sumO id7 id4 (c.objs + e.objs) a A2 b C2 i I d Xs ob) := by
          try unfold sumO
          exact o.perm (permC fun x => by (try dsimp only); simp only [List.append_eq, List.count_append, List.count_cons, List.count_nil, List.map_nil, List.length_nil, List.length_append, List.length_cons, List.length_set, Nat.zero_add, List.nil_append, iI, iL]; omega)
        refine newBuf_own o fun idr H o => ?_
        (try simp only [go_sem, ↓reduceIte, reduceEqDiff, reduceAdd, reduceMul, reduceLeDiff, reduceLT])
        refine awp_for [3, 4, 5, 6, 7, 11] (G := Nat × List Int) (fun j g => [(12, some (.buf g.1 g.2.length)), (13, some (.int .i64 (j : Int)))])
          (fun j g H => g.2.length = j ∧ Owns H0 H ((g.1, MObj.cells 1 (g.2.map iI) 0) :: sumO id7 id4 (c.objs + e.objs) a A2 b C2 i I d Xs ob)) c.frm.length (idr, []) ⟨rfl, o⟩ rfl ?_
        clear o
        rintro j ⟨idr, row⟩ H hj ⟨hr, o⟩
        replace hr : row.length = j := hr
        replace o : Owns H0 H ((idr, MObj.cells 1 (row.map iI) 0) :: sumO id7 id4 (c.objs + e.objs) a A2 b C2 i I d Xs ob) := o
        (try simp only [go_sem, ↓reduceIte, reduceEqDiff, reduceAdd, reduceMul, reduceLeDiff, reduceLT])
        refine ⟨fun h2 => At.mk ?_, fun h2 => At.mk ?_⟩
        · have h2p := of_decide h2
          have w := wsucc (k := j) (by omega)
          (try simp only [go_sem, ↓reduceIte, reduceEqDiff, reduceAdd, reduceMul, reduceLeDiff, reduceLT])
          refine app_own' _ o rfl rfl (by simp only [maxL]; omega) fun idr H row2 _ hrow2 o => ?_
          (try simp only [go_sem, ↓reduceIte, reduceEqDiff, reduceAdd, reduceMul, reduceLeDiff, reduceLT, w])
          exact for_next (idr, row2) h2p ⟨by show row2.length = _; omega, o⟩ rfl
        · have h2p := of_ndecide h2
          have hrm : row.length = c.frm.length := by omega
          clear h2 h2p hj hr
          (try simp only [go_sem, ↓reduceIte, reduceEqDiff, reduceAdd, reduceMul, reduceLeDiff, reduceLT])
          refine awp_for [3, 4, 5, 6, 7, 11] (G := Nat × List Int) (fun j g => [(12, some (.buf g.1 g.2.length)), (14, some (.int .i64 (j : Int)))])
            (fun j g H => g.2.length = c.frm.length + j ∧ Owns H0 H ((g.1, MObj.cells 1 (g.2.map iI) 0) :: sumO id7 id4 (c.objs + e.objs) a A2 b C2 i I d Xs ob)) e.frm.length (idr, row) ⟨hrm, o⟩ rfl ?_
          clear o hrm
          rintro j ⟨idr, row⟩ H hj ⟨hr, o⟩
          replace hr : row.length = c.frm.length + j := hr
          replace o : Owns H0 H ((idr, MObj.cells 1 (row.map iI) 0) :: sumO id7 id4 (c.objs + e.objs) a A2 b C2 i I d Xs ob) := o
          (try simp only [go_sem, ↓reduceIte, reduceEqDiff, reduceAdd, reduceMul, reduceLeDiff, reduceLT])
          refine ⟨fun h3 => At.mk ?_, fun h3 => At.mk ?_⟩
          · have h3p := of_decide h3
            have w := wsucc (k := j) (by omega)
            have her := erow f (by omega)
            (try simp only [go_sem, ↓reduceIte, reduceEqDiff, reduceAdd, reduceMul, reduceLeDiff, reduceLT])
            refine ⟨by omega, by omega, ?_⟩
            refine ⟨fun h4 => At.mk ?_, fun h4 => At.mk ?_⟩
            · (try simp only [go_sem, ↓reduceIte, reduceEqDiff, reduceAdd, reduceMul, reduceLeDiff, reduceLT])
              refine app_own' _ o rfl rfl (by simp only [maxL]; omega) fun idr H row2 _ hrow2 o => ?_
              (try simp only [go_sem, ↓reduceIte, reduceEqDiff, reduceAdd, reduceMul, reduceLeDiff, reduceLT, w])
              exact for_next (idr, row2) h3p ⟨by show row2.length = _; omega, o⟩ rfl
            · (try simp only [go_sem, ↓reduceIte, reduceEqDiff, reduceAdd, reduceMul, reduceLeDiff, reduceLT])
              refine app_own' _ o rfl rfl (by simp only [maxL]; omega) fun idr H row2 _ hrow2 o => ?_
              (try simp only [go_sem, ↓reduceIte, reduceEqDiff, reduceAdd, reduceMul, reduceLeDiff, reduceLT, w])
              exact for_next (idr, row2) h3p ⟨by show row2.length = _; omega, o⟩ rfl
          · have h3p := of_ndecide h3
            have w := wsucc (k := f) (by omega)
            unfold sumO at o
            (try simp only [go_sem, ↓reduceIte, reduceEqDiff, reduceAdd, reduceMul, reduceLeDiff, reduceLT])
            refine rd_cells o.tl (by simp) ?_
            (try simp only [go_sem, ↓reduceIte, reduceEqDiff, reduceAdd, reduceMul, reduceLeDiff, reduceLT])
            refine app_raw (o.pull [_, _, _, _, _]) rfl rfl rfl (by simp only [maxL]; omega) fun d H o => ?_
            (try simp only [go_sem, ↓reduceIte, reduceEqDiff, reduceAdd, reduceMul, reduceLeDiff, reduceLT])
            have o := o.pull [_, _]
            simp only [List.cons_append, List.nil_append] at o
            refine st_cells o (by simp) (by (try simp only [go_sem]); (try simp)) (by first | (simp only [go_sem]; done) | ((try simp only [go_sem]); simp [AV.one, one_mL])) fun H o => ?_
            simp only [wr_cons, wr_nil, List.set_cons_zero, List.set_cons_succ] at o
            (try simp only [go_sem, ↓reduceIte, reduceEqDiff, reduceAdd, reduceMul, reduceLeDiff, reduceLT, w])
            have hXl2 : (Xs ++ [AV.buf idr row.length]).length = Xs.length + 1 := by simp
            refine for_next ((a, A2), (b, C2), d, Xs ++ [AV.buf idr row.length], ob ++ [(idr, MObj.cells 1 (row.map iI) 0)], As ++ [row]) h1p ⟨by show A2.length = _; omega, by show C2.length = _; omega, hX.snoc' (.inr ⟨idr, rfl, rfl⟩), by simp; omega, fun x hx => ?_, ?_⟩ rfl
            · show ((As ++ [row]).getD x []).length = _
              by_cases hx2 : x < c.frm.length + f
              · have e1 : (As ++ [row]).getD x [] = As.getD x [] := by rw [List.getD_eq_getElem?_getD, List.getElem?_append_left (by omega), ← List.getD_eq_getElem?_getD]
                rw [e1]; exact hAr x hx2
              · have e1 : (As ++ [row]).getD x [] = row := by
                  have : x = As.length := by omega
                  subst this; simp
                rw [e1]; omega
            · try unfold sumO
              try rw [hXl2]
              exact o.perm (permC fun x => by (try dsimp only); simp only [List.append_eq, List.count_append, List.count_cons, List.count_nil, List.map_nil, List.length_nil, List.length_append, List.length_cons, List.length_set, Nat.zero_add, List.nil_append, iI, iL]; omega)
      · have h1p := of_ndecide h1
        obtain rfl : f = e.frm.length := by omega
        (try simp only [go_sem, ↓reduceIte, reduceEqDiff, reduceAdd, reduceMul, reduceLeDiff, reduceLT])
        refine rd_celln o (by simp) ?_
        (try simp only [go_sem, ↓reduceIte, reduceEqDiff, reduceAdd, reduceMul, reduceLeDiff, reduceLT])
        have o : Owns H0 H ((id4, MObj.cells 5 [iI 0, .nilsl, .nilsl, .nilsl, .nilsl] 0) :: (id7, MObj.cells 5 [iI (c.objs + e.objs), .buf a A.length, .buf b C.length, .buf i I.length, .buf d Xs.length] 0) :: (a, MObj.cells 1 (A.map iI) 0) :: (b, MObj.cells 1 (C.map iI) 0) :: (i, MObj.cells 1 (I.map iI) 0) :: (d, MObj.cells 1 Xs 0) :: ob) := o.perm (permC fun x => by (try dsimp only); simp only [List.append_eq, List.count_append, List.count_cons, List.count_nil, List.map_nil, List.length_nil, List.length_append, List.length_cons, List.length_set, Nat.zero_add, List.nil_append, iI, iL]; omega)
        refine st_cells o (by simp) (by (try simp only [go_sem]); (try simp)) (by first | (simp only [go_sem]; done) | ((try simp only [go_sem]); simp [AV.one, one_mL])) fun H o => ?_
        simp only [wr_cons, wr_nil, List.set_cons_zero, List.set_cons_succ] at o
        (try simp only [go_sem, ↓reduceIte, reduceEqDiff, reduceAdd, reduceMul, reduceLeDiff, reduceLT])
        have hr2 := o.rc 5 0 (by simp)
        simp only [List.drop_zero] at hr2
        rw [hr2]
        (try simp only [go_sem, ↓reduceIte, reduceEqDiff, reduceAdd, reduceMul, reduceLeDiff, reduceLT])
        refine ⟨H, .refl H, _, ⟨⟨c.objs + e.objs, A, C, I, As⟩, ⟨⟨by show 0 ≤ c.objs + e.objs; omega, by show c.objs + e.objs ≤ ((N + M : Nat) : Int); omega⟩, by show (I.length : Int) = c.objs + e.objs; omega, by show A.length ≤ N + M; omega, by show C.length = A.length; omega, by show As.length = A.length; omega, fun x hx => ?_⟩,
          a, b, i, d, Xs, ob, rfl, hX, rfl⟩, o.tl.tl⟩
        show (As.getD x []).length = A.length
        rw [hAr x (by have : x < A.length := hx; omega)]; omega
end Go.Proofs.Shf
