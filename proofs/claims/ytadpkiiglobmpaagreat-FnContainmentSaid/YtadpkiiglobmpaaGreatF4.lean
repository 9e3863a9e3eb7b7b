/- Contracts, part 4. -/
import Derived.Test.YtadpkiiglobmpaaGreatF3
set_option linter.unusedVariables false
set_option linter.unusedSimpArgs false
set_option linter.unusedSectionVars false
open Nat (reduceEqDiff reduceAdd reduceMul reduceLeDiff reduceLT)
namespace Go.Proofs.Shf
open Go.AW Go.Proofs Go.Shf
end Go.Proofs.Shf
namespace Go.Proofs.Shf
open Go.AW Go.Proofs Go.Shf
end Go.Proofs.Shf
namespace Go.Proofs.Shf
open Go.AW Go.Proofs Go.Shf
@[go_sem] noncomputable def stepCells (f : SF) (V : List (List Int)) : List AV := [iI f.shape.objs, iL f.shape.frm, iL f.shape.to, iL f.shape.idn, iLL f.shape.comp, iL (stepSizes f V), iLL (stepActs f V), iLLL (famsOf f V)]
end Go.Proofs.Shf
namespace Go.Proofs.Shf
open Go.AW Go.Proofs Go.Shf
end Go.Proofs.Shf
namespace Go.AW
open Go.Proofs Go.Proofs.Shf
theorem Owns.subl {H0 H : Heap} {l l' : List (Nat × MObj)} (h : Owns H0 H l) (k : l'.Sublist l) : Owns H0 H l' :=
 ⟨h.sub, fun x hx => h.get x (k.subset hx), h.nd.sublist (k.map _), fun x hx => h.out x (k.subset hx)⟩
end Go.AW
namespace Go.Proofs.Shf
open Go.AW Go.Proofs Go.Shf
end Go.Proofs.Shf
namespace Go.AW
def iB (b : UInt8) : AV := .int .u8 (b.toNat : Int)
instance : One iB := ⟨fun _ => rfl, fun _ => rfl⟩
structure Src where
 code : List UInt8
 pl : Int
 hash : Int
def Src.cells (s : Src) : List AV := [mL iB s.code, .int .i64 s.pl, .int .u64 s.hash]
def Src.Ok (s : Src) : Prop := 0 ≤ s.pl ∧ s.code.length ≤ maxL
def Src.obj (s : Src) : MObj := .cells 3 s.cells 0
def SrcK (id : Nat) (H0 : Heap) (Q : AV → Prop) : Kont := fun r H' => Q r ∧ ∃ s' : Src, s'.Ok ∧ Owns H0 H' [(id, s'.obj)]
theorem Owns.self {H0 H : Heap} {id : Nat} {o : MObj} {l : List (Nat × MObj)} (h : Owns H0 H ((id, o) :: l)) : Owns (H.del id) H [(id, o)] where
 sub := fun i x hx => by
  by_cases e : i = id
  ·subst e; rw [Heap.get_del_same] at hx; cases hx
  ·rwa [Heap.get_del_ne _ e] at hx
 get := fun x hx => by
  rw [List.mem_singleton] at hx; subst hx
  exact h.get _ (by simp)
 nd := by simp
 out := fun x hx => by
  rw [List.mem_singleton] at hx; subst hx
  exact Heap.get_del_same _ _
end Go.AW
namespace Go.Proofs.Shf
open Go.AW Go.Proofs Go.Shf
theorem masked_ran {a x : Int} (h : IntKind.i64.wrap (IntKind.u64.wrap ((BitVec.ofInt IntKind.u64.bits a &&& BitVec.ofInt IntKind.u64.bits 16777215).toNat : Int)) = x) : 0 ≤ x ∧ x ≤ 16777215 := by
 have h1 : (BitVec.ofInt IntKind.u64.bits a &&& BitVec.ofInt IntKind.u64.bits 16777215).toNat ≤ 16777215 := by
  rw [BitVec.toNat_and]
  have : (BitVec.ofInt IntKind.u64.bits 16777215).toNat = 16777215 := rfl
  rw [this]
  exact Nat.and_le_right
 generalize (BitVec.ofInt IntKind.u64.bits a &&& BitVec.ofInt IntKind.u64.bits 16777215).toNat = m at h h1
 have e : IntKind.u64.wrap (m : Int) = m := by
  have : IntKind.u64.wrap (m : Int) = (m : Int) % 18446744073709551616 := by simp only [IntKind.wrap]; rfl
  omega
 rw [e, wrap_i64 (by omega) (by omega)] at h
 omega
def Rd (B : Nat) (fn : FuncId) (args : List AV) (Q : AV → Prop) : Prop :=
 ∀ (id : Nat) (s : Src) (H0 H : Heap), s.Ok → Owns H0 H [(id, s.obj)] → CallH Tryz.prog B fn (.ref id 0 :: args) H (SrcK id H0 Q)
theorem Rd.go {B : Nat} {fn : FuncId} {args : List AV} {Q : AV → Prop} {id : Nat} {s : Src} {H0 H : Heap} {l : List (Nat × MObj)} {K : Kont} (h : Rd B fn args Q) (hs : s.Ok) (o : Owns H0 H ((id, s.obj) :: l))
  (hk : ∀ (r : AV) (s' : Src) (H' : Heap), r.fine → Q r → s'.Ok → Owns H0 H' ((id, s'.obj) :: l) → K r H') : CallH Tryz.prog B fn (.ref id 0 :: args) H K :=
 (h id s _ H hs o.self).mono' fun r H' hf ⟨q, s', hs', o'⟩ => hk r s' H' hf q hs' (o.del.trans o')
theorem src_ret {id : Nat} {s : Src} {H0 H : Heap} {l : List (Nat × MObj)} {Q : AV → Prop} {v : AV} (q : Q v) (hs : s.Ok) (o : Owns H0 H ((id, s.obj) :: l)) : subW (SrcK id H0 Q) v H :=
 ⟨H, .refl H, q, s, hs, o.subl (by simp)⟩
def Rets (B : Nat) (fn : FuncId) (args : List AV) (Q : AV → Prop) : Prop := ∀ H, CallH Tryz.prog B fn args H fun r H' => Q r ∧ H' = H
theorem Rets.go {B : Nat} {fn : FuncId} {args : List AV} {Q : AV → Prop} {H : Heap} {K : Kont} (h : Rets B fn args Q) (hk : ∀ r, r.fine → Q r → K r H) : CallH Tryz.prog B fn args H K :=
 (h H).mono' fun r H' hf ⟨q, e⟩ => by subst e; exact hk r hf q
theorem rets_ret {H0 H : Heap} {Q : AV → Prop} {v : AV} (q : Q v) (h : H0.sub H) : subW (fun r H' => Q r ∧ H' = H0) v H := ⟨H0, h, q, rfl⟩
theorem l01Next_ok (B : Nat) (n : Int) : Rd B 75 [iI n] fun r => ∃ k : Int, r = iI k ∧ 0 ≤ k ∧ (1 ≤ n → k < n) ∧ (n < 1 → k = 0) := by
 intro id s H0 H hs o
 refine c75 (by simp) fun hf => ?_
 unfold s75
 try simp only [go_sem, reduceAdd]
 refine ⟨fun h1 => At.mk ?_, fun h1 => At.mk ?_⟩
 ·have h1p := of_decide h1
  try simp only [go_sem]
  exact src_ret ⟨0, rfl, by omega, by omega, fun _ => rfl⟩ hs o
 ·have h1p := of_ndecide h1
  try simp only [go_sem, reduceAdd]
  obtain ⟨code, pl, hash⟩ := s
  simp only [Src.obj, Src.cells] at o
  simp only [Src.Ok, maxL] at hs
  refine rd_cells o (by simp) ?_
  try simp only [go_sem, reduceAdd]
  refine stc o fun H o => ?_
  simp only [wr_cons, wr_nil, List.set_cons_zero, List.set_cons_succ] at o
  try simp only [go_sem, reduceAdd]
  refine rd_cells o (by simp) ?_
  try simp only [go_sem, reduceAdd]
  generalize hx : IntKind.i64.wrap (IntKind.u64.wrap _) = x
  have hx2 := masked_ran hx
  clear hx
  refine ⟨by omega, rd_cells o (by simp) ?_⟩
  try simp only [go_sem, reduceAdd]
  refine rd_cells o (by simp) ?_
  try simp only [go_sem]
  refine ⟨fun h2 => At.mk ?_, fun h2 => At.mk ?_⟩
  ·have h2p := of_decide h2
   try simp only [go_sem, reduceAdd]
   refine rd_cells o (by simp) ?_
   try simp only [go_sem, reduceAdd]
   refine rd_cells o (by simp) ?_
   try simp only [go_sem]
   refine ⟨⟨hs.1, by omega⟩, ?_⟩
   have hb := (ix code pl).toNat_lt
   try simp only [go_sem, reduceAdd, iB]
   generalize (ix code pl).toNat = b at hb ⊢
   have e1 : IntKind.i64.wrap (b : Int) = b := wrap_i64 (by omega) (by omega)
   have e2 : IntKind.i64.wrap (x + b) = x + b := wrap_i64 (by omega) (by omega)
   have e3 : IntKind.i64.wrap (pl + 1) = pl + 1 := wrap_i64 (by omega) (by omega)
   try simp only [go_sem, e1, e2]
   refine rd_cells o (by simp) ?_
   try simp only [go_sem, reduceAdd, e3]
   refine stc o fun H o => ?_
   simp only [wr_cons, wr_nil, List.set_cons_zero, List.set_cons_succ] at o
   try simp only [go_sem]
   refine ⟨by omega, src_ret (s := ⟨code, pl + 1, _⟩) ⟨(x + b).tmod n, rfl, ?_, ?_, ?_⟩ ⟨by show 0 ≤ pl + 1; omega, hs.2⟩ o⟩
   ·exact Int.tmod_nonneg _ (by omega)
   ·intro h; exact Int.tmod_lt_of_pos _ (by omega)
   ·intro h; omega
  ·try simp only [go_sem]
   refine ⟨by omega, src_ret (s := ⟨code, pl, _⟩) ⟨x.tmod n, rfl, ?_, ?_, ?_⟩ hs o⟩
   ·exact Int.tmod_nonneg _ (by omega)
   ·intro h; exact Int.tmod_lt_of_pos _ (by omega)
   ·intro h; omega
theorem below_ok (B : Nat) (n : Int) : Rd B 34 [iI n] fun r => ∃ k : Int, r = iI k ∧ 0 ≤ k ∧ (1 ≤ n → k < n) ∧ (n < 1 → k = 0) := by
 intro id s H0 H hs o
 refine c34 (by simp) fun hf => ?_
 unfold s34
 try simp only [go_sem, reduceAdd]
 refine ⟨fun h1 => At.mk ?_, fun h1 => At.mk ?_⟩
 ·have h1p := of_decide h1
  try simp only [go_sem]
  exact src_ret ⟨0, rfl, by omega, by omega, fun _ => rfl⟩ hs o
 ·have h1p := of_ndecide h1
  try simp only [go_sem, reduceAdd]
  obtain ⟨code, pl, hash⟩ := s
  simp only [Src.obj, Src.cells] at o
  simp only [Src.Ok, maxL] at hs
  refine rd_cells o (by simp) ?_
  try simp only [go_sem, reduceAdd]
  refine stc o fun H o => ?_
  simp only [wr_cons, wr_nil, List.set_cons_zero, List.set_cons_succ] at o
  try simp only [go_sem, reduceAdd]
  refine rd_cells o (by simp) ?_
  try simp only [go_sem, reduceAdd]
  generalize hx : IntKind.i64.wrap (IntKind.u64.wrap _) = x
  have hx2 := masked_ran hx
  clear hx
  refine ⟨by omega, rd_cells o (by simp) ?_⟩
  try simp only [go_sem, reduceAdd]
  refine rd_cells o (by simp) ?_
  try simp only [go_sem]
  refine ⟨fun h2 => At.mk ?_, fun h2 => At.mk ?_⟩
  ·have h2p := of_decide h2
   try simp only [go_sem, reduceAdd]
   refine rd_cells o (by simp) ?_
   try simp only [go_sem, reduceAdd]
   refine rd_cells o (by simp) ?_
   try simp only [go_sem]
   refine ⟨⟨hs.1, by omega⟩, ?_⟩
   have hb := (ix code pl).toNat_lt
   try simp only [go_sem, reduceAdd, iB]
   generalize (ix code pl).toNat = b at hb ⊢
   have e1 : IntKind.i64.wrap (b : Int) = b := wrap_i64 (by omega) (by omega)
   have e2 : IntKind.i64.wrap (x + b) = x + b := wrap_i64 (by omega) (by omega)
   have e3 : IntKind.i64.wrap (pl + 1) = pl + 1 := wrap_i64 (by omega) (by omega)
   try simp only [go_sem, e1, e2]
   refine rd_cells o (by simp) ?_
   try simp only [go_sem, reduceAdd, e3]
   refine stc o fun H o => ?_
   simp only [wr_cons, wr_nil, List.set_cons_zero, List.set_cons_succ] at o
   try simp only [go_sem]
   refine ⟨by omega, src_ret (s := ⟨code, pl + 1, _⟩) ⟨(x + b).tmod n, rfl, ?_, ?_, ?_⟩ ⟨by show 0 ≤ pl + 1; omega, hs.2⟩ o⟩
   ·exact Int.tmod_nonneg _ (by omega)
   ·intro h; exact Int.tmod_lt_of_pos _ (by omega)
   ·intro h; omega
  ·try simp only [go_sem]
   refine ⟨by omega, src_ret (s := ⟨code, pl, _⟩) ⟨x.tmod n, rfl, ?_, ?_, ?_⟩ hs o⟩
   ·exact Int.tmod_nonneg _ (by omega)
   ·intro h; exact Int.tmod_lt_of_pos _ (by omega)
   ·intro h; omega
theorem l01Pick_ok (B : Nat) (l : List Int) (hl : l ≠ []) : Rd B 275 [iL l] fun r => ∃ k : Int, r = iI k ∧ k ∈ l := by
 intro id s H0 H hs o
 refine c275 (by simp) fun hf => ?_
 have hp : 0 < l.length := List.length_pos_iff.mpr hl
 unfold s275
 try simp only [go_sem, reduceAdd]
 refine (l01Next_ok B l.length).go hs o fun r s' H hr ⟨k, e, h0, h1, _⟩ hs o => ?_
 subst e
 have h1 := h1 (by omega)
 try simp only [go_sem]
 refine ⟨⟨h0, by omega⟩, ?_⟩
 exact src_ret ⟨_, rfl, ix_mem (by omega)⟩ hs o
theorem l02Number_ok (B : Nat) (n : Int) : Rd B 199 [iI n] fun r => ∃ k : Int, r = iI k := by
 intro id s H0 H hs o
 refine c199 (by simp) fun hf => ?_
 unfold s199
 try simp only [go_sem, reduceAdd]
 refine (l01Next_ok B 40).go hs o fun r s' H hr ⟨k, e, h0, h1, _⟩ hs o => ?_
 subst e
 try simp only [go_sem]
 refine ⟨fun h1 => At.mk ?_, fun h1 => At.mk ?_⟩
 ·try simp only [go_sem, reduceAdd]
  refine ⟨?_, ?_⟩
  ·simp [maxL]
  refine (l01Pick_ok B [-1, n, 9223372036854775807, -9223372036854775808] (by simp)).go hs o fun r s' H hr ⟨k, e, _⟩ hs o => ?_
  subst e
  try simp only [go_sem]
  exact src_ret ⟨_, rfl⟩ hs o
 ·try simp only [go_sem]
  refine (l01Next_ok B n).go hs o fun r s' H hr ⟨k, e, h0, h1, _⟩ hs o => ?_
  subst e
  try simp only [go_sem]
  exact src_ret ⟨_, rfl⟩ hs o
def MadeK (H0 : Heap) : Kont := fun r H' => ∃ (id : Nat) (s : Src), r = .ref id 0 ∧ s.Ok ∧ Owns H0 H' [(id, s.obj)]
theorem l01From_ok (B : Nat) (code : List UInt8) (H0 : Heap) : CallH Tryz.prog B 65 [mL iB code] H0 (MadeK H0) := by
 refine c65p (by simp) fun ⟨hf, _⟩ => ?_
 have hl := fine_mL_le hf
 have hl' := hl
 simp only [maxL] at hl'
 unfold s65p
 try simp only [go_sem, reduceAdd, reduceLeDiff]
 refine ⟨by simp [maxL], newRef_own (.nil _) fun id H o => ?_⟩
 try simp only [go_sem]
 refine awp_for [0, 3] (G := Int) (fun k _ => [(4, some (.int .i64 (k : Int)))]) (fun k h H => Owns H0 H [(id, .cells 3 [mL iB code, .int .i64 0, .int .u64 h] 0)]) code.length _ o rfl ?_
 clear o
 rintro k h H hk o
 have o : Owns H0 H [(id, .cells 3 [mL iB code, .int .i64 0, .int .u64 h] 0)] := o
 have hend : MadeK H0 (.ref id 0) H := ⟨id, ⟨code, 0, h⟩, rfl, ⟨Int.le_refl 0, hl⟩, o⟩
 try simp only [go_sem]
 refine ⟨fun h1 => At.mk ?_, fun h1 => At.mk ?_⟩
 ·have h1p := of_decide h1
  try simp only [go_sem, h1]
  refine ⟨fun h2 => At.mk ?_, fun h2 => At.mk ?_⟩
  ·try simp only [go_sem, reduceAdd]
   refine rd_cells o (by simp) ?_
   have w := wsucc (k := k) (by omega)
   try simp only [go_sem, reduceAdd, iB]
   refine ⟨by omega, ?_⟩
   refine stc o fun H o => ?_
   simp only [wr_cons, wr_nil, List.set_cons_zero, List.set_cons_succ] at o
   try simp only [go_sem, w]
   exact for_next _ (by omega) o rfl
  ·try simp only [go_sem]
   exact ⟨H, .refl H, hend⟩
 ·try simp only [go_sem, h1]
  exact ⟨H, .refl H, hend⟩
theorem roll_ok (B : Nat) (code : List UInt8) (z : Int) (H0 : Heap) : CallH Tryz.prog B 33 [mL iB code, .int .u64 z] H0 (MadeK H0) := by
 refine c33p (by simp) fun ⟨hf, _⟩ => ?_
 have hl := fine_mL_le hf
 have hl' := hl
 simp only [maxL] at hl'
 unfold s33p
 try simp only [go_sem, reduceAdd, reduceLeDiff]
 refine ⟨by simp [maxL], newRef_own (.nil _) fun id H o => ?_⟩
 try simp only [go_sem]
 refine awp_for [0, 5] (G := Int) (fun k _ => [(6, some (.int .i64 (k : Int)))]) (fun k h H => Owns H0 H [(id, .cells 3 [mL iB code, .int .i64 0, .int .u64 h] 0)]) code.length _ o rfl ?_
 clear o
 rintro k h H hk o
 have o : Owns H0 H [(id, .cells 3 [mL iB code, .int .i64 0, .int .u64 h] 0)] := o
 have hend : MadeK H0 (.ref id 0) H := ⟨id, ⟨code, 0, h⟩, rfl, ⟨Int.le_refl 0, hl⟩, o⟩
 try simp only [go_sem]
 refine ⟨fun h1 => At.mk ?_, fun h1 => At.mk ?_⟩
 ·have h1p := of_decide h1
  try simp only [go_sem, reduceAdd]
  refine rd_cells o (by simp) ?_
  have w := wsucc (k := k) (by omega)
  try simp only [go_sem, reduceAdd, iB]
  refine ⟨by omega, ?_⟩
  refine stc o fun H o => ?_
  simp only [wr_cons, wr_nil, List.set_cons_zero, List.set_cons_succ] at o
  try simp only [go_sem, w]
  exact for_next _ (by omega) o rfl
 ·try simp only [go_sem]
  exact ⟨H, .refl H, hend⟩
theorem big_ok (B : Nat) (code : List UInt8) : Pur Tryz.prog B 10 [mL iB code] (.bool (decide (4096 < code.length))) := by
 refine ⟨fun H0 => c10 (by simp) fun hf => ?_⟩
 unfold s10
 try simp only [go_sem, reduceAdd]
 refine pure_ret ?_ (.refl _)
 congr 1
 exact decide_eq_decide.mpr (by omega)
theorem likeInts_ok (B : Nat) (a b : List Int) : Pur Tryz.prog B 16 [iL a, iL b] (.bool (dec (a = b))) := by
 refine ⟨fun H0 => c16 (by simp) fun ⟨hf, hg, _⟩ => ?_⟩
 have hl := fine_mL_le hf
 have hl2 := fine_mL_le hg
 simp only [maxL] at hl hl2
 unfold s16
 try simp only [go_sem, reduceAdd]
 refine ⟨fun h0 => At.mk ?_, fun h0 => At.mk ?_⟩
 ·try simp only [go_sem]
  have h0p : a.length ≠ b.length := by simpa using h0
  exact pure_ret (by rw [dec_f]; rintro rfl; exact h0p rfl) (.refl _)
 have h0p : a.length = b.length := by simpa using h0
 try simp only [go_sem]
 refine awp_for [0, 1] (fun k _ => [(5, some (.int .i64 (k : Int)))]) (fun k _ H => H = H0 ∧ ∀ i, i < k → a.getD i default = b.getD i default) a.length () ⟨rfl, by simp⟩ rfl ?_
 rintro k _ H hk ⟨rfl, hall⟩
 try simp only [go_sem]
 refine ⟨fun h1 => At.mk ?_, fun h1 => At.mk ?_⟩
 ·have h1 := of_decide h1
  have w1 := wsucc (k := k) (by omega)
  try simp only [go_sem]
  refine ⟨h1, by omega, ?_⟩
  refine ⟨fun h2 => At.mk ?_, fun h2 => At.mk ?_⟩
  ·try simp only [go_sem]
   have h2p : a.getD k default ≠ b.getD k default := by simpa using h2
   exact pure_ret (by rw [dec_f]; rintro rfl; exact h2p rfl) (.refl _)
  ·try simp only [go_sem, w1]
   have h2p : a.getD k default = b.getD k default := by simpa using h2
   exact for_next () (by omega) ⟨rfl, lt_succ_all hall h2p⟩ rfl
 ·try simp only [go_sem]
  have h1 := of_ndecide h1
  refine pure_ret ?_ (.refl _)
  rw [dec_t]
  refine List.ext_getElem h0p fun i hi hj => ?_
  have := hall i (by omega)
  simpa [List.getD_eq_getElem?_getD, hi, hj] using this
end Go.Proofs.Shf
namespace Go.AW
end Go.AW
namespace Go.Proofs.Shf
open Go.AW Go.Proofs Go.Shf
end Go.Proofs.Shf
namespace Go.Shf
open Go.AW
end Go.Shf
namespace Go.Proofs.Shf
open Go.AW Go.Proofs Go.Shf
end Go.Proofs.Shf
namespace Go.Shf
open Go.AW Go.Proofs.Shf
instance : One iB := ⟨fun _ => rfl, fun _ => rfl⟩
def keyB (L : List (List Int)) : List Int := L.flatMap fun l => l.map IntKind.u8.wrap ++ [255]
def keyS (L : List (List Int)) : List UInt8 := (keyB L).map fun n => UInt8.ofNat n.toNat
def plS (L : List (List Int)) : Nat → List AV × List AV
 | 0 => ([], [])
 | k + 1 => mput (.str (keyS [L.getD k default])) (iI k) (plS L k).1 (plS L k).2
end Go.Shf
namespace Go.Proofs.Shf
open Go.AW Go.Proofs Go.Shf
end Go.Proofs.Shf
