/- Contracts, part 4. -/
import Derived.Test.YtadpkiiglobmpaaGreatF3
set_option linter.unusedVariables false
set_option linter.unusedSimpArgs false
set_option linter.unusedSectionVars false
open Nat (reduceEqDiff reduceAdd reduceMul reduceLeDiff reduceLT)
namespace Go.Proofs.Shf
open Go.AW Go.Proofs Go.Shf
end Go.Proofs.Shf
namespace Go.Proofs.Shf
open Go.AW Go.Proofs Go.Shf
end Go.Proofs.Shf
namespace Go.Proofs.Shf
open Go.AW Go.Proofs Go.Shf
@[go_sem] noncomputable def stepCells (f : SF) (V : List (List Int)) : List AV := [iI f.shape.objs, iL f.shape.frm, iL f.shape.to, iL f.shape.idn, iLL f.shape.comp, iL (stepSizes f V), iLL (stepActs f V), iLLL (famsOf f V)]
end Go.Proofs.Shf
namespace Go.Proofs.Shf
open Go.AW Go.Proofs Go.Shf
end Go.Proofs.Shf
namespace Go.AW
open Go.Proofs Go.Proofs.Shf
theorem Owns.ext {H0 H H' : Heap} {l : List (Nat × MObj)} (h : Owns H0 H l) (k : H.sub H') : Owns H0 H' l :=
 ⟨h.sub.trans k, fun x hx => k _ _ (h.get x hx), h.nd, h.out⟩
theorem Owns.subl {H0 H : Heap} {l l' : List (Nat × MObj)} (h : Owns H0 H l) (k : l'.Sublist l) : Owns H0 H l' :=
 ⟨h.sub, fun x hx => h.get x (k.subset hx), h.nd.sublist (k.map _), fun x hx => h.out x (k.subset hx)⟩
theorem LsP.lenE {α : Type} {f : α → AV} {p : List (Nat × MObj)} {X : AV} {A : List α} (h : LsP f p X A) : lenE (some X) = some (True, .int .i64 A.length) := by
 rcases h with ⟨_, rfl, rfl⟩ | ⟨id, _, rfl⟩ <;> rfl
theorem LsP.sub {α : Type} {f : α → AV} {p : List (Nat × MObj)} {X : AV} {A : List α} (h : LsP f p X A) {i : Nat} (hi : i < A.length) : ∃ id, p = [(id, .cells 1 (A.map f) 0)] ∧ X = .buf id A.length := by
 rcases h with ⟨_, _, rfl⟩ | h
 ·simp at hi
 ·exact h
end Go.AW
namespace Go.Proofs.Shf
open Go.AW Go.Proofs Go.Shf
end Go.Proofs.Shf
namespace Go.AW
open Go.Proofs Go.Shf Go.Proofs.Shf
theorem indexOf_first {l : List Int} {a : Int} (h : 0 ≤ indexOf l a) : (indexOf l a).toNat < l.length ∧ l.getD (indexOf l a).toNat default = a ∧ ∀ m, m < (indexOf l a).toNat → l.getD m default ≠ a := by
 have hm := (indexOf_mem l a).mp h
 have hi := indexOf_in hm
 refine ⟨hi.2.1, hi.2.2, fun m hml e => ?_⟩
 unfold indexOf at hml
 split at hml
 ·rename_i i hs
  rw [List.idxOf?_eq_some_iff] at hs
  obtain ⟨h1, h2, h3⟩ := hs
  have hm2 : m < i := by simpa using hml
  have h4 : m < l.length := by omega
  have := h3 m hm2
  exact this (by simpa [List.getD_eq_getElem?_getD, h4] using e)
 ·simp at hml
end Go.AW
namespace Go.Proofs.Shf
open Go.AW Go.Proofs Go.Shf
end Go.Proofs.Shf
namespace Go.AW
def iB (b : UInt8) : AV := .int .u8 (b.toNat : Int)
instance : One iB := ⟨fun _ => rfl, fun _ => rfl⟩
structure Src where
 code : List UInt8
 pl : Int
 hash : Int
def Src.cells (s : Src) : List AV := [mL iB s.code, .int .i64 s.pl, .int .u64 s.hash]
def Src.Ok (s : Src) : Prop := 0 ≤ s.pl ∧ s.code.length ≤ maxL
def Src.obj (s : Src) : MObj := .cells 3 s.cells 0
def SrcK (id : Nat) (H0 : Heap) (Q : AV → Prop) : Kont := fun r H' => Q r ∧ ∃ s' : Src, s'.Ok ∧ Owns H0 H' [(id, s'.obj)]
theorem Owns.self {H0 H : Heap} {id : Nat} {o : MObj} {l : List (Nat × MObj)} (h : Owns H0 H ((id, o) :: l)) : Owns (H.del id) H [(id, o)] where
 sub := fun i x hx => by
  by_cases e : i = id
  ·subst e; rw [Heap.get_del_same] at hx; cases hx
  ·rwa [Heap.get_del_ne _ e] at hx
 get := fun x hx => by
  rw [List.mem_singleton] at hx; subst hx
  exact h.get _ (by simp)
 nd := by simp
 out := fun x hx => by
  rw [List.mem_singleton] at hx; subst hx
  exact Heap.get_del_same _ _
end Go.AW
namespace Go.Proofs.Shf
open Go.AW Go.Proofs Go.Shf
theorem masked_ran {a x : Int} (h : IntKind.i64.wrap (IntKind.u64.wrap ((BitVec.ofInt IntKind.u64.bits a &&& BitVec.ofInt IntKind.u64.bits 16777215).toNat : Int)) = x) : 0 ≤ x ∧ x ≤ 16777215 := by
 have h1 : (BitVec.ofInt IntKind.u64.bits a &&& BitVec.ofInt IntKind.u64.bits 16777215).toNat ≤ 16777215 := by
  rw [BitVec.toNat_and]
  have : (BitVec.ofInt IntKind.u64.bits 16777215).toNat = 16777215 := rfl
  rw [this]
  exact Nat.and_le_right
 generalize (BitVec.ofInt IntKind.u64.bits a &&& BitVec.ofInt IntKind.u64.bits 16777215).toNat = m at h h1
 have e : IntKind.u64.wrap (m : Int) = m := by
  have : IntKind.u64.wrap (m : Int) = (m : Int) % 18446744073709551616 := by simp only [IntKind.wrap]; rfl
  omega
 rw [e, wrap_i64 (by omega) (by omega)] at h
 omega
def Rd (B : Nat) (fn : FuncId) (args : List AV) (Q : AV → Prop) : Prop :=
 ∀ (id : Nat) (s : Src) (H0 H : Heap), s.Ok → Owns H0 H [(id, s.obj)] → CallH Tryz.prog B fn (.ref id 0 :: args) H (SrcK id H0 Q)
theorem Rd.go {B : Nat} {fn : FuncId} {args : List AV} {Q : AV → Prop} {id : Nat} {s : Src} {H0 H : Heap} {l : List (Nat × MObj)} {K : Kont} (h : Rd B fn args Q) (hs : s.Ok) (o : Owns H0 H ((id, s.obj) :: l))
  (hk : ∀ (r : AV) (s' : Src) (H' : Heap), r.fine → Q r → s'.Ok → Owns H0 H' ((id, s'.obj) :: l) → K r H') : CallH Tryz.prog B fn (.ref id 0 :: args) H K :=
 (h id s _ H hs o.self).mono' fun r H' hf ⟨q, s', hs', o'⟩ => hk r s' H' hf q hs' (o.del.trans o')
theorem src_ret {id : Nat} {s : Src} {H0 H : Heap} {l : List (Nat × MObj)} {Q : AV → Prop} {v : AV} (q : Q v) (hs : s.Ok) (o : Owns H0 H ((id, s.obj) :: l)) : subW (SrcK id H0 Q) v H :=
 ⟨H, .refl H, q, s, hs, o.subl (by simp)⟩
def Rets (B : Nat) (fn : FuncId) (args : List AV) (Q : AV → Prop) : Prop := ∀ H, CallH Tryz.prog B fn args H fun r H' => Q r ∧ H' = H
theorem Rets.go {B : Nat} {fn : FuncId} {args : List AV} {Q : AV → Prop} {H : Heap} {K : Kont} (h : Rets B fn args Q) (hk : ∀ r, r.fine → Q r → K r H) : CallH Tryz.prog B fn args H K :=
 (h H).mono' fun r H' hf ⟨q, e⟩ => by subst e; exact hk r hf q
theorem rets_ret {H0 H : Heap} {Q : AV → Prop} {v : AV} (q : Q v) (h : H0.sub H) : subW (fun r H' => Q r ∧ H' = H0) v H := ⟨H0, h, q, rfl⟩
theorem l01Next_ok (B : Nat) (n : Int) : Rd B 75 [iI n] fun r => ∃ k : Int, r = iI k ∧ 0 ≤ k ∧ (1 ≤ n → k < n) ∧ (n < 1 → k = 0) := by
 intro id s H0 H hs o
 refine c75 (by simp) fun hf => ?_
 unfold s75
 try simp only [go_sem, reduceAdd]
 refine ⟨fun h1 => At.mk ?_, fun h1 => At.mk ?_⟩
 ·have h1p := of_decide h1
  try simp only [go_sem]
  exact src_ret ⟨0, rfl, by omega, by omega, fun _ => rfl⟩ hs o
 ·have h1p := of_ndecide h1
  try simp only [go_sem, reduceAdd]
  obtain ⟨code, pl, hash⟩ := s
  simp only [Src.obj, Src.cells] at o
  simp only [Src.Ok, maxL] at hs
  refine rd_cells o (by simp) ?_
  try simp only [go_sem, reduceAdd]
  refine stc o fun H o => ?_
  simp only [wr_cons, wr_nil, List.set_cons_zero, List.set_cons_succ] at o
  try simp only [go_sem, reduceAdd]
  refine rd_cells o (by simp) ?_
  try simp only [go_sem, reduceAdd]
  generalize hx : IntKind.i64.wrap (IntKind.u64.wrap _) = x
  have hx2 := masked_ran hx
  clear hx
  refine ⟨by omega, rd_cells o (by simp) ?_⟩
  try simp only [go_sem, reduceAdd]
  refine rd_cells o (by simp) ?_
  try simp only [go_sem]
  refine ⟨fun h2 => At.mk ?_, fun h2 => At.mk ?_⟩
  ·have h2p := of_decide h2
   try simp only [go_sem, reduceAdd]
   refine rd_cells o (by simp) ?_
   try simp only [go_sem, reduceAdd]
   refine rd_cells o (by simp) ?_
   try simp only [go_sem]
   refine ⟨⟨hs.1, by omega⟩, ?_⟩
   have hb := (ix code pl).toNat_lt
   try simp only [go_sem, reduceAdd, iB]
   generalize (ix code pl).toNat = b at hb ⊢
   have e1 : IntKind.i64.wrap (b : Int) = b := wrap_i64 (by omega) (by omega)
   have e2 : IntKind.i64.wrap (x + b) = x + b := wrap_i64 (by omega) (by omega)
   have e3 : IntKind.i64.wrap (pl + 1) = pl + 1 := wrap_i64 (by omega) (by omega)
   try simp only [go_sem, e1, e2]
   refine rd_cells o (by simp) ?_
   try simp only [go_sem, reduceAdd, e3]
   refine stc o fun H o => ?_
   simp only [wr_cons, wr_nil, List.set_cons_zero, List.set_cons_succ] at o
   try simp only [go_sem]
   refine ⟨by omega, src_ret (s := ⟨code, pl + 1, _⟩) ⟨(x + b).tmod n, rfl, ?_, ?_, ?_⟩ ⟨by show 0 ≤ pl + 1; omega, hs.2⟩ o⟩
   ·exact Int.tmod_nonneg _ (by omega)
   ·intro h; exact Int.tmod_lt_of_pos _ (by omega)
   ·intro h; omega
  ·try simp only [go_sem]
   refine ⟨by omega, src_ret (s := ⟨code, pl, _⟩) ⟨x.tmod n, rfl, ?_, ?_, ?_⟩ hs o⟩
   ·exact Int.tmod_nonneg _ (by omega)
   ·intro h; exact Int.tmod_lt_of_pos _ (by omega)
   ·intro h; omega
theorem l01Pick_ok (B : Nat) (l : List Int) (hl : l ≠ []) : Rd B 275 [iL l] fun r => ∃ k : Int, r = iI k ∧ k ∈ l := by
 intro id s H0 H hs o
 refine c275 (by simp) fun hf => ?_
 have hp : 0 < l.length := List.length_pos_iff.mpr hl
 unfold s275
 try simp only [go_sem, reduceAdd]
 refine (l01Next_ok B l.length).go hs o fun r s' H hr ⟨k, e, h0, h1, _⟩ hs o => ?_
 subst e
 have h1 := h1 (by omega)
 try simp only [go_sem]
 refine ⟨⟨h0, by omega⟩, ?_⟩
 exact src_ret ⟨_, rfl, ix_mem (by omega)⟩ hs o
def MadeK (H0 : Heap) : Kont := fun r H' => ∃ (id : Nat) (s : Src), r = .ref id 0 ∧ s.Ok ∧ Owns H0 H' [(id, s.obj)]
theorem l01From_ok (B : Nat) (code : List UInt8) (H0 : Heap) : CallH Tryz.prog B 65 [mL iB code] H0 (MadeK H0) := by
 refine c65p (by simp) fun ⟨hf, _⟩ => ?_
 have hl := fine_mL_le hf
 have hl' := hl
 simp only [maxL] at hl'
 unfold s65p
 try simp only [go_sem, reduceAdd, reduceLeDiff]
 refine ⟨by simp [maxL], newRef_own (.nil _) fun id H o => ?_⟩
 try simp only [go_sem]
 refine awp_for [0, 3] (G := Int) (fun k _ => [(4, some (.int .i64 (k : Int)))]) (fun k h H => Owns H0 H [(id, .cells 3 [mL iB code, .int .i64 0, .int .u64 h] 0)]) code.length _ o rfl ?_
 clear o
 rintro k h H hk o
 have o : Owns H0 H [(id, .cells 3 [mL iB code, .int .i64 0, .int .u64 h] 0)] := o
 have hend : MadeK H0 (.ref id 0) H := ⟨id, ⟨code, 0, h⟩, rfl, ⟨Int.le_refl 0, hl⟩, o⟩
 try simp only [go_sem]
 refine ⟨fun h1 => At.mk ?_, fun h1 => At.mk ?_⟩
 ·have h1p := of_decide h1
  try simp only [go_sem, h1]
  refine ⟨fun h2 => At.mk ?_, fun h2 => At.mk ?_⟩
  ·try simp only [go_sem, reduceAdd]
   refine rd_cells o (by simp) ?_
   have w := wsucc (k := k) (by omega)
   try simp only [go_sem, reduceAdd, iB]
   refine ⟨by omega, ?_⟩
   refine stc o fun H o => ?_
   simp only [wr_cons, wr_nil, List.set_cons_zero, List.set_cons_succ] at o
   try simp only [go_sem, w]
   exact for_next _ (by omega) o rfl
  ·try simp only [go_sem]
   exact ⟨H, .refl H, hend⟩
 ·try simp only [go_sem, h1]
  exact ⟨H, .refl H, hend⟩
theorem big_ok (B : Nat) (code : List UInt8) : Pur Tryz.prog B 10 [mL iB code] (.bool (decide (4096 < code.length))) := by
 refine ⟨fun H0 => c10 (by simp) fun hf => ?_⟩
 unfold s10
 try simp only [go_sem, reduceAdd]
 refine pure_ret ?_ (.refl _)
 congr 1
 exact decide_eq_decide.mpr (by omega)
theorem likeInts_ok (B : Nat) (a b : List Int) : Pur Tryz.prog B 16 [iL a, iL b] (.bool (dec (a = b))) := by
 refine ⟨fun H0 => c16 (by simp) fun ⟨hf, hg, _⟩ => ?_⟩
 have hl := fine_mL_le hf
 have hl2 := fine_mL_le hg
 simp only [maxL] at hl hl2
 unfold s16
 try simp only [go_sem, reduceAdd]
 refine ⟨fun h0 => At.mk ?_, fun h0 => At.mk ?_⟩
 ·try simp only [go_sem]
  have h0p : a.length ≠ b.length := by simpa using h0
  exact pure_ret (by rw [dec_f]; rintro rfl; exact h0p rfl) (.refl _)
 have h0p : a.length = b.length := by simpa using h0
 try simp only [go_sem]
 refine awp_for [0, 1] (fun k _ => [(5, some (.int .i64 (k : Int)))]) (fun k _ H => H = H0 ∧ ∀ i, i < k → a.getD i default = b.getD i default) a.length () ⟨rfl, by simp⟩ rfl ?_
 rintro k _ H hk ⟨rfl, hall⟩
 try simp only [go_sem]
 refine ⟨fun h1 => At.mk ?_, fun h1 => At.mk ?_⟩
 ·have h1 := of_decide h1
  have w1 := wsucc (k := k) (by omega)
  try simp only [go_sem]
  refine ⟨h1, by omega, ?_⟩
  refine ⟨fun h2 => At.mk ?_, fun h2 => At.mk ?_⟩
  ·try simp only [go_sem]
   have h2p : a.getD k default ≠ b.getD k default := by simpa using h2
   exact pure_ret (by rw [dec_f]; rintro rfl; exact h2p rfl) (.refl _)
  ·try simp only [go_sem, w1]
   have h2p : a.getD k default = b.getD k default := by simpa using h2
   exact for_next () (by omega) ⟨rfl, lt_succ_all hall h2p⟩ rfl
 ·try simp only [go_sem]
  have h1 := of_ndecide h1
  refine pure_ret ?_ (.refl _)
  rw [dec_t]
  refine List.ext_getElem h0p fun i hi hj => ?_
  have := hall i (by omega)
  simpa [List.getD_eq_getElem?_getD, hi, hj] using this
end Go.Proofs.Shf
namespace Go.AW
end Go.AW
namespace Go.Proofs.Shf
open Go.AW Go.Proofs Go.Shf
theorem repeated_own (B : Nat) (x : Int) (n : Nat) (hn : n ≤ 1048576) (H0 H : Heap) (l : List (Nat × MObj)) (o : Owns H0 H l) : CallH Tryz.prog B 185 [.int .i64 x, .int .i64 n] H (OwnK iI H0 l (· = List.replicate n x)) := by
 refine c185p (by simp) fun _ => ?_
 unfold s185p
 try simp only [go_sem, reduceAdd]
 refine ⟨by simp [maxL]; omega, mks_list iI 0 rfl o fun id H o => ?_⟩
 try simp only [go_sem]
 refine awp_for [0, 5, 10] (G := Unit) (fun k _ => [(11, some (.int .i64 (k : Int)))]) (fun k _ H => Owns H0 H ((id, .cells 1 ((List.replicate k x ++ List.replicate (n - k) 0).map iI) 0) :: l)) n () (by simpa using o) rfl ?_
 clear o
 rintro k _ H hk o
 replace o : Owns H0 H ((id, .cells 1 ((List.replicate k x ++ List.replicate (n - k) 0).map iI) 0) :: l) := o
 try simp only [go_sem]
 refine ⟨fun h1 => At.mk ?_, fun h1 => At.mk ?_⟩
 ·have h1p := of_decide h1
  have w := wsucc (k := k) (by omega)
  try simp only [go_sem]
  refine ⟨by omega, set_own x o rfl (by simp; omega) fun H o => ?_⟩
  have e : (List.replicate k x ++ List.replicate (n - k) 0).set k x = List.replicate (k + 1) x ++ List.replicate (n - (k + 1)) 0 := by
   rw [List.set_append_right _ _ (by simp), List.length_replicate, Nat.sub_self, show n - k = (n - (k + 1)) + 1 by omega, List.replicate_succ (n := n - (k + 1)), List.set_cons_zero, List.replicate_succ' (n := k), List.append_assoc]
   rfl
  rw [e] at o
  try simp only [go_sem, w]
  exact for_next () (by omega) o rfl
 ·have h1p := of_ndecide h1
  try simp only [go_sem]
  obtain rfl : k = n := by omega
  exact own_ret o (by simp) (by simp)
theorem take_succ_getD {α : Type} [Inhabited α] (l : List α) {k : Nat} (hk : k < l.length) : l.take (k + 1) = l.take k ++ [l.getD k default] := by
 have hN : l[k] = l.getD k default := by simp [List.getD_eq_getElem?_getD, hk]
 rw [← hN]; exact (List.take_append_getElem hk).symm
end Go.Proofs.Shf
namespace Go.Shf
open Go.AW
end Go.Shf
namespace Go.Proofs.Shf
open Go.AW Go.Proofs Go.Shf
end Go.Proofs.Shf
namespace Go.Shf
open Go.AW Go.Proofs.Shf
abbrev kB : Int → AV := AV.int .u8
instance : One kB := ⟨fun _ => rfl, fun _ => rfl⟩
def keyB (L : List (List Int)) : List Int := L.flatMap fun l => l.map IntKind.u8.wrap ++ [255]
def keyS (L : List (List Int)) : List UInt8 := (keyB L).map fun n => UInt8.ofNat n.toNat
theorem keyB_snoc (L : List (List Int)) (l : List Int) : keyB (L ++ [l]) = keyB L ++ l.map IntKind.u8.wrap ++ [255] := by
 simp [keyB]
theorem keyB_app (A C : List (List Int)) : keyB (A ++ C) = keyB A ++ keyB C := by simp [keyB]
theorem keyB_take_le (L : List (List Int)) (k : Nat) : (keyB (L.take k)).length ≤ (keyB L).length := by
 have : keyB L = keyB (L.take k) ++ keyB (L.drop k) := by rw [← keyB_app, List.take_append_drop]
 rw [this, List.length_append]; omega
theorem keyB_len (L : List (List Int)) : L.length ≤ (keyB L).length := by
 induction L with
 | nil => simp
 | cons a L ih =>
  have : keyB (a :: L) = keyB [a] ++ keyB L := keyB_app [a] L
  rw [this, List.length_append]
  have : 1 ≤ (keyB [a]).length := by simp [keyB]
  simp only [List.length_cons]; omega
theorem keyB_mem (L : List (List Int)) {k : Nat} (hk : k < L.length) : (keyB (L.take k)).length + (L.getD k default).length + 1 ≤ (keyB L).length := by
 have h1 := keyB_take_le L (k + 1)
 rw [take_succ_getD L hk, keyB_snoc] at h1
 simp only [List.length_append, List.length_map, List.length_cons, List.length_nil] at h1
 omega
def plS (L : List (List Int)) : Nat → List AV × List AV
 | 0 => ([], [])
 | k + 1 => mput (.str (keyS [L.getD k default])) (iI k) (plS L k).1 (plS L k).2
theorem mput_str (k x : AV) (hk : ∃ s, k = .str s) : ∀ (ks vs : List AV), (∀ a, a ∈ ks → ∃ s, a = .str s) → ∀ a, a ∈ (mput k x ks vs).1 → ∃ s, a = .str s
 | [], _, h, a, ha => by simp [mput] at ha; subst ha; exact hk
 | b :: ks, [], h, a, ha => by simp [mput] at ha; subst ha; exact hk
 | b :: ks, v :: vs, h, a, ha => by
  simp only [mput] at ha
  split at ha
  ·simp only [List.mem_cons] at ha
   rcases ha with rfl | ha
   ·exact hk
   ·exact h a (by simp [ha])
  ·simp only [List.mem_cons] at ha
   rcases ha with rfl | ha
   ·exact h a (by simp)
   ·exact mput_str k x hk ks vs (fun c hc => h c (by simp [hc])) a ha
theorem plS_str (L : List (List Int)) : ∀ k a, a ∈ (plS L k).1 → ∃ s, a = .str s
 | 0, a, h => by simp [plS] at h
 | k + 1, a, h => mput_str _ _ ⟨_, rfl⟩ _ _ (plS_str L k) a h
theorem okKey_plS (L : List (List Int)) (k : Nat) (s : List UInt8) : okKey 1 (.str s) (plS L k).1 := ⟨rfl, fun a ha => by obtain ⟨t, rfl⟩ := plS_str L k a ha; rfl⟩
end Go.Shf
namespace Go.Proofs.Shf
open Go.AW Go.Proofs Go.Shf
theorem key_ok (B : Nat) (L : List (List Int)) (hb : (keyB L).length ≤ 1000000) : Pur Tryz.prog B 194 [iLL L] (.str (keyS L)) := by
 refine ⟨fun H0 => c194p (by simp) fun hfi => ?_⟩
 have hL : L.length ≤ (keyB L).length := keyB_len L
 unfold s194p
 try simp only [go_sem, reduceAdd]
 refine newBuf_own (.nil _) fun id3 H o => ?_
 try simp only [go_sem]
 refine awp_for [9, 10] (G := Nat) (fun k g => [(3, some (.buf g (keyB (L.take k)).length)), (11, some (.int .i64 (k : Int)))])
  (fun k g H => Owns H0 H [(g, .cells 1 ((keyB (L.take k)).map kB) 0)]) L.length id3 o rfl ?_
 clear o
 rintro k id3 H hk o
 replace o : Owns H0 H [(id3, .cells 1 ((keyB (L.take k)).map kB) 0)] := o
 try simp only [go_sem]
 refine ⟨fun h1 => At.mk ?_, fun h1 => At.mk ?_⟩
 ·have h1p := of_decide h1
  have w := wsucc (k := k) (by omega)
  try simp only [go_sem]
  refine ⟨h1p, ?_⟩
  have hkm := keyB_mem L h1p
  generalize hl : L.getD k default = l at *
  generalize hP : keyB (L.take k) = P at *
  have hP2 : keyB (L.take (k + 1)) = P ++ l.map IntKind.u8.wrap ++ [255] := by rw [take_succ_getD L h1p, keyB_snoc, hP, hl]
  refine awp_for [9, 10, 11, 15, 16] (G := Nat) (fun j g => [(3, some (.buf g (P ++ (l.take j).map IntKind.u8.wrap).length)), (17, some (.int .i64 (j : Int)))])
   (fun j g H => Owns H0 H [(g, .cells 1 ((P ++ (l.take j).map IntKind.u8.wrap).map kB) 0)]) l.length id3 (by simpa using o) (by simp only [List.take_zero, List.map_nil, List.append_nil]; rfl) ?_
  clear o
  rintro j id3 H hj o
  replace o : Owns H0 H [(id3, .cells 1 ((P ++ (l.take j).map IntKind.u8.wrap).map kB) 0)] := o
  try simp only [go_sem]
  refine ⟨fun h2 => At.mk ?_, fun h2 => At.mk ?_⟩
  ·have h2p := of_decide h2
   have w2 := wsucc (k := j) (by omega)
   try simp only [go_sem, reduceAdd]
   refine ⟨h2p, ?_⟩
   refine app_own (f := kB) (IntKind.u8.wrap (l.getD j default)) o rfl rfl (by simp only [List.length_append, List.length_map, List.length_take, maxL]; omega) fun id9 H o => ?_
   have e : (P ++ (l.take j).map IntKind.u8.wrap) ++ [IntKind.u8.wrap (l.getD j default)] = P ++ (l.take (j + 1)).map IntKind.u8.wrap := by
    rw [take_succ_getD l h2p, List.map_append, ← List.append_assoc]; rfl
   rw [e] at o ⊢
   try simp only [go_sem, w2]
   exact for_next id9 h2p o rfl
  ·have h2p := of_ndecide h2
   obtain rfl : j = l.length := by omega
   rw [List.take_length] at o ⊢
   try simp only [go_sem, reduceAdd]
   refine app_own (f := kB) 255 o rfl rfl (by simp only [List.length_append, List.length_map, maxL]; omega) fun id9 H o => ?_
   rw [← hP2] at o ⊢
   try simp only [go_sem, w]
   exact for_next id9 h1p o rfl
 ·have h1p := of_ndecide h1
  obtain rfl : k = L.length := by omega
  rw [List.take_length] at o ⊢
  try simp only [go_sem]
  refine fz_own o rfl fun H o => ?_
  try simp only [go_sem]
  have hb2 : b2sE (some (mL kB (keyB L))) = some (∀ e, e ∈ (keyB L).map kB → e.isByte = true, .str (keyS L)) := by
   rw [mL, b2sE_sl, List.map_map]; rfl
  rw [hb2]
  try simp only [go_sem]
  refine ⟨fun e he => ?_, pure_ret rfl o.sub⟩
  obtain ⟨n, _, rfl⟩ := List.mem_map.mp he
  rfl
theorem places_ok (B : Nat) (L : List (List Int)) (hl : L.length ≤ 1000000) (hb : ∀ l, l ∈ L → l.length ≤ 1000) : Pur Tryz.prog B 192 [iLL L] (.imap (plS L L.length).1 (plS L L.length).2) := by
 refine ⟨fun H0 => c192p (by simp) fun hfi => ?_⟩
 unfold s192p
 try simp only [go_sem, reduceAdd]
 refine newMap_own (.nil _) fun id3 H o => ?_
 try simp only [go_sem]
 refine awp_for [3, 7, 8] (G := Unit) (fun k g => [(9, some (.int .i64 (k : Int)))])
  (fun k g H => Owns H0 H [(id3, .map (plS L k).1 (plS L k).2)]) L.length () o rfl ?_
 clear o
 rintro k _ H hk o
 replace o : Owns H0 H [(id3, .map (plS L k).1 (plS L k).2)] := o
 try simp only [go_sem]
 refine ⟨fun h1 => At.mk ?_, fun h1 => At.mk ?_⟩
 ·have h1p := of_decide h1
  have w := wsucc (k := k) (by omega)
  try simp only [go_sem, reduceAdd]
  refine ⟨h1p, ?_⟩
  have hm : L.getD k default ∈ L := mem_getD.mpr ⟨k, h1p, rfl⟩
  refine (key_ok B [L.getD k default] (by have := hb _ hm; simp [keyB]; simp only [List.getD_eq_getElem?_getD] at this; omega)).go fun _ => ?_
  have hg : H.get id3 = some (.map (plS L k).1 (plS L k).2) := o.h0
  try simp only [go_sem]
  rw [hg]
  try simp only [go_sem]
  refine ⟨okKey_plS L k _, ?_⟩
  try simp only [go_sem, w]
  exact for_next () h1p (o.put _) rfl
 ·have h1p := of_ndecide h1
  obtain rfl : k = L.length := by omega
  try simp only [go_sem]
  refine wk_imap 3 o rfl fun H o => wkW_done ?_
  try simp only [go_sem]
  exact pure_ret rfl o.sub
end Go.Proofs.Shf
