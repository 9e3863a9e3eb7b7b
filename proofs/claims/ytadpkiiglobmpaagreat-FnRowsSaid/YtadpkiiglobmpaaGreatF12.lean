/- A part of a proof. -/
import Derived.Test.YtadpkiiglobmpaaGreatF11
import Derived.Test.YtadpkiiglobmpaaGreatProg
import Derived.Shelf.SlLaysF
set_option linter.unusedVariables false
set_option linter.unusedSimpArgs false
set_option linter.unusedSectionVars false
open Nat (reduceEqDiff reduceAdd reduceMul reduceLeDiff reduceLT)
namespace Go.Proofs.Shf
open Go.AW Go.Proofs Go.Shf
def CaseQ (r : AV) : Prop := ∃ (f : SF) (q : QS), r = .tup [.agg f.cells, .agg q.cells]
theorem l38Case_ok (B : Nat) : Rd B 64 [] CaseQ := by
 intro id s H0 H hs o
 refine c64p (by simp) fun _ => ?_
 unfold s64p
 try simp only [go_sem, reduceAdd]
 refine ⟨by simp [maxL], newRef_own o fun id2 H o => ?_⟩
 try simp only [go_sem, reduceAdd]
 refine newRef_own o fun id3 H o => ?_
 try simp only [go_sem]
 refine (l01Next_ok B 24).go hs (o.pull [_, _]) fun res s H _ ⟨x, e, hx0, hx1, _⟩ hs o => ?_
 subst e
 try simp only [go_sem]
 refine ⟨fun h1 => At.mk ?_, fun h1 => At.mk ?_⟩
 focus
  try simp only [go_sem]
 rotate_left 1
 focus
  try simp only [go_sem]
 all_goals
  refine (l19Base_ok B).go hs o fun r s H _ ⟨c, e⟩ hs o => ?_
  subst e
  try simp only [go_sem]
  refine (l19Draw_ok B c _ (by omega)).go hs o fun r s H _ ⟨f, e⟩ hs o => ?_
  subst e
  try simp only [go_sem, reduceAdd]
  refine ⟨by simp [maxL], newRef_own o fun id5 H o => ?_⟩
  try simp only [go_sem]
  refine stc o fun H o => ?_
  simp only [wr_cons, wr_nil, List.set_cons_zero, List.set_cons_succ] at o
  try simp only [go_sem]
  refine ⟨⟨_, _, o.h0⟩, rd_celln o (by simp) ?_⟩
  try simp only [go_sem, reduceAdd]
  refine ⟨⟨_, _, o.h0⟩, rd_celln o (by simp) ?_⟩
  try simp only [go_sem]
  refine (l38Draw_ok B f.shape).goZ hs o.swap fun r s H _ ⟨q, e⟩ hs o hz => ⟨hz, ?_⟩
  subst e
  try simp only [go_sem]
  refine stc (o.pull [_, _, _]) fun H o => ?_
  simp only [wr_cons, wr_nil, List.set_cons_zero, List.set_cons_succ] at o
  try simp only [go_sem]
  refine stc (o.pull [_, _, _]) fun H o => ?_
  simp only [wr_cons, wr_nil, List.set_cons_zero, List.set_cons_succ] at o
  try simp only [go_sem]
  have hr2 := o.tl.rc 7 0 (by simp)
  have hr3 := o.rc 4 0 (by simp)
  simp only [List.drop_zero] at hr2 hr3
  rw [hr2, hr3]
  exact src_ret ⟨f, q, rfl⟩ hs (o.pull [_, _])
end Go.Proofs.Shf
namespace Go.Proofs.Shf
open Go.AW Go.Proofs Go.Shf
instance : Inhabited QS := ⟨⟨[], [], [], []⟩⟩
end Go.Proofs.Shf
namespace Go.Proofs.Shf
open Go.AW Go.Proofs Go.Shf
end Go.Proofs.Shf
namespace Go.Proofs.Shf
open Go.AW Go.Proofs Go.Shf
end Go.Proofs.Shf
namespace Go.Proofs.Shf
open Go.AW Go.Proofs Go.Shf
end Go.Proofs.Shf
namespace Go.Proofs.Shf
open Go.AW Go.Proofs Go.Shf
section
variable {H0 H : Heap} {a b c d e f : Nat × MObj} {l : List (Nat × MObj)}
end
section
variable {cls : Int × Int → Int} {S S' : Int × Int → Prop} {ks vs : List AV}
end
end Go.Proofs.Shf
namespace Go.Proofs.Shf
open Go.AW Go.Proofs Go.Shf
end Go.Proofs.Shf
namespace Go.Proofs.Shf
open Go.AW Go.Proofs Go.Shf
def flagK (b : Bool) (p : Nat → Bool) : Nat → Bool
 | 0 => b
 | k + 1 => flagK b p k || p k
theorem flagK_mono (b : Bool) (p : Nat → Bool) {i : Nat} : ∀ {n : Nat}, i < n → p i = true → flagK b p n = true
 | n + 1, h, e => by
  rw [flagK]
  by_cases c : i = n
  ·subst c; rw [e, Bool.or_true]
  ·rw [flagK_mono b p (by omega) e, Bool.true_or]
theorem ansQ_len (f : SF) (q : QS) : (ansQ f q).length ≤ 4096 := by
 rw [ansQ]
 split
 ·rename_i h
  have h1 := (codQ_0 h).2
  have h2 := solK_len f q (prodT (szT f q.v)).toNat
  rw [solK_all] at h2
  omega
 ·simp
end Go.Proofs.Shf
namespace Go.Proofs
open Go.Shelf
def Tryz.sortR_ren : Go.Shelf.Ren := ⟨fun | 6 => 295 | 15 => 285 | 14 => 337 | 28 => 325 | 29 => 326 | 20 => 366 | 21 => 367 | 22 => 368 | 23 => 369 | 24 => 370 | 25 => 371 | 26 => 372 | 27 => 373 | 46 => 387 | 47 => 355 | 48 => 356 | 49 => 388 | 50 => 389 | 57 => 402 | n => n, fun | 22 => 25 | 24 => 24 | 25 => 260 | 3 => 3 | 39 => 158 | 0 => 0 | 53 => 266 | 55 => 63 | 4 => 4 | 46 => 367 | 45 => 366 | 50 => 371 | 5 => 5 | 9 => 9 | 66 => 394 | 70 => 398 | 76 => 420 | 77 => 421 | n => n, fun | n => n⟩
theorem Tryz.sortR : Go.Proofs.SlLaysF.n6 Tryz.prog Tryz.sortR_ren := {
 mixed := by kernel_rfl
 f6 := ⟨Tryz.f295.name, by decide, Tryz.func295.trans (congrArg some (by kernel_rfl))⟩
 f14 := ⟨Tryz.f337.name, by decide, Tryz.func337.trans (congrArg some (by kernel_rfl))⟩
 f15 := Tryz.func285.trans (congrArg some (by kernel_rfl))
 f20 := ⟨Tryz.f366.name, by decide, Tryz.func366.trans (congrArg some (by kernel_rfl))⟩
 f21 := ⟨Tryz.f367.name, by decide, Tryz.func367.trans (congrArg some (by kernel_rfl))⟩
 f22 := ⟨Tryz.f368.name, by decide, Tryz.func368.trans (congrArg some (by kernel_rfl))⟩
 f23 := ⟨Tryz.f369.name, by decide, Tryz.func369.trans (congrArg some (by kernel_rfl))⟩
 f24 := ⟨Tryz.f370.name, by decide, Tryz.func370.trans (congrArg some (by kernel_rfl))⟩
 f25 := ⟨Tryz.f371.name, by decide, Tryz.func371.trans (congrArg some (by kernel_rfl))⟩
 f26 := ⟨Tryz.f372.name, by decide, Tryz.func372.trans (congrArg some (by kernel_rfl))⟩
 f27 := ⟨Tryz.f373.name, by decide, Tryz.func373.trans (congrArg some (by kernel_rfl))⟩
 f28 := Tryz.func325.trans (congrArg some (by kernel_rfl))
 f29 := Tryz.func326.trans (congrArg some (by kernel_rfl))
 f46 := ⟨Tryz.f387.name, by decide, Tryz.func387.trans (congrArg some (by kernel_rfl))⟩
 f47 := Tryz.func355.trans (congrArg some (by kernel_rfl))
 f48 := Tryz.func356.trans (congrArg some (by kernel_rfl))
 f49 := ⟨Tryz.f388.name, by decide, Tryz.func388.trans (congrArg some (by kernel_rfl))⟩
 f50 := ⟨Tryz.f389.name, by decide, Tryz.func389.trans (congrArg some (by kernel_rfl))⟩
 f57 := ⟨Tryz.f402.name, by decide, Tryz.func402.trans (congrArg some (by kernel_rfl))⟩
 t0 := Tryz.underlying0
 a0 := Tryz.isAgg0
 z0 := Tryz.sizeOf0
 v0 := Tryz.zeroValue0
 t3 := Tryz.underlying3
 a3 := Tryz.isAgg3
 z3 := Tryz.sizeOf3
 v3 := Tryz.zeroValue3
 t4 := Tryz.underlying4
 a4 := Tryz.isAgg4
 z4 := Tryz.sizeOf4
 v4 := Tryz.zeroValue4
 t5 := Tryz.underlying5
 a5 := Tryz.isAgg5
 z5 := Tryz.sizeOf5
 v5 := Tryz.zeroValue5
 t9 := Tryz.underlying9
 a9 := Tryz.isAgg9
 z9 := Tryz.sizeOf9
 v9 := Tryz.zeroValue9
 t22 := Tryz.underlying25
 a22 := Tryz.isAgg25
 z22 := Tryz.sizeOf25
 v22 := Tryz.zeroValue25
 a24 := Tryz.isAgg24
 z24 := Tryz.sizeOf24
 t25 := Tryz.underlying260
 a25 := Tryz.isAgg260
 z25 := Tryz.sizeOf260
 v25 := Tryz.zeroValue260
 t39 := Tryz.underlying158
 a39 := Tryz.isAgg158
 z39 := Tryz.sizeOf158
 v39 := Tryz.zeroValue158
 t45 := Tryz.underlying366
 a45 := Tryz.isAgg366
 z45 := Tryz.sizeOf366
 v45 := Tryz.zeroValue366
 t46 := Tryz.underlying367
 a46 := Tryz.isAgg367
 z46 := Tryz.sizeOf367
 v46 := Tryz.zeroValue367
 t50 := Tryz.underlying371
 a50 := Tryz.isAgg371
 z50 := Tryz.sizeOf371
 v50 := Tryz.zeroValue371
 t53 := Tryz.underlying266
 a53 := Tryz.isAgg266
 z53 := Tryz.sizeOf266
 v53 := Tryz.zeroValue266
 t55 := Tryz.underlying63
 a55 := Tryz.isAgg63
 z55 := Tryz.sizeOf63
 v55 := Tryz.zeroValue63
 t66 := Tryz.underlying394
 a66 := Tryz.isAgg394
 z66 := Tryz.sizeOf394
 v66 := Tryz.zeroValue394
 t70 := Tryz.underlying398
 a70 := Tryz.isAgg398
 z70 := Tryz.sizeOf398
 v70 := Tryz.zeroValue398
 t76 := Tryz.underlying420
 a76 := Tryz.isAgg420
 z76 := Tryz.sizeOf420
 v76 := Tryz.zeroValue420
 t77 := Tryz.underlying421
 a77 := Tryz.isAgg421
 z77 := Tryz.sizeOf421
 v77 := Tryz.zeroValue421 }
end Go.Proofs
