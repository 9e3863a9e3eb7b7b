/- Contracts, part 2. -/
import Derived.Test.YtadpkiiglobmpaaGreatF1
set_option linter.unusedVariables false
set_option linter.unusedSimpArgs false
set_option linter.unusedSectionVars false
open Nat (reduceEqDiff reduceAdd reduceMul reduceLeDiff reduceLT)
namespace Go.Proofs.Shf
open Go.AW Go.Proofs Go.Shf
theorem indexOf_mem {α : Type} [DecidableEq α] [Inhabited α] (l : List α) (s : α) : 0 ≤ indexOf l s ↔ s ∈ l := by
 constructor
 ·intro h
  apply Classical.byContradiction; intro hn
  rw [indexOf_miss fun i hi e => hn (mem_getD.mpr ⟨i, hi, e⟩)] at h
  omega
 ·intro h
  unfold indexOf
  split
  ·omega
  ·rename_i e; rw [List.idxOf?_eq_none_iff] at e; exact absurd h e
end Go.Proofs.Shf
namespace Go.Proofs.Shf
open Go.AW Go.Proofs Go.Shf
def OwnK {α : Type} (f : α → AV) (H0 : Heap) (l : List (Nat × MObj)) (Q : List α → Prop) : Kont := fun r H' => ∃ id A, r = .buf id A.length ∧ Owns H0 H' ((id, .cells 1 (A.map f) 0) :: l) ∧ Q A
theorem own_ret {α : Type} {f : α → AV} {H0 H : Heap} {l : List (Nat × MObj)} {Q : List α → Prop} {id n : Nat} {A : List α} (o : Owns H0 H ((id, .cells 1 (A.map f) 0) :: l)) (hn : n = A.length) (hq : Q A) :
  subW (OwnK f H0 l Q) (.buf id n) H := ⟨H, .refl H, id, A, by rw [hn], o, hq⟩
end Go.Proofs.Shf
namespace Go.AW
open Go.Proofs Go.Shf Go.Proofs.Shf
theorem CallH.own {P : Program} {α : Type} {f : α → AV} {B : Nat} {fn : FuncId} {args : List AV} {H0 H : Heap} {l : List (Nat × MObj)} {Q : List α → Prop} {K : Kont} (h : CallH P B fn args H (OwnK f H0 l Q))
  (hk : ∀ id A H', Owns H0 H' ((id, .cells 1 (A.map f) 0) :: l) → Q A → K (.buf id A.length) H') : CallH P B fn args H K :=
 h.mono fun r H' ⟨id, A, e, o, q⟩ => by subst e; exact hk id A H' o q
end Go.AW
namespace Go.Proofs.Shf
open Go.AW Go.Proofs Go.Shf
theorem l01Own_own (B : Nat) (l : List Int) (H0 H : Heap) (r : List (Nat × MObj)) (o : Owns H0 H r) : CallH Tryz.prog B 114 [iL l] H (OwnK iI H0 r (· = l)) := by
 refine c114p (by simp) fun ⟨hf, _⟩ => ?_
 have hl := fine_mL_le hf
 unfold s114p
 try simp only [go_sem, reduceAdd]
 refine new_list iI o fun id H o => ?_
 try simp only [go_sem]
 refine app_list (f := iI) o rfl (by simpa using hl) fun id H o => ?_
 try simp only [go_sem]
 exact own_ret o rfl rfl
theorem clone_own (B : Nat) (l : List Int) (H0 H : Heap) (r : List (Nat × MObj)) (o : Owns H0 H r) : CallH Tryz.prog B 189 [iL l] H (OwnK iI H0 r (· = l)) := by
 refine c189p (by simp) fun ⟨hf, _⟩ => ?_
 have hl := fine_mL_le hf
 unfold s189p
 try simp only [go_sem, reduceAdd]
 refine new_list iI o fun id H o => ?_
 try simp only [go_sem]
 refine app_list (f := iI) o rfl (by simpa using hl) fun id H o => ?_
 try simp only [go_sem]
 exact own_ret o rfl rfl
end Go.Proofs.Shf
namespace Go.Proofs.Shf
open Go.AW Go.Proofs Go.Shf
end Go.Proofs.Shf
namespace Go.Proofs.Shf
open Go.AW Go.Proofs Go.Shf
end Go.Proofs.Shf
namespace Go.AW
open Go.Proofs Go.Shf Go.Proofs.Shf
theorem Owns.rc {H0 H : Heap} {l : List (Nat × MObj)} {id sz fr : Nat} {cs : List AV} (o : Owns H0 H ((id, .cells sz cs fr) :: l)) (n off : Nat) (h : off + n ≤ cs.length) : rc1 (some n) off (H.get id) = some (.agg ((cs.drop off).take n)) := by
 have h0 := o.h0
 simp only at h0
 rw [h0, rc1_n, if_pos h]
end Go.AW
namespace Go.Proofs.Shf
open Go.AW Go.Proofs Go.Shf
end Go.Proofs.Shf
namespace Go.Proofs.Shf
open Go.AW Go.Proofs Go.Shf
end Go.Proofs.Shf
namespace Go.Proofs.Shf
open Go.AW Go.Proofs Go.Shf
end Go.Proofs.Shf
namespace Go.Proofs.Shf
open Go.AW Go.Proofs Go.Shf
end Go.Proofs.Shf
namespace Go.Proofs.Shf
open Go.AW Go.Proofs Go.Shf
theorem l19Shape_ok (B : Nat) (f : SF) : Pur Tryz.prog B 179 [.agg f.cells] (.bool (dec f.Shape)) := by
 refine ⟨fun H0 => c179 (by simp) fun ⟨hf, _⟩ => ?_⟩
 have hl := fine_mL_le (hf.agg (c := iL f.sizes) (by simp [SF.cells]))
 have hl2 := fine_mL_le (hf.agg (c := iLL f.acts) (by simp [SF.cells]))
 simp only [maxL] at hl hl2
 unfold s179
 try simp only [go_sem, reduceAdd, reduceLeDiff]
 refine (l02Is_ok B f.shape).go fun _ => ?_
 try simp only [go_sem]
 refine ⟨fun h1 => At.mk ?_, fun h1 => At.mk ?_⟩
 rotate_left
 ·try simp only [go_sem, h1]
  have h1p := h1; simp only [bnt, decf] at h1p
  exact pure_ret (by rw [dec_f]; intro s; exact h1p s.is) (.refl _)
 try simp only [go_sem, reduceAdd, reduceLeDiff, h1]
 have h1p := h1; simp only [bnf, dect] at h1p
 have hs := h1p.1
 have htl := hs.tol
 refine ⟨fun h2 => At.mk ?_, fun h2 => At.mk ?_⟩
 rotate_left
 ·try simp only [go_sem, h2]
  have h2p := h2; simp only [bnt, decide_eq_false_iff_not] at h2p
  exact pure_ret (by rw [dec_f]; intro s; exact h2p s.sl) (.refl _)
 try simp only [go_sem, reduceAdd, reduceLeDiff, h2]
 have h2p := h2; simp only [bnf, decide_eq_true_eq] at h2p
 refine ⟨fun h3 => At.mk ?_, fun h3 => At.mk ?_⟩
 ·try simp only [go_sem, h3]
  have h3p := h3; simp only [bnt, decide_eq_false_iff_not] at h3p
  exact pure_ret (by rw [dec_f]; intro s; exact h3p s.al) (.refl _)
 try simp only [go_sem, h3]
 have h3p := h3; simp only [bnf, decide_eq_true_eq] at h3p
 refine awp_for [1] (fun k _ => [(3, some (.int .i64 (k : Int)))]) (fun k _ H => H = H0 ∧ ∀ x, x < k → 0 ≤ f.sizes.getD x default ∧ f.sizes.getD x default < 17) f.sizes.length () ⟨rfl, by simp⟩ rfl ?_
 rintro x _ H hx ⟨rfl, hall⟩
 try simp only [go_sem, reduceAdd, reduceLeDiff]
 refine ⟨fun g1 => At.mk ?_, fun g1 => At.mk ?_⟩
 ·have g1p := g1; simp only [decide_eq_true_eq] at g1p
  have wx := wsucc (k := x) (by omega)
  try simp only [go_sem, reduceAdd, reduceLeDiff]
  refine ⟨g1p, (l01In_ok ..).go fun _ => ?_⟩
  try simp only [go_sem]
  refine ⟨fun g2 => At.mk ?_, fun g2 => At.mk ?_⟩
  ·try simp only [go_sem]
   have g2p := g2; simp only [bnt, decf] at g2p
   exact pure_ret (by rw [dec_f]; intro s; have := s.sz _ (mem_getD.mpr ⟨x, g1p, rfl⟩); omega) (.refl _)
  ·try simp only [go_sem, wx]
   have g2p := g2; simp only [bnf, dect] at g2p
   exact for_next () g1p ⟨rfl, lt_succ_all hall (by omega)⟩ rfl
 have g1p := g1; simp only [decide_eq_false_iff_not, Nat.not_lt] at g1p
 have hsz : ∀ y, y ∈ f.sizes → 0 ≤ y ∧ y < 17 := all_getD.mpr fun i hi => hall i (by omega)
 try simp only [go_sem]
 refine awp_for [1] (fun k _ => [(4, some (.int .i64 (k : Int)))]) (fun k _ H' => H' = H ∧ ∀ a, a < k → ((f.acts.getD a default).length : Int) = ix f.sizes (f.shape.frm.getD a default) ∧
  ∀ y, y ∈ f.acts.getD a default → 0 ≤ y ∧ y < ix f.sizes (f.shape.to.getD a default)) f.acts.length () ⟨rfl, by simp⟩ rfl ?_
 rintro a _ H' ha ⟨rfl, hact⟩
 try simp only [go_sem, reduceAdd, reduceLeDiff]
 refine ⟨fun g2 => At.mk ?_, fun g2 => At.mk ?_⟩
 rotate_left
 ·try simp only [go_sem]
  have g2p := g2; simp only [decide_eq_false_iff_not, Nat.not_lt] at g2p
  exact pure_ret (by rw [dec_t]; exact ⟨h1p, h2p, h3p, hsz, fun a h => hact a (by omega)⟩) (.refl _)
 have g2p := g2; simp only [decide_eq_true_eq] at g2p
 have wa := wsucc (k := a) (by omega)
 have haf : a < f.shape.frm.length := by omega
 have f1 := hs.frm' haf
 have f2 := hs.to' haf
 have hil := hs.il
 try simp only [go_sem, reduceAdd, reduceLeDiff]
 refine ⟨g2p, haf, ⟨f1.1, by omega⟩, ?_⟩
 refine ⟨fun g3 => At.mk ?_, fun g3 => At.mk ?_⟩
 rotate_left
 ·try simp only [go_sem, g3]
  have g3p := g3; simp only [bnt, decide_eq_false_iff_not] at g3p
  exact pure_ret (by rw [dec_f]; intro s; exact g3p (s.act a g2p).1) (.refl _)
 try simp only [go_sem, reduceAdd, reduceLeDiff, g3]
 have g3p := g3; simp only [bnf, decide_eq_true_eq] at g3p
 refine ⟨by omega, ⟨f2.1, by omega⟩, g2p, _, (l01Map_ok ..).run, ?_⟩
 try simp only [go_sem]
 refine ⟨fun g4 => At.mk ?_, fun g4 => At.mk ?_⟩
 ·try simp only [go_sem]
  have g4p := g4; simp only [bnt, decf] at g4p
  exact pure_ret (by rw [dec_f]; intro s; exact g4p (s.act a g2p).2) (.refl _)
 ·try simp only [go_sem, wa]
  have g4p := g4; simp only [bnf, dect] at g4p
  exact for_next () g2p ⟨rfl, lt_succ_all hact ⟨g3p, g4p⟩⟩ rfl
theorem sfIsShape_ok (B : Nat) (f : SF) : Pur Tryz.prog B 175 [.ptr f.cells] (.bool (dec f.Shape)) := by
 refine ⟨fun H0 => c175 (by simp) fun ⟨hf, _⟩ => ?_⟩
 have hl := fine_mL_le (hf.ptr (c := iL f.sizes) (by simp [SF.cells]))
 have hl2 := fine_mL_le (hf.ptr (c := iLL f.acts) (by simp [SF.cells]))
 simp only [maxL] at hl hl2
 unfold s175
 try simp only [go_sem, reduceAdd, reduceLeDiff]
 refine ⟨_, (isCategory_ok B f.shape).run, ?_⟩
 try simp only [go_sem]
 refine ⟨fun h1 => At.mk ?_, fun h1 => At.mk ?_⟩
 rotate_left
 ·try simp only [go_sem, h1]
  have h1p := h1; simp only [bnt, decf] at h1p
  exact pure_ret (by rw [dec_f]; intro s; exact h1p s.is) (.refl _)
 try simp only [go_sem, reduceAdd, reduceLeDiff, h1]
 have h1p := h1; simp only [bnf, dect] at h1p
 have hs := h1p.1
 have htl := hs.tol
 refine ⟨fun h2 => At.mk ?_, fun h2 => At.mk ?_⟩
 rotate_left
 ·try simp only [go_sem, h2]
  have h2p := h2; simp only [bnt, decide_eq_false_iff_not] at h2p
  exact pure_ret (by rw [dec_f]; intro s; exact h2p s.sl) (.refl _)
 try simp only [go_sem, reduceAdd, reduceLeDiff, h2]
 have h2p := h2; simp only [bnf, decide_eq_true_eq] at h2p
 refine ⟨_, (within_ok B f.sizes 17 (by omega)).run, ?_⟩
 try simp only [go_sem]
 refine ⟨fun h3 => At.mk ?_, fun h3 => At.mk ?_⟩
 rotate_left
 ·try simp only [go_sem, h3]
  have h3p := h3; simp only [bnt, decf] at h3p
  exact pure_ret (by rw [dec_f]; intro s; exact h3p s.sz) (.refl _)
 try simp only [go_sem, reduceAdd, reduceLeDiff, h3]
 have h3p := h3; simp only [bnf, dect] at h3p
 refine ⟨_, (arrows_ok B f.shape).run, ?_⟩
 try simp only [go_sem]
 refine ⟨fun h4 => At.mk ?_, fun h4 => At.mk ?_⟩
 ·try simp only [go_sem, h4]
  have h4p := h4; simp only [bnt, decide_eq_false_iff_not] at h4p
  exact pure_ret (by rw [dec_f]; intro s; exact h4p s.al) (.refl _)
 try simp only [go_sem, reduceAdd, reduceLeDiff, h4]
 have h4p := h4; simp only [bnf, decide_eq_true_eq] at h4p
 refine awp_for [0, 3, 45, 46] (fun k _ => [(47, some (.int .i64 (k : Int)))]) (fun k _ H' => H' = H0 ∧ ∀ a, a < k → ((f.acts.getD a default).length : Int) = ix f.sizes (f.shape.frm.getD a default) ∧
  ∀ y, y ∈ f.acts.getD a default → 0 ≤ y ∧ y < ix f.sizes (f.shape.to.getD a default)) f.acts.length () ⟨rfl, by simp⟩ rfl ?_
 rintro a _ H' ha ⟨rfl, hact⟩
 try simp only [go_sem]
 refine ⟨fun g2 => At.mk ?_, fun g2 => At.mk ?_⟩
 rotate_left
 ·try simp only [go_sem]
  have g2p := g2; simp only [decide_eq_false_iff_not, Nat.not_lt] at g2p
  exact pure_ret (by rw [dec_t]; exact ⟨h1p, h2p, h4p, h3p, fun a h => hact a (by omega)⟩) (.refl _)
 have g2p := g2; simp only [decide_eq_true_eq] at g2p
 have wa := wsucc (k := a) (by omega)
 have haf : a < f.shape.frm.length := by omega
 have f1 := hs.frm' haf
 have f2 := hs.to' haf
 have hil := hs.il
 have hto := h3p _ (ix_mem (l := f.sizes) (i := f.shape.to.getD a default) (by omega))
 try simp only [go_sem, reduceAdd, reduceLeDiff]
 refine ⟨g2p, haf, ⟨f1.1, by omega⟩, by omega, ⟨f2.1, by omega⟩, _, (isMapOf_ok B _ _ _ (by omega)).run, ?_⟩
 try simp only [go_sem]
 refine ⟨fun g4 => At.mk ?_, fun g4 => At.mk ?_⟩
 ·try simp only [go_sem]
  have g4p := g4; simp only [bnt, decf] at g4p
  exact pure_ret (by rw [dec_f]; intro s; exact g4p (s.act a g2p)) (.refl _)
 ·try simp only [go_sem, wa]
  have g4p := g4; simp only [bnf, dect] at g4p
  exact for_next () g2p ⟨rfl, lt_succ_all hact g4p⟩ rfl
end Go.Proofs.Shf
namespace Go.Proofs.Shf
open Go.AW Go.Proofs Go.Shf
theorem l19Fault_ok (B : Nat) (f : SF) (s : f.Shape) (H0 : Heap) : CallH Tryz.prog B 180 [.agg f.cells] H0 (faultK f.Laws H0) := by
 refine c180 (by simp) fun ⟨hf, _⟩ => ?_
 have hs := s.is.1
 have hm := hs.m
 have hcl := hs.cl
 have htl := hs.tol
 have hil := hs.il
 have hal := s.al
 have hsl := s.sl
 have hob := hs.o
 unfold s180
 try simp only [go_sem, reduceAdd, reduceLeDiff]
 refine ⟨by simp [maxL], fun i1 n1 => ?_⟩
 try simp only [go_sem, reduceAdd, reduceLeDiff]
 generalize hH : ((H0.set i1 _).set i1 _) = H1
 have hg : H1.get i1 = some (.cells 5 [iI f.shape.objs, iL f.shape.frm, iL f.shape.to, iL f.shape.idn, iLL f.shape.comp] 0) := by rw [← hH]; simp
 have hsub : H0.sub H1 := by rw [← hH]; exact sub_set (sub_set (.refl _) n1) n1
 clear hH
 refine awp_for [1, 6] (fun k _ => [(7, some (.int .i64 (k : Int)))]) (fun k _ H => H = H1 ∧ ∀ x, x < k → ∀ e : Nat, e < (ix f.acts (f.shape.idn.getD x default)).length → (ix f.acts (f.shape.idn.getD x default)).getD e default = e) f.shape.idn.length () ⟨rfl, by simp⟩ rfl ?_
 rintro x _ H hx ⟨rfl, hall⟩
 try simp only [go_sem, reduceAdd, reduceLT, hg]
 refine ⟨fun g1 => At.mk ?_, fun g1 => At.mk ?_⟩
 ·have g1p := g1; simp only [decide_eq_true_eq] at g1p
  have hxi : x < f.shape.idn.length := by omega
  have wx := wsucc (k := x) (by omega)
  have hid := hs.idn _ (mem_getD.mpr ⟨x, hxi, rfl⟩)
  have hlen := s.idLen hxi
  try simp only [go_sem, hg]
  refine awp_for [1, 6, 7] (fun k _ => [(8, some (.int .i64 (k : Int)))]) (fun k _ H' => H' = H ∧ ∀ e : Nat, e < k → (ix f.acts (f.shape.idn.getD x default)).getD e default = e) (ix f.acts (f.shape.idn.getD x default)).length () ⟨rfl, by simp⟩ rfl ?_
  rintro e _ H' he ⟨rfl, hall2⟩
  try simp only [go_sem, reduceAdd, reduceLeDiff, hg]
  refine ⟨by omega, ?_⟩
  refine ⟨fun g2 => At.mk ?_, fun g2 => At.mk ?_⟩
  rotate_left
  ·try simp only [go_sem, wx]
   have g2p := g2; simp only [decide_eq_false_iff_not, Int.not_lt] at g2p
   exact for_next () hxi ⟨rfl, lt_succ_all hall fun e he => hall2 e (by omega)⟩ rfl
  have g2p := g2; simp only [decide_eq_true_eq] at g2p
  have hel : e < (ix f.acts (f.shape.idn.getD x default)).length := by omega
  have hz : f.sizes.getD x default < 17 := (s.sz _ (mem_getD.mpr ⟨x, by omega, rfl⟩)).2
  have we := wsucc (k := e) (by omega)
  try simp only [go_sem, reduceAdd, reduceLeDiff, reduceLT, hg]
  refine ⟨hxi, ⟨hid.1, by omega⟩, hel, ?_⟩
  refine ⟨fun g3 => At.mk ?_, fun g3 => At.mk ?_⟩
  ·try simp only [go_sem]
   have g3p := g3; simp only [bnt, decide_eq_false_iff_not] at g3p
   exact fault_ret (by constructor; (intro h; cases h); intro l; exact absurd (l.idl x hxi e hel) g3p) hsub
  ·try simp only [go_sem, we]
   have g3p := g3; simp only [bnf, decide_eq_true_eq] at g3p
   exact for_next () hel ⟨rfl, lt_succ_all hall2 g3p⟩ rfl
 have g1p := g1; simp only [decide_eq_false_iff_not, Int.not_lt] at g1p
 have hidl : ∀ x : Nat, x < f.shape.idn.length → ∀ e : Nat, e < (ix f.acts (f.shape.idn.getD x default)).length → (ix f.acts (f.shape.idn.getD x default)).getD e default = e := fun x hx => hall x (by omega)
 try simp only [go_sem]
 refine awp_for [1, 6] (fun k _ => [(9, some (.int .i64 (k : Int)))]) (fun k _ H' => H' = H ∧ ∀ a, a < k → ∀ b, b < f.shape.frm.length → f.CompAt a b) f.shape.frm.length () ⟨rfl, by simp⟩ rfl ?_
 rintro a _ H' ha ⟨rfl, hA⟩
 try simp only [go_sem, reduceAdd, reduceLT, hg]
 refine ⟨fun g1 => At.mk ?_, fun g1 => At.mk ?_⟩
 rotate_left
 ·try simp only [go_sem]
  have g1p := g1; simp only [decide_eq_false_iff_not, Nat.not_lt] at g1p
  exact fault_ret (by simp only [true_iff]; exact ⟨hidl, fun a b ha hb => hA a (by omega) b hb⟩) hsub
 have g1p := g1; simp only [decide_eq_true_eq] at g1p
 have wa := wsucc (k := a) (by omega)
 have ra := hs.row a g1p
 have fa := hs.frm' g1p
 have la := s.actLen (a := (a : Int)) (by omega)
 rw [ix_nat2, ix_nat2] at la
 have za := s.sz _ (ix_mem (l := f.sizes) (i := f.shape.frm.getD a default) (by omega))
 try simp only [go_sem, hg]
 refine awp_for [1, 6, 9] (fun k _ => [(10, some (.int .i64 (k : Int)))]) (fun k _ H => H = H' ∧ ∀ b, b < k → f.CompAt a b) f.shape.frm.length () ⟨rfl, by simp⟩ rfl ?_
 rintro b _ H hb ⟨rfl, hB⟩
 try simp only [go_sem, reduceAdd, reduceLT, hg]
 refine ⟨fun g2 => At.mk ?_, fun g2 => At.mk ?_⟩
 rotate_left
 ·try simp only [go_sem, wa]
  have g2p := g2; simp only [decide_eq_false_iff_not, Nat.not_lt] at g2p
  exact for_next () g1p ⟨rfl, lt_succ_all hA fun b hb => hB b (by omega)⟩ rfl
 have g2p := g2; simp only [decide_eq_true_eq] at g2p
 have wb := wsucc (k := b) (by omega)
 try simp only [go_sem, reduceAdd, reduceLT, hg]
 refine ⟨by omega, g2p, ?_⟩
 refine ⟨fun g3 => At.mk ?_, fun g3 => At.mk ?_⟩
 ·try simp only [go_sem, wb]
  have g3p := g3; simp only [bnt, decide_eq_false_iff_not] at g3p
  exact for_next () g2p ⟨rfl, lt_succ_all hB fun e => absurd e g3p⟩ rfl
 have g3p := g3; simp only [bnf, decide_eq_true_eq] at g3p
 have hy := hs.yes a b g1p g2p g3p
 have lc := s.actLen (a := (f.shape.comp.getD a default).getD b default) (by omega)
 rw [hy.2.1] at lc
 have lb := s.actLen (a := (b : Int)) (by omega)
 rw [ix_nat2, ix_nat2] at lb
 try simp only [go_sem, hg]
 refine awp_for [1, 6, 9, 10] (fun k _ => [(11, some (.int .i64 (k : Int)))]) (fun k _ H' => H' = H ∧ ∀ e : Nat, e < k →
  (ix f.acts ((f.shape.comp.getD a default).getD b default)).getD e default = ix (f.acts.getD b default) ((f.acts.getD a default).getD e default)) (f.acts.getD a default).length () ⟨rfl, by simp⟩ rfl ?_
 rintro e _ H' he ⟨rfl, hE⟩
 try simp only [go_sem, reduceAdd, reduceLeDiff, reduceLT, hg]
 refine ⟨g1p, ⟨fa.1, by omega⟩, ?_⟩
 refine ⟨fun g4 => At.mk ?_, fun g4 => At.mk ?_⟩
 rotate_left
 ·try simp only [go_sem, wb]
  have g4p := g4; simp only [decide_eq_false_iff_not, Int.not_lt] at g4p
  exact for_next () g2p ⟨rfl, lt_succ_all hB fun _ e he => hE e (by omega)⟩ rfl
 have g4p := g4; simp only [decide_eq_true_eq] at g4p
 have we := wsucc (k := e) (by omega)
 have hel : e < (f.acts.getD a default).length := by omega
 have hv := (s.act a (by omega)).2 _ (mem_getD.mpr ⟨e, hel, rfl⟩)
 rw [g3p] at hv
 try simp only [go_sem, reduceAdd, reduceLeDiff, reduceLT, hg]
 refine ⟨by omega, by omega, ⟨hy.1.1, by omega⟩, by omega, by omega, by omega, hel, ⟨hv.1, by omega⟩, ?_⟩
 refine ⟨fun g5 => At.mk ?_, fun g5 => At.mk ?_⟩
 ·try simp only [go_sem]
  have g5p := g5; simp only [bnt, decide_eq_false_iff_not] at g5p
  exact fault_ret (by constructor; (intro h; cases h); intro l; exact absurd (l.comp a b g1p g2p g3p e hel) g5p) hsub
 ·try simp only [go_sem, we]
  have g5p := g5; simp only [bnf, decide_eq_true_eq] at g5p
  exact for_next () hel ⟨rfl, lt_succ_all hE g5p⟩ rfl
end Go.Proofs.Shf
