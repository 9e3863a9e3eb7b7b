/- Contracts, part 2. -/
import Derived.Test.YtadpkiiglobmpaaGreatF1
set_option linter.unusedVariables false
set_option linter.unusedSimpArgs false
set_option linter.unusedSectionVars false
open Nat (reduceEqDiff reduceAdd reduceMul reduceLeDiff reduceLT)
namespace Go.Proofs.Shf
open Go.AW Go.Proofs Go.Shf
theorem indexOf_mem {α : Type} [DecidableEq α] [Inhabited α] (l : List α) (s : α) : 0 ≤ indexOf l s ↔ s ∈ l := by
 constructor
 ·intro h
  apply Classical.byContradiction; intro hn
  rw [indexOf_miss fun i hi e => hn (mem_getD.mpr ⟨i, hi, e⟩)] at h
  omega
 ·intro h
  unfold indexOf
  split
  ·omega
  ·rename_i e; rw [List.idxOf?_eq_none_iff] at e; exact absurd h e
end Go.Proofs.Shf
namespace Go.Proofs.Shf
open Go.AW Go.Proofs Go.Shf
def OwnK {α : Type} (f : α → AV) (H0 : Heap) (l : List (Nat × MObj)) (Q : List α → Prop) : Kont := fun r H' => ∃ id A, r = .buf id A.length ∧ Owns H0 H' ((id, .cells 1 (A.map f) 0) :: l) ∧ Q A
theorem own_ret {α : Type} {f : α → AV} {H0 H : Heap} {l : List (Nat × MObj)} {Q : List α → Prop} {id n : Nat} {A : List α} (o : Owns H0 H ((id, .cells 1 (A.map f) 0) :: l)) (hn : n = A.length) (hq : Q A) :
  subW (OwnK f H0 l Q) (.buf id n) H := ⟨H, .refl H, id, A, by rw [hn], o, hq⟩
end Go.Proofs.Shf
namespace Go.AW
open Go.Proofs Go.Shf Go.Proofs.Shf
theorem CallH.own {P : Program} {α : Type} {f : α → AV} {B : Nat} {fn : FuncId} {args : List AV} {H0 H : Heap} {l : List (Nat × MObj)} {Q : List α → Prop} {K : Kont} (h : CallH P B fn args H (OwnK f H0 l Q))
  (hk : ∀ id A H', Owns H0 H' ((id, .cells 1 (A.map f) 0) :: l) → Q A → K (.buf id A.length) H') : CallH P B fn args H K :=
 h.mono fun r H' ⟨id, A, e, o, q⟩ => by subst e; exact hk id A H' o q
end Go.AW
namespace Go.Proofs.Shf
open Go.AW Go.Proofs Go.Shf
theorem l01Own_own (B : Nat) (l : List Int) (H0 H : Heap) (r : List (Nat × MObj)) (o : Owns H0 H r) : CallH Tryz.prog B 114 [iL l] H (OwnK iI H0 r (· = l)) := by
 refine c114p (by simp) fun ⟨hf, _⟩ => ?_
 have hl := fine_mL_le hf
 unfold s114p
 try simp only [go_sem, reduceAdd]
 refine new_list iI o fun id H o => ?_
 try simp only [go_sem]
 refine app_list (f := iI) o rfl (by simpa using hl) fun id H o => ?_
 try simp only [go_sem]
 exact own_ret o rfl rfl
end Go.Proofs.Shf
namespace Go.Proofs.Shf
open Go.AW Go.Proofs Go.Shf
end Go.Proofs.Shf
namespace Go.Proofs.Shf
open Go.AW Go.Proofs Go.Shf
end Go.Proofs.Shf
namespace Go.AW
open Go.Proofs Go.Shf Go.Proofs.Shf
theorem Owns.rc {H0 H : Heap} {l : List (Nat × MObj)} {id sz fr : Nat} {cs : List AV} (o : Owns H0 H ((id, .cells sz cs fr) :: l)) (n off : Nat) (h : off + n ≤ cs.length) : rc1 (some n) off (H.get id) = some (.agg ((cs.drop off).take n)) := by
 have h0 := o.h0
 simp only at h0
 rw [h0, rc1_n, if_pos h]
end Go.AW
namespace Go.Proofs.Shf
open Go.AW Go.Proofs Go.Shf
end Go.Proofs.Shf
namespace Go.Proofs.Shf
open Go.AW Go.Proofs Go.Shf
end Go.Proofs.Shf
namespace Go.Proofs.Shf
open Go.AW Go.Proofs Go.Shf
end Go.Proofs.Shf
namespace Go.Proofs.Shf
open Go.AW Go.Proofs Go.Shf
end Go.Proofs.Shf
namespace Go.Proofs.Shf
open Go.AW Go.Proofs Go.Shf
theorem sfIsShape_ok (B : Nat) (f : SF) : Pur Tryz.prog B 175 [.ptr f.cells] (.bool (dec f.Shape)) := by
 refine ⟨fun H0 => c175 (by simp) fun ⟨hf, _⟩ => ?_⟩
 have hl := fine_mL_le (hf.ptr (c := iL f.sizes) (by simp [SF.cells]))
 have hl2 := fine_mL_le (hf.ptr (c := iLL f.acts) (by simp [SF.cells]))
 simp only [maxL] at hl hl2
 unfold s175
 try simp only [go_sem, reduceAdd, reduceLeDiff]
 refine ⟨_, (isCategory_ok B f.shape).run, ?_⟩
 try simp only [go_sem]
 refine ⟨fun h1 => At.mk ?_, fun h1 => At.mk ?_⟩
 rotate_left
 ·try simp only [go_sem, h1]
  have h1p := h1; simp only [bnt, decf] at h1p
  exact pure_ret (by rw [dec_f]; intro s; exact h1p s.is) (.refl _)
 try simp only [go_sem, reduceAdd, reduceLeDiff, h1]
 have h1p := h1; simp only [bnf, dect] at h1p
 have hs := h1p.1
 have htl := hs.tol
 refine ⟨fun h2 => At.mk ?_, fun h2 => At.mk ?_⟩
 rotate_left
 ·try simp only [go_sem, h2]
  have h2p := h2; simp only [bnt, decide_eq_false_iff_not] at h2p
  exact pure_ret (by rw [dec_f]; intro s; exact h2p s.sl) (.refl _)
 try simp only [go_sem, reduceAdd, reduceLeDiff, h2]
 have h2p := h2; simp only [bnf, decide_eq_true_eq] at h2p
 refine ⟨_, (within_ok B f.sizes 17 (by omega)).run, ?_⟩
 try simp only [go_sem]
 refine ⟨fun h3 => At.mk ?_, fun h3 => At.mk ?_⟩
 rotate_left
 ·try simp only [go_sem, h3]
  have h3p := h3; simp only [bnt, decf] at h3p
  exact pure_ret (by rw [dec_f]; intro s; exact h3p s.sz) (.refl _)
 try simp only [go_sem, reduceAdd, reduceLeDiff, h3]
 have h3p := h3; simp only [bnf, dect] at h3p
 refine ⟨_, (arrows_ok B f.shape).run, ?_⟩
 try simp only [go_sem]
 refine ⟨fun h4 => At.mk ?_, fun h4 => At.mk ?_⟩
 ·try simp only [go_sem, h4]
  have h4p := h4; simp only [bnt, decide_eq_false_iff_not] at h4p
  exact pure_ret (by rw [dec_f]; intro s; exact h4p s.al) (.refl _)
 try simp only [go_sem, reduceAdd, reduceLeDiff, h4]
 have h4p := h4; simp only [bnf, decide_eq_true_eq] at h4p
 refine awp_for [0, 3, 45, 46] (fun k _ => [(47, some (.int .i64 (k : Int)))]) (fun k _ H' => H' = H0 ∧ ∀ a, a < k → ((f.acts.getD a default).length : Int) = ix f.sizes (f.shape.frm.getD a default) ∧
  ∀ y, y ∈ f.acts.getD a default → 0 ≤ y ∧ y < ix f.sizes (f.shape.to.getD a default)) f.acts.length () ⟨rfl, by simp⟩ rfl ?_
 rintro a _ H' ha ⟨rfl, hact⟩
 try simp only [go_sem]
 refine ⟨fun g2 => At.mk ?_, fun g2 => At.mk ?_⟩
 rotate_left
 ·try simp only [go_sem]
  have g2p := g2; simp only [decide_eq_false_iff_not, Nat.not_lt] at g2p
  exact pure_ret (by rw [dec_t]; exact ⟨h1p, h2p, h4p, h3p, fun a h => hact a (by omega)⟩) (.refl _)
 have g2p := g2; simp only [decide_eq_true_eq] at g2p
 have wa := wsucc (k := a) (by omega)
 have haf : a < f.shape.frm.length := by omega
 have f1 := hs.frm' haf
 have f2 := hs.to' haf
 have hil := hs.il
 have hto := h3p _ (ix_mem (l := f.sizes) (i := f.shape.to.getD a default) (by omega))
 try simp only [go_sem, reduceAdd, reduceLeDiff]
 refine ⟨g2p, haf, ⟨f1.1, by omega⟩, by omega, ⟨f2.1, by omega⟩, _, (isMapOf_ok B _ _ _ (by omega)).run, ?_⟩
 try simp only [go_sem]
 refine ⟨fun g4 => At.mk ?_, fun g4 => At.mk ?_⟩
 ·try simp only [go_sem]
  have g4p := g4; simp only [bnt, decf] at g4p
  exact pure_ret (by rw [dec_f]; intro s; exact g4p (s.act a g2p)) (.refl _)
 ·try simp only [go_sem, wa]
  have g4p := g4; simp only [bnf, dect] at g4p
  exact for_next () g2p ⟨rfl, lt_succ_all hact g4p⟩ rfl
end Go.Proofs.Shf
namespace Go.Proofs.Shf
open Go.AW Go.Proofs Go.Shf
end Go.Proofs.Shf
