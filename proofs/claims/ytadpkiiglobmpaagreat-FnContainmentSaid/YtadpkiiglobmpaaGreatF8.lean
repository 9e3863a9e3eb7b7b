/- A part of a proof. -/
import Derived.Test.YtadpkiiglobmpaaGreatF7
import Derived.Sort.Row
import Derived.Sort.Grow
import Derived.Deep.Draws
set_option linter.unusedVariables false
set_option linter.unusedSimpArgs false
set_option linter.unusedSectionVars false
open Nat (reduceEqDiff reduceAdd reduceMul reduceLeDiff reduceLT)
namespace Go.Proofs.Shf
open Go.AW Go.Proofs Go.Shf
end Go.Proofs.Shf
namespace Go.Proofs.Shf
open Go.AW Go.Proofs Go.Shf
end Go.Proofs.Shf
namespace Go.Proofs.Shf
open Go.AW Go.Proofs Go.Shf
end Go.Proofs.Shf
namespace Go.AW
open Go.Proofs Go.Proofs.Shf Go.Shf Go.RowKit
theorem WRel.other {g : Gh} {B : Nat} {H : Heap} {w w' : World} (h : WRel g B H w) (b : Nat) (hfz : ∀ o, g.fz b o = none) (hfm : g.fm b = none) (hk : ∀ k, k ≠ b → k < w.heap.size → w'.heap[k]? = w.heap[k]?) : WRel g w'.heap.size [] w' := by
 constructor
 ·intro b' o v e
  have hl := h.fz_lt e
  have hne : b' ≠ b := by rintro rfl; rw [hfz] at e; cases e
  rw [World.cell?_of_block (w := w) (a := ⟨b', o, none⟩) (hk b' hne hl)]; exact h.fz _ _ _ e
 ·intro b' es e
  have hl := h.fm_lt e
  have hne : b' ≠ b := by rintro rfl; rw [hfm] at e; cases e
  obtain ⟨clk, hc⟩ := h.fm _ _ e
  exact ⟨clk, by rw [hk b' hne hl]; exact hc⟩
 ·intro i o e; cases e
 ·intro i j x c c' n e1; cases e1
 ·intro i j x n e1; cases e1
 ·exact Nat.le_refl _
 ·exact h.fin
theorem row_heap {α : Type} [Inhabited α] (enc : α → Value) (w : World) (b off m : Nat) (dk : Array α) (os : Array Obj) : (Sort.grow (Sort.putRow enc (Sort.ahead w m) b off dk) os).heap = (w.heap.modify b (Sort.onCells (Sort.putCells enc off dk))) ++ os := rfl
theorem row_other {α : Type} [Inhabited α] (enc : α → Value) (w : World) (b off m : Nat) (dk : Array α) (os : Array Obj) (k : Nat) (hk : k ≠ b) (hl : k < w.heap.size) : (Sort.grow (Sort.putRow enc (Sort.ahead w m) b off dk) os).heap[k]? = w.heap[k]? := by
 rw [row_heap, Array.getElem?_append_left (by simpa using hl), Array.getElem?_modify, if_neg (by omega)]
theorem below_grow {W w' : World} (h : Below W.heap.size W w') : ∃ q os', w' = Sort.grow (W.drewN q) os' := by
 refine ⟨w'.drawn - W.drawn, w'.heap.extract W.heap.size w'.heap.size, ?_⟩
 have hh : w'.heap = W.heap ++ w'.heap.extract W.heap.size w'.heap.size := by
  apply Array.ext_getElem?
  intro k
  by_cases hk : k < W.heap.size
  ·rw [Array.getElem?_append_left hk]; exact h.block k hk
  ·rw [Array.getElem?_append_right (by omega), Array.getElem?_extract]
   have := h.size
   by_cases h2 : k < w'.heap.size
   ·rw [if_pos (by omega)]; congr 1; omega
   ·rw [if_neg (by omega), Array.getElem?_eq_none (by omega)]
 have hd := h.drawn
 have h1 := h.os
 have h2 := h.tape
 have h3 := h.output
 have e : ∀ (a b : World), a.heap = b.heap → a.tape = b.tape → a.drawn = b.drawn → a.os = b.os → a.output = b.output → a = b := by
  intro a b h1 h2 h3 h4 h5
  cases a; cases b
  simp only at h1 h2 h3 h4 h5
  subst h1 h2 h3 h4 h5; rfl
 refine e _ _ hh h2 ?_ h1 h3
 show w'.drawn = W.drawn + (w'.drawn - W.drawn)
 omega
end Go.AW
namespace Go.AW
open Go.Proofs Go.Proofs.Shf Go.Shf Go.RowKit
theorem WRel.sorted {g : Gh} {B : Nat} {H : Heap} {w : World} (h : WRel g B H w) {id b cap : Nat} {cs cs' : List AV} {c : Array Value} {el : TypeId} {α : Type} [Inhabited α] (enc : α → Value) (dk : Array α)
  (hi : H.get id = some (.cells 1 cs 0)) (hp : g.io id = some (.blk b cap)) (hb : w.heap[b]? = some (.cells c el (0, 0))) (hd : dk.size = cs.length) (hl : cs'.length = cs.length)
  (hv : ∀ k, k < cs'.length → VRel g (cs'.getD k nv) (enc dk[k]!)) (n : Nat) (os : Array Obj) :
  WRel g B (H.set id (.cells 1 cs' 0)) (Sort.grow (Sort.putRow enc (Sort.ahead w n) b 0 dk) os) ∧ Below B w (Sort.grow (Sort.putRow enc (Sort.ahead w n) b 0 dk) os) := by
 obtain ⟨p, hp', hr⟩ := h.ob id _ hi
 rw [hp] at hp'; cases hp'
 simp only [ObjRel] at hr
 obtain ⟨h1, h2, h3, h4, c0, el0, h5, h6, h7, h8⟩ := hr
 rw [hb] at h5; cases h5
 have hbl : b < w.heap.size := (Array.getElem?_eq_some_iff.1 hb).1
 have hsz : (Sort.putRow enc w b 0 dk).heap.size = w.heap.size := by simp [Sort.putRow, Sort.mapBlock]
 have hc' : (Sort.putRow enc w b 0 dk).heap[b]? = some (.cells (Sort.putCells enc 0 dk c) el (0, 0)) := by
  show (w.heap.modify b _)[b]? = _
  rw [Array.getElem?_modify, if_pos rfl, hb]; rfl
 have hcs : (Sort.putCells enc 0 dk c).size = c.size := by simp [Sort.putCells]
 have hcell : ∀ k, k < dk.size → (Sort.putCells enc 0 dk c).getD k undef = enc dk[k]! := by
  intro k hk
  have hk2 : k < c.size := by omega
  have hk3 : k < (Sort.putCells enc 0 dk c).size := by omega
  simp only [Array.getD, hk3, dif_pos]
  simp [Sort.putCells, hk]
 have hW := h.write id b cap 1 cs cs' 0 c (Sort.putCells enc 0 dk c) el hi hp hb hc' hsz (fun k hk => by
  show (w.heap.modify b _)[k]? = _
  rw [Array.getElem?_modify, if_neg (by omega)]) hcs (by omega) (by omega) (by omega) (by omega) fun k hk => by
   rw [hcell k (by omega)]; exact hv k hk
 have hsame : ∀ k, k < w.heap.size → (Sort.grow (Sort.putRow enc (Sort.ahead w n) b 0 dk) os).heap[k]? = (Sort.putRow enc w b 0 dk).heap[k]? := by
  intro k hk
  rw [row_heap, Array.getElem?_append_left (by simpa using hk)]; rfl
 refine ⟨hW.grow ?_ fun k hk => hsame k (by omega), rfl, rfl, rfl, ?_, fun k hk => ?_, ?_⟩
 ·rw [row_heap, hsz]; simp
 ·rw [row_heap]; simp
 ·rw [hsame k (by omega)]
  show (w.heap.modify b _)[k]? = _
  rw [Array.getElem?_modify, if_neg (by omega)]
 ·show w.drawn ≤ w.drawn + n
  omega
end Go.AW
namespace Go.AW
open Go.Proofs Go.Proofs.Shf Go.Shf Go.RowKit
theorem sl_one {g : Gh} {l : List AV} {u : Value} (h : VRel g (.sl l) u) : u.oneCell' = true := by
 cases h <;> rfl
end Go.AW
namespace Go.Proofs.Shf
open Go.AW Go.Proofs Go.Shf
end Go.Proofs.Shf
namespace Go.Shf
open Go.AW
noncomputable def codeL (c : Cat) (n : Int) (l : List Int) : Int := cond (dec c.Is) (cond (dec (∀ y, y ∈ l → 0 ≤ y ∧ y < n)) 0 2) 1
theorem codeL_0 {c : Cat} {n : Int} {l : List Int} : codeL c n l = 0 ↔ c.Is ∧ ∀ y, y ∈ l → 0 ≤ y ∧ y < n := by
 unfold codeL
 by_cases h1 : c.Is
 ·rw [dec_t h1]
  by_cases h2 : ∀ y, y ∈ l → 0 ≤ y ∧ y < n
  ·rw [dec_t h2]; exact ⟨fun _ => ⟨h1, h2⟩, fun _ => rfl⟩
  ·rw [dec_f h2]; exact ⟨fun h => absurd h (by simp), fun h => absurd h.2 h2⟩
 ·rw [dec_f h1]; exact ⟨fun h => absurd h (by simp), fun h => absurd h.1 h1⟩
end Go.Shf
namespace Go.Proofs.Shf
open Go.AW Go.Proofs Go.Shf
theorem dTrue {p : Decidable True} : @decide True p = true := @decide_eq_true True p trivial
theorem objectCode_ok (B : Nat) (c : Cat) (l : List Int) : Pur Tryz.prog B 95 [.ptr c.cells, iL l] (iI (codeL c c.objs l)) := by
 refine ⟨fun H0 => c95 (by simp) fun hf => ?_⟩
 unfold s95
 try simp only [go_sem, reduceAdd]
 refine (isCategory_ok B c).go fun _ => ?_
 try simp only [go_sem]
 by_cases hI : c.Is
 ·rw [dec_t hI]
  try simp only [go_sem, reduceAdd, reduceLeDiff]
  have ho := hI.1.o
  have hm := hI.1.m
  refine (within_ok B l c.objs (by omega)).go fun _ => ?_
  try simp only [go_sem]
  refine ⟨fun h1 => At.mk ?_, fun h1 => At.mk ?_⟩
  ·try simp only [go_sem]
   have h1p := h1; simp only [bnt, decf] at h1p
   exact pure_ret (by rw [codeL, dec_t hI, dec_f h1p]; rfl) (.refl _)
  ·try simp only [go_sem]
   have h1p := h1; simp only [bnf, dect] at h1p
   exact pure_ret (by rw [codeL, dec_t hI, dec_t h1p]; rfl) (.refl _)
 ·rw [dec_f hI]
  try simp only [go_sem]
  exact pure_ret (by rw [codeL, dec_f hI]; rfl) (.refl _)
end Go.Proofs.Shf
namespace Go.Proofs.Shf
open Go.AW Go.Proofs Go.Shf
end Go.Proofs.Shf
